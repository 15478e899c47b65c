import Derived.Test.YtkecmljalcfhoaaProg
import Derived.Test.YtkecmljalcfhoaaPa1
import Derived.Test.YtkecmljalcfhoaaPa2
import Derived.Test.YtkecmljalcfhoaaPa3
namespace Go.Proofs.Ytkecmljalcfhoaa
open Go
open Go.Proofs.Ytkecmljalcfhoaa renaming hl_val → lv, hl_step → lp, hl_nil → ln, hl_yes → ly, hl_no → lo, hx_seq → xs, hx_region → xr, hx_cond → xc, hx_block → xb, hx_loopT → xl, hx_cut → xk, hx_has → xh, hx_skip → xi, hx_ret → xt, hx_exit → xe, seqQ_n → qn, seqQ_ret → qr, seqQ_exit → qe, blockQ_n → bn, blockQ_ret → br, blockQ_here → bh, hv_move → vm, hv_assign → va, hv_arith → vr, hv_load → vl, hv_loads → vL, hv_extract → vx, hv_field → vf, hv_build → vb, hv_index → vi, hp_pure → pp, hp_read → pr, has_cons → hc, has_nil → hn, hcells_cons → cc, hcells_nil → cn, rowcell → rc, hs_call → sc
set_option maxRecDepth 100000
set_option maxHeartbeats 4000000
theorem TyShI.agg29 : aggB Try.prog 29 = some false := by kernel_rfl
theorem TyShI.agg3 : aggB Try.prog 3 = some false := by kernel_rfl
theorem TyShI.agg31 : aggB Try.prog 31 = some true := by kernel_rfl
theorem TyShI.agg59 : aggB Try.prog 59 = some false := by kernel_rfl
theorem TyShI.agg70 : aggB Try.prog 70 = some false := by kernel_rfl
theorem TyShI.cb11 : CallB Try.prog 11 := fun _ _ => Try.call11 _ _
theorem TyShI.cb17 : CallB Try.prog 17 := fun _ _ => Try.call17 _ _
theorem TyShI.cb24 : CallB Try.prog 24 := fun _ _ => Try.call24 _ _
theorem TyShI.cb27 : CallB Try.prog 27 := fun _ _ => Try.call27 _ _
theorem TyShI.cb28 : CallB Try.prog 28 := fun _ _ => Try.call28 _ _
theorem TyShI.cb30 : CallB Try.prog 30 := fun _ _ => Try.call30 _ _
theorem TyShI.cb44 : CallB Try.prog 44 := fun _ _ => Try.call44 _ _
theorem TyShI.cb45 : CallB Try.prog 45 := fun _ _ => Try.call45 _ _
theorem TyShI.cb46 : CallB Try.prog 46 := fun _ _ => Try.call46 _ _
theorem TyShI.cb48 : CallB Try.prog 48 := fun _ _ => Try.call48 _ _
theorem TyShI.cb49 : CallB Try.prog 49 := fun _ _ => Try.call49 _ _
theorem TyShI.cb51 : CallB Try.prog 51 := fun _ _ => Try.call51 _ _
theorem TyShI.cb52 : CallB Try.prog 52 := fun _ _ => Try.call52 _ _
theorem TyShI.el59 : elB Try.prog 59 = some 1 := by kernel_rfl
theorem TyShI.fld31_0 : fldB Try.prog 31 0 = some 0 := by kernel_rfl
theorem TyShI.fld31_1 : fldB Try.prog 31 1 = some 1 := by kernel_rfl
theorem TyShI.fld31_2 : fldB Try.prog 31 2 = some 2 := by kernel_rfl
theorem TyShI.fld61_0 : fldB Try.prog 61 0 = some 0 := by kernel_rfl
theorem TyShI.mixed : Try.prog.follows .mixedOrders = true := by kernel_rfl
theorem TyShI.pl61 : plB Try.prog 61 = some [(0, 1)] := by kernel_rfl
theorem TyShI.sz29 : szB Try.prog 29 = some 1 := by kernel_rfl
theorem TyShI.sz3 : szB Try.prog 3 = some 1 := by kernel_rfl
theorem TyShI.sz31 : szB Try.prog 31 = some 4 := by kernel_rfl
theorem TyShI.sz59 : szB Try.prog 59 = some 1 := by kernel_rfl
theorem TyShI.sz70 : szB Try.prog 70 = some 1 := by kernel_rfl
theorem TyShI.u29 : Try.prog.underlying 29 = some (.int .u64) := by kernel_rfl
theorem TyShI.u3 : Try.prog.underlying 3 = some (.int .i64) := by kernel_rfl
theorem TyShI.u59 : Try.prog.underlying 59 = some (.slice 70) := by kernel_rfl
theorem TyShI.up25 : Try.prog.underlying 25 = some (.pointer 61) := by kernel_rfl
theorem TyShI.up70 : Try.prog.underlying 70 = some (.pointer 87) := by kernel_rfl
theorem TyShI.z3 : zeroB Try.prog 3 (.int .i64 0) := by unfold zeroB; kernel_rfl
theorem TyShI.z31 : zeroB Try.prog 31 (.agg #[(.int .u64 0), (.int .u64 0), (.int .u64 0), (.int .u8 0)]) := by unfold zeroB; kernel_rfl
theorem TyShI.z61 : zeroB Try.prog 61 (.agg #[(.slice none 0 0)]) := by unfold zeroB; kernel_rfl
theorem TyShI.z70 : zeroB Try.prog 70 (.pointer none) := by unfold zeroB; kernel_rfl
theorem ext_pushed_f20_sh {h h1 : Heap} {o : Obj} (e : h1 = Array.push h o) : Ext h h1 := by rw [e]; exact Ext.push _ _
theorem f17_sh (x : Option Addr) (h : Heap) (R : Value → Heap → Prop)
  (H : ((x.isNone = true → R (.int .i64 0) h) ∧ (x.isNone = false → (∃ a1 a2 : Nat, x = some ⟨a1, a2, none⟩ ∧ (∃ a4 : Option Addr, ∃ a0 a3 : Nat, hcell h a1 a2 = some (.slice a4 a0 a3) ∧ R (.int .i64 (a0 : Int)) h))))) :
  HC Try.prog 17 #[(.pointer x)] h R := by
 refine hc_of (args := [(.pointer x)]) Try.func17 rfl Try.ntmps17 (Nat.le_of_ble_eq_true rfl) ?_
 refine xs (xr ?_)
 refine lv rfl rfl (va rfl) ?_
 refine ln (qn (xs (xs (xr ?_))))
 refine lv rfl rfl (vm rfl) (lv rfl rfl (v := (.bool x.isNone)) (hv_ptrNil TyShI.up25 rfl rfl) ?_)
 refine ln (qn ?_)
 refine xc (b := x.isNone) rfl (fun a5 => ?_) (fun a5 => ?_)
 ·replace H := H.1 a5
  refine xs (xr ?_)
  refine lv rfl rfl (va rfl) ?_
  refine ln (qn (xt (qr ?_)))
  exact endQ_ret _ (res_one Try.results17 (rv_tmp rfl)) H
 ·replace H := H.2 a5
  refine xi (qn (xs (xr ?_)))
  refine lv rfl rfl (vm rfl) ?_
  obtain ⟨a1, a2, a6, Hq⟩ := H
  subst a6
  have H := Hq; clear Hq
  refine lv rfl rfl (v := (ptr a1 a2)) (hv_nil rfl) (lv rfl rfl (v := (ptr a1 a2)) (vf TyShI.fld61_0 (b := a1) (o := a2) rfl) ?_)
  obtain ⟨a4, a0, a3, a7, H⟩ := H
  refine lv rfl rfl (vl TyShI.agg59 rfl a7) (lv rfl rfl (v := (.int .i64 (a0 : Int))) (hv_len (n := a0) TyShI.u59 rfl) (lv rfl rfl (va rfl) ?_))
  refine ln (qn (xt ?_))
  exact endQ_ret _ (res_one Try.results17 (rv_tmp rfl)) H
theorem f24_sh (x : Option Addr) (a1 : Int) (h : Heap) (R : Value → Heap → Prop)
  (H : (∃ r : Int, HC Try.prog 17 #[(.pointer x)] h (fun vv h' => vv = (.int .i64 r) ∧ h' = h) ∧ (((r == 0) = true → R (.int .i64 0) h) ∧ ((r == 0) = false → (∃ a2 a3 : Nat, x = some ⟨a2, a3, none⟩ ∧ (∃ a5 : Option Addr, ∃ a0 a4 : Nat, hcell h a2 a3 = some (.slice a5 a0 a4) ∧ (IntKind.u64.wrap (a0 : Int) ≠ 0 ∧ R (.int .i64 (IntKind.i64.wrap (Int.tmod a1 (IntKind.u64.wrap (a0 : Int))))) h))))))) :
  HC Try.prog 24 #[(.pointer x), (.int .u64 a1)] h R := by
 refine hc_of (args := [(.pointer x), (.int .u64 a1)]) Try.func24 rfl Try.ntmps24 (Nat.le_of_ble_eq_true rfl) ?_
 refine xs (xr ?_)
 refine lv rfl rfl (va rfl) ?_
 refine ln (qn (xs (xs (xr ?_))))
 refine lv rfl rfl (vm rfl) ?_
 obtain ⟨r, a8, H⟩ := H
 refine lv rfl rfl (hv_call TyShI.cb17 (vs := [(.pointer x)]) rfl a8) (lv rfl rfl (vr rfl rfl rfl) ?_)
 refine ln (qn ?_)
 refine xc (b := r == 0) rfl (fun a6 => ?_) (fun a6 => ?_)
 ·replace H := H.1 a6
  refine xs (xr ?_)
  refine lv rfl rfl (va rfl) ?_
  refine ln (qn (xt (qr ?_)))
  exact endQ_ret _ (res_one Try.results24 (rv_tmp rfl)) H
 ·replace H := H.2 a6
  refine xi (qn (xs (xr ?_)))
  refine lv rfl rfl (vm rfl) (lv rfl rfl (vm rfl) ?_)
  obtain ⟨a2, a3, a9, Hq⟩ := H
  subst a9
  have H := Hq; clear Hq
  refine lv rfl rfl (v := (ptr a2 a3)) (hv_nil rfl) (lv rfl rfl (v := (ptr a2 a3)) (vf TyShI.fld61_0 (b := a2) (o := a3) rfl) ?_)
  obtain ⟨a5, a0, a4, a7, H⟩ := H
  refine lv rfl rfl (vl TyShI.agg59 rfl a7) (lv rfl rfl (v := (.int .i64 (a0 : Int))) (hv_len (n := a0) TyShI.u59 rfl) (lv rfl rfl (v := (.int .u64 (IntKind.u64.wrap (a0 : Int)))) (hv_convInt TyShI.u3 TyShI.u29 rfl) ?_))
  obtain ⟨b0, H⟩ := H
  refine lv rfl rfl (v := (.int .u64 (Int.tmod a1 (IntKind.u64.wrap (a0 : Int))))) (hv_rem rfl rfl b0) (lv rfl rfl (v := (.int .i64 (IntKind.i64.wrap (Int.tmod a1 (IntKind.u64.wrap (a0 : Int)))))) (hv_convInt TyShI.u29 TyShI.u3 rfl) (lv rfl rfl (va rfl) ?_))
  refine ln (qn (xt ?_))
  exact endQ_ret _ (res_one Try.results24 (rv_tmp rfl)) H
theorem f27_sh (x : Option Addr) (a4 : Int) (h : Heap) (R : Value → Heap → Prop)
  (H : (∃ r : Int, HC Try.prog 17 #[(.pointer x)] h (fun vv h' => vv = (.int .i64 r) ∧ h' = h) ∧ (((r == 0) = true → R (.pointer none) h) ∧ ((r == 0) = false → (∃ a1 a0 : Nat, x = some ⟨a1, a0, none⟩ ∧ (∃ a7 : Option Addr, ∃ a8 a9 : Nat, hcell h a1 a0 = some (.slice a7 a8 a9) ∧ (∃ a5 : Int, (∀ h1, Ext h h1 → HC Try.prog 24 #[(ptr a1 a0), (.int .u64 a4)] h1 (fun vv h' => vv = (.int .i64 a5) ∧ h' = h1)) ∧ (∃ a3 a2 : Nat, a7 = some ⟨a3, a2, none⟩ ∧ (0 : Int) ≤ a5 ∧ a5 < (a8 : Int) ∧ (∃ a6 : Option Addr, hcell h a3 (a2 + (Int.toNat a5) * 1) = some (.pointer a6) ∧ R (.pointer a6) h))))))))) :
  HC Try.prog 27 #[(.pointer x), (.int .u64 a4)] h R := by
 refine hc_of (args := [(.pointer x), (.int .u64 a4)]) Try.func27 rfl Try.ntmps27 (Nat.le_of_ble_eq_true rfl) ?_
 refine xs (xr ?_)
 refine lv rfl rfl (va rfl) ?_
 refine ln (qn (xs (xs (xr ?_))))
 refine lv rfl rfl (vm rfl) ?_
 obtain ⟨r, b3, H⟩ := H
 refine lv rfl rfl (hv_call TyShI.cb17 (vs := [(.pointer x)]) rfl b3) (lv rfl rfl (vr rfl rfl rfl) ?_)
 refine ln (qn ?_)
 refine xc (b := r == 0) rfl (fun b0 => ?_) (fun b0 => ?_)
 ·replace H := H.1 b0
  refine xs (xr ?_)
  refine lv rfl rfl (va rfl) ?_
  refine ln (qn (xt (qr ?_)))
  exact endQ_ret _ (res_one Try.results27 (rv_tmp rfl)) H
 ·replace H := H.2 b0
  refine xi (qn (xs ?_))
  refine hx_draw TyShI.mixed [.pure, .pure, .pure, .read, .pure, .pure, .read, .pure, .read, .pure] [0, 1, 2, 3, 4, 5, 6, 7, 8, 9] (by kernel_rfl) ?_
  refine pp (i := 0) rfl (wanted_0 rfl) rfl (.pointer x) (fun _ => vm rfl) ?_
  obtain ⟨a1, a0, b1, Hq⟩ := H
  subst b1
  have H := Hq; clear Hq
  refine pp (i := 1) rfl (wanted_0 rfl) rfl (ptr a1 a0) (fun _ => hv_nil rfl) ?_
  refine pp (i := 2) rfl (wanted_0 rfl) rfl (ptr a1 a0) (fun _ => vf TyShI.fld61_0 (b := a1) (o := a0) rfl) ?_
  obtain ⟨a7, a8, a9, b6, H⟩ := H
  refine pr (i := 3) rfl (wanted_0 rfl) rfl (.slice a7 a8 a9) (fun _ he => vl TyShI.agg59 rfl (Ext.cell he b6)) ?_
  refine pp (i := 4) rfl (wanted_0 rfl) rfl (ptr a1 a0) (fun _ => vm rfl) ?_
  refine pp (i := 5) rfl (wanted_0 rfl) rfl (.int .u64 a4) (fun _ => vm rfl) ?_
  obtain ⟨a5, b4, H⟩ := H
  refine pr (i := 6) rfl (wanted_0 rfl) rfl (.int .i64 a5) (fun _ he => hv_call TyShI.cb24 (vs := [(ptr a1 a0), (.int .u64 a4)]) rfl (b4 _ he)) ?_
  obtain ⟨a3, a2, b1, b5, b7, Hq⟩ := H
  subst b1
  have H := Hq; clear Hq
  refine pp (i := 7) rfl (wanted_0 rfl) rfl (ptr a3 (a2 + (Int.toNat a5) * 1)) (fun _ => vi TyShI.el59 rfl rfl b5 b7) ?_
  obtain ⟨a6, b2, H⟩ := H
  refine pr (i := 8) rfl (wanted_0 rfl) rfl (.pointer a6) (fun _ he => vl TyShI.agg70 rfl (Ext.cell he b2)) ?_
  refine pp (i := 9) rfl (wanted_0 rfl) rfl (.pointer a6) (fun _ => va rfl) ?_
  refine hp_nil ?_
  refine qn (xt ?_)
  exact endQ_ret _ (res_one Try.results27 (rv_tmp rfl)) H
theorem f44_sh (x : Option Addr) (n : Int) (h : Heap) (R : Value → Heap → Prop)
  (H : (∃ j : Bool, (((decide (n < 0)) = true → (j = true)) ∧ ((decide (n < 0)) = false → (∃ r : Int, HC Try.prog 17 #[(.pointer x)] h (fun vv h' => vv = (.int .i64 r) ∧ h' = h) ∧ (j = (decide (n ≥ r)))))) ∧ ((j = true → R (.pointer none) h) ∧ (j = false → (∃ a4 a3 : Nat, x = some ⟨a4, a3, none⟩ ∧ (∃ a6 : Option Addr, ∃ a7 a8 : Nat, hcell h a4 a3 = some (.slice a6 a7 a8) ∧ (∃ a2 a1 : Nat, a6 = some ⟨a2, a1, none⟩ ∧ (0 : Int) ≤ n ∧ n < (a7 : Int) ∧ (∃ a5 : Option Addr, hcell h a2 (a1 + (Int.toNat n) * 1) = some (.pointer a5) ∧ R (.pointer a5) h)))))))) :
  HC Try.prog 44 #[(.pointer x), (.int .i64 n)] h R := by
 refine hc_of (args := [(.pointer x), (.int .i64 n)]) Try.func44 rfl Try.ntmps44 (Nat.le_of_ble_eq_true rfl) ?_
 refine xs (xr ?_)
 refine lv rfl rfl (va rfl) ?_
 refine ln (qn (xs ?_))
 obtain ⟨j, b1, b2⟩ := H
 refine xk (fun ρ h' => h = h' ∧ Has ρ [(0, (.pointer x)), (1, (.int .i64 n)), (12, (.bool j))]) ?_ ?_
 ·have H := b1; clear b1 b2
  refine xr ?_
  refine lv rfl rfl (vm rfl) (lv rfl rfl (vr rfl rfl rfl) (lv rfl rfl (vm rfl) ?_))
  rcases bool_or (decide (n < 0)) with a0 | a0
  ·replace H := H.1 a0
   refine lo (wanted_n rfl rfl rfl a0) rfl ?_
   refine lo (wanted_n rfl rfl rfl a0) rfl ?_
   refine lo (wanted_n rfl rfl rfl a0) rfl ?_
   refine lo (wanted_n rfl rfl rfl a0) rfl ?_
   refine lv rfl rfl (v := (.bool true)) (hv_pick_t rfl a0 rfl) ?_
   refine ln (qn ?_)
   obtain rfl := H
   exact ⟨rfl, (hc rfl (hc rfl (hc rfl hn)))⟩
  ·replace H := H.2 a0
   refine ly (wanted_y rfl rfl rfl a0) rfl (HStep.of_val (v := (.int .i64 n)) (vm rfl) ?_)
   refine ly (wanted_y rfl rfl rfl a0) rfl (HStep.of_val (v := (.pointer x)) (vm rfl) ?_)
   obtain ⟨r, b4, H⟩ := H
   refine ly (wanted_y rfl rfl rfl a0) rfl (HStep.of_val (v := (.int .i64 r)) (hv_call TyShI.cb17 (vs := [(.pointer x)]) rfl b4) ?_)
   refine ly (wanted_y rfl rfl rfl a0) rfl (HStep.of_val (v := (.bool (decide (n ≥ r)))) (vr rfl rfl rfl) ?_)
   refine lv rfl rfl (v := (.bool (decide (n ≥ r)))) (hv_pick_f rfl a0 rfl) ?_
   refine ln (qn ?_)
   obtain rfl := H
   exact ⟨rfl, (hc rfl (hc rfl (hc rfl hn)))⟩
 ·have H := b2; clear b1 b2
  rintro ρ _ ⟨rfl, hH⟩
  refine xh _ hH ?_
  refine xc (b := j) rfl (fun a9 => ?_) (fun a9 => ?_)
  ·replace H := H.1 a9
   refine xs (xr ?_)
   refine lv rfl rfl (va rfl) ?_
   refine ln (qn (xt (qr ?_)))
   exact endQ_ret _ (res_one Try.results44 (rv_tmp rfl)) H
  ·replace H := H.2 a9
   refine xi (qn (xs (xr ?_)))
   refine lv rfl rfl (vm rfl) ?_
   obtain ⟨a4, a3, b0, Hq⟩ := H
   subst b0
   have H := Hq; clear Hq
   refine lv rfl rfl (v := (ptr a4 a3)) (hv_nil rfl) (lv rfl rfl (v := (ptr a4 a3)) (vf TyShI.fld61_0 (b := a4) (o := a3) rfl) ?_)
   obtain ⟨a6, a7, a8, b5, H⟩ := H
   refine lv rfl rfl (vl TyShI.agg59 rfl b5) (lv rfl rfl (vm rfl) ?_)
   obtain ⟨a2, a1, b0, b3, b6, Hq⟩ := H
   subst b0
   have H := Hq; clear Hq
   refine lv rfl rfl (v := (ptr a2 (a1 + (Int.toNat n) * 1))) (vi TyShI.el59 rfl rfl b3 b6) ?_
   obtain ⟨a5, b7, H⟩ := H
   refine lv rfl rfl (vl TyShI.agg70 rfl b7) (lv rfl rfl (va rfl) ?_)
   refine ln (qn (xt ?_))
   exact endQ_ret _ (res_one Try.results44 (rv_tmp rfl)) H
theorem f11_sh (x : Option Addr) (a4 : Int) (h : Heap) (R : Value → Heap → Prop)
  (H : (∀ (pb : Nat) (h1 : Heap), Array.size h ≤ pb → pb < Array.size h1 → Ext h h1 → (∃ r : Option Addr, HC Try.prog 27 #[(.pointer x), (.int .u64 a4)] h1 (fun vv h' => vv = (.pointer r) ∧ h' = h1) ∧ HC Try.prog 28 #[(.pointer r), (.int .u64 a4)] h1 (fun vv h2 => Kp [pb] h1 h2 ∧ ∃ a1 a3 a0 a2 : Int, ∃ r1 : Bool, vv = (.tuple #[(.agg #[(.int .u64 a1), (.int .u64 a3), (.int .u64 a0), (.int .u8 a2)]), (.bool r1)]) ∧ (∀ h3, Fr (fun i => i = pb) h2 h3 → R (.tuple #[(.agg #[(.int .u64 a1), (.int .u64 a3), (.int .u64 a0), (.int .u8 a2)]), (.bool r1)]) h3))))) :
  HC Try.prog 11 #[(.pointer x), (.int .u64 a4)] h R := by
 refine hc_of (args := [(.pointer x), (.int .u64 a4)]) Try.func11 rfl Try.ntmps11 (Nat.le_of_ble_eq_true rfl) ?_
 refine xs (xr ?_)
 refine lp rfl rfl (hn_alloc TyShI.z31 ?_)
 intro pb h1 a8 a9
 have b1 := ext_pushed_f20_sh a9
 have b0 : Array.size h ≤ pb := Nat.le_of_eq (Eq.symm a8)
 have a6 : h1[pb]? = some (.cells #[(.int .u64 0), (.int .u64 0), (.int .u64 0), (.int .u8 0)] 31 (0, 0)) := by rw [a9]; exact push_new a8
 refine lv rfl rfl (va rfl) ?_
 refine ln (qn (xs (xr ?_)))
 refine lv rfl rfl (vm rfl) (lv rfl rfl (vm rfl) ?_)
 replace H := H pb h1 b0 (row_lt a6) b1
 obtain ⟨r, b3, H⟩ := H
 refine lv rfl rfl (hv_call TyShI.cb27 (vs := [(.pointer x), (.int .u64 a4)]) rfl b3) (lv rfl rfl (vm rfl) ?_)
 refine lp rfl rfl (sc TyShI.cb28 rfl (HC.mono H ?_))
 rintro _ h2 ⟨b2, a1, a3, a0, a2, r1, rfl, H⟩
 replace a6 := Kp.row b2 (by simp) a6
 refine lv rfl rfl (vx rfl rfl) (lv rfl rfl (vx rfl rfl) ?_)
 refine lp rfl rfl (hn_stores (vs := [(.int .u64 a1), (.int .u64 a3), (.int .u64 a0), (.int .u8 a2)]) rfl rfl TyShI.sz31 rfl (HWs_row a6 (by simp)) ?_)
 intro h3 a7
 have a5 : h3[pb]? = some (.cells #[(.int .u64 a1), (.int .u64 a3), (.int .u64 a0), (.int .u8 a2)] 31 (0, 0)) := row_hsets_eq a7 a6 rfl
 replace H := H h3 (fr_hsets_of a7)
 refine lv rfl rfl (va rfl) ?_
 refine ln (qn (xt ?_))
 exact endQ_ret _ (res_two Try.results11 (rv_cell (vs := [(.int .u64 a1), (.int .u64 a3), (.int .u64 a0), (.int .u8 a2)]) TyShI.agg31 TyShI.sz31 rfl (cc (rc a5 rfl) (cc (rc a5 rfl) (cc (rc a5 rfl) (cc (rc a5 rfl) cn))))) (rv_tmp rfl)) H
theorem f23_sh (x : Option Addr) (a0 : Int) (h : Heap) (R : Value → Heap → Prop)
  (H : (∃ r : Option Addr, HC Try.prog 44 #[(.pointer x), (.int .i64 a0)] h (fun vv h' => vv = (.pointer r) ∧ h' = h) ∧ (∃ a1 : Int, HC Try.prog 48 #[(.pointer r)] h (fun vv h' => vv = (.int .i64 a1) ∧ h' = h) ∧ R (.int .i64 a1) h))) :
  HC Try.prog 23 #[(.pointer x), (.int .i64 a0)] h R := by
 refine hc_of (args := [(.pointer x), (.int .i64 a0)]) Try.func23 rfl Try.ntmps23 (Nat.le_of_ble_eq_true rfl) ?_
 refine xs (xr ?_)
 refine lv rfl rfl (va rfl) ?_
 refine ln (qn (xs (xr ?_)))
 refine lv rfl rfl (vm rfl) (lv rfl rfl (vm rfl) ?_)
 obtain ⟨r, a2, H⟩ := H
 refine lv rfl rfl (hv_call TyShI.cb44 (vs := [(.pointer x), (.int .i64 a0)]) rfl a2) ?_
 obtain ⟨a1, a3, H⟩ := H
 refine lv rfl rfl (hv_call TyShI.cb48 (vs := [(.pointer r)]) rfl a3) (lv rfl rfl (va rfl) ?_)
 refine ln (qn (xt ?_))
 exact endQ_ret _ (res_one Try.results23 (rv_tmp rfl)) H
theorem f25_sh (a0 : Int) (a3 : Int) (a2 : Int) (h : Heap) (R : Value → Heap → Prop)
  (H : ((((decide (a0 < 1)) || (decide (a0 > 64))) = true → R (.tuple #[(.pointer none), (.int .i64 1)]) h) ∧ (((decide (a0 < 1)) || (decide (a0 > 64))) = false → (∀ nb h1, nb = Array.size h → h1 = Array.push h (.cells #[(.slice none 0 0)] 61) → (∃ (I8 : Int → Heap → Prop) (a9 : Int → Heap → Nat), I8 0 h1 ∧ (∀ (v : Int) (h2 : Heap), I8 v h2 → (((decide (v < a0)) = true → HC Try.prog 49 #[(.int .i64 a3), (.int .i64 a2)] h2 (fun vv h3 => ∃ r0 : Option Addr, ∃ r1 : Int, vv = (.tuple #[(.pointer r0), (.int .i64 r1)]) ∧ (((r1 != 0) = true → R (.tuple #[(.pointer none), (.int .i64 r1)]) h3) ∧ ((r1 != 0) = false → (∃ x : Option Addr, ∃ b1 b0 : Nat, hcell h3 nb 0 = some (.slice x b1 b0) ∧ (∀ a5 h4, a5 = Array.size h3 → h4 = Array.push h3 (.cells #[(.pointer r0)] 70) → HAppend Try.prog 59 59 (.slice x b1 b0) (.slice (some ⟨a5, 0, none⟩) 1 1) h4 (fun vv h5 => ∃ ap : Option Addr, ∃ a6 a4 : Nat, vv = (.slice ap a6 a4) ∧ (HW h5 nb 0 ∧ ∀ h6, h6 = hset h5 nb 0 (.slice ap a6 a4) → (I8 (IntKind.i64.wrap (v + 1)) h6 ∧ a9 (IntKind.i64.wrap (v + 1)) h6 < a9 v h2))))))))) ∧ ((decide (v < a0)) = false → R (.tuple #[(ptr nb 0), (.int .i64 0)]) h2)))))))) :
  HC Try.prog 25 #[(.int .i64 a0), (.int .i64 a3), (.int .i64 a2)] h R := by
 refine hc_of (args := [(.int .i64 a0), (.int .i64 a3), (.int .i64 a2)]) Try.func25 rfl Try.ntmps25 (Nat.le_of_ble_eq_true rfl) ?_
 refine xs (xr ?_)
 refine lv rfl rfl (va rfl) (lv rfl rfl (va rfl) ?_)
 refine ln (qn (xs ?_))
 refine xk (fun ρ h' => h = h' ∧ Has ρ [(0, (.int .i64 a0)), (1, (.int .i64 a3)), (2, (.int .i64 a2)), (16, (.bool ((decide (a0 < 1)) || (decide (a0 > 64)))))]) ?_ ?_
 ·refine xr ?_
  refine lv rfl rfl (vm rfl) (lv rfl rfl (vr rfl rfl rfl) (lv rfl rfl (vm rfl) ?_))
  rcases bool_or (decide (a0 < 1)) with a1 | a1
  ·refine lo (wanted_n rfl rfl rfl a1) rfl ?_
   refine lo (wanted_n rfl rfl rfl a1) rfl ?_
   refine lv rfl rfl (v := (.bool true)) (hv_pick_t rfl a1 rfl) ?_
   refine ln (qn ?_)
   exact ⟨rfl, (hc rfl (hc rfl (hc rfl (hc (show ((.bool true) : Value) = (.bool ((decide (a0 < 1)) || (decide (a0 > 64)))) from (by first | rfl | ((try rw [a1]); all_goals first | rfl | (simp only [Bool.true_or, Bool.or_true, Bool.false_or, Bool.or_false, Bool.true_and, Bool.and_true, Bool.false_and, Bool.and_false, Bool.not_true, Bool.not_false, Bool.cond_true, Bool.cond_false]; done)) | simp [a1])) hn))))⟩
  ·refine ly (wanted_y rfl rfl rfl a1) rfl (HStep.of_val (v := (.int .i64 a0)) (vm rfl) ?_)
   refine ly (wanted_y rfl rfl rfl a1) rfl (HStep.of_val (v := (.bool (decide (a0 > 64)))) (vr rfl rfl rfl) ?_)
   refine lv rfl rfl (v := (.bool (decide (a0 > 64)))) (hv_pick_f rfl a1 rfl) ?_
   refine ln (qn ?_)
   exact ⟨rfl, (hc rfl (hc rfl (hc rfl (hc (show ((.bool (decide (a0 > 64))) : Value) = (.bool ((decide (a0 < 1)) || (decide (a0 > 64)))) from (by first | rfl | ((try rw [a1]); all_goals first | rfl | (simp only [Bool.true_or, Bool.or_true, Bool.false_or, Bool.or_false, Bool.true_and, Bool.and_true, Bool.false_and, Bool.and_false, Bool.not_true, Bool.not_false, Bool.cond_true, Bool.cond_false]; done)) | simp [a1])) hn))))⟩
 ·rintro ρ _ ⟨rfl, hH⟩
  refine xh _ hH ?_
  refine xc (b := ((decide (a0 < 1)) || (decide (a0 > 64)))) rfl (fun b3 => ?_) (fun b3 => ?_)
  ·replace H := H.1 b3
   refine xs (xr ?_)
   refine lv rfl rfl (va rfl) (lv rfl rfl (va rfl) ?_)
   refine ln (qn (xt (qr ?_)))
   exact endQ_ret _ (res_two Try.results25 (rv_tmp rfl) (rv_tmp rfl)) H
  ·replace H := H.2 b3
   refine xi (qn (xs (xr ?_)))
   refine lv rfl rfl (v := (.agg #[(.slice none 0 0)])) (vb (vs := []) (cs := #[(.slice none 0 0)]) TyShI.z61 TyShI.pl61 rfl (by kernel_rfl)) ?_
   refine lp rfl rfl (hn_box (v := (.agg #[(.slice none 0 0)])) rfl ?_)
   intro nb h1 c2 b4
   replace H := H nb h1 c2 b4
   have c4 := ext_pushed_f20_sh b4
   refine lv rfl rfl (va rfl) ?_
   refine ln (qn (xs (xs (xr ?_))))
   refine lv rfl rfl (vm rfl) (lv rfl rfl (vm rfl) ?_)
   refine ln (qn (xb ?_))
   obtain ⟨I8, a9, b9, b5⟩ := H
   refine xl (σ := Int) (fun s => [(1, (.int .i64 a3)), (2, (.int .i64 a2)), (8, (ptr nb 0)), (19, (.int .i64 a0)), (20, (.int .i64 s))]) (fun s h' => I8 s h' ∧ True) (fun s h' => a9 s h') 0 ⟨b9, trivial⟩ (hc rfl (hc rfl (hc rfl (hc rfl (hc rfl hn))))) ?_
   rintro v ρ h2 ⟨c0, -⟩
   have H := b5 v h2 c0
   refine xs (xr ?_)
   refine lv rfl rfl (vr rfl rfl rfl) ?_
   refine ln (qn (xs ?_))
   refine xc (b := decide (v < a0)) rfl (fun a7 => ?_) (fun a7 => ?_)
   ·replace H := H.1 a7
    refine xi (qn (xs (xb (xs (xr ?_)))))
    refine lv rfl rfl (vm rfl) (lv rfl rfl (vm rfl) ?_)
    refine lp rfl rfl (sc TyShI.cb49 rfl (HC.mono H ?_))
    rintro _ h3 ⟨r0, r1, rfl, H⟩
    refine lv rfl rfl (vm rfl) (lv rfl rfl (vx rfl rfl) (lv rfl rfl (vx rfl rfl) (lv rfl rfl (va rfl) (lv rfl rfl (va rfl) ?_))))
    refine ln (qn (xs (xs (xr ?_))))
    refine lv rfl rfl (vm rfl) (lv rfl rfl (vr rfl rfl rfl) ?_)
    refine ln (qn ?_)
    refine xc (b := r1 != 0) rfl (fun a8 => ?_) (fun a8 => ?_)
    ·replace H := H.1 a8
     refine xs (xr ?_)
     refine lv rfl rfl (vm rfl) (lv rfl rfl (va rfl) (lv rfl rfl (va rfl) ?_))
     refine ln (qn (xt (qr (br (qr (qr (br (qr ?_))))))))
     exact endQ_ret _ (res_two Try.results25 (rv_tmp rfl) (rv_tmp rfl)) H
    ·replace H := H.2 a8
     refine xi (qn (xr ?_))
     refine lv rfl rfl (vm rfl) (lv rfl rfl (vm rfl) (lv rfl rfl (v := (ptr nb 0)) (hv_nil rfl) (lv rfl rfl (v := (ptr nb 0)) (vf TyShI.fld61_0 (b := nb) (o := 0) rfl) ?_)))
     obtain ⟨x, b1, b0, c1, H⟩ := H
     refine lv rfl rfl (vl TyShI.agg59 rfl c1) (lv rfl rfl (vm rfl) ?_)
     refine lp rfl rfl (hn_buildSlice (n := 1) (vs := [(0, (.pointer r0))]) (cs := #[(.pointer r0)]) TyShI.u59 TyShI.sz70 TyShI.z70 rfl rfl (by kernel_rfl) ?_)
     intro a5 h4 b7 b2
     replace H := H a5 h4 b7 b2
     have c3 := ext_pushed_f20_sh b2
     refine lp rfl rfl (hs_append rfl rfl (HAppend.mono H ?_))
     rintro _ h5 ⟨ap, a6, a4, rfl, H⟩
     refine lv rfl rfl (v := (ptr nb 0)) (hv_nil rfl) (lv rfl rfl (v := (ptr nb 0)) (vf TyShI.fld61_0 (b := nb) (o := 0) rfl) ?_)
     obtain ⟨b8, H⟩ := H
     refine lp rfl rfl (hn_store (v := (.slice ap a6 a4)) rfl rfl TyShI.sz59 rfl b8 ?_)
     intro h6 b6
     replace H := H h6 b6
     refine ln (bn (qn (xr ?_)))
     refine lv rfl rfl (vr rfl rfl rfl) (lv rfl rfl (vm rfl) ?_)
     refine ln (qn ?_)
     exact ⟨IntKind.i64.wrap (v + 1), ⟨⟨H.1, trivial⟩, H.2⟩, (hc rfl (hc rfl (hc rfl (hc rfl (hc rfl hn)))))⟩
   ·replace H := H.2 a7
    refine xe (qe (qe (bh (qn (xs (xr ?_))))))
    refine lv rfl rfl (vm rfl) (lv rfl rfl (va rfl) (lv rfl rfl (va rfl) ?_))
    refine ln (qn (xt ?_))
    exact endQ_ret _ (res_two Try.results25 (rv_tmp rfl) (rv_tmp rfl)) H
theorem f29_sh (x : Option Addr) (a6 : Int) (b3 : Int) (a1 : Int) (b5 : Int) (h : Heap) (R : Value → Heap → Prop)
  (H : (∀ (e : Nat) (b4 : Nat) (h2 : Heap), Array.size h ≤ e → e < Array.size h2 → Array.size h ≤ b4 → b4 < Array.size h2 → Ext h h2 → (∃ r : Option Addr, HC Try.prog 27 #[(.pointer x), (.int .u64 a6)] h2 (fun vv h' => vv = (.pointer r) ∧ h' = h2) ∧ ((r.isNone = true → (∀ h3, Fr (fun i => i = b4) h2 h3 → R (.tuple #[(.agg #[(.int .u64 0), (.int .u64 0), (.int .u64 0), (.int .u8 0)]), (.bool false), (.int .i64 6)]) h3)) ∧ (r.isNone = false → (((b3 == 0) = true → (∀ h4, Fr (fun i => i = b4) h2 h4 → R (.tuple #[(.agg #[(.int .u64 0), (.int .u64 0), (.int .u64 0), (.int .u8 0)]), (.bool false), (.int .i64 1)]) h4)) ∧ ((b3 == 0) = false → HC Try.prog 28 #[(.pointer r), (.int .u64 a6)] h2 (fun vv h5 => Kp [e, b4] h2 h5 ∧ ∃ b1 b6 a0 b2 : Int, ∃ r1 : Bool, vv = (.tuple #[(.agg #[(.int .u64 b1), (.int .u64 b6), (.int .u64 a0), (.int .u8 b2)]), (.bool r1)]) ∧ (((r1 && (decide (a0 > a1))) = true → (∀ (h7 : Heap), Ext h5 h7 → (∀ h8, Fr (fun i => i = b4) h7 h8 → R (.tuple #[(.agg #[(.int .u64 0), (.int .u64 0), (.int .u64 0), (.int .u8 0)]), (.bool false), (.int .i64 120)]) h8))) ∧ ((r1 && (decide (a0 > a1))) = false → (∀ (h7 : Heap), Ext h5 h7 → HC Try.prog 51 #[(.pointer r), (.agg #[(.int .u64 a6), (.int .u64 b3), (.int .u64 a1), (.int .u8 b5)])] h7 (fun vv h9 => Kp [b4] h7 h9 ∧ ∃ a3 a9 a2 a4 : Int, ∃ b7 : Bool, ∃ r2 : Int, vv = (.tuple #[(.agg #[(.int .u64 a3), (.int .u64 a9), (.int .u64 a2), (.int .u8 a4)]), (.bool b7), (.int .i64 r2)]) ∧ (∀ c0, Fr (fun i => i = b4) h9 c0 → R (.tuple #[(.agg #[(.int .u64 a3), (.int .u64 a9), (.int .u64 a2), (.int .u8 a4)]), (.bool b7), (.int .i64 r2)]) c0))))))))))))) :
  HC Try.prog 29 #[(.pointer x), (.agg #[(.int .u64 a6), (.int .u64 b3), (.int .u64 a1), (.int .u8 b5)])] h R := by
 refine hc_of (args := [(.pointer x), (.agg #[(.int .u64 a6), (.int .u64 b3), (.int .u64 a1), (.int .u8 b5)])]) Try.func29 rfl Try.ntmps29 (Nat.le_of_ble_eq_true rfl) ?_
 refine xs (xr ?_)
 refine lp rfl rfl (hn_box (v := (.agg #[(.int .u64 a6), (.int .u64 b3), (.int .u64 a1), (.int .u8 b5)])) rfl ?_)
 intro e h1 d6 d9
 have e0 := ext_pushed_f20_sh d9
 have e8 : Array.size h ≤ e := Nat.le_of_eq (Eq.symm d6)
 have a8 : h1[e]? = some (.cells #[(.int .u64 a6), (.int .u64 b3), (.int .u64 a1), (.int .u8 b5)] 31 (0, 0)) := by rw [d9]; exact push_new d6
 refine lp rfl rfl (hn_alloc TyShI.z31 ?_)
 intro b4 h2 d1 d8
 have d7 := ext_pushed_f20_sh d8
 have c8 := Nat.ne_of_lt (Nat.lt_of_lt_of_eq (row_lt a8) (Eq.symm d1))
 have e1 : Array.size h ≤ b4 := Nat.le_trans (Ext.size e0) (Nat.le_of_eq (Eq.symm d1))
 have a5 : h2[b4]? = some (.cells #[(.int .u64 0), (.int .u64 0), (.int .u64 0), (.int .u8 0)] 31 (0, 0)) := by rw [d8]; exact push_new d1
 replace a8 := Ext.row d7 a8
 have e5 := Ext.trans e0 d7
 refine lv rfl rfl (va rfl) (lv rfl rfl (va rfl) ?_)
 refine ln (qn (xs (xr ?_)))
 refine lv rfl rfl (vm rfl) (lv rfl rfl (v := (ptr e 0)) (vf TyShI.fld31_0 (b := e) (o := 0) rfl) (lv rfl rfl (vl TyShI.agg29 rfl (rc a8 rfl)) ?_))
 replace H := H e b4 h2 e8 (row_lt a8) e1 (row_lt a5) e5
 obtain ⟨r, e3, H⟩ := H
 refine lv rfl rfl (hv_call TyShI.cb27 (vs := [(.pointer x), (.int .u64 a6)]) rfl e3) (lv rfl rfl (va rfl) ?_)
 refine ln (qn (xs (xb (xs (xr ?_)))))
 refine lv rfl rfl (vm rfl) (lv rfl rfl (v := (.bool r.isNone)) (hv_ptrNil TyShI.up70 rfl rfl) (lv rfl rfl (va rfl) ?_))
 refine ln (qn ?_)
 refine xc (b := r.isNone) rfl (fun c6 => ?_) (fun c6 => ?_)
 ·replace H := H.1 c6
  refine xs (xr ?_)
  refine lv rfl rfl (vL (vs := [(.int .u64 0), (.int .u64 0), (.int .u64 0), (.int .u8 0)]) TyShI.agg31 TyShI.sz31 rfl (cc (rc a5 rfl) (cc (rc a5 rfl) (cc (rc a5 rfl) (cc (rc a5 rfl) cn))))) ?_
  refine lp rfl rfl (hn_stores (vs := [(.int .u64 0), (.int .u64 0), (.int .u64 0), (.int .u8 0)]) rfl rfl TyShI.sz31 rfl (HWs_row a5 (by simp)) ?_)
  intro h3 c5
  replace a8 := row_hsets_ne c5 c8 a8
  have a7 : h3[b4]? = some (.cells #[(.int .u64 0), (.int .u64 0), (.int .u64 0), (.int .u8 0)] 31 (0, 0)) := row_hsets_eq c5 a5 rfl
  replace H := H h3 (fr_hsets_of c5)
  refine lv rfl rfl (va rfl) (lv rfl rfl (va rfl) ?_)
  refine ln (qn (xt (br (qr ?_))))
  exact endQ_ret _ (res_three Try.results29 (rv_cell (vs := [(.int .u64 0), (.int .u64 0), (.int .u64 0), (.int .u8 0)]) TyShI.agg31 TyShI.sz31 rfl (cc (rc a7 rfl) (cc (rc a7 rfl) (cc (rc a7 rfl) (cc (rc a7 rfl) cn))))) (rv_tmp rfl) (rv_tmp rfl)) H
 ·replace H := H.2 c6
  refine xs (xr ?_)
  refine lv rfl rfl (v := (ptr e 1)) (vf TyShI.fld31_1 (b := e) (o := 0) rfl) (lv rfl rfl (vl TyShI.agg29 rfl (rc a8 rfl)) (lv rfl rfl (vr rfl rfl rfl) (lv rfl rfl (va rfl) ?_)))
  refine ln (qn ?_)
  refine xc (b := b3 == 0) rfl (fun c7 => ?_) (fun c7 => ?_)
  ·replace H := H.1 c7
   refine xs (xr ?_)
   refine lv rfl rfl (vL (vs := [(.int .u64 0), (.int .u64 0), (.int .u64 0), (.int .u8 0)]) TyShI.agg31 TyShI.sz31 rfl (cc (rc a5 rfl) (cc (rc a5 rfl) (cc (rc a5 rfl) (cc (rc a5 rfl) cn))))) ?_
   refine lp rfl rfl (hn_stores (vs := [(.int .u64 0), (.int .u64 0), (.int .u64 0), (.int .u8 0)]) rfl rfl TyShI.sz31 rfl (HWs_row a5 (by simp)) ?_)
   intro h4 c1
   replace a8 := row_hsets_ne c1 c8 a8
   have a7 : h4[b4]? = some (.cells #[(.int .u64 0), (.int .u64 0), (.int .u64 0), (.int .u8 0)] 31 (0, 0)) := row_hsets_eq c1 a5 rfl
   replace H := H h4 (fr_hsets_of c1)
   refine lv rfl rfl (va rfl) (lv rfl rfl (va rfl) ?_)
   refine ln (qn (xt (br (qr ?_))))
   exact endQ_ret _ (res_three Try.results29 (rv_cell (vs := [(.int .u64 0), (.int .u64 0), (.int .u64 0), (.int .u8 0)]) TyShI.agg31 TyShI.sz31 rfl (cc (rc a7 rfl) (cc (rc a7 rfl) (cc (rc a7 rfl) (cc (rc a7 rfl) cn))))) (rv_tmp rfl) (rv_tmp rfl)) H
  ·replace H := H.2 c7
   refine xi (bn (qn (xs (xs (xr ?_)))))
   refine lv rfl rfl (vm rfl) (lv rfl rfl (v := (ptr e 0)) (vf TyShI.fld31_0 (b := e) (o := 0) rfl) (lv rfl rfl (vl TyShI.agg29 rfl (rc a8 rfl)) ?_))
   refine lp rfl rfl (sc TyShI.cb28 rfl (HC.mono H ?_))
   rintro _ h5 ⟨d0, b1, b6, a0, b2, r1, rfl, H⟩
   replace a8 := Kp.row d0 (by simp) a8
   replace a5 := Kp.row d0 (by simp) a5
   refine lv rfl rfl (vm rfl) (lv rfl rfl (vx rfl rfl) (lv rfl rfl (vx rfl rfl) ?_))
   refine lp rfl rfl (hn_alloc TyShI.z31 ?_)
   intro o h6 b8 d3
   have c2 := ext_pushed_f20_sh d3
   have e2 := Nat.ne_of_lt (Nat.lt_of_lt_of_eq (row_lt a8) (Eq.symm b8))
   have e7 := Nat.ne_of_lt (Nat.lt_of_lt_of_eq (row_lt a5) (Eq.symm b8))
   have e4 : Array.size h5 ≤ o := Nat.le_of_eq (Eq.symm b8)
   have c9 : h6[o]? = some (.cells #[(.int .u64 0), (.int .u64 0), (.int .u64 0), (.int .u8 0)] 31 (0, 0)) := by rw [d3]; exact push_new b8
   replace a8 := Ext.row c2 a8
   replace a5 := Ext.row c2 a5
   refine lp rfl rfl (hn_stores (vs := [(.int .u64 b1), (.int .u64 b6), (.int .u64 a0), (.int .u8 b2)]) rfl rfl TyShI.sz31 rfl (HWs_row c9 (by simp)) ?_)
   intro h7 b9
   replace a8 := row_hsets_ne b9 e2 a8
   replace a5 := row_hsets_ne b9 e7 a5
   have d5 : h7[o]? = some (.cells #[(.int .u64 b1), (.int .u64 b6), (.int .u64 a0), (.int .u8 b2)] 31 (0, 0)) := row_hsets_eq b9 c9 rfl
   have d2 := ext_hsets b9 c2 e4
   refine lv rfl rfl (va rfl) ?_
   refine ln (qn ?_)
   refine xk (fun ρ h' => h7 = h' ∧ Has ρ [(3, (ptr e 0)), (4, (ptr b4 0)), (7, (.pointer r)), (37, (.bool (r1 && (decide (a0 > a1)))))]) ?_ ?_
   ·refine xr ?_
    refine lv rfl rfl (vm rfl) (lv rfl rfl (vm rfl) ?_)
    rcases bool_or (r1) with b0 | b0
    ·refine ly (wanted_y rfl rfl rfl b0) rfl (HStep.of_val (v := (ptr o 2)) (vf TyShI.fld31_2 (b := o) (o := 0) rfl) ?_)
     refine ly (wanted_y rfl rfl rfl b0) rfl (HStep.of_val (v := (.int .u64 a0)) (vl TyShI.agg29 rfl (rc d5 rfl)) ?_)
     refine ly (wanted_y rfl rfl rfl b0) rfl (HStep.of_val (v := (ptr e 2)) (vf TyShI.fld31_2 (b := e) (o := 0) rfl) ?_)
     refine ly (wanted_y rfl rfl rfl b0) rfl (HStep.of_val (v := (.int .u64 a1)) (vl TyShI.agg29 rfl (rc a8 rfl)) ?_)
     refine ly (wanted_y rfl rfl rfl b0) rfl (HStep.of_val (v := (.bool (decide (a0 > a1)))) (vr rfl rfl rfl) ?_)
     refine lv rfl rfl (v := (.bool (decide (a0 > a1)))) (hv_pick_t rfl b0 rfl) ?_
     refine ln (qn ?_)
     exact ⟨rfl, (hc rfl (hc rfl (hc rfl (hc (show ((.bool (decide (a0 > a1))) : Value) = (.bool (r1 && (decide (a0 > a1)))) from (by first | rfl | ((try rw [b0]); all_goals first | rfl | (simp only [Bool.true_or, Bool.or_true, Bool.false_or, Bool.or_false, Bool.true_and, Bool.and_true, Bool.false_and, Bool.and_false, Bool.not_true, Bool.not_false, Bool.cond_true, Bool.cond_false]; done)) | simp [b0])) hn))))⟩
    ·refine lo (wanted_n rfl rfl rfl b0) rfl ?_
     refine lo (wanted_n rfl rfl rfl b0) rfl ?_
     refine lo (wanted_n rfl rfl rfl b0) rfl ?_
     refine lo (wanted_n rfl rfl rfl b0) rfl ?_
     refine lo (wanted_n rfl rfl rfl b0) rfl ?_
     refine lv rfl rfl (v := (.bool false)) (hv_pick_f rfl b0 rfl) ?_
     refine ln (qn ?_)
     exact ⟨rfl, (hc rfl (hc rfl (hc rfl (hc (show ((.bool false) : Value) = (.bool (r1 && (decide (a0 > a1)))) from (by first | rfl | ((try rw [b0]); all_goals first | rfl | (simp only [Bool.true_or, Bool.or_true, Bool.false_or, Bool.or_false, Bool.true_and, Bool.and_true, Bool.false_and, Bool.and_false, Bool.not_true, Bool.not_false, Bool.cond_true, Bool.cond_false]; done)) | simp [b0])) hn))))⟩
   ·rintro ρ _ ⟨rfl, hH⟩
    refine xh _ hH ?_
    refine xc (b := (r1 && (decide (a0 > a1)))) rfl (fun c3 => ?_) (fun c3 => ?_)
    ·replace H := H.1 c3
     refine xs (xr ?_)
     refine lv rfl rfl (vL (vs := [(.int .u64 0), (.int .u64 0), (.int .u64 0), (.int .u8 0)]) TyShI.agg31 TyShI.sz31 rfl (cc (rc a5 rfl) (cc (rc a5 rfl) (cc (rc a5 rfl) (cc (rc a5 rfl) cn))))) ?_
     replace H := H h7 d2
     refine lp rfl rfl (hn_stores (vs := [(.int .u64 0), (.int .u64 0), (.int .u64 0), (.int .u8 0)]) rfl rfl TyShI.sz31 rfl (HWs_row a5 (by simp)) ?_)
     intro h8 c4
     replace a8 := row_hsets_ne c4 c8 a8
     have a7 : h8[b4]? = some (.cells #[(.int .u64 0), (.int .u64 0), (.int .u64 0), (.int .u8 0)] 31 (0, 0)) := row_hsets_eq c4 a5 rfl
     replace H := H h8 (fr_hsets_of c4)
     refine lv rfl rfl (va rfl) (lv rfl rfl (va rfl) ?_)
     refine ln (qn (xt (qr ?_)))
     exact endQ_ret _ (res_three Try.results29 (rv_cell (vs := [(.int .u64 0), (.int .u64 0), (.int .u64 0), (.int .u8 0)]) TyShI.agg31 TyShI.sz31 rfl (cc (rc a7 rfl) (cc (rc a7 rfl) (cc (rc a7 rfl) (cc (rc a7 rfl) cn))))) (rv_tmp rfl) (rv_tmp rfl)) H
    ·replace H := H.2 c3
     refine xi (qn (xs (xr ?_)))
     refine lv rfl rfl (vm rfl) (lv rfl rfl (vL (vs := [(.int .u64 a6), (.int .u64 b3), (.int .u64 a1), (.int .u8 b5)]) TyShI.agg31 TyShI.sz31 rfl (cc (rc a8 rfl) (cc (rc a8 rfl) (cc (rc a8 rfl) (cc (rc a8 rfl) cn))))) ?_)
     replace H := H h7 d2
     refine lp rfl rfl (sc TyShI.cb51 rfl (HC.mono H ?_))
     rintro _ h9 ⟨e6, a3, a9, a2, a4, b7, r2, rfl, H⟩
     replace a5 := Kp.row e6 (by simp) a5
     refine lv rfl rfl (vx rfl rfl) (lv rfl rfl (vx rfl rfl) (lv rfl rfl (vx rfl rfl) ?_))
     refine lp rfl rfl (hn_stores (vs := [(.int .u64 a3), (.int .u64 a9), (.int .u64 a2), (.int .u8 a4)]) rfl rfl TyShI.sz31 rfl (HWs_row a5 (by simp)) ?_)
     intro c0 d4
     have a7 : c0[b4]? = some (.cells #[(.int .u64 a3), (.int .u64 a9), (.int .u64 a2), (.int .u8 a4)] 31 (0, 0)) := row_hsets_eq d4 a5 rfl
     replace H := H c0 (fr_hsets_of d4)
     refine lv rfl rfl (va rfl) (lv rfl rfl (va rfl) ?_)
     refine ln (qn (xt ?_))
     exact endQ_ret _ (res_three Try.results29 (rv_cell (vs := [(.int .u64 a3), (.int .u64 a9), (.int .u64 a2), (.int .u8 a4)]) TyShI.agg31 TyShI.sz31 rfl (cc (rc a7 rfl) (cc (rc a7 rfl) (cc (rc a7 rfl) (cc (rc a7 rfl) cn))))) (rv_tmp rfl) (rv_tmp rfl)) H
theorem f30_sh (x : Option Addr) (a4 : Int) (h : Heap) (R : Value → Heap → Prop)
  (H : (∀ (pb : Nat) (h1 : Heap), Array.size h ≤ pb → pb < Array.size h1 → Ext h h1 → (∃ r : Option Addr, HC Try.prog 27 #[(.pointer x), (.int .u64 a4)] h1 (fun vv h' => vv = (.pointer r) ∧ h' = h1) ∧ HC Try.prog 46 #[(.pointer r), (.int .u64 a4)] h1 (fun vv h2 => Kp [pb] h1 h2 ∧ ∃ a1 a3 a0 a2 : Int, ∃ r1 : Bool, vv = (.tuple #[(.agg #[(.int .u64 a1), (.int .u64 a3), (.int .u64 a0), (.int .u8 a2)]), (.bool r1)]) ∧ (∀ h3, Fr (fun i => i = pb) h2 h3 → R (.tuple #[(.agg #[(.int .u64 a1), (.int .u64 a3), (.int .u64 a0), (.int .u8 a2)]), (.bool r1)]) h3))))) :
  HC Try.prog 30 #[(.pointer x), (.int .u64 a4)] h R := by
 refine hc_of (args := [(.pointer x), (.int .u64 a4)]) Try.func30 rfl Try.ntmps30 (Nat.le_of_ble_eq_true rfl) ?_
 refine xs (xr ?_)
 refine lp rfl rfl (hn_alloc TyShI.z31 ?_)
 intro pb h1 a8 a9
 have b1 := ext_pushed_f20_sh a9
 have b0 : Array.size h ≤ pb := Nat.le_of_eq (Eq.symm a8)
 have a6 : h1[pb]? = some (.cells #[(.int .u64 0), (.int .u64 0), (.int .u64 0), (.int .u8 0)] 31 (0, 0)) := by rw [a9]; exact push_new a8
 refine lv rfl rfl (va rfl) ?_
 refine ln (qn (xs (xr ?_)))
 refine lv rfl rfl (vm rfl) (lv rfl rfl (vm rfl) ?_)
 replace H := H pb h1 b0 (row_lt a6) b1
 obtain ⟨r, b3, H⟩ := H
 refine lv rfl rfl (hv_call TyShI.cb27 (vs := [(.pointer x), (.int .u64 a4)]) rfl b3) (lv rfl rfl (vm rfl) ?_)
 refine lp rfl rfl (sc TyShI.cb46 rfl (HC.mono H ?_))
 rintro _ h2 ⟨b2, a1, a3, a0, a2, r1, rfl, H⟩
 replace a6 := Kp.row b2 (by simp) a6
 refine lv rfl rfl (vx rfl rfl) (lv rfl rfl (vx rfl rfl) ?_)
 refine lp rfl rfl (hn_stores (vs := [(.int .u64 a1), (.int .u64 a3), (.int .u64 a0), (.int .u8 a2)]) rfl rfl TyShI.sz31 rfl (HWs_row a6 (by simp)) ?_)
 intro h3 a7
 have a5 : h3[pb]? = some (.cells #[(.int .u64 a1), (.int .u64 a3), (.int .u64 a0), (.int .u8 a2)] 31 (0, 0)) := row_hsets_eq a7 a6 rfl
 replace H := H h3 (fr_hsets_of a7)
 refine lv rfl rfl (va rfl) ?_
 refine ln (qn (xt ?_))
 exact endQ_ret _ (res_two Try.results30 (rv_cell (vs := [(.int .u64 a1), (.int .u64 a3), (.int .u64 a0), (.int .u8 a2)]) TyShI.agg31 TyShI.sz31 rfl (cc (rc a5 rfl) (cc (rc a5 rfl) (cc (rc a5 rfl) (cc (rc a5 rfl) cn))))) (rv_tmp rfl)) H
theorem f31_sh (x : Option Addr) (a5 : Int) (a6 : Int) (h : Heap) (R : Value → Heap → Prop)
  (H : HC Try.prog 11 #[(.pointer x), (.int .u64 a5)] h (fun vv h1 => ∃ a3 a0 a1 a4 : Int, ∃ r1 : Bool, vv = (.tuple #[(.agg #[(.int .u64 a3), (.int .u64 a0), (.int .u64 a1), (.int .u8 a4)]), (.bool r1)]) ∧ ((((!r1) || (a0 != a6)) = true → (∀ (h3 : Heap), Ext h1 h3 → R (.bool false) h3)) ∧ (((!r1) || (a0 != a6)) = false → (∀ (h3 : Heap), Ext h1 h3 → HC Try.prog 30 #[(.pointer x), (.int .u64 a5)] h3 (fun vv h4 => ∃ a8 b0 a7 a9 : Int, ∃ b2 : Bool, vv = (.tuple #[(.agg #[(.int .u64 a8), (.int .u64 b0), (.int .u64 a7), (.int .u8 a9)]), (.bool b2)]) ∧ R (.bool true) h4)))))) :
  HC Try.prog 31 #[(.pointer x), (.int .u64 a5), (.int .u64 a6)] h R := by
 refine hc_of (args := [(.pointer x), (.int .u64 a5), (.int .u64 a6)]) Try.func31 rfl Try.ntmps31 (Nat.le_of_ble_eq_true rfl) ?_
 refine xs (xr ?_)
 refine lv rfl rfl (va rfl) ?_
 refine ln (qn (xs (xr ?_)))
 refine lv rfl rfl (vm rfl) (lv rfl rfl (vm rfl) ?_)
 refine lp rfl rfl (sc TyShI.cb11 rfl (HC.mono H ?_))
 rintro _ h1 ⟨a3, a0, a1, a4, r1, rfl, H⟩
 refine lv rfl rfl (vm rfl) (lv rfl rfl (vx rfl rfl) (lv rfl rfl (vx rfl rfl) ?_))
 refine lp rfl rfl (hn_alloc TyShI.z31 ?_)
 intro e h2 b6 b7
 have c0 := ext_pushed_f20_sh b7
 have b9 : Array.size h1 ≤ e := Nat.le_of_eq (Eq.symm b6)
 have b5 : h2[e]? = some (.cells #[(.int .u64 0), (.int .u64 0), (.int .u64 0), (.int .u8 0)] 31 (0, 0)) := by rw [b7]; exact push_new b6
 refine lp rfl rfl (hn_stores (vs := [(.int .u64 a3), (.int .u64 a0), (.int .u64 a1), (.int .u8 a4)]) rfl rfl TyShI.sz31 rfl (HWs_row b5 (by simp)) ?_)
 intro h3 b3
 have b8 : h3[e]? = some (.cells #[(.int .u64 a3), (.int .u64 a0), (.int .u64 a1), (.int .u8 a4)] 31 (0, 0)) := row_hsets_eq b3 b5 rfl
 have b4 := ext_hsets b3 c0 b9
 refine lv rfl rfl (va rfl) ?_
 refine ln (qn (xs ?_))
 refine xk (fun ρ h' => h3 = h' ∧ Has ρ [(0, (.pointer x)), (1, (.int .u64 a5)), (22, (.bool ((!r1) || (a0 != a6))))]) ?_ ?_
 ·refine xr ?_
  refine lv rfl rfl (vm rfl) (lv rfl rfl (v := (.bool (!r1))) (hv_not (b := r1) rfl) (lv rfl rfl (vm rfl) ?_))
  rcases bool_or (!r1) with a2 | a2
  ·refine lo (wanted_n rfl rfl rfl a2) rfl ?_
   refine lo (wanted_n rfl rfl rfl a2) rfl ?_
   refine lo (wanted_n rfl rfl rfl a2) rfl ?_
   refine lo (wanted_n rfl rfl rfl a2) rfl ?_
   refine lv rfl rfl (v := (.bool true)) (hv_pick_t rfl a2 rfl) ?_
   refine ln (qn ?_)
   exact ⟨rfl, (hc rfl (hc rfl (hc (show ((.bool true) : Value) = (.bool ((!r1) || (a0 != a6))) from (by first | rfl | ((try rw [a2]); all_goals first | rfl | (simp only [Bool.true_or, Bool.or_true, Bool.false_or, Bool.or_false, Bool.true_and, Bool.and_true, Bool.false_and, Bool.and_false, Bool.not_true, Bool.not_false, Bool.cond_true, Bool.cond_false]; done)) | simp [a2])) hn)))⟩
  ·refine ly (wanted_y rfl rfl rfl a2) rfl (HStep.of_val (v := (ptr e 1)) (vf TyShI.fld31_1 (b := e) (o := 0) rfl) ?_)
   refine ly (wanted_y rfl rfl rfl a2) rfl (HStep.of_val (v := (.int .u64 a0)) (vl TyShI.agg29 rfl (rc b8 rfl)) ?_)
   refine ly (wanted_y rfl rfl rfl a2) rfl (HStep.of_val (v := (.int .u64 a6)) (vm rfl) ?_)
   refine ly (wanted_y rfl rfl rfl a2) rfl (HStep.of_val (v := (.bool (a0 != a6))) (vr rfl rfl rfl) ?_)
   refine lv rfl rfl (v := (.bool (a0 != a6))) (hv_pick_f rfl a2 rfl) ?_
   refine ln (qn ?_)
   exact ⟨rfl, (hc rfl (hc rfl (hc (show ((.bool (a0 != a6)) : Value) = (.bool ((!r1) || (a0 != a6))) from (by first | rfl | ((try rw [a2]); all_goals first | rfl | (simp only [Bool.true_or, Bool.or_true, Bool.false_or, Bool.or_false, Bool.true_and, Bool.and_true, Bool.false_and, Bool.and_false, Bool.not_true, Bool.not_false, Bool.cond_true, Bool.cond_false]; done)) | simp [a2])) hn)))⟩
 ·rintro ρ _ ⟨rfl, hH⟩
  refine xh _ hH ?_
  refine xc (b := ((!r1) || (a0 != a6))) rfl (fun b1 => ?_) (fun b1 => ?_)
  ·replace H := H.1 b1
   refine xs (xr ?_)
   refine lv rfl rfl (va rfl) ?_
   refine ln (qn (xt (qr ?_)))
   replace H := H h3 b4
   exact endQ_ret _ (res_one Try.results31 (rv_tmp rfl)) H
  ·replace H := H.2 b1
   refine xi (qn (xs (xr ?_)))
   refine lv rfl rfl (vm rfl) (lv rfl rfl (vm rfl) ?_)
   replace H := H h3 b4
   refine lp rfl rfl (sc TyShI.cb30 rfl (HC.mono H ?_))
   rintro _ h4 ⟨a8, b0, a7, a9, b2, rfl, H⟩
   refine ln (qn (xs (xr ?_)))
   refine lv rfl rfl (va rfl) ?_
   refine ln (qn (xt ?_))
   exact endQ_ret _ (res_one Try.results31 (rv_tmp rfl)) H
theorem f32_sh (x : Option Addr) (a8 : Int) (a4 : Int) (a6 : Int) (h : Heap) (R : Value → Heap → Prop)
  (H : HC Try.prog 11 #[(.pointer x), (.int .u64 a8)] h (fun vv h1 => ∃ a2 a1 a0 a3 : Int, ∃ r1 : Bool, vv = (.tuple #[(.agg #[(.int .u64 a2), (.int .u64 a1), (.int .u64 a0), (.int .u8 a3)]), (.bool r1)]) ∧ ((((!r1) || ((a1 != a4) || (a6 == 0))) = true → (∀ (h3 : Heap), Ext h1 h3 → R (.bool false) h3)) ∧ (((!r1) || ((a1 != a4) || (a6 == 0))) = false → (∀ (e : Nat) (h4 : Heap), Array.size h1 ≤ e → e < Array.size h4 → Ext h1 h4 → (∃ r : Option Addr, (∀ h6, Ext h4 h6 → HC Try.prog 27 #[(.pointer x), (.int .u64 a8)] h6 (fun vv h' => vv = (.pointer r) ∧ h' = h6)) ∧ HC Try.prog 51 #[(.pointer r), (.agg #[(.int .u64 a2), (.int .u64 a6), (.int .u64 a0), (.int .u8 a3)])] h4 (fun vv h5 => ∃ b1 b3 a9 b2 : Int, ∃ b6 : Bool, ∃ r2 : Int, vv = (.tuple #[(.agg #[(.int .u64 b1), (.int .u64 b3), (.int .u64 a9), (.int .u8 b2)]), (.bool b6), (.int .i64 r2)]) ∧ R (.bool true) h5))))))) :
  HC Try.prog 32 #[(.pointer x), (.int .u64 a8), (.int .u64 a4), (.int .u64 a6)] h R := by
 refine hc_of (args := [(.pointer x), (.int .u64 a8), (.int .u64 a4), (.int .u64 a6)]) Try.func32 rfl Try.ntmps32 (Nat.le_of_ble_eq_true rfl) ?_
 refine xs (xr ?_)
 refine lv rfl rfl (va rfl) ?_
 refine ln (qn (xs (xr ?_)))
 refine lv rfl rfl (vm rfl) (lv rfl rfl (vm rfl) ?_)
 refine lp rfl rfl (sc TyShI.cb11 rfl (HC.mono H ?_))
 rintro _ h1 ⟨a2, a1, a0, a3, r1, rfl, H⟩
 refine lv rfl rfl (vm rfl) (lv rfl rfl (vx rfl rfl) (lv rfl rfl (vx rfl rfl) ?_))
 refine lp rfl rfl (hn_alloc TyShI.z31 ?_)
 intro e h2 c0 c3
 have c6 := ext_pushed_f20_sh c3
 have b7 : Array.size h1 ≤ e := Nat.le_of_eq (Eq.symm c0)
 have c1 : h2[e]? = some (.cells #[(.int .u64 0), (.int .u64 0), (.int .u64 0), (.int .u8 0)] 31 (0, 0)) := by rw [c3]; exact push_new c0
 refine lp rfl rfl (hn_stores (vs := [(.int .u64 a2), (.int .u64 a1), (.int .u64 a0), (.int .u8 a3)]) rfl rfl TyShI.sz31 rfl (HWs_row c1 (by simp)) ?_)
 intro h3 c2
 have b5 : h3[e]? = some (.cells #[(.int .u64 a2), (.int .u64 a1), (.int .u64 a0), (.int .u8 a3)] 31 (0, 0)) := row_hsets_eq c2 c1 rfl
 have b9 := ext_hsets c2 c6 b7
 refine lv rfl rfl (va rfl) ?_
 refine ln (qn (xs ?_))
 refine xk (fun ρ h' => h3 = h' ∧ Has ρ [(0, (.pointer x)), (1, (.int .u64 a8)), (3, (.int .u64 a6)), (9, (ptr e 0)), (28, (.bool ((!r1) || ((a1 != a4) || (a6 == 0)))))]) ?_ ?_
 ·refine xr ?_
  refine lv rfl rfl (vm rfl) (lv rfl rfl (v := (.bool (!r1))) (hv_not (b := r1) rfl) (lv rfl rfl (vm rfl) ?_))
  rcases bool_or (!r1) with a5 | a5
  ·refine lo (wanted_n rfl rfl rfl a5) rfl ?_
   refine lo (wanted_n rfl rfl rfl a5) rfl ?_
   refine lo (wanted_n rfl rfl rfl a5) rfl ?_
   refine lo (wanted_n rfl rfl rfl a5) rfl ?_
   refine lv rfl rfl (v := (.bool true)) (hv_pick_t rfl a5 rfl) (lv rfl rfl (vm rfl) ?_)
   refine lo (wanted_n rfl rfl (c := true) rfl rfl) rfl ?_
   refine lo (wanted_n rfl rfl (c := true) rfl rfl) rfl ?_
   refine lv rfl rfl (v := (.bool true)) (hv_pick (t := true) rfl rfl) ?_
   refine ln (qn ?_)
   exact ⟨rfl, (hc rfl (hc rfl (hc rfl (hc rfl (hc (show ((.bool true) : Value) = (.bool ((!r1) || ((a1 != a4) || (a6 == 0)))) from (by first | rfl | ((try rw [a5]); all_goals first | rfl | (simp only [Bool.true_or, Bool.or_true, Bool.false_or, Bool.or_false, Bool.true_and, Bool.and_true, Bool.false_and, Bool.and_false, Bool.not_true, Bool.not_false, Bool.cond_true, Bool.cond_false]; done)) | simp [a5])) hn)))))⟩
  ·refine ly (wanted_y rfl rfl rfl a5) rfl (HStep.of_val (v := (ptr e 1)) (vf TyShI.fld31_1 (b := e) (o := 0) rfl) ?_)
   refine ly (wanted_y rfl rfl rfl a5) rfl (HStep.of_val (v := (.int .u64 a1)) (vl TyShI.agg29 rfl (rc b5 rfl)) ?_)
   refine ly (wanted_y rfl rfl rfl a5) rfl (HStep.of_val (v := (.int .u64 a4)) (vm rfl) ?_)
   refine ly (wanted_y rfl rfl rfl a5) rfl (HStep.of_val (v := (.bool (a1 != a4))) (vr rfl rfl rfl) ?_)
   refine lv rfl rfl (v := (.bool (a1 != a4))) (hv_pick_f rfl a5 rfl) (lv rfl rfl (vm rfl) ?_)
   rcases bool_or (a1 != a4) with a7 | a7
   ·refine lo (wanted_n rfl rfl rfl a7) rfl ?_
    refine lo (wanted_n rfl rfl rfl a7) rfl ?_
    refine lv rfl rfl (v := (.bool true)) (hv_pick_t rfl a7 rfl) ?_
    refine ln (qn ?_)
    exact ⟨rfl, (hc rfl (hc rfl (hc rfl (hc rfl (hc (show ((.bool true) : Value) = (.bool ((!r1) || ((a1 != a4) || (a6 == 0)))) from (by first | rfl | ((try rw [a5]); (try rw [a7]); all_goals first | rfl | (simp only [Bool.true_or, Bool.or_true, Bool.false_or, Bool.or_false, Bool.true_and, Bool.and_true, Bool.false_and, Bool.and_false, Bool.not_true, Bool.not_false, Bool.cond_true, Bool.cond_false]; done)) | simp [a5, a7])) hn)))))⟩
   ·refine ly (wanted_y rfl rfl rfl a7) rfl (HStep.of_val (v := (.int .u64 a6)) (vm rfl) ?_)
    refine ly (wanted_y rfl rfl rfl a7) rfl (HStep.of_val (v := (.bool (a6 == 0))) (vr rfl rfl rfl) ?_)
    refine lv rfl rfl (v := (.bool (a6 == 0))) (hv_pick_f rfl a7 rfl) ?_
    refine ln (qn ?_)
    exact ⟨rfl, (hc rfl (hc rfl (hc rfl (hc rfl (hc (show ((.bool (a6 == 0)) : Value) = (.bool ((!r1) || ((a1 != a4) || (a6 == 0)))) from (by first | rfl | ((try rw [a5]); (try rw [a7]); all_goals first | rfl | (simp only [Bool.true_or, Bool.or_true, Bool.false_or, Bool.or_false, Bool.true_and, Bool.and_true, Bool.false_and, Bool.and_false, Bool.not_true, Bool.not_false, Bool.cond_true, Bool.cond_false]; done)) | simp [a5, a7])) hn)))))⟩
 ·rintro ρ _ ⟨rfl, hH⟩
  refine xh _ hH ?_
  refine xc (b := ((!r1) || ((a1 != a4) || (a6 == 0)))) rfl (fun b4 => ?_) (fun b4 => ?_)
  ·replace H := H.1 b4
   refine xs (xr ?_)
   refine lv rfl rfl (va rfl) ?_
   refine ln (qn (xt (qr ?_)))
   replace H := H h3 b9
   exact endQ_ret _ (res_one Try.results32 (rv_tmp rfl)) H
  ·replace H := H.2 b4
   refine xi (qn (xs (xr ?_)))
   refine lv rfl rfl (vm rfl) (lv rfl rfl (v := (ptr e 1)) (vf TyShI.fld31_1 (b := e) (o := 0) rfl) ?_)
   refine lp rfl rfl (hn_store (v := (.int .u64 a6)) rfl rfl TyShI.sz29 rfl (HW_row b5 (by simp)) ?_)
   intro h4 b8
   have b0 : h4[e]? = some (.cells #[(.int .u64 a2), (.int .u64 a6), (.int .u64 a0), (.int .u8 a3)] 31 (0, 0)) := row_hset_eq b8 b5 rfl
   have c5 := ext_hset b8 b9 b7
   refine ln (qn (xs ?_))
   refine hx_draw TyShI.mixed [.pure, .pure, .read, .read, .wild] [0, 1, 2, 3, 4] (by kernel_rfl) ?_
   refine pp (i := 0) rfl (wanted_0 rfl) rfl (.pointer x) (fun _ => vm rfl) ?_
   refine pp (i := 1) rfl (wanted_0 rfl) rfl (.int .u64 a8) (fun _ => vm rfl) ?_
   replace H := H e h4 b7 (row_lt b0) c5
   obtain ⟨r, c4, H⟩ := H
   refine pr (i := 2) rfl (wanted_0 rfl) rfl (.pointer r) (fun _ he => hv_call TyShI.cb27 (vs := [(.pointer x), (.int .u64 a8)]) rfl (c4 _ he)) ?_
   refine pr (i := 3) rfl (wanted_0 rfl) rfl (.agg #[(.int .u64 a2), (.int .u64 a6), (.int .u64 a0), (.int .u8 a3)]) (fun _ he => vL (vs := [(.int .u64 a2), (.int .u64 a6), (.int .u64 a0), (.int .u8 a3)]) TyShI.agg31 TyShI.sz31 rfl (cc (Ext.cell he (rc b0 rfl)) (cc (Ext.cell he (rc b0 rfl)) (cc (Ext.cell he (rc b0 rfl)) (cc (Ext.cell he (rc b0 rfl)) cn))))) ?_
   refine hp_wild (i := 4) rfl (wanted_0 rfl) rfl (sc TyShI.cb51 rfl (HC.mono H ?_))
   rintro _ h5 ⟨b1, b3, a9, b2, b6, r2, rfl, H⟩
   refine hp_nil ?_
   refine qn (xs (xr ?_))
   refine lv rfl rfl (va rfl) ?_
   refine ln (qn (xt ?_))
   exact endQ_ret _ (res_one Try.results32 (rv_tmp rfl)) H
theorem f33_sh (x : Option Addr) (a0 : Int) (h : Heap) (R : Value → Heap → Prop)
  (H : (∃ r : Option Addr, HC Try.prog 27 #[(.pointer x), (.int .u64 a0)] h (fun vv h' => vv = (.pointer r) ∧ h' = h) ∧ HC Try.prog 52 #[(.pointer r), (.int .u64 a0)] h (fun vv h1 => ∃ a1 : Bool, vv = (.bool a1) ∧ R (.bool a1) h1))) :
  HC Try.prog 33 #[(.pointer x), (.int .u64 a0)] h R := by
 refine hc_of (args := [(.pointer x), (.int .u64 a0)]) Try.func33 rfl Try.ntmps33 (Nat.le_of_ble_eq_true rfl) ?_
 refine xs (xr ?_)
 refine lv rfl rfl (va rfl) ?_
 refine ln (qn (xs (xr ?_)))
 refine lv rfl rfl (vm rfl) (lv rfl rfl (vm rfl) ?_)
 obtain ⟨r, a2, H⟩ := H
 refine lv rfl rfl (hv_call TyShI.cb27 (vs := [(.pointer x), (.int .u64 a0)]) rfl a2) (lv rfl rfl (vm rfl) ?_)
 refine lp rfl rfl (sc TyShI.cb52 rfl (HC.mono H ?_))
 rintro _ h1 ⟨a1, rfl, H⟩
 refine lv rfl rfl (va rfl) ?_
 refine ln (qn (xt ?_))
 exact endQ_ret _ (res_one Try.results33 (rv_tmp rfl)) H
theorem f18_sh (x : Option Addr) (a0 : Int) (h : Heap) (R : Value → Heap → Prop)
  (H : (∃ r : Option Addr, HC Try.prog 44 #[(.pointer x), (.int .i64 a0)] h (fun vv h' => vv = (.pointer r) ∧ h' = h) ∧ HC Try.prog 45 #[(.pointer r)] h (fun vv h1 => ∃ a1 : Value, vv = a1 ∧ R a1 h1))) :
  HC Try.prog 18 #[(.pointer x), (.int .i64 a0)] h R := by
 refine hc_of (args := [(.pointer x), (.int .i64 a0)]) Try.func18 rfl Try.ntmps18 (Nat.le_of_ble_eq_true rfl) ?_
 refine xs (xr ?_)
 refine lv rfl rfl (va rfl) ?_
 refine ln (qn (xs (xr ?_)))
 refine lv rfl rfl (vm rfl) (lv rfl rfl (vm rfl) ?_)
 obtain ⟨r, a2, H⟩ := H
 refine lv rfl rfl (hv_call TyShI.cb44 (vs := [(.pointer x), (.int .i64 a0)]) rfl a2) ?_
 refine lp rfl rfl (sc TyShI.cb45 rfl (HC.mono H ?_))
 rintro a1 h1 ⟨_, rfl, H⟩
 refine lv rfl rfl (va rfl) ?_
 refine ln (qn (xt ?_))
 exact endQ_ret _ (res_one Try.results18 (rv_tmp rfl)) H
theorem f19_sh (x : Option Addr) (a6 : Int) (a9 : Int) (h : Heap) (R : Value → Heap → Prop)
  (H : (∀ a4 h1, a4 = Array.size h → h1 = Array.push h (.cells #[(.int .i64 a9)] 3) → (∃ r : Option Addr, HC Try.prog 44 #[(.pointer x), (.int .i64 a6)] h1 (fun vv h' => vv = (.pointer r) ∧ h' = h1) ∧ (∀ t h2, t = Array.size h1 → h2 = Array.push h1 (.cells #[(.pointer none)] 70) → (HW h2 t 0 ∧ ∀ h3, h3 = hset h2 t 0 (.pointer r) → (∀ n h4, n = Array.size h3 → h4 = Array.push h3 (.cells #[(.int .i64 0)] 3) → (HW h4 n 0 ∧ ∀ h5, h5 = hset h4 n 0 (.int .i64 0) → (∃ b9 : Option Addr, hcell h5 t 0 = some (.pointer b9) ∧ HC Try.prog 45 #[(.pointer b9)] h5 (fun vv h6 => ∃ d1 : Value, vv = d1 ∧ (∀ (a1 : LoopState → Option Code → Heap → Prop) (l : Nat) (h7 : Heap) (y : Value), (∀ s p h h', a1 s p h → h'[l]? = h[l]? → a1 s p h') → l = Array.size h6 + 1 → Ext h6 h7 → Array.size h7 = Array.size h6 + 2 → a1 .ready none h7 → (∀ (a8 : Int) (b1 : Int) (a2 : Int) (a7 : Int) (h8 : Heap) (d0 : Value → Heap → Prop), a1 .ready none h8 → (∀ e b6, e = Array.size h8 → b6 = Array.push h8 (.cells #[(.int .u64 0), (.int .u64 0), (.int .u64 0), (.int .u8 0)] 31) → (HWs b6 e 0 4 ∧ ∀ c3, c3 = hsets b6 e 0 [(.int .u64 a8), (.int .u64 b1), (.int .u64 a2), (.int .u8 a7)] → (a1 .ready none c3 ∧ ∀ a5, Only l c3 a5 → a1 .busy none a5 → (∃ j : Bool, (∃ a3 : Int, hcell a5 a4 0 = some (.int .i64 a3) ∧ (((decide (a3 < 0)) = true → (j = true)) ∧ ((decide (a3 < 0)) = false → (∃ b2 : Int, hcell a5 e 1 = some (.int .u64 b2) ∧ (j = ((Int.fdiv b2 (2 ^ min (Int.toNat 48) 64)) != (IntKind.u64.wrap a3))))))) ∧ ((j = true → (a1 .busy none a5 ∧ ∀ d3, Only l a5 d3 → a1 .ready none d3 → d0 (.bool true) d3)) ∧ (j = false → (∃ c1 : Option Addr, hcell a5 t 0 = some (.pointer c1) ∧ (∃ c0 : Int, hcell a5 e 0 = some (.int .u64 c0) ∧ HC Try.prog 46 #[(.pointer c1), (.int .u64 c0)] a5 (fun vv c9 => ∃ b4 c8 b0 b7 : Int, ∃ r1 : Bool, vv = (.tuple #[(.agg #[(.int .u64 b4), (.int .u64 c8), (.int .u64 b0), (.int .u8 b7)]), (.bool r1)]) ∧ (∃ b8 : Int, hcell c9 n 0 = some (.int .i64 b8) ∧ (HW c9 n 0 ∧ ∀ c2, c2 = hset c9 n 0 (.int .i64 (IntKind.i64.wrap (b8 + 1))) → (a1 .busy none c2 ∧ ∀ d4, Only l c2 d4 → a1 .ready none d4 → d0 (.bool true) d4)))))))))))) → HCV Try.prog y [(.agg #[(.int .u64 a8), (.int .u64 b1), (.int .u64 a2), (.int .u8 a7)])] h8 d0) → HCF Try.prog d1 [y] h7 (fun _ h9 => ∃ (st : LoopState) (b3 : Option Code), a1 st b3 h9 ∧ st ≠ .busy ∧ ∀ b5, Only l h9 b5 → a1 .exhausted b3 b5 → ((b3 = none ∧ (∃ c4 : Int, hcell b5 n 0 = some (.int .i64 c4) ∧ (∀ d9, Shut' (Array.size h) b5 d9 → R (.int .i64 c4) d9))))))))))))))) :
  HC Try.prog 19 #[(.pointer x), (.int .i64 a6), (.int .i64 a9)] h R := by
 refine hc_ofM (args := [(.pointer x), (.int .i64 a6), (.int .i64 a9)]) Try.func19 rfl Try.ntmps19 (Nat.le_of_ble_eq_true rfl) ?_
 refine xs (xr ?_)
 refine lp rfl rfl (hn_box (v := (.int .i64 a9)) rfl ?_)
 intro a4 h1 g6 e0
 replace H := H a4 h1 g6 e0
 have i3 := ext_pushed_f20_sh e0
 refine lv rfl rfl (va rfl) ?_
 refine ln (qn ?_)
 refine hx_scope ?_
 refine xs (xr ?_)
 refine lv rfl rfl (vm rfl) (lv rfl rfl (vm rfl) ?_)
 obtain ⟨r, i0, H⟩ := H
 refine lv rfl rfl (hv_call TyShI.cb44 (vs := [(.pointer x), (.int .i64 a6)]) rfl i0) ?_
 refine lp rfl rfl (hn_alloc TyShI.z70 ?_)
 intro t h2 g8 d8
 replace H := H t h2 g8 d8
 have i4 := ext_pushed_f20_sh d8
 obtain ⟨g7, H⟩ := H
 refine lp rfl rfl (hn_store (v := (.pointer r)) rfl rfl TyShI.sz70 rfl g7 ?_)
 intro h3 g9
 replace H := H h3 g9
 refine ln (qn (xs (xr ?_)))
 refine lp rfl rfl (hn_alloc TyShI.z3 ?_)
 intro n h4 e3 d2
 replace H := H n h4 e3 d2
 have i1 := ext_pushed_f20_sh d2
 obtain ⟨g5, H⟩ := H
 refine lp rfl rfl (hn_store (v := (.int .i64 0)) rfl rfl TyShI.sz3 rfl g5 ?_)
 intro h5 e9
 replace H := H h5 e9
 refine ln (qn (xs (hx_label (qn (xs (xs (xr ?_)))))))
 obtain ⟨b9, f0, H⟩ := H
 refine lv rfl rfl (vl TyShI.agg70 rfl f0) ?_
 refine lp rfl rfl (sc TyShI.cb45 rfl (HC.mono H ?_))
 rintro d1 h6 ⟨_, rfl, H⟩
 refine ln (qn (xb ?_))
 refine hx_range rfl rfl rfl (fun h7 l e4 e1 f5 e5 => ?_)
 refine HCF.mono (H (fun st p h => LoopAt h l _ _ _ _ _ st p) l h7 _ (fun s p h h' k e => k.same e) e4 e1 f5 e5 ?_) ?_
 ·intro a8 b1 a2 a7 h8 d0 g3 H
  refine hcv_yield g3 rfl rfl ?_
  refine xr ?_
  refine lp rfl rfl (hn_alloc TyShI.z31 ?_)
  intro e b6 e6 d5
  replace H := H e b6 e6 d5
  have i2 := ext_pushed_f20_sh d5
  obtain ⟨f8, H⟩ := H
  refine lp rfl rfl (hn_stores (vs := [(.int .u64 a8), (.int .u64 b1), (.int .u64 a2), (.int .u8 a7)]) rfl rfl TyShI.sz31 rfl f8 ?_)
  intro c3 f3
  replace H := H c3 f3
  refine ln ?_
  obtain ⟨f6, H⟩ := H
  refine ⟨rfl, f6, ?_⟩
  intro a5 f9 g1
  replace H := H a5 f9 g1
  refine xb (xs ?_)
  obtain ⟨j, c5, c7⟩ := H
  refine xk (fun ρ h' => a5 = h' ∧ Has ρ [(7, (ptr t 0)), (8, (ptr n 0)), (9, (ptr e 0)), (25, (.bool j))]) ?_ ?_
  ·have H := c5; clear c5 c7
   refine xr ?_
   obtain ⟨a3, d6, H⟩ := H
   refine lv rfl rfl (vl TyShI.agg3 rfl d6) (lv rfl rfl (vr rfl rfl rfl) (lv rfl rfl (vm rfl) ?_))
   rcases bool_or (decide (a3 < 0)) with a0 | a0
   ·replace H := H.1 a0
    refine lo (wanted_n rfl rfl rfl a0) rfl ?_
    refine lo (wanted_n rfl rfl rfl a0) rfl ?_
    refine lo (wanted_n rfl rfl rfl a0) rfl ?_
    refine lo (wanted_n rfl rfl rfl a0) rfl ?_
    refine lo (wanted_n rfl rfl rfl a0) rfl ?_
    refine lo (wanted_n rfl rfl rfl a0) rfl ?_
    refine lv rfl rfl (v := (.bool true)) (hv_pick_t rfl a0 rfl) ?_
    refine ln (qn ?_)
    obtain rfl := H
    exact ⟨rfl, (hc rfl (hc rfl (hc rfl (hc rfl hn))))⟩
   ·replace H := H.2 a0
    refine ly (wanted_y rfl rfl rfl a0) rfl (HStep.of_val (v := (ptr e 1)) (vf TyShI.fld31_1 (b := e) (o := 0) rfl) ?_)
    obtain ⟨b2, e7, H⟩ := H
    refine ly (wanted_y rfl rfl rfl a0) rfl (HStep.of_val (v := (.int .u64 b2)) (vl TyShI.agg29 rfl e7) ?_)
    refine ly (wanted_y rfl rfl rfl a0) rfl (HStep.of_val (v := (.int .u64 (Int.fdiv b2 (2 ^ min (Int.toNat 48) 64)))) (hv_shift rfl rfl (by decide) rfl) ?_)
    refine ly (wanted_y rfl rfl rfl a0) rfl (HStep.of_val (v := (.int .i64 a3)) (vl TyShI.agg3 rfl d6) ?_)
    refine ly (wanted_y rfl rfl rfl a0) rfl (HStep.of_val (v := (.int .u64 (IntKind.u64.wrap a3))) (hv_convInt TyShI.u3 TyShI.u29 rfl) ?_)
    refine ly (wanted_y rfl rfl rfl a0) rfl (HStep.of_val (v := (.bool ((Int.fdiv b2 (2 ^ min (Int.toNat 48) 64)) != (IntKind.u64.wrap a3)))) (vr rfl rfl rfl) ?_)
    refine lv rfl rfl (v := (.bool ((Int.fdiv b2 (2 ^ min (Int.toNat 48) 64)) != (IntKind.u64.wrap a3)))) (hv_pick_f rfl a0 rfl) ?_
    refine ln (qn ?_)
    obtain rfl := H
    exact ⟨rfl, (hc rfl (hc rfl (hc rfl (hc rfl hn))))⟩
  ·have H := c7; clear c5 c7
   rintro ρ _ ⟨rfl, hH⟩
   refine xh _ hH ?_
   refine xc (b := j) rfl (fun c6 => ?_) (fun c6 => ?_)
   ·replace H := H.1 c6
    refine xe (qe (bh ?_))
    exact H
   ·replace H := H.2 c6
    refine xi (qn (xs (xr ?_)))
    obtain ⟨c1, f7, H⟩ := H
    refine lv rfl rfl (vl TyShI.agg70 rfl f7) (lv rfl rfl (v := (ptr e 0)) (vf TyShI.fld31_0 (b := e) (o := 0) rfl) ?_)
    obtain ⟨c0, f1, H⟩ := H
    refine lv rfl rfl (vl TyShI.agg29 rfl f1) ?_
    refine lp rfl rfl (sc TyShI.cb46 rfl (HC.mono H ?_))
    rintro _ c9 ⟨b4, c8, b0, b7, r1, rfl, H⟩
    refine ln (qn (xr ?_))
    obtain ⟨b8, g4, H⟩ := H
    refine lv rfl rfl (vl TyShI.agg3 rfl g4) (lv rfl rfl (vr rfl rfl rfl) ?_)
    obtain ⟨e8, H⟩ := H
    refine lp rfl rfl (hn_store (v := (.int .i64 (IntKind.i64.wrap (b8 + 1)))) rfl rfl TyShI.sz3 rfl e8 ?_)
    intro c2 g0
    replace H := H c2 g0
    refine ln (bn ?_)
    exact H
 ·rintro _ h9 ⟨st, b3, f4, d7, H⟩
  refine ⟨st, b3, f4, d7, ?_⟩
  intro b5 g2 e2
  replace H := H b5 g2 e2
  obtain ⟨rfl, H⟩ := H
  refine jumpQ_n ?_
  refine bn (qn (xs (xr ?_)))
  obtain ⟨c4, f2, H⟩ := H
  refine lv rfl rfl (vl TyShI.agg3 rfl f2) (lv rfl rfl (va rfl) ?_)
  refine ln (qn (xt ?_))
  refine scopeQ_ret ?_
  exact endQM_ret _ (fun h' hs => ⟨res_one Try.results19 (rv_tmp rfl), H h' hs⟩)
end Go.Proofs.Ytkecmljalcfhoaa
namespace Go.Proofs.Ytkecmljalcfhoaa
namespace Ix
open Go RH
structure Tb where
  p : Nat
  q : Nat
  B : Nat
  s : RH.Sl
  L : List Ent
def ePtr : Elt Nat := ⟨1, fun p => [ptr p 0], fun _ => rfl, fun x v hv => by simp at hv; subst hv; rfl⟩
structure Idx (W : Nat → Prop) (h : Heap) (x m : Nat) (Ts : List Tb) : Prop where
  ex : ∃ la lc, h[x]? = some (.cells #[.slice la Ts.length lc] 61 (0, 0)) ∧ Sl ePtr h la lc (Ts.map Tb.p) ∧ ∀ b, blkA la b → W b ∧ ∀ t ∈ Ts, ¬ PQ t.p t.q b
  wx : W x
  nx : ∀ t ∈ Ts, ¬ PQ t.p t.q x
  ok : ∀ t ∈ Ts, TabOK h t.p t.q t.B m t.s ∧ Rel t.B t.s t.L
  wt : ∀ t ∈ Ts, W t.p ∧ W t.q
  sep : Ts.Pairwise fun t u => ∀ b, PQ t.p t.q b → ¬ PQ u.p u.q b
  len : 1 ≤ Ts.length ∧ Ts.length ≤ 64
  lt : ∀ b, W b → b < h.size
def Has (W : Nat → Prop) (h : Heap) (x m : Nat) (Ls : List (List Ent)) : Prop := ∃ Ts, Idx W h x m Ts ∧ Ts.map Tb.L = Ls
def grown (W : Nat → Prop) (h h' : Heap) (b : Nat) : Prop := W b ∨ (h.size ≤ b ∧ b < h'.size)
def Aft (W : Nat → Prop) (h : Heap) (x m : Nat) (Ls : List (List Ent)) (h' : Heap) : Prop := Fr W h h' ∧ Has (grown W h h') h' x m Ls
section
variable {W : Nat → Prop} {h : Heap} {x m : Nat} {Ts : List Tb} {Ls : List (List Ent)}
theorem Idx.fr (I : Idx W h x m Ts) {h' : Heap} {S : Nat → Prop} (f : Fr S h h') (hn : ∀ b, W b → ¬ S b) : Idx W h' x m Ts := by
  obtain ⟨la, lc, h1, h2, h3⟩ := I.ex
  refine ⟨⟨la, lc, f.row h1 (hn _ I.wx), h2.fr f fun b hb => hn b (h3 b hb).1, h3⟩, I.wx, I.nx, fun t ht => ?_, I.wt, I.sep, I.len, fun b hb => Nat.lt_of_lt_of_le (I.lt b hb) f.size⟩
  obtain ⟨k1, k2⟩ := I.ok t ht
  exact ⟨k1.fr f (hn _ (I.wt t ht).1) (hn _ (I.wt t ht).2), k2⟩
theorem Idx.ext (I : Idx W h x m Ts) {h' : Heap} (f : Ext h h') : Idx W h' x m Ts := I.fr (f.fr (fun _ => False)) fun _ _ h => h
theorem Idx.mono (I : Idx W h x m Ts) {W' : Nat → Prop} (hw : ∀ b, W b → W' b) (hl : ∀ b, W' b → b < h.size) : Idx W' h x m Ts := by
  obtain ⟨la, lc, h1, h2, h3⟩ := I.ex
  exact ⟨⟨la, lc, h1, h2, fun b hb => ⟨hw b (h3 b hb).1, (h3 b hb).2⟩⟩, hw _ I.wx, I.nx, I.ok, fun t ht => ⟨hw _ (I.wt t ht).1, hw _ (I.wt t ht).2⟩, I.sep, I.len, hl⟩
theorem Idx.grow (I : Idx W h x m Ts) {h' : Heap} (f : Ext h h') : Idx (grown W h h') h' x m Ts :=
  (I.ext f).mono (fun _ g => .inl g) fun b g => by
    rcases g with g | g
    · exact Nat.lt_of_lt_of_le (I.lt b g) f.size
    · exact g.2
theorem Aft.ofExt (I : Idx W h x m Ts) {h' : Heap} (f : Ext h h') : Aft W h x m (Ts.map Tb.L) h' := ⟨f.fr _, Ts, I.grow f, rfl⟩
theorem Idx.set (I : Idx W h x m Ts) {h' : Heap} {i : Nat} {t : Tb} (hi : Ts[i]? = some t) (f : Fr (PQ t.p t.q) h h') {q' B' : Nat} {s' : RH.Sl} {L' : List Ent} (hq : q' = t.q ∨ h.size ≤ q') (ok : TabOK h' t.p q' B' m s') (rel : Rel B' s' L') :
    Idx (fun b => W b ∨ b = q') h' x m (Ts.set i ⟨t.p, q', B', s', L'⟩) := by
  obtain ⟨la, lc, h1, h2, h3⟩ := I.ex
  have ht := List.mem_of_getElem? hi
  obtain ⟨hil, hie⟩ := List.getElem?_eq_some_iff.1 hi
  have hwp := I.wt t ht
  -- who is not t has none of its blocks
  have hsep : ∀ j u, Ts[j]? = some u → j ≠ i → ∀ b, PQ u.p u.q b → ¬ PQ t.p t.q b := by
    intro j u hj hji b g1 g2
    obtain ⟨hjl, hje⟩ := List.getElem?_eq_some_iff.1 hj
    rcases Nat.lt_or_gt_of_ne hji with g | g
    · have := List.pairwise_iff_getElem.1 I.sep j i hjl hil g
      rw [hje, hie] at this; exact this b g1 g2
    · have := List.pairwise_iff_getElem.1 I.sep i j hil hjl g
      rw [hie, hje] at this; exact this b g2 g1
  have hold : ∀ u ∈ Ts, ∀ b, PQ u.p u.q b → b < h.size := fun u hu b g => by
    rcases g with rfl | rfl
    · exact I.lt _ (I.wt u hu).1
    · exact I.lt _ (I.wt u hu).2
  have hmem : ∀ u, u ∈ Ts.set i ⟨t.p, q', B', s', L'⟩ → u = ⟨t.p, q', B', s', L'⟩ ∨ ∃ j, Ts[j]? = some u ∧ j ≠ i := by
    intro u hu
    obtain ⟨j, hj, he⟩ := List.getElem_of_mem hu
    rw [List.getElem_set] at he
    split at he
    · exact .inl he.symm
    · rename_i hne
      exact .inr ⟨j, by rw [← he]; exact List.getElem?_eq_getElem _, fun q => hne q.symm⟩
  have hnew : ∀ b, PQ t.p q' b → PQ t.p t.q b ∨ h.size ≤ b := fun b g => by
    rcases g with rfl | rfl
    · exact .inl (.inl rfl)
    · rcases hq with g | g
      · rw [g]; exact .inl (.inr rfl)
      · exact .inr g
  have hxl := I.lt _ I.wx
  refine ⟨⟨la, lc, ?_, ?_, fun b hb => ⟨.inl (h3 b hb).1, fun u hu g => ?_⟩⟩, .inl I.wx, fun u hu g => ?_, fun u hu => ?_, fun u hu => ?_, ?_, by simpa using I.len, fun b g => ?_⟩
  · rw [List.length_set]; exact f.row h1 (I.nx t ht)
  · have e : (Ts.set i ⟨t.p, q', B', s', L'⟩).map Tb.p = Ts.map Tb.p := by
      rw [List.map_set]
      refine List.ext_getElem? fun j => ?_
      rw [List.getElem?_set]
      split
      · rename_i hij; subst hij; simp [hil, hie]
      · rfl
    rw [e]
    exact h2.fr f fun b hb => (h3 b hb).2 t ht
  · rcases hmem u hu with rfl | ⟨j, hj, _⟩
    · rcases hnew b g with g | g
      · exact (h3 b hb).2 t ht g
      · have := I.lt b (h3 b hb).1; omega
    · exact (h3 b hb).2 u (List.mem_of_getElem? hj) g
  · rcases hmem u hu with rfl | ⟨j, hj, _⟩
    · rcases hnew x g with g | g
      · exact I.nx t ht g
      · omega
    · exact I.nx u (List.mem_of_getElem? hj) g
  · rcases hmem u hu with rfl | ⟨j, hj, hji⟩
    · exact ⟨ok, rel⟩
    · have hu' := List.mem_of_getElem? hj
      obtain ⟨k1, k2⟩ := I.ok u hu'
      exact ⟨k1.fr f (fun g => hsep j u hj hji _ (.inl rfl) g) (fun g => hsep j u hj hji _ (.inr rfl) g), k2⟩
  · rcases hmem u hu with rfl | ⟨j, hj, hji⟩
    · exact ⟨.inl hwp.1, .inr rfl⟩
    · exact ⟨.inl (I.wt u (List.mem_of_getElem? hj)).1, .inl (I.wt u (List.mem_of_getElem? hj)).2⟩
  · refine List.pairwise_iff_getElem.2 fun j k hj hk hjk b g1 g2 => ?_
    simp only [List.length_set] at hj hk
    rw [List.getElem_set] at g1 g2
    split at g1 <;> split at g2
    · omega
    · rename_i e1 e2
      subst e1
      rcases hnew b g1 with g | g
      · exact hsep k _ (List.getElem?_eq_getElem hk) (by omega) b g2 g
      · have := hold _ (List.getElem_mem hk) b g2; omega
    · rename_i e1 e2
      subst e2
      rcases hnew b g2 with g | g
      · exact hsep j _ (List.getElem?_eq_getElem hj) (by omega) b g1 g
      · have := hold _ (List.getElem_mem hj) b g1; omega
    · have := List.pairwise_iff_getElem.1 I.sep j k hj hk hjk
      exact this b g1 g2
  · rcases g with g | g
    · exact Nat.lt_of_lt_of_le (I.lt b g) f.size
    · subst g; exact ok.lt.2
theorem Idx.c0 (I : Idx W h x m Ts) : ∃ la lc, hcell h x 0 = some (.slice la Ts.length lc) ∧ ∀ i t, Ts[i]? = some t → ∃ b o, la = some ⟨b, o, none⟩ ∧ hcell h b (o + i * 1) = some (.pointer (some ⟨t.p, 0, none⟩)) := by
  obtain ⟨la, lc, h1, h2, h3⟩ := I.ex
  refine ⟨la, lc, by rw [hcell_row h1]; rfl, fun i t hi => ?_⟩
  obtain ⟨b, o, e, d⟩ := h2.at (i := i) (x := t.p) (by rw [List.getElem?_map, hi]; rfl)
  exact ⟨b, o, e, d.1⟩
theorem stripes_i (I : Idx W h x m Ts) : HC Try.prog 17 #[.pointer (some ⟨x, 0, none⟩)] h fun v h' => v = .int .i64 (Ts.length : Int) ∧ h' = h := by
  obtain ⟨la, lc, c0, _⟩ := I.c0
  exact f17_sh _ _ _ ⟨fun g => by simp at g, fun _ => ⟨x, 0, rfl, _, _, _, c0, rfl, rfl⟩⟩
theorem stripe_i (I : Idx W h x m Ts) (v : Nat) : HC Try.prog 24 #[.pointer (some ⟨x, 0, none⟩), .int .u64 v] h fun r h' => r = .int .i64 ((v % Ts.length : Nat) : Int) ∧ h' = h := by
  obtain ⟨la, lc, c0, _⟩ := I.c0
  have hl := I.len
  have hm := Nat.mod_lt v (show 0 < Ts.length by omega)
  have e : IntKind.u64.wrap (Ts.length : Int) = (Ts.length : Int) := wu64 (by omega) (by omega)
  refine f24_sh _ _ _ _ ⟨_, stripes_i I, fun g => ?_, fun _ => ⟨x, 0, rfl, _, _, _, c0, ?_, ?_, rfl⟩⟩
  · have := eq_of_beq g; omega
  · rw [e]; omega
  · rw [e, tmod_nat, w64 (by omega) (by omega)]
theorem at_i (I : Idx W h x m Ts) (v : Nat) {t : Tb} (ht : Ts[v % Ts.length]? = some t) : HC Try.prog 27 #[.pointer (some ⟨x, 0, none⟩), .int .u64 v] h fun r h' => r = .pointer (some ⟨t.p, 0, none⟩) ∧ h' = h := by
  obtain ⟨la, lc, c0, cs⟩ := I.c0
  have hl := I.len
  have hm := Nat.mod_lt v (show 0 < Ts.length by omega)
  obtain ⟨b, o, e, d⟩ := cs _ _ ht
  refine f27_sh _ _ _ _ ⟨_, stripes_i I, fun g => ?_, fun _ => ⟨x, 0, rfl, _, _, _, c0, _, fun h1 x1 => stripe_i (I.ext x1) v, b, o, e, by omega, by omega, _, d, rfl, rfl⟩⟩
  have := eq_of_beq g; omega
theorem Idx.get (I : Idx W h x m Ts) (v : Nat) : ∃ t, Ts[v % Ts.length]? = some t ∧ (Ts.map Tb.L)[v % Ts.length]? = some t.L := by
  have hl := I.len
  have hm := Nat.mod_lt v (show 0 < Ts.length by omega)
  exact ⟨Ts[v % Ts.length], List.getElem?_eq_getElem hm, by rw [List.getElem?_map, List.getElem?_eq_getElem hm]; rfl⟩
def str (Ls : List (List Ent)) (v : Nat) : List Ent := Ls.getD (v % Ls.length) []
theorem str_eq {t : Tb} {v : Nat} (ht : Ts[v % Ts.length]? = some t) : str (Ts.map Tb.L) v = t.L := by
  unfold str
  rw [List.length_map, List.getD_eq_getElem?_getD, List.getElem?_map, ht]; rfl
theorem get_i (I : Idx W h x m Ts) {v : Nat} (hv : v < 18446744073709551616) : HC Try.prog 11 #[.pointer (some ⟨x, 0, none⟩), .int .u64 v] h fun r h' => r = v2 (mGet (str (Ts.map Tb.L) v) v) ∧ Ext h h' := by
  obtain ⟨t, ht, _⟩ := I.get v
  rw [str_eq ht]
  refine f11_sh _ _ _ _ fun pb h1 lo1 lt1 x1 => ⟨_, at_i (I.ext x1) v ht, ?_⟩
  obtain ⟨ok, rel⟩ := (I.ext x1).ok t (List.mem_of_getElem? ht)
  refine (get_c ok hv).mono ?_
  rintro r h2 ⟨x2, hr⟩
  have e : r = v2 (mGet t.L v) := by
    unfold mGet
    rcases hr with ⟨y, hy, hyh, rfl⟩ | ⟨hno, rfl⟩
    · rw [(look_some rel.srt).2 ⟨(rel.mem y).1 hy, hyh⟩]; rfl
    · rw [look_none.2 fun y hy => hno y ((rel.mem y).2 hy)]; rfl
  subst e
  exact ⟨x2.kp _, _, _, _, _, _, rfl, fun h3 f3 => ⟨rfl, ext_of_fr f3 (x1.trans x2) lo1⟩⟩
end
end Ix
end Go.Proofs.Ytkecmljalcfhoaa
namespace Go.Proofs.Ytkecmljalcfhoaa
namespace Ix
open Go RH
section
variable {W : Nat → Prop} {h : Heap} {x m : Nat} {Ts : List Tb} {Ls : List (List Ent)}
theorem map_put {i : Nat} {u : Tb} : (Ts.set i u).map Tb.L = (Ts.map Tb.L).set i u.L := List.map_set
theorem map_same {i : Nat} {t : Tb} (ht : Ts[i]? = some t) : (Ts.map Tb.L).set i t.L = Ts.map Tb.L := by
  refine List.ext_getElem? fun j => ?_
  rw [List.getElem?_set]
  split
  · rename_i hij
    subst hij
    obtain ⟨h1, h2⟩ := List.getElem?_eq_some_iff.1 ht
    rw [if_pos (by simpa using h1), List.getElem?_map, ht]; rfl
  · rfl
theorem Aft.mk' (I : Idx W h x m Ts) {h1 h2 h3 : Heap} {i : Nat} {t : Tb} (x1 : Ext h h1) (hi : Ts[i]? = some t) (f : Fr (PQ t.p t.q) h1 h2) {q' B' : Nat} {s' : RH.Sl} {L' : List Ent} (hq : q' = t.q ∨ h1.size ≤ q') (ok : TabOK h2 t.p q' B' m s') (rel : Rel B' s' L')
    {S : Nat → Prop} (f3 : Fr S h2 h3) (hS : ∀ b, S b → h.size ≤ b ∧ b < h1.size) : Aft W h x m ((Ts.map Tb.L).set i L') h3 := by
  have I2 := (I.ext x1).set hi f hq ok rel
  have ht := I.wt t (List.mem_of_getElem? hi)
  have hqs : q' = t.q ∨ h1.size ≤ q' := hq
  have hql := ok.lt.2
  have s1 := x1.size
  have s2 := f.size
  have s3 := f3.size
  have I3 := I2.fr f3 fun b g hs => by
    have := hS b hs
    rcases g with g | g
    · have := I.lt b g; omega
    · subst g
      rcases hqs with e | e
      · have := I.lt _ ht.2; omega
      · omega
  refine ⟨((x1.fr _).trans f fun b _ g => ?_).trans f3 fun b hb g => by have := hS b g; omega, _, I3.mono (fun b g => ?_) (fun b g => ?_), map_put⟩
  · rcases g with rfl | rfl
    · exact ht.1
    · exact ht.2
  · rcases g with g | g
    · exact .inl g
    · subst g
      rcases hqs with e | e
      · exact .inl (by rw [e]; exact ht.2)
      · exact .inr ⟨by omega, by omega⟩
  · rcases g with g | g
    · have := I.lt b g; omega
    · exact g.2
theorem mPut_eq {L : List Ent} {e : Ent} (ho : ∀ o, look L e.h = some o → ¬ e.v < o.v) : mPut m L e = tPut m L e := by
  unfold mPut tPut
  split
  · rfl
  · cases hl : look L e.h with
    | none => rfl
    | some o => simp only; rw [if_neg (ho o hl)]
set_option maxHeartbeats 4000000 in
theorem put_i (I : Idx W h x m Ts) {e : Ent} (hw : e.wf) : HC Try.prog 29 #[.pointer (some ⟨x, 0, none⟩), .agg #[.int .u64 e.h, .int .u64 e.a, .int .u64 e.v, .int .u8 e.k]] h fun r h' =>
    r = v3 (mPut m (str (Ts.map Tb.L) e.h) e).1 ∧ Aft W h x m ((Ts.map Tb.L).set (e.h % Ts.length) (mPut m (str (Ts.map Tb.L) e.h) e).2) h' := by
  obtain ⟨t, ht, _⟩ := I.get e.h
  rw [str_eq ht]
  have stay : ∀ {h'}, Ext h h' → Aft W h x m ((Ts.map Tb.L).set (e.h % Ts.length) t.L) h' := fun x' => by rw [map_same ht]; exact Aft.ofExt I x'
  refine f29_sh _ _ _ _ _ _ _ fun eb old h2 lo1 lt1 lo2 lt2 x2 => ⟨_, at_i (I.ext x2) e.h ht, fun g => by simp at g, fun _ => ⟨fun g => ?_, fun g => ?_⟩⟩
  · have ha : e.a = 0 := by have := eq_of_beq g; omega
    intro h4 f4
    unfold mPut
    rw [if_pos ha]
    exact ⟨rfl, stay (ext_of_fr f4 x2 lo2)⟩
  have ha : e.a ≠ 0 := by have := beq_eq_false_iff_ne.1 g; omega
  obtain ⟨ok2, rel⟩ := (I.ext x2).ok t (List.mem_of_getElem? ht)
  refine (get_c ok2 hw.1).mono ?_
  rintro r h5 ⟨x5, hr⟩
  have e5 : r = v2 (mGet t.L e.h) := by
    unfold mGet
    rcases hr with ⟨y, hy, hyh, rfl⟩ | ⟨hno, rfl⟩
    · rw [(look_some rel.srt).2 ⟨(rel.mem y).1 hy, hyh⟩]; rfl
    · rw [look_none.2 fun y hy => hno y ((rel.mem y).2 hy)]; rfl
  subst e5
  refine ⟨x5.kp _, _, _, _, _, _, rfl, fun g2 h7 x7 h8 f8 => ?_, fun g2 h7 x7 => ?_⟩
  · obtain ⟨y, hl, hv⟩ : ∃ y, look t.L e.h = some y ∧ e.v < y.v := by
      unfold mGet at g2
      cases hl : look t.L e.h with
      | none => rw [hl] at g2; simp at g2
      | some y => rw [hl] at g2; simp at g2; exact ⟨y, rfl, by omega⟩
    have e1 : mPut m t.L e = ((z0, false, 120), t.L) := by
      unfold mPut
      rw [if_neg ha, hl]; simp only; rw [if_pos hv]
    rw [e1]
    exact ⟨rfl, stay (ext_of_fr f8 (x2.trans (x5.trans x7)) lo2)⟩
  · have e1 : mPut m t.L e = tPut m t.L e := mPut_eq fun o hl hv => by
      unfold mGet at g2
      rw [hl] at g2; simp at g2; omega
    rw [e1]
    have x27 := x2.trans (x5.trans x7)
    obtain ⟨ok7, _⟩ := (I.ext x27).ok t (List.mem_of_getElem? ht)
    have hb := ok7.bnd
    refine (put_c ok7 hw).mono ?_
    rintro v h9 ⟨f9, q', B', s', hq, ok9, pr⟩
    obtain ⟨e9, rel9⟩ := put_plain rel ok7.g hb.1 hb.2.1 ok7.room pr
    subst e9
    have hs5 := x5.size
    have hs7 := x7.size
    refine ⟨f9.kp (by
      intro b hb' hp
      simp only [List.mem_cons, List.not_mem_nil, or_false] at hb'
      subst hb'
      have := I.lt _ (I.wt t (List.mem_of_getElem? ht)).1
      have := I.lt _ (I.wt t (List.mem_of_getElem? ht)).2
      rcases hp with g | g <;> omega), _, _, _, _, _, _, rfl, fun h10 f10 => ⟨rfl, Aft.mk' I x27 ht f9 hq ok9 rel9 f10 fun b hb' => ⟨by omega, by omega⟩⟩⟩
theorem remove_i (I : Idx W h x m Ts) {v : Nat} (hv : v < 18446744073709551616) : HC Try.prog 30 #[.pointer (some ⟨x, 0, none⟩), .int .u64 v] h fun r h' =>
    r = v2 (mDel (str (Ts.map Tb.L) v) v).1 ∧ Aft W h x m ((Ts.map Tb.L).set (v % Ts.length) (mDel (str (Ts.map Tb.L) v) v).2) h' := by
  obtain ⟨t, ht, _⟩ := I.get v
  rw [str_eq ht]
  refine f30_sh _ _ _ _ fun pb h1 lo1 lt1 x1 => ⟨_, at_i (I.ext x1) v ht, ?_⟩
  obtain ⟨ok, rel⟩ := (I.ext x1).ok t (List.mem_of_getElem? ht)
  have h1' := I.lt _ (I.wt t (List.mem_of_getElem? ht)).1
  have h2' := I.lt _ (I.wt t (List.mem_of_getElem? ht)).2
  refine (remove_c ok hv).mono ?_
  rintro r h2 ⟨f2, s', ok2, rr⟩
  obtain ⟨e2, rel2⟩ := rem_plain rel rr
  subst e2
  refine ⟨f2.kp (by
    intro b hb' hp
    simp only [List.mem_cons, List.not_mem_nil, or_false] at hb'
    subst hb'
    rcases hp with g | g <;> omega), _, _, _, _, _, rfl, fun h3 f3 => ⟨rfl, Aft.mk' I x1 ht f2 (.inl rfl) ok2 rel2 f3 fun b hb' => ⟨by omega, by omega⟩⟩⟩
theorem hit_i (I : Idx W h x m Ts) {v : Nat} (hv : v < 18446744073709551616) : HC Try.prog 33 #[.pointer (some ⟨x, 0, none⟩), .int .u64 v] h fun r h' =>
    r = .bool (mHit (str (Ts.map Tb.L) v) v).1 ∧ Aft W h x m ((Ts.map Tb.L).set (v % Ts.length) (mHit (str (Ts.map Tb.L) v) v).2) h' := by
  obtain ⟨t, ht, _⟩ := I.get v
  rw [str_eq ht]
  obtain ⟨ok, rel⟩ := I.ok t (List.mem_of_getElem? ht)
  refine f33_sh _ _ _ _ ⟨_, at_i I v ht, (hit_c ok hv).mono ?_⟩
  rintro r h2 ⟨f2, hr⟩
  have f2' : Fr (PQ t.p t.q) h h2 := f2.mono fun _ _ g => .inr g
  unfold mHit
  rcases hr with ⟨y, s', hy, hyh, rfl, ok2, hm⟩ | ⟨hno, rfl, ok2⟩
  · rw [(look_some rel.srt).2 ⟨(rel.mem y).1 hy, hyh⟩]
    refine ⟨true, rfl, rfl, Aft.mk' I (Ext.refl _) ht f2' (.inl rfl) ok2 (rel_same (putS_srt rel.srt (up y)) fun z => ?_) (Fr.refl (fun _ => False) _) fun b g => g.elim⟩
    rw [hm z, putS_mem, rel.mem z]
    constructor
    · rintro (⟨h1, h2⟩ | h1)
      · exact .inl ⟨h1, fun q => h2 (rel.srt.eq h1 ((rel.mem y).1 hy) q)⟩
      · exact .inr h1
    · rintro (⟨h1, h2⟩ | h1)
      · exact .inl ⟨h1, fun q => h2 (by rw [q]; rfl)⟩
      · exact .inr h1
  · rw [look_none.2 fun y hy => hno y ((rel.mem y).2 hy)]
    exact ⟨false, rfl, rfl, Aft.mk' I (Ext.refl _) ht f2' (.inl rfl) ok2 rel (Fr.refl (fun _ => False) _) fun b g => g.elim⟩
theorem Aft.pre (_I : Idx W h x m Ts) {h1 h2 : Heap} (x1 : Ext h h1) {Ls' : List (List Ent)} (a : Aft W h1 x m Ls' h2) : Aft W h x m Ls' h2 := by
  obtain ⟨f, Ts', I', e⟩ := a
  have s1 := x1.size
  refine ⟨(x1.fr _).trans f fun _ _ g => g, Ts', I'.mono (fun b g => ?_) (fun b g => ?_), e⟩
  · rcases g with g | g
    · exact .inl g
    · exact .inr ⟨by omega, g.2⟩
  · rcases g with g | g
    · exact I'.lt b (.inl g)
    · exact g.2
theorem removeIf_i (I : Idx W h x m Ts) {v at_ : Nat} (hv : v < 18446744073709551616) : HC Try.prog 31 #[.pointer (some ⟨x, 0, none⟩), .int .u64 v, .int .u64 at_] h fun r h' =>
    r = .bool (mDelIf (str (Ts.map Tb.L) v) v at_).1 ∧ Aft W h x m ((Ts.map Tb.L).set (v % Ts.length) (mDelIf (str (Ts.map Tb.L) v) v at_).2) h' := by
  obtain ⟨t, ht, _⟩ := I.get v
  refine f31_sh _ _ _ _ _ ((get_i I hv).mono ?_)
  rintro _ h1 ⟨rfl, x1⟩
  refine ⟨_, _, _, _, _, rfl, fun g h3 x3 => ?_, fun g h3 x3 => (remove_i (I.ext (x1.trans x3)) hv).mono ?_⟩
  · rw [str_eq ht] at g ⊢
    have e : mDelIf t.L v at_ = (false, t.L) := by
      unfold mDelIf mGet at *
      cases hl : look t.L v with
      | none => rfl
      | some y => rw [hl] at g; simp at g; simp only; rw [if_neg (by omega)]
    rw [e]
    exact ⟨rfl, by rw [map_same ht]; exact Aft.ofExt I (x1.trans x3)⟩
  · rintro _ h4 ⟨rfl, a4⟩
    rw [str_eq ht] at *
    obtain ⟨y, hl, hy⟩ : ∃ y, look t.L v = some y ∧ y.a = at_ := by
      unfold mGet at g
      cases hl : look t.L v with
      | none => rw [hl] at g; simp at g
      | some y => rw [hl] at g; simp at g; exact ⟨y, rfl, by omega⟩
    have e : mDelIf t.L v at_ = (true, delS t.L v) := by unfold mDelIf; rw [hl]; simp only; rw [if_pos hy]
    have e' : mDel t.L v = ((y, true), delS t.L v) := by unfold mDel; rw [hl]
    rw [e'] at a4 ⊢
    rw [e]
    exact ⟨_, _, _, _, _, rfl, rfl, Aft.pre I (x1.trans x3) a4⟩
end
end Ix
end Go.Proofs.Ytkecmljalcfhoaa
namespace Go.Proofs.Ytkecmljalcfhoaa
open Go
set_option maxRecDepth 100000
set_option maxHeartbeats 4000000
theorem f64_shn  (h : Heap) (R : Value → Heap → Prop)
    (H : R (.bool false) h) :
    HC Try.prog 64 #[(.pointer none)] h R := by
  refine hc_of (args := [(.pointer none)]) Try.func64 rfl Try.ntmps64 (Nat.le_of_ble_eq_true rfl) ?_
  refine hx_seq ?_
  refine hx_region ?_
  refine hl_val rfl rfl (v := (.bool false)) (hv_assign rfl) ?_
  refine hl_nil ?_
  refine seqQ_n ?_
  refine hx_seq ?_
  refine hx_region ?_
  refine hl_val rfl rfl (v := (.pointer none)) (hv_move rfl) ?_
  refine hl_val rfl rfl (v := (.bool false)) (hv_ptrNil Ty.up70 rfl rfl) ?_
  refine hl_val rfl rfl (v := (.bool false)) (hv_move rfl) ?_
  refine hl_no (wanted_n rfl rfl (c := false) rfl rfl) rfl ?_
  refine hl_no (wanted_n rfl rfl (c := false) rfl rfl) rfl ?_
  refine hl_no (wanted_n rfl rfl (c := false) rfl rfl) rfl ?_
  refine hl_no (wanted_n rfl rfl (c := false) rfl rfl) rfl ?_
  refine hl_no (wanted_n rfl rfl (c := false) rfl rfl) rfl ?_
  refine hl_no (wanted_n rfl rfl (c := false) rfl rfl) rfl ?_
  refine hl_val rfl rfl (v := (.bool false)) (hv_pick (t := false) rfl rfl) ?_
  refine hl_val rfl rfl (v := (.bool false)) (hv_assign rfl) ?_
  refine hl_nil ?_
  refine seqQ_n ?_
  refine hx_ret ?_
  exact endQ_ret _ (res_one Try.results64 (rv_tmp rfl)) H
theorem f48_shn  (h : Heap) (R : Value → Heap → Prop)
    (H : (∃ r : Bool, HC Try.prog 64 #[(.pointer none)] h (fun vv h' => vv = (.bool r) ∧ h' = h) ∧ (((!r) = true → R (.int .i64 0) h) ∧ ((!r) = false → False)))) :
    HC Try.prog 48 #[(.pointer none)] h R := by
  refine hc_of (args := [(.pointer none)]) Try.func48 rfl Try.ntmps48 (Nat.le_of_ble_eq_true rfl) ?_
  refine hx_seq ?_
  refine hx_region ?_
  refine hl_val rfl rfl (v := (.int .i64 0)) (hv_assign rfl) ?_
  refine hl_nil ?_
  refine seqQ_n ?_
  refine hx_seq ?_
  refine hx_seq ?_
  refine hx_region ?_
  refine hl_val rfl rfl (v := (.pointer none)) (hv_move rfl) ?_
  obtain ⟨r, hr1, H⟩ := H
  refine hl_val rfl rfl (v := (.bool r)) (hv_call Ty.cb64 (vs := [(.pointer none)]) rfl hr1) ?_
  refine hl_val rfl rfl (v := (.bool (!r))) (hv_not (b := r) rfl) ?_
  refine hl_nil ?_
  refine seqQ_n ?_
  refine hx_cond (b := !r) rfl (fun hb2 => ?_) (fun hb2 => ?_)
  · replace H := H.1 hb2
    refine hx_seq ?_
    refine hx_region ?_
    refine hl_val rfl rfl (v := (.int .i64 0)) (hv_assign rfl) ?_
    refine hl_nil ?_
    refine seqQ_n ?_
    refine hx_ret ?_
    refine seqQ_ret ?_
    exact endQ_ret _ (res_one Try.results48 (rv_tmp rfl)) H
  · replace H := H.2 hb2
    refine hx_skip ?_
    refine seqQ_n ?_
    refine hx_seq ?_
    refine hx_region ?_
    refine hl_val rfl rfl (v := (.pointer none)) (hv_move rfl) ?_
    exact H.elim
theorem f57_shn  (h : Heap) (R : Value → Heap → Prop)
    (H : (∃ r : Bool, HC Try.prog 64 #[(.pointer none)] h (fun vv h' => vv = (.bool r) ∧ h' = h) ∧ (((!r) = true → R (.slice none 0 0) h) ∧ ((!r) = false → False)))) :
    HC Try.prog 57 #[(.pointer none)] h R := by
  refine hc_of (args := [(.pointer none)]) Try.func57 rfl Try.ntmps57 (Nat.le_of_ble_eq_true rfl) ?_
  refine hx_seq ?_
  refine hx_region ?_
  refine hl_val rfl rfl (v := (.slice none 0 0)) (hv_assign rfl) ?_
  refine hl_nil ?_
  refine seqQ_n ?_
  refine hx_seq ?_
  refine hx_seq ?_
  refine hx_region ?_
  refine hl_val rfl rfl (v := (.pointer none)) (hv_move rfl) ?_
  obtain ⟨r, hr1, H⟩ := H
  refine hl_val rfl rfl (v := (.bool r)) (hv_call Ty.cb64 (vs := [(.pointer none)]) rfl hr1) ?_
  refine hl_val rfl rfl (v := (.bool (!r))) (hv_not (b := r) rfl) ?_
  refine hl_nil ?_
  refine seqQ_n ?_
  refine hx_cond (b := !r) rfl (fun hb2 => ?_) (fun hb2 => ?_)
  · replace H := H.1 hb2
    refine hx_seq ?_
    refine hx_region ?_
    refine hl_val rfl rfl (v := (.slice none 0 0)) (hv_assign rfl) ?_
    refine hl_nil ?_
    refine seqQ_n ?_
    refine hx_ret ?_
    refine seqQ_ret ?_
    exact endQ_ret _ (res_one Try.results57 (rv_tmp rfl)) H
  · replace H := H.2 hb2
    refine hx_skip ?_
    refine seqQ_n ?_
    refine hx_seq ?_
    refine hx_region ?_
    refine hl_val rfl rfl (v := (.pointer none)) (hv_move rfl) ?_
    exact H.elim
theorem f45_shn  (h : Heap) (R : Value → Heap → Prop)
    (H : (∀ t h1, t = Array.size h → h1 = Array.push h (.cells #[(.pointer none)] 70) → R (.func (.func 55) #[] #[(ptr t 0)]) h1)) :
    HC Try.prog 45 #[(.pointer none)] h R := by
  refine hc_of (args := [(.pointer none)]) Try.func45 rfl Try.ntmps45 (Nat.le_of_ble_eq_true rfl) ?_
  refine hx_seq ?_
  refine hx_region ?_
  refine hl_step rfl rfl (hn_box (v := (.pointer none)) rfl ?_)
  intro t h1 eb1 eh2
  replace H := H t h1 eb1 eh2
  refine hl_val rfl rfl (v := .nilFunc) (hv_assign rfl) ?_
  refine hl_nil ?_
  refine seqQ_n ?_
  refine hx_seq ?_
  refine hx_region ?_
  refine hl_val rfl rfl (v := (.func (.func 55) #[] #[(ptr t 0)])) (hv_makeFunc (fv := []) (cv := [(ptr t 0)]) rfl rfl) ?_
  refine hl_val rfl rfl (v := (.func (.func 55) #[] #[(ptr t 0)])) (hv_assign rfl) ?_
  refine hl_nil ?_
  refine seqQ_n ?_
  refine hx_ret ?_
  exact endQ_ret _ (res_one Try.results45 (rv_tmp rfl)) H
end Go.Proofs.Ytkecmljalcfhoaa
namespace Go.Proofs.Ytkecmljalcfhoaa
open Go RH
theorem made_no (h : Heap) : HC Try.prog 64 #[.pointer none] h fun v h' => v = .bool false ∧ h' = h := f64_shn _ _ ⟨rfl, rfl⟩
theorem layout_no (h : Heap) : HC Try.prog 57 #[.pointer none] h fun v h' => v = .slice none 0 0 ∧ h' = h :=
  f57_shn _ _ ⟨false, made_no h, fun _ => ⟨rfl, rfl⟩, fun h => by simp at h⟩
theorem len_no (h : Heap) : HC Try.prog 48 #[.pointer none] h fun v h' => v = .int .i64 0 ∧ h' = h :=
  f48_shn _ _ ⟨false, made_no h, fun _ => ⟨rfl, rfl⟩, fun h => by simp at h⟩
end Go.Proofs.Ytkecmljalcfhoaa
namespace Go.Proofs.Ytkecmljalcfhoaa
open Go RH
def TOpt (h : Heap) (a : Option Addr) (L : List Ent) : Prop := (a = none ∧ L = []) ∨ ∃ p q B m s, a = some ⟨p, 0, none⟩ ∧ TabOK h p q B m s ∧ Rel B s L
theorem TOpt.ext {h h' : Heap} {a : Option Addr} {L : List Ent} (t : TOpt h a L) (x : Ext h h') : TOpt h' a L := by
  rcases t with ⟨h1, h2⟩ | ⟨p, q, B, m, s, h1, h2, h3⟩
  · exact .inl ⟨h1, h2⟩
  · exact .inr ⟨p, q, B, m, s, h1, h2.ext x, h3⟩
theorem TOpt.len {h : Heap} {a : Option Addr} {L : List Ent} (t : TOpt h a L) : L.length ≤ 65536 := by
  rcases t with ⟨h1, h2⟩ | ⟨p, q, B, m, s, h1, h2, h3⟩
  · rw [h2]; simp
  · have := h3.len h2.g; have := h2.room; have := h2.le; omega
theorem TOpt.srt {h : Heap} {a : Option Addr} {L : List Ent} (t : TOpt h a L) : Srt L := by
  rcases t with ⟨h1, h2⟩ | ⟨p, q, B, m, s, h1, h2, h3⟩
  · rw [h2]; exact List.Pairwise.nil
  · exact h3.srt
section
variable {h : Heap} {L : List Ent} {a : Option Addr}
theorem seq_c (t : TOpt h a L) : HC Try.prog 45 #[.pointer a] h fun v h' => Ext h h' ∧ ∃ tb, v = .func (.func 55) #[] #[ptr tb 0] ∧ h.size ≤ tb ∧ h'[tb]? = some (.cells #[.pointer a] 70 (0, 0)) := by
  rcases t with ⟨rfl, h2⟩ | ⟨p, q, B, m, s, rfl, h2, h3⟩
  · exact f45_shn _ _ fun tb h1 et eh => ⟨by rw [eh]; exact Ext.push _ _, tb, rfl, by omega, by rw [eh]; exact push_new et⟩
  · exact f45_sh _ _ _ _ fun tb h1 et eh => ⟨by rw [eh]; exact Ext.push _ _, tb, rfl, by omega, by rw [eh]; exact push_new et⟩
theorem cbAll : CallB Try.prog 55 := fun _ _ => Try.call55 _ _
theorem go_over {cb : Nat} {y : Value} {R : Value → Heap → Prop} (t : TOpt h a L) (hc : hcell h cb 0 = some (.pointer a))
    (hs : ∀ h3, Ext h h3 → ∃ J : Nat → Heap → Prop, J 0 h3 ∧
      (∀ k (hk : k < L.length) h4, Fr (Yw h h3) h3 h4 → J k h4 → ∀ h6, Ext h4 h6 → HCV Try.prog y [.agg #[.int .u64 L[k].h, .int .u64 L[k].a, .int .u64 L[k].v, .int .u8 L[k].k]] h6 fun vv h7 => Fr (Yw h h3) h6 h7 ∧
        ∃ b : Bool, vv = .bool b ∧ (b = false → R (.tuple #[]) h7) ∧ (b = true → J (k + 1) h7)) ∧
      (∀ h4, Fr (Yw h h3) h3 h4 → J L.length h4 → R (.tuple #[]) h4)) :
    HCF Try.prog (.func (.func 55) #[] #[ptr cb 0]) [y] h R := by
  refine ⟨55, [], [ptr cb 0], rfl, cbAll, ?_⟩
  rcases t with ⟨rfl, rfl⟩ | ⟨p, q, B, m, s, rfl, h2, h3⟩
  · refine f55_sh _ _ _ _ _ ⟨_, hc, (layout_no h).mono ?_⟩
    rintro _ h1 ⟨rfl, rfl⟩
    refine ⟨_, _, _, rfl, (delf_c (M := []) (Sl.nil eEnt h1) (Own.nil _ _ h1.size _) (by simp)).mono ?_⟩
    rintro _ h2 ⟨f2, a2, c2, rfl, s2, w2, b2⟩
    refine ⟨_, _, _, rfl, (sort_c s2 w2 (by simp)).mono ?_⟩
    rintro _ h3 ⟨rfl, f3, L', hp, hsrt, s3, w3⟩
    have x3 : Ext h1 h3 := (f2.trans f3 fun b _ g => b2 b g).ext fun b _ g => blkA_none g
    obtain ⟨J, j0, jstep, jend⟩ := hs h3 x3
    refine ⟨rfl, fun v h4 => v = 0 ∧ h4 = h3, fun _ _ => 0, ⟨rfl, rfl⟩, ?_⟩
    rintro _ _ ⟨rfl, rfl⟩
    exact ⟨fun g => by simp at g, fun _ => jend _ (Fr.refl _ _) j0⟩
  · exact all_it h2 h3 hc (TOpt.len (.inr ⟨p, q, B, m, s, rfl, h2, h3⟩)) hs
end
end Go.Proofs.Ytkecmljalcfhoaa
namespace Go.Proofs.Ytkecmljalcfhoaa
namespace Ix
open Go RH
section
variable {W : Nat → Prop} {h : Heap} {x m : Nat} {Ts : List Tb} {Ls : List (List Ent)}
theorem move_i (I : Idx W h x m Ts) {v fr to : Nat} (hv : v < 18446744073709551616) (hto : to < 18446744073709551616) : HC Try.prog 32 #[.pointer (some ⟨x, 0, none⟩), .int .u64 v, .int .u64 fr, .int .u64 to] h fun r h' =>
    r = .bool (mMove (str (Ts.map Tb.L) v) v fr to).1 ∧ Aft W h x m ((Ts.map Tb.L).set (v % Ts.length) (mMove (str (Ts.map Tb.L) v) v fr to).2) h' := by
  obtain ⟨t, ht, _⟩ := I.get v
  refine f32_sh _ _ _ _ _ _ ((get_i I hv).mono ?_)
  rintro _ h1 ⟨rfl, x1⟩
  rw [str_eq ht]
  refine ⟨_, _, _, _, _, rfl, fun g h3 x3 => ?_, fun g eb h4 lo4 lt4 x4 => ⟨_, fun h6 x6 => at_i (I.ext (x1.trans (x4.trans x6))) v ht, ?_⟩⟩
  · have e : mMove t.L v fr to = (false, t.L) := by
      unfold mMove mGet at *
      cases hl : look t.L v with
      | none => rfl
      | some y =>
        rw [hl] at g
        simp only [Bool.not_true, Bool.false_or, Bool.or_eq_true, bne_iff_ne, ne_eq, beq_iff_eq] at g
        simp only; rw [if_neg (by omega)]
    rw [e]
    exact ⟨rfl, by rw [map_same ht]; exact Aft.ofExt I (x1.trans x3)⟩
  · have x14 := x1.trans x4
    obtain ⟨ok, rel⟩ := (I.ext x14).ok t (List.mem_of_getElem? ht)
    obtain ⟨y, hl, hy, hto0⟩ : ∃ y, look t.L v = some y ∧ y.a = fr ∧ to ≠ 0 := by
      unfold mGet at g
      cases hl : look t.L v with
      | none => rw [hl] at g; simp at g
      | some y =>
        rw [hl] at g
        simp only [Bool.not_true, Bool.false_or, Bool.or_eq_false_iff, bne_eq_false_iff_eq, beq_eq_false_iff_ne, ne_eq] at g
        exact ⟨y, rfl, by omega, by omega⟩
    have eg : mGet t.L v = (y, true) := by unfold mGet; rw [hl]
    rw [eg]
    have hyL := (look_some rel.srt).1 hl
    obtain ⟨i0, hi0, hie, hia⟩ := (rel.mem y).2 hyL.1
    have hwy : y.wf := by rw [← hie]; exact ok.g.wf i0 hi0
    have hb := ok.bnd
    refine (put_c (e := ⟨y.h, to, y.v, y.k⟩) ok ⟨hwy.1, hto, hwy.2.2.1, hwy.2.2.2⟩).mono ?_
    rintro r h5 ⟨f5, q', B', s', hq, ok5, pr⟩
    obtain ⟨e5, rel5⟩ := put_plain rel ok.g hb.1 hb.2.1 ok.room pr
    have et : tPut m t.L ⟨y.h, to, y.v, y.k⟩ = ((y, true, 0), putS t.L ⟨y.h, to, y.v, y.k⟩) := by
      unfold tPut
      rw [if_neg hto0]
      have : look t.L y.h = some y := by rw [hyL.2]; exact hl
      simp only [this]
    rw [et] at e5 rel5
    have em : mMove t.L v fr to = (true, putS t.L ⟨y.h, to, y.v, y.k⟩) := by unfold mMove; rw [hl]; simp only; rw [if_pos ⟨hy, hto0⟩]
    rw [em]
    subst e5
    exact ⟨_, _, _, _, _, _, rfl, rfl, Aft.mk' I x14 ht f5 hq ok5 rel5 (Fr.refl (fun _ => False) _) fun b g => g.elim⟩
def ent (Ls : List (List Ent)) (n : Int) : List Ent := if 0 ≤ n then Ls.getD n.toNat [] else []
theorem ent_out {n : Int} (hn : n < 0 ∨ (Ls.length : Int) ≤ n) : ent Ls n = [] := by
  unfold ent
  split
  · rw [List.getD_eq_getElem?_getD, List.getElem?_eq_none (by omega)]; rfl
  · rfl
theorem sidx_i (I : Idx W h x m Ts) (n : Int) : ∃ a, HC Try.prog 44 #[.pointer (some ⟨x, 0, none⟩), .int .i64 n] h (fun r h' => r = .pointer a ∧ h' = h) ∧ TOpt h a (ent (Ts.map Tb.L) n) ∧
    (0 ≤ n → n < Ts.length → ∃ t, Ts[n.toNat]? = some t ∧ a = some ⟨t.p, 0, none⟩ ∧ ent (Ts.map Tb.L) n = t.L) := by
  obtain ⟨la, lc, c0, cs⟩ := I.c0
  by_cases hin : 0 ≤ n ∧ n < Ts.length
  · have hlt : n.toNat < Ts.length := by omega
    have ht := List.getElem?_eq_getElem hlt
    obtain ⟨b, o, e, d⟩ := cs _ _ ht
    have ee : ent (Ts.map Tb.L) n = Ts[n.toNat].L := by
      unfold ent
      rw [if_pos hin.1, List.getD_eq_getElem?_getD, List.getElem?_map, ht]; rfl
    obtain ⟨ok, rel⟩ := I.ok _ (List.mem_of_getElem? ht)
    refine ⟨some ⟨Ts[n.toNat].p, 0, none⟩, f44_sh _ _ _ _ ⟨false, ⟨fun g => ?_, fun _ => ⟨_, stripes_i I, ?_⟩⟩, fun g => (by cases g), fun _ => ⟨x, 0, rfl, _, _, _, c0, b, o, e, by omega, by omega, _, d, rfl, rfl⟩⟩, .inr ⟨_, _, _, m, _, rfl, ok, by rw [ee]; exact rel⟩, fun _ _ => ⟨_, ht, rfl, ee⟩⟩
    · have := of_decide_eq_true g; omega
    · exact (decide_eq_false (by omega)).symm
  · refine ⟨none, f44_sh _ _ _ _ ⟨true, ⟨fun _ => rfl, fun g => ⟨_, stripes_i I, ?_⟩⟩, fun _ => ⟨rfl, rfl⟩, fun g => (by cases g)⟩, .inl ⟨rfl, ent_out (by rw [List.length_map]; omega)⟩, fun h1 h2 => absurd ⟨h1, h2⟩ hin⟩
    have := of_decide_eq_false g
    exact (decide_eq_true (by omega)).symm
theorem len_i (I : Idx W h x m Ts) (n : Int) : HC Try.prog 23 #[.pointer (some ⟨x, 0, none⟩), .int .i64 n] h fun r h' => r = .int .i64 ((ent (Ts.map Tb.L) n).length : Int) ∧ h' = h := by
  obtain ⟨a, hc, ht, _⟩ := sidx_i I n
  refine f23_sh _ _ _ _ ⟨a, hc, _, ?_, rfl, rfl⟩
  rcases ht with ⟨rfl, h2⟩ | ⟨p, q, B, m, s, rfl, h2, h3⟩
  · rw [h2]; exact len_no h
  · rw [← h3.len h2.g]
    exact (len_c h2).mono fun v h' ⟨e1, e2⟩ => ⟨e2, e1⟩
theorem all_i (I : Idx W h x m Ts) (n : Int) : HC Try.prog 18 #[.pointer (some ⟨x, 0, none⟩), .int .i64 n] h fun v h' => Ext h h' ∧ ∃ tb a, v = .func (.func 55) #[] #[ptr tb 0] ∧ h.size ≤ tb ∧
    h'[tb]? = some (.cells #[.pointer a] 70 (0, 0)) ∧ TOpt h a (ent (Ts.map Tb.L) n) ∧ (0 ≤ n → n < Ts.length → ∃ t, Ts[n.toNat]? = some t ∧ a = some ⟨t.p, 0, none⟩) := by
  obtain ⟨a, hc, ht, hx⟩ := sidx_i I n
  refine f18_sh _ _ _ _ ⟨a, hc, (seq_c ht).mono ?_⟩
  rintro v h1 ⟨x1, tb, rfl, lo, r1⟩
  exact ⟨_, rfl, x1, tb, a, rfl, lo, r1, ht, fun h1 h2 => let ⟨t, k1, k2, _⟩ := hx h1 h2; ⟨t, k1, k2⟩⟩
structure Bld (h0 h : Heap) (nb m : Nat) (Us : List Tb) : Prop where
  ex : ∃ a c, h[nb]? = some (.cells #[.slice a Us.length c] 61 (0, 0)) ∧ Sl ePtr h a c (Us.map Tb.p) ∧ Own ePtr.k 70 h0.size h a c ∧ ∀ b, blkA a b → b ≠ nb ∧ ∀ t ∈ Us, ¬ PQ t.p t.q b
  lo : h0.size ≤ nb
  nx : ∀ t ∈ Us, ¬ PQ t.p t.q nb
  ok : ∀ t ∈ Us, TabOK h t.p t.q t.B m t.s ∧ Rel t.B t.s t.L
  wt : ∀ t ∈ Us, h0.size ≤ t.p ∧ h0.size ≤ t.q
  sep : Us.Pairwise fun t u => ∀ b, PQ t.p t.q b → ¬ PQ u.p u.q b
  x : Ext h0 h
theorem aPtr : AppT Try.prog 59 70 ePtr.k 8 := ⟨by kernel_rfl, by kernel_rfl, by kernel_rfl, ⟨.pointer none, [.pointer none], by unfold zeroB; kernel_rfl, rfl, rfl⟩, by decide⟩
def fresh (h0 h : Heap) (b : Nat) : Prop := h0.size ≤ b ∧ b < h.size
theorem Bld.has {h0 h : Heap} {nb m : Nat} {Us : List Tb} (b : Bld h0 h nb m Us) (hl : 1 ≤ Us.length ∧ Us.length ≤ 64) : Has (fresh h0 h) h nb m (Us.map Tb.L) := by
  obtain ⟨a, c, r, s, w, hb⟩ := b.ex
  refine ⟨Us, ⟨⟨a, c, r, s, fun z hz => ⟨w.low hz, (hb z hz).2⟩⟩, ⟨b.lo, row_lt r⟩, b.nx, b.ok, fun t ht => ⟨⟨(b.wt t ht).1, (b.ok t ht).1.lt.1⟩, ⟨(b.wt t ht).2, (b.ok t ht).1.lt.2⟩⟩, b.sep, hl, fun z hz => hz.2⟩, rfl⟩
theorem Bld.push {h0 h h3 h4 : Heap} {nb m nb1 : Nat} {Us : List Tb} {a0 : Option Addr} {c0 n0 : Nat} (b : Bld h0 h nb m Us) (hc : hcell h nb 0 = some (.slice a0 n0 c0)) (x3 : Ext h h3) {t : Tb} (lp : h.size ≤ t.p) (lq : h.size ≤ t.q) (ok : TabOK h3 t.p t.q t.B m t.s) (rel : Rel t.B t.s t.L)
    (hl : Us.length < 64) (e1 : nb1 = h3.size) (e4 : h4 = h3.push (.cells #[ptr t.p 0] 70)) {K : Heap → Prop} (hk : ∀ h6, Bld h0 h6 nb m (Us ++ [t]) → K h6) :
    HAppend Try.prog 59 59 (.slice a0 n0 c0) (.slice (some ⟨nb1, 0, none⟩) 1 1) h4 fun vv h5 => ∃ ap : Option Addr, ∃ ap_n ap_c : Nat, vv = (.slice ap ap_n ap_c) ∧
      (HW h5 nb 0 ∧ ∀ h6, h6 = hset h5 nb 0 (.slice ap ap_n ap_c) → K h6) := by
  obtain ⟨a, c, r, s, w, hb⟩ := b.ex
  rw [hcell_row r] at hc
  obtain ⟨rfl, rfl, rfl⟩ : a = a0 ∧ Us.length = n0 ∧ c = c0 := by simpa using hc
  have x4 : Ext h3 h4 := by rw [e4]; exact Ext.push _ _
  have hrow : h4[nb1]? = some (.cells ([t.p].flatMap ePtr.enc).toArray 70 (0, 0)) := by rw [e4]; exact push_new e1
  have x34 := x3.trans x4
  have s3 := x3.size
  have s4 := x4.size
  have s0 := b.x.size
  refine app_at (L2 := [t.p]) aPtr (s.ext x34) (w.ext x34) (List.length_map _).symm (Sl.lit (L := [t.p]) hrow) rfl (by omega) (by show (Us.length + 1) * 8 ≤ _; omega) ?_
  intro a' c' h5 f5 s5 w5 b5
  have hnl := row_lt r
  have hna : ¬ blkA a nb := fun g => (hb nb g).1 rfl
  have r5 := f5.row (x34.row r) hna
  have s5' := f5.size
  have ha'nb : ∀ z, blkA a' z → z ≠ nb := fun z hz g => by
    rcases b5 z hz with k | k
    · exact (hb z k).1 g
    · omega
  refine ⟨_, _, _, rfl, HW_row r5 (by simp), ?_⟩
  rintro h6 e6
  have f6 : Fr (fun z => z = nb) h5 h6 := fr_hset_of e6
  have r6 : h6[nb]? = some (.cells #[.slice a' (Us.length + 1) c'] 61 (0, 0)) := by rw [e6, hset_row r5]; rfl
  clear e6
  have hold : ∀ u ∈ Us, ∀ z, PQ u.p u.q z → z < h.size := fun u hu z g => by
    have := (b.ok u hu).1.lt
    rcases g with rfl | rfl
    · exact this.1
    · exact this.2
  have ht3 := ok.lt
  refine hk h6 ⟨⟨a', c', by rw [List.length_append]; exact r6, ?_, w5.fr f6 fun z hz => ha'nb z hz, fun z hz => ⟨ha'nb z hz, fun u hu g => ?_⟩⟩, b.lo, fun u hu g => ?_, fun u hu => ?_, fun u hu => ?_, ?_, ?_⟩
  · rw [List.map_append]; exact s5.fr f6 fun z hz => ha'nb z hz
  · rcases List.mem_append.1 hu with k | k
    · rcases b5 z hz with j | j
      · exact (hb z j).2 u k g
      · have := hold u k z g; omega
    · have e := List.mem_singleton.1 k
      subst e
      rcases b5 z hz with j | j
      · have := (w.low j).2
        rcases g with rfl | rfl <;> omega
      · rcases g with rfl | rfl <;> omega
  · rcases List.mem_append.1 hu with k | k
    · exact b.nx u k g
    · have e := List.mem_singleton.1 k
      subst e
      rcases g with g | g <;> omega
  · rcases List.mem_append.1 hu with k | k
    · obtain ⟨k1, k2⟩ := b.ok u k
      have hu' := hold u k
      refine ⟨((k1.ext x34).fr f5 (fun g => (hb _ g).2 u k (.inl rfl)) (fun g => (hb _ g).2 u k (.inr rfl))).fr f6 (fun g => b.nx u k (.inl g.symm)) (fun g => b.nx u k (.inr g.symm)), k2⟩
    · have e := List.mem_singleton.1 k
      subst e
      refine ⟨((ok.ext x4).fr f5 (fun g => ?_) (fun g => ?_)).fr f6 (by omega) (by omega), rel⟩
      · have := (w.low g).2; omega
      · have := (w.low g).2; omega
  · rcases List.mem_append.1 hu with k | k
    · exact b.wt u k
    · have e := List.mem_singleton.1 k
      subst e
      exact ⟨by omega, by omega⟩
  · refine List.pairwise_append.2 ⟨b.sep, List.pairwise_singleton _ _, fun u hu w' hw' z g1 g2 => ?_⟩
    have e := List.mem_singleton.1 hw'
    subst e
    have := hold u hu z g1
    rcases g2 with rfl | rfl <;> omega
  · have k1 : Ext h0 h5 := (w.ext x34).grown (b.x.trans x34) f5
    have hlo := b.lo
    exact ((k1.fr (fun z => z = nb)).trans f6 fun _ _ g => g).ext fun i hi g => by omega
theorem Bld.start {h0 h1 : Heap} {nb m : Nat} (e1 : nb = h0.size) (e2 : h1 = h0.push (.cells #[.slice none 0 0] 61)) : Bld h0 h1 nb m [] :=
  ⟨⟨none, 0, by rw [e2]; exact push_new e1, Sl.nil _ _, Own.nil _ _ _ _, fun b hb => (blkA_none hb).elim⟩, by omega, fun t ht => (by cases ht), fun t ht => (by cases ht), fun t ht => (by cases ht), List.Pairwise.nil, by rw [e2]; exact Ext.push _ _⟩
theorem Bld.ext {h0 h h' : Heap} {nb m : Nat} {Us : List Tb} (b : Bld h0 h nb m Us) (x : Ext h h') : Bld h0 h' nb m Us := by
  obtain ⟨a, c, r, s, w, hb⟩ := b.ex
  exact ⟨⟨a, c, x.row r, s.ext x, w.ext x, hb⟩, b.lo, b.nx, fun t ht => ⟨(b.ok t ht).1.ext x, (b.ok t ht).2⟩, b.wt, b.sep, b.x.trans x⟩
def newOK (n bits most : Int) : Prop := 1 ≤ n ∧ n ≤ 64 ∧ 2 ≤ bits ∧ bits ≤ most ∧ most ≤ 16
theorem new_i (n bits most : Int) (h : Heap) : HC Try.prog 25 #[.int .i64 n, .int .i64 bits, .int .i64 most] h fun v h' => Ext h h' ∧
    ((newOK n bits most ∧ ∃ x, v = .tuple #[ptr x 0, .int .i64 0] ∧ Has (fresh h h') h' x most.toNat (List.replicate n.toNat [])) ∨
      (¬ newOK n bits most ∧ v = .tuple #[.pointer none, .int .i64 (if n < 1 ∨ 64 < n then 1 else 110)])) := by
  unfold newOK
  refine f25_sh _ _ _ _ _ ⟨fun g => ?_, fun g => ?_⟩
  · simp only [Bool.or_eq_true, decide_eq_true_eq] at g
    exact ⟨Ext.refl _, .inr ⟨by omega, by rw [if_pos (by omega)]⟩⟩
  simp only [Bool.or_eq_false_iff, decide_eq_false_iff_not] at g
  intro nb h1 e1 e2
  refine ⟨fun v h2 => ∃ (k : Nat) (Us : List Tb), v = k ∧ (k : Int) ≤ n ∧ Bld h h2 nb most.toNat Us ∧ Us.length = k ∧ Us.map Tb.L = List.replicate k [] ∧ (0 < k → newOK n bits most), fun v _ => n.toNat - v.toNat, ⟨0, [], rfl, by omega, Bld.start e1 e2, rfl, rfl, fun g => by omega⟩, ?_⟩
  rintro _ h2 ⟨k, Us, rfl, hk, bd, hl, hm, hok⟩
  refine ⟨fun hlt => ?_, fun hge => ?_⟩
  · have hkn := of_decide_eq_true hlt
    by_cases hv : bits < 2 ∨ most < bits ∨ 16 < most
    · refine (new_no hv h2).mono ?_
      rintro _ h3 ⟨rfl, rfl⟩
      refine ⟨_, _, rfl, fun _ => ⟨bd.x, .inr ⟨by omega, by rw [if_neg (by omega)]⟩⟩, fun g => by simp at g⟩
    · obtain ⟨B, rfl⟩ : ∃ B : Nat, bits = B := ⟨bits.toNat, by omega⟩
      obtain ⟨mm, rfl⟩ : ∃ mm : Nat, most = mm := ⟨most.toNat, by omega⟩
      refine (new_c (bits := B) (most := mm) (by omega) (by omega) (by omega) h2).mono ?_
      rintro _ h3 ⟨x3, p, q, rfl, lp, lq, ok⟩
      refine ⟨_, _, rfl, fun g => by simp at g, fun _ => ?_⟩
      obtain ⟨a, c, r, s, w, hb⟩ := (bd.ext x3).ex
      refine ⟨a, Us.length, c, by rw [hcell_row r]; rfl, fun nb1 h4 e3 e4 => ?_⟩
      obtain ⟨a2, c2, r2, _⟩ := bd.ex
      have hc : hcell h2 nb 0 = some (.slice a Us.length c) := by
        have hr2 := x3.row r2
        rw [r] at hr2
        cases hr2
        rw [hcell_row r2]; rfl
      refine Bld.push (t := ⟨p, q, B, fun _ => z0, []⟩) (K := fun h6 => (∃ (k_1 : Nat) (Us : List Tb), IntKind.i64.wrap ((k : Int) + 1) = k_1 ∧ (k_1 : Int) ≤ n ∧ Bld h h6 nb (mm : Int).toNat Us ∧ Us.length = k_1 ∧ Us.map Tb.L = List.replicate k_1 [] ∧ (0 < k_1 → newOK n B mm)) ∧ n.toNat - (IntKind.i64.wrap ((k : Int) + 1)).toNat < n.toNat - (k : Int).toNat) bd hc x3 lp lq ok (rel_empty _) (by omega) e3 e4 fun h6 b6 => ?_
      rw [wadd k (by omega)]
      exact ⟨⟨k + 1, Us ++ [⟨p, q, B, fun _ => z0, []⟩], rfl, by omega, b6, by simp [hl], by rw [List.map_append, hm, List.replicate_succ']; rfl, fun _ => by unfold newOK; omega⟩, by simp only [Int.toNat_natCast]; omega⟩
  · have hkn : (k : Int) = n := by have := of_decide_eq_false hge; omega
    refine ⟨bd.x, .inl ⟨?_, nb, rfl, ?_⟩⟩
    · have := hok (by omega); unfold newOK at this; exact this
    · have := bd.has (by omega)
      rw [hm] at this
      have e : n.toNat = k := by omega
      rw [e]; exact this
end
end Ix
end Go.Proofs.Ytkecmljalcfhoaa
namespace Go.Proofs.Ytkecmljalcfhoaa
namespace Ix
open Go RH
section
variable {W : Nat → Prop} {h : Heap} {x m : Nat} {Ts : List Tb} {Ls : List (List Ent)}
def gone (r : Int) (e : Ent) : Bool := decide (0 ≤ r ∧ ((e.a / 281474976710656 : Nat) : Int) = r)
def mPurge (L : List Ent) (r : Int) : Nat × List Ent := ((L.filter (gone r)).length, L.filter fun e => !gone r e)
theorem mid_del {A C : List Ent} {o : Ent} (h : Srt (A ++ o :: C)) : delS (A ++ o :: C) o.h = A ++ C := by
  unfold delS
  have h3 := List.pairwise_append.1 h
  have h4 := List.pairwise_cons.1 h3.2.1
  rw [List.filter_append, List.filter_cons, if_neg (by simp)]
  congr 1
  · exact List.filter_eq_self.2 fun y hy => by have := h3.2.2 y hy o (by simp); simp; omega
  · exact List.filter_eq_self.2 fun y hy => by have := h4.1 y hy; simp; omega
def lft (r : Int) (L : List Ent) (k : Nat) : List Ent := ((L.take k).filter fun e => !gone r e) ++ L.drop k
theorem lft_srt {r : Int} {L : List Ent} (hL : Srt L) (k : Nat) : Srt (lft r L k) := by
  have h := hL
  rw [← List.take_append_drop k L] at h
  have h3 := List.pairwise_append.1 h
  exact List.pairwise_append.2 ⟨h3.1.filter _, h3.2.1, fun a ha b hb => h3.2.2 a (List.mem_filter.1 ha).1 b hb⟩
theorem lft_step {r : Int} {L : List Ent} {k : Nat} (hk : k < L.length) : lft r L k = ((L.take k).filter fun e => !gone r e) ++ L[k] :: L.drop (k + 1) := by
  unfold lft
  rw [← List.getElem_cons_drop hk]
theorem fil_take {p : Ent → Bool} {L : List Ent} {k : Nat} (hk : k < L.length) : (L.take (k + 1)).filter p = (L.take k).filter p ++ if p L[k] then [L[k]] else [] := by
  rw [List.take_add_one, List.getElem?_eq_getElem hk, List.filter_append]
  congr 1
  simp [List.filter_cons]
theorem fdiv48 (n : Nat) : Int.fdiv (n : Int) (2 ^ min (Int.toNat 48) 64) = ((n / 281474976710656 : Nat) : Int) := by
  have e : ((2 : Int) ^ min (Int.toNat 48) 64) = ((281474976710656 : Nat) : Int) := by decide
  rw [e, fdiv_nat]
set_option maxHeartbeats 8000000 in
theorem purge_i (I : Idx W h x m Ts) (n r : Int) (hr : r ≤ 9223372036854775807) : HC Try.prog 19 #[.pointer (some ⟨x, 0, none⟩), .int .i64 n, .int .i64 r] h fun v h' =>
    v = .int .i64 ((mPurge (ent (Ts.map Tb.L) n) r).1 : Int) ∧ Aft W h x m (if 0 ≤ n ∧ n < Ts.length then (Ts.map Tb.L).set n.toNat (mPurge (ent (Ts.map Tb.L) n) r).2 else Ts.map Tb.L) h' := by
  refine f19_sh _ _ _ _ _ fun rb h1 e1 eh1 => ?_
  have x1 : Ext h h1 := by rw [eh1]; exact Ext.push _ _
  have r1 : h1[rb]? = some (.cells #[.int .i64 r] 3 (0, 0)) := by rw [eh1]; exact push_new e1
  clear eh1
  obtain ⟨a, hidx, hopt, hin⟩ := sidx_i (I.ext x1) n
  refine ⟨a, hidx, fun tb h2 e2 eh2 => ?_⟩
  have x2 : Ext h1 h2 := by rw [eh2]; exact Ext.push _ _
  have r2 : h2[tb]? = some (.cells #[.pointer none] 70 (0, 0)) := by rw [eh2]; exact push_new e2
  clear eh2
  refine ⟨HW_row r2 (by simp), ?_⟩
  rintro h3 e3
  have hs1 := x1.size
  have hs2 := x2.size
  have r3 : h3[tb]? = some (.cells #[.pointer a] 70 (0, 0)) := by rw [e3, hset_row r2]; rfl
  have x3 : Ext h1 h3 := ext_hset e3 x2 (by omega)
  clear e3
  intro nb h4 e4 eh4
  have x4 : Ext h3 h4 := by rw [eh4]; exact Ext.push _ _
  have r4 : h4[nb]? = some (.cells #[.int .i64 0] 3 (0, 0)) := by rw [eh4]; exact push_new e4
  clear eh4
  have hs3 := x3.size
  have hs4 := x4.size
  refine ⟨HW_row r4 (by simp), ?_⟩
  rintro h5 e5
  have r5 : h5[nb]? = some (.cells #[.int .i64 0] 3 (0, 0)) := by rw [e5, hset_row r4]; rfl
  have x35 : Ext h3 h5 := ext_hset e5 x4 (by omega)
  clear e5
  have x5 : Ext h1 h5 := x3.trans x35
  have hs35 := x35.size
  have rt5 := x35.row r3
  have rr5 := x5.row r1
  have htl := row_lt r3
  have hnl := row_lt r5
  have hrl := row_lt r1
  have opt5 := hopt.ext x5
  generalize hLL : ent (Ts.map Tb.L) n = L at *
  refine ⟨a, by rw [hcell_row rt5]; rfl, (seq_c opt5).mono ?_⟩
  rintro _ h6 ⟨x6, cb, rfl, lcb, rcb⟩
  have hcbl := row_lt rcb
  have hs6 := x6.size
  refine ⟨_, rfl, fun Lp l h7 y stay el x7 z7 L7 hyld => ?_⟩
  have opt7 := opt5.ext (x6.trans x7)
  have hs7 := x7.size
  have hlen := opt7.len
  have x17 := x5.trans (x6.trans x7)
  have x07 := x1.trans x17
  have rt7 := (x6.trans x7).row rt5
  have rn7 := (x6.trans x7).row r5
  have rr7 := (x6.trans x7).row rr5
  -- the blocks of the stripe's table
  let tq : Nat → Prop := fun b => ∃ t, 0 ≤ n ∧ n < Ts.length ∧ Ts[n.toNat]? = some t ∧ PQ t.p t.q b
  have htq : ∀ b, tq b → b < h.size ∧ W b := fun b ⟨t, _, _, k1, k2⟩ => by
    have hw := I.wt t (List.mem_of_getElem? k1)
    rcases k2 with rfl | rfl
    · exact ⟨I.lt _ hw.1, hw.1⟩
    · exact ⟨I.lt _ hw.2, hw.2⟩
  let Tk : Nat → Heap → Prop := fun k h => (¬ (0 ≤ n ∧ n < Ts.length) ∧ L = []) ∨ ∃ t s', 0 ≤ n ∧ n < Ts.length ∧ Ts[n.toNat]? = some t ∧ a = some ⟨t.p, 0, none⟩ ∧ TabOK h t.p t.q t.B m s' ∧ Rel t.B s' (lft r L k)
  let Sx : Nat → Prop := fun b => tq b ∨ b = nb ∨ b = l
  have tk0 : Tk 0 h7 := by
    by_cases hi : 0 ≤ n ∧ n < Ts.length
    · obtain ⟨t, k1, k2, k3⟩ := hin hi.1 hi.2
      obtain ⟨ok, rel⟩ := (I.ext x07).ok t (List.mem_of_getElem? k1)
      refine .inr ⟨t, t.s, hi.1, hi.2, k1, k2, ok, ?_⟩
      have : lft r L 0 = t.L := by unfold lft; simp [k3]
      rw [this]; exact rel
    · exact .inl ⟨hi, by rw [← hLL]; exact ent_out (by rw [List.length_map]; omega)⟩
  have tkfr : ∀ {k h' h'' S}, Tk k h' → Fr S h' h'' → (∀ b, tq b → ¬ S b) → Tk k h'' := by
    intro k h' h'' S t f hn
    rcases t with t | ⟨t, s', k1, k2, k3, k4, k5, k6⟩
    · exact .inl t
    · exact .inr ⟨t, s', k1, k2, k3, k4, k5.fr f (hn _ ⟨t, k1, k2, k3, .inl rfl⟩) (hn _ ⟨t, k1, k2, k3, .inr rfl⟩), k6⟩
  refine go_over opt7 (by rw [hcell_row (x7.row rcb)]; rfl) fun h8 x8 => ?_
  have hs8 := x8.size
  let Keep : Nat → Heap → Prop := fun k h => Tk k h ∧ h[nb]? = some (.cells #[.int .i64 (((L.take k).filter (gone r)).length : Int)] 3 (0, 0)) ∧ Fr Sx h7 h
  have fin : ∀ h9, Keep L.length h9 → Lp .ready none h9 → ∃ (st : LoopState) (pend : Option Code), Lp st pend h9 ∧ st ≠ .busy ∧ ∀ h10, Only l h9 h10 → Lp .exhausted pend h10 → pend = none ∧ ∃ x_7 : Int, hcell h10 nb 0 = some (.int .i64 x_7) ∧
      (∀ h18, Shut' (Array.size h) h10 h18 → Value.int .i64 x_7 = .int .i64 ((mPurge L r).1 : Int) ∧ Aft W h x m (if 0 ≤ n ∧ n < Ts.length then (Ts.map Tb.L).set n.toNat (mPurge L r).2 else Ts.map Tb.L) h18) := by
    rintro h9 ⟨tk, rn, f9⟩ lp
    refine ⟨.ready, none, lp, by simp, fun h10 o10 _ => ⟨rfl, _, by rw [hcell_row (o10.fr.row rn (by omega))]; rfl, fun h18 s18 => ⟨by rw [List.take_length]; rfl, ?_⟩⟩⟩
    have tk10 := tkfr tk o10.fr fun b hb g => by have := (htq b hb).1; omega
    have f10 : Fr Sx h7 h10 := f9.trans o10.fr fun _ _ g => .inr (.inr g)
    have f18 : Fr (fun b => h.size ≤ b) h10 h18 := s18.fr
    rcases tk10 with ⟨hni, hL⟩ | ⟨t, s', k1, k2, k3, k4, k5, k6⟩
    · rw [if_neg hni]
      have e18 : Ext h h18 := (((x07.fr (fun _ => False)).trans f10 fun b hb g => by
        rcases g with ⟨t, q1, q2, _⟩ | g | g
        · exact absurd ⟨q1, q2⟩ hni
        · omega
        · omega).trans f18 fun b hb g => by omega).ext fun _ _ g => g
      exact Aft.ofExt I e18
    · rw [if_pos ⟨k1, k2⟩]
      have hl' : lft r L L.length = (mPurge L r).2 := by unfold lft mPurge; simp
      rw [hl'] at k6
      have fh : Fr (PQ t.p t.q) h h18 := ((x07.fr _).trans f10 fun b hb g => by
        rcases g with ⟨t2, _, _, q3, q4⟩ | g | g
        · rw [k3] at q3; cases q3; exact q4
        · omega
        · omega).trans f18 fun b hb g => by omega
      have ht := I.wt t (List.mem_of_getElem? k3)
      exact Aft.mk' (h1 := h) (h2 := h18) I (Ext.refl _) k3 fh (.inl rfl) (k5.fr f18 (fun g => by have := I.lt _ ht.1; omega) (fun g => by have := I.lt _ ht.2; omega)) k6 (Fr.refl (fun _ => False) _) fun b g => g.elim
  have x78 : Ext h7 h8 := x8
  refine ⟨fun k h9 => Lp .ready none h9 ∧ Keep k h9, ⟨stay _ _ _ _ L7 (x8.block l (by omega)), tkfr tk0 (x8.fr (fun _ => False)) (fun _ _ g => g), x8.row (by simpa using rn7), x8.fr _⟩, ?_, fun h9 _ j9 => fin h9 j9.2 j9.1⟩
  rintro k hk h9 f9 ⟨lp9, kp9⟩ h10 x10
  have hs9 := f9.size
  have hs10 := x10.size
  have lp10 := stay _ _ _ _ lp9 (x10.block l (by omega))
  refine hyld _ _ _ _ h10 _ lp10 fun eb h11 ee e11 => ?_
  have r11 : h11[eb]? = some (.cells #[.int .u64 0, .int .u64 0, .int .u64 0, .int .u8 0] 31 (0, 0)) := by rw [e11]; exact push_new ee
  have x11 : Ext h10 h11 := by rw [e11]; exact Ext.push _ _
  refine ⟨HWs_row r11 (by simp), ?_⟩
  rintro h12 e12
  have r12 : h12[eb]? = some (.cells #[.int .u64 L[k].h, .int .u64 L[k].a, .int .u64 L[k].v, .int .u8 L[k].k] 31 (0, 0)) := by rw [e12, hsets_row _ r11]; rfl
  have x12 : Ext h10 h12 := ext_hsets e12 x11 (by omega)
  clear e12 e11
  have hs12 := x12.size
  refine ⟨stay _ _ _ _ lp10 (x12.block l (by omega)), fun h13 o13 lp13 => ?_⟩
  have hs13 := o13.size
  have x912 := x10.trans x12
  obtain ⟨tk9, rn9, fr9⟩ := kp9
  have tk13 : Tk k h13 := tkfr (tkfr tk9 (x912.fr (fun _ => False)) (fun _ _ g => g)) o13.fr fun b hb g => by have := (htq b hb).1; omega
  have rn13 := o13.fr.row (x912.row rn9) (by omega)
  have fr13 : Fr Sx h7 h13 := (fr9.trans (x912.fr (fun _ => False)) fun _ _ g => g.elim).trans o13.fr fun _ _ g => .inr (.inr g)
  have r13 := o13.fr.row r12 (by omega)
  have f1013 : Fr (Yw h7 h8) h10 h13 := (x12.fr _).trans o13.fr fun i hi g => .inl (by omega)
  have notS : ∀ b, h.size ≤ b → b ≠ nb → b ≠ l → ¬ Sx b := fun b hb h1 h2 g => by
    rcases g with g | g | g
    · have := (htq b g).1; omega
    · exact h1 g
    · exact h2 g
  have rr13 := fr13.row rr7 (notS rb (by omega) (by omega) (by omega))
  have rt13 := fr13.row rt7 (notS tb (by omega) (by omega) (by omega))
  refine ⟨!gone r L[k], ⟨r, by rw [hcell_row rr13]; rfl, fun g => ?_, fun g => ⟨_, by rw [hcell_row r13]; rfl, ?_⟩⟩, fun g => ?_, fun g => ?_⟩
  · have := of_decide_eq_true g
    unfold gone; rw [decide_eq_false (by omega)]; rfl
  · have h0 := of_decide_eq_false g
    rw [fdiv48, wu64 (by omega) (by omega)]
    unfold gone
    rw [Bool.eq_iff_iff]
    simp only [Bool.not_eq_true', decide_eq_false_iff_not, bne_iff_ne, ne_eq]
    omega
  · have hg : gone r L[k] = false := by simpa using g
    have hl : lft r L (k + 1) = lft r L k := by
      rw [lft_step hk]; unfold lft; rw [fil_take hk, hg]; simp
    refine ⟨lp13, fun h14 o14 lp14 => ⟨f1013.trans o14.fr fun i hi g => .inl (by omega), true, rfl, (fun g => by cases g), fun _ => ⟨lp14, ?_, ?_, fr13.trans o14.fr fun _ _ g => .inr (.inr g)⟩⟩⟩
    · have : Tk (k + 1) h13 := by
        rcases tk13 with q | ⟨t, s', k1, k2, k3, k4, k5, k6⟩
        · exact .inl q
        · exact .inr ⟨t, s', k1, k2, k3, k4, k5, by rw [hl]; exact k6⟩
      exact tkfr this o14.fr fun b hb g => by have := (htq b hb).1; omega
    · rw [fil_take hk, hg]
      have := o14.fr.row rn13 (by omega)
      simpa using this
  · have hg : gone r L[k] = true := by simpa using g
    rcases tk13 with ⟨_, q⟩ | ⟨t, s', k1, k2, k3, k4, k5, k6⟩
    · rw [q] at hk; simp at hk
    have hmem : L[k] ∈ lft r L k := by rw [lft_step hk]; exact List.mem_append.2 (.inr (List.mem_cons_self ..))
    obtain ⟨i0, hi0, hie, hia⟩ := (k6.mem _).2 hmem
    have hwk : (L[k]).wf := by rw [← hie]; exact k5.g.wf i0 hi0
    subst k4
    refine ⟨_, by rw [hcell_row rt13]; rfl, _, by rw [hcell_row r13]; rfl, (remove_c k5 hwk.1).mono ?_⟩
    rintro v h15 ⟨f15, s2, ok15, rr⟩
    obtain ⟨ev, rel15⟩ := rem_plain k6 rr
    have hdel : mDel (lft r L k) L[k].h = ((L[k], true), lft r L (k + 1)) := by
      unfold mDel
      rw [(look_some k6.srt).2 ⟨hmem, rfl⟩]
      have : delS (lft r L k) L[k].h = lft r L (k + 1) := by
        have hs := lft_srt (r := r) (opt7.srt) k
        rw [lft_step hk] at hs ⊢
        rw [mid_del hs]
        unfold lft; rw [fil_take hk, hg]; simp
      rw [this]
    rw [hdel] at ev rel15
    subst ev
    have ht := I.wt t (List.mem_of_getElem? k3)
    have ht1 := I.lt _ ht.1
    have ht2 := I.lt _ ht.2
    have hpq : ∀ b, PQ t.p t.q b → b < h.size := fun b g => by rcases g with rfl | rfl <;> assumption
    have hs15 := f15.size
    have rn15 := f15.row rn13 fun g => by have := hpq nb g; omega
    refine ⟨_, _, _, _, _, rfl, _, by rw [hcell_row rn15]; rfl, HW_row rn15 (by simp), ?_⟩
    rintro h16 e16
    have f16 := fr_hset_of e16
    have hcount : (((L.take k).filter (gone r)).length : Nat) ≤ 65536 := Nat.le_trans (List.length_filter_le _ _) (by rw [List.length_take]; omega)
    have r16 : h16[nb]? = some (.cells #[.int .i64 (((L.take (k + 1)).filter (gone r)).length : Int)] 3 (0, 0)) := by
      rw [e16, hset_row rn15, wadd _ (by omega), fil_take hk, hg]
      simp
    clear e16
    have hs16 := f16.size
    refine ⟨stay _ _ _ _ lp13 ?_, fun h17 o17 lp17 => ?_⟩
    · rw [f16.block l (by omega) (by omega), f15.block l (by omega) fun g => by have := hpq l g; omega]
    have hs17 := o17.size
    refine ⟨((f1013.trans f15 fun i hi g => .inl (by have := hpq i g; omega)).trans f16 fun i hi g => .inl (by omega)).trans o17.fr fun i hi g => .inl (by omega), true, rfl, (fun g => by cases g), fun _ => ⟨lp17, ?_, o17.fr.row r16 (by omega), ?_⟩⟩
    · have k16 : Tk (k + 1) h16 := .inr ⟨t, s2, k1, k2, k3, rfl, ok15.fr f16 (by omega) (by omega), rel15⟩
      exact tkfr k16 o17.fr fun b hb g => by have := (htq b hb).1; omega
    · exact ((fr13.trans f15 fun i hi g => .inl ⟨t, k1, k2, k3, g⟩).trans f16 fun i hi g => .inr (.inl g)).trans o17.fr fun i hi g => .inr (.inr g)
end
end Ix
end Go.Proofs.Ytkecmljalcfhoaa
