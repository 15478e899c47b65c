import Derived.Test.YtfjcciaabkjkgaaGreatDoorProg
import Derived.Test.YtfjcciaabkjkgaaGreatDoorPy1
import Derived.Test.YtfjcciaabkjkgaaGreatDoorPy3
import Derived.Test.YtfjcciaabkjkgaaGreatDoorPy4
import Derived.Test.YtfjcciaabkjkgaaGreatDoorPy5
import Derived.Test.YtfjcciaabkjkgaaGreatDoorPy6
namespace Go.Proofs.YtfjcciaabkjkgaaGreatDoor
open Go
open Go.Proofs.YtfjcciaabkjkgaaGreatDoor renaming hl_val → lv, hl_step → lp, hl_nil → ln, hl_yes → ly, hl_no → lo, hx_seq → xs, hx_region → xr, hx_cond → xc, hx_block → xb, hx_loopT → xl, hx_cut → xk, hx_has → xh, hx_skip → xi, hx_ret → xt, hx_exit → xe, seqQ_n → qn, seqQ_ret → qr, seqQ_exit → qe, blockQ_n → bn, blockQ_ret → br, blockQ_here → bh, hv_move → vm, hv_assign → va, hv_arith → vr, hv_load → vl, hv_loads → vL, hv_extract → vx, hv_field → vf, hv_build → vb, hv_index → vi, hp_pure → pp, hp_read → pr, hp_no → pn, has_cons → hc, has_nil → hn, hcells_cons → cc, hcells_nil → cn, rowcell → rc, hs_call → sc, ht_one → to
set_option maxRecDepth 100000
set_option maxHeartbeats 4000000
theorem TyTE.agg22 : aggB Tryz.prog 22 = some false := by kernel_rfl
theorem TyTE.agg24 : aggB Tryz.prog 24 = some false := by kernel_rfl
theorem TyTE.agg3 : aggB Tryz.prog 3 = some false := by kernel_rfl
theorem TyTE.agg40 : aggB Tryz.prog 40 = some true := by kernel_rfl
theorem TyTE.agg69 : aggB Tryz.prog 69 = some false := by kernel_rfl
theorem TyTE.agg76 : aggB Tryz.prog 76 = some false := by kernel_rfl
theorem TyTE.agg79 : aggB Tryz.prog 79 = some false := by kernel_rfl
theorem TyTE.agg81 : aggB Tryz.prog 81 = some true := by kernel_rfl
theorem TyTE.agg9 : aggB Tryz.prog 9 = some false := by kernel_rfl
theorem TyTE.agg95 : aggB Tryz.prog 95 = some true := by kernel_rfl
theorem TyTE.cb17 : CallB Tryz.prog 17 := fun _ _ => Tryz.call17 _ _
theorem TyTE.cb23 : CallB Tryz.prog 23 := fun _ _ => Tryz.call23 _ _
theorem TyTE.cb27 : CallB Tryz.prog 27 := fun _ _ => Tryz.call27 _ _
theorem TyTE.cb28 : CallB Tryz.prog 28 := fun _ _ => Tryz.call28 _ _
theorem TyTE.cb51 : CallB Tryz.prog 51 := fun _ _ => Tryz.call51 _ _
theorem TyTE.cb52 : CallB Tryz.prog 52 := fun _ _ => Tryz.call52 _ _
theorem TyTE.cb63 : CallB Tryz.prog 63 := fun _ _ => Tryz.call63 _ _
theorem TyTE.cb64 : CallB Tryz.prog 64 := fun _ _ => Tryz.call64 _ _
theorem TyTE.cb65 : CallB Tryz.prog 65 := fun _ _ => Tryz.call65 _ _
theorem TyTE.cb85 : CallB Tryz.prog 85 := fun _ _ => Tryz.call85 _ _
theorem TyTE.cb86 : CallB Tryz.prog 86 := fun _ _ => Tryz.call86 _ _
theorem TyTE.cb87 : CallB Tryz.prog 87 := fun _ _ => Tryz.call87 _ _
theorem TyTE.cb9 : CallB Tryz.prog 9 := fun _ _ => Tryz.call9 _ _
theorem TyTE.el22 : elB Tryz.prog 22 = some 8 := by kernel_rfl
theorem TyTE.el24 : elB Tryz.prog 24 = some 1 := by kernel_rfl
theorem TyTE.el26 : elB Tryz.prog 26 = some 1 := by kernel_rfl
theorem TyTE.el69 : elB Tryz.prog 69 = some 2 := by kernel_rfl
theorem TyTE.el76 : elB Tryz.prog 76 = some 2 := by kernel_rfl
theorem TyTE.el79 : elB Tryz.prog 79 = some 1 := by kernel_rfl
theorem TyTE.fld40_1 : fldB Tryz.prog 40 1 = some 1 := by kernel_rfl
theorem TyTE.fld78_0 : fldB Tryz.prog 78 0 = some 0 := by kernel_rfl
theorem TyTE.fld78_1 : fldB Tryz.prog 78 1 = some 1 := by kernel_rfl
theorem TyTE.fld78_2 : fldB Tryz.prog 78 2 = some 2 := by kernel_rfl
theorem TyTE.fld81_0 : fldB Tryz.prog 81 0 = some 0 := by kernel_rfl
theorem TyTE.fld81_1 : fldB Tryz.prog 81 1 = some 1 := by kernel_rfl
theorem TyTE.mixed : Tryz.prog.follows .mixedOrders = true := by kernel_rfl
theorem TyTE.pl78 : plB Tryz.prog 78 = some [(0, 1), (1, 1), (2, 1)] := by kernel_rfl
theorem TyTE.pl81 : plB Tryz.prog 81 = some [(0, 1), (1, 1)] := by kernel_rfl
theorem TyTE.se95 : seB Tryz.prog 95 = some [(4, 0), (9, 1)] := by kernel_rfl
theorem TyTE.sz3 : szB Tryz.prog 3 = some 1 := by kernel_rfl
theorem TyTE.sz40 : szB Tryz.prog 40 = some 8 := by kernel_rfl
theorem TyTE.sz69 : szB Tryz.prog 69 = some 1 := by kernel_rfl
theorem TyTE.sz76 : szB Tryz.prog 76 = some 1 := by kernel_rfl
theorem TyTE.sz79 : szB Tryz.prog 79 = some 1 := by kernel_rfl
theorem TyTE.sz81 : szB Tryz.prog 81 = some 2 := by kernel_rfl
theorem TyTE.sz9 : szB Tryz.prog 9 = some 1 := by kernel_rfl
theorem TyTE.sz95 : szB Tryz.prog 95 = some 2 := by kernel_rfl
theorem TyTE.u22 : Tryz.prog.underlying 22 = some (.slice 40) := by kernel_rfl
theorem TyTE.u24 : Tryz.prog.underlying 24 = some (.slice 9) := by kernel_rfl
theorem TyTE.u26 : Tryz.prog.underlying 26 = some (.slice 3) := by kernel_rfl
theorem TyTE.u69 : Tryz.prog.underlying 69 = some (.slice 95) := by kernel_rfl
theorem TyTE.u76 : Tryz.prog.underlying 76 = some (.slice 81) := by kernel_rfl
theorem TyTE.u79 : Tryz.prog.underlying 79 = some (.slice 69) := by kernel_rfl
theorem TyTE.z3 : zeroB Tryz.prog 3 (.int .i64 0) := by unfold zeroB; kernel_rfl
theorem TyTE.z40 : zeroB Tryz.prog 40 (.agg #[(.int .i64 0), (.string ByteArray.empty), (.string ByteArray.empty), (.int .i64 0), (.bool false), (.int .i64 0), (.int .i64 0), (.int .i64 0)]) := by unfold zeroB; kernel_rfl
theorem TyTE.z69 : zeroB Tryz.prog 69 (.slice none 0 0) := by unfold zeroB; kernel_rfl
theorem TyTE.z78 : zeroB Tryz.prog 78 (.agg #[(.slice none 0 0), (.slice none 0 0), (.slice none 0 0)]) := by unfold zeroB; kernel_rfl
theorem TyTE.z81 : zeroB Tryz.prog 81 (.agg #[(.int .i64 0), (.slice none 0 0)]) := by unfold zeroB; kernel_rfl
theorem TyTE.z9 : zeroB Tryz.prog 9 (.string ByteArray.empty) := by unfold zeroB; kernel_rfl
theorem ext_pushed_f14_sh {h h1 : Heap} {o : Obj} (e : h1 = Array.push h o) : Ext h h1 := by rw [e]; exact Ext.push _ _
theorem f63_sh (b4 : Int) (b1 : Option Addr) (a0 : Nat) (a2 : Nat) (b3 : Int) (b6 : Option Addr) (a4 : Nat) (a9 : Nat) (h : Heap) (R : Value → Heap → Prop)
  (H : (((b4 != b3) = true → (∀ (h2 : Heap), Ext h h2 → R (.bool false) h2)) ∧ ((b4 != b3) = false → (∃ (c6 : Int → Prop) (c4 : Int → Nat), c6 0 ∧ (∀ (i : Int), c6 i → (((decide (i < (a0 : Int))) = true → (∃ a5 a3 : Nat, b1 = some ⟨a5, a3, none⟩ ∧ (0 : Int) ≤ i ∧ i < (a0 : Int) ∧ (∃ x : Option Addr, ∃ b5 d0 : Nat, hcell h a5 (a3 + (Int.toNat i) * 1) = some (.slice x b5 d0) ∧ (∃ a8 b0 : Nat, b6 = some ⟨a8, b0, none⟩ ∧ (0 : Int) ≤ i ∧ i < (a4 : Int) ∧ (∃ c8 : Option Addr, ∃ b2 c2 : Nat, hcell h a8 (b0 + (Int.toNat i) * 1) = some (.slice c8 b2 c2) ∧ ((((b5 : Int) != (b2 : Int)) = true → (∀ (h2 : Heap), Ext h h2 → R (.bool false) h2)) ∧ (((b5 : Int) != (b2 : Int)) = false → (∃ (d1 : Int → Prop) (c5 : Int → Nat), d1 0 ∧ (∀ (k : Int), d1 k → ((0 : Int) ≤ i ∧ i < (a0 : Int) ∧ (((decide (k < (b5 : Int))) = true → (∃ c7 c9 : Nat, x = some ⟨c7, c9, none⟩ ∧ (0 : Int) ≤ k ∧ k < (b5 : Int) ∧ (∃ b8 : Bool, ∃ a6 : ByteArray, hcell h c7 (c9 + (Int.toNat k) * 2) = some (.bool b8) ∧ hcell h c7 ((c9 + (Int.toNat k) * 2) + 1) = some (.string a6) ∧ ((0 : Int) ≤ i ∧ i < (a4 : Int) ∧ (∃ c0 b9 : Nat, c8 = some ⟨c0, b9, none⟩ ∧ (0 : Int) ≤ k ∧ k < (b2 : Int) ∧ (∃ a7 : Bool, ∃ a1 : ByteArray, hcell h c0 (b9 + (Int.toNat k) * 2) = some (.bool a7) ∧ hcell h c0 ((b9 + (Int.toNat k) * 2) + 1) = some (.string a1) ∧ (((!((b8 == a7 && (a6 == a1 && true)))) = true → (∀ (h2 : Heap), Ext h h2 → R (.bool false) h2)) ∧ ((!((b8 == a7 && (a6 == a1 && true)))) = false → (d1 (IntKind.i64.wrap (k + 1)) ∧ c5 (IntKind.i64.wrap (k + 1)) < c5 k))))))))) ∧ ((decide (k < (b5 : Int))) = false → (c6 (IntKind.i64.wrap (i + 1)) ∧ c4 (IntKind.i64.wrap (i + 1)) < c4 i))))))))))))) ∧ ((decide (i < (a0 : Int))) = false → (∀ (h2 : Heap), Ext h h2 → R (.bool true) h2)))))))) :
  HC Tryz.prog 63 #[(.agg #[(.int .i64 b4), (.slice b1 a0 a2)]), (.agg #[(.int .i64 b3), (.slice b6 a4 a9)])] h R := by
 refine hc_of (args := [(.agg #[(.int .i64 b4), (.slice b1 a0 a2)]), (.agg #[(.int .i64 b3), (.slice b6 a4 a9)])]) Tryz.func63 rfl Tryz.ntmps63 (Nat.le_of_ble_eq_true rfl) ?_
 refine xs (xr ?_)
 refine lp rfl rfl (hn_box (v := (.agg #[(.int .i64 b4), (.slice b1 a0 a2)])) rfl ?_)
 intro a h1 e5 e6
 have e3 := ext_pushed_f14_sh e6
 have i0 : Array.size h ≤ a := Nat.le_of_eq (Eq.symm e5)
 have c1 : h1[a]? = some (.cells #[(.int .i64 b4), (.slice b1 a0 a2)] 81 (0, 0)) := by rw [e6]; exact push_new e5
 refine lp rfl rfl (hn_box (v := (.agg #[(.int .i64 b3), (.slice b6 a4 a9)])) rfl ?_)
 intro b h2 d9 e7
 have e4 := ext_pushed_f14_sh e7
 have g8 := Nat.ne_of_lt (Nat.lt_of_lt_of_eq (row_lt c1) (Eq.symm d9))
 have g9 : Array.size h ≤ b := Nat.le_trans (Ext.size e3) (Nat.le_of_eq (Eq.symm d9))
 have e0 : h2[b]? = some (.cells #[(.int .i64 b3), (.slice b6 a4 a9)] 81 (0, 0)) := by rw [e7]; exact push_new d9
 replace c1 := Ext.row e4 c1
 have b7 := Ext.trans e3 e4
 refine lv rfl rfl (va rfl) ?_
 refine ln (qn (xs (xs (xr ?_))))
 refine lv rfl rfl (v := (ptr a 0)) (vf TyTE.fld81_0 (b := a) (o := 0) rfl) (lv rfl rfl (vl TyTE.agg3 rfl (rc c1 rfl)) (lv rfl rfl (v := (ptr b 0)) (vf TyTE.fld81_0 (b := b) (o := 0) rfl) (lv rfl rfl (vl TyTE.agg3 rfl (rc e0 rfl)) (lv rfl rfl (vr rfl rfl rfl) ?_))))
 refine ln (qn ?_)
 refine xc (b := b4 != b3) rfl (fun d6 => ?_) (fun d6 => ?_)
 ·replace H := H.1 d6
  refine xs (xr ?_)
  refine lv rfl rfl (va rfl) ?_
  refine ln (qn (xt (qr ?_)))
  replace H := H h2 b7
  exact endQ_ret _ (res_one Tryz.results63 (rv_tmp rfl)) H
 ·replace H := H.2 d6
  refine xi (qn (xs (xs (xr ?_))))
  refine lv rfl rfl (va rfl) ?_
  refine ln (qn (xb ?_))
  obtain ⟨c6, c4, f9, f8⟩ := H
  refine xl (σ := Int) (fun s => [(2, (ptr a 0)), (3, (ptr b 0)), (5, (.int .i64 s))]) (fun s h' => c6 s ∧ h2 = h') (fun s _ => c4 s) 0 ⟨f9, rfl⟩ (hc rfl (hc rfl (hc rfl hn))) ?_
  rintro i ρ _ ⟨e9, rfl⟩
  have H := f8 i e9
  refine xs (xs (xr ?_))
  refine lv rfl rfl (vm rfl) (lv rfl rfl (v := (ptr a 1)) (vf TyTE.fld81_1 (b := a) (o := 0) rfl) (lv rfl rfl (vl TyTE.agg79 rfl (rc c1 rfl)) (lv rfl rfl (v := (.int .i64 (a0 : Int))) (hv_len (n := a0) TyTE.u79 rfl) (lv rfl rfl (vr rfl rfl rfl) ?_))))
  refine ln (qn ?_)
  refine xc (b := decide (i < (a0 : Int))) rfl (fun d4 => ?_) (fun d4 => ?_)
  ·replace H := H.1 d4
   refine xi (qn (xs (xb (xs (xs ?_)))))
   refine hx_draw TyTE.mixed [.pure, .read, .pure, .pure, .read, .pure, .pure, .read, .pure, .pure, .read, .pure, .pure] [0, 1, 2, 3, 4, 5, 6, 7, 8, 9, 10, 11, 12] (by kernel_rfl) ?_
   refine pp (i := 0) rfl (wanted_0 rfl) rfl (ptr a 1) (fun _ => vf TyTE.fld81_1 (b := a) (o := 0) rfl) ?_
   refine pr (i := 1) rfl (wanted_0 rfl) rfl (.slice b1 a0 a2) (fun _ he => vl TyTE.agg79 rfl (Ext.cell he (rc c1 rfl))) ?_
   refine pp (i := 2) rfl (wanted_0 rfl) rfl (.int .i64 i) (fun _ => vm rfl) ?_
   obtain ⟨a5, a3, c3, f7, g7, Hq⟩ := H
   subst c3
   have H := Hq; clear Hq
   refine pp (i := 3) rfl (wanted_0 rfl) rfl (ptr a5 (a3 + (Int.toNat i) * 1)) (fun _ => vi TyTE.el79 rfl rfl f7 g7) ?_
   obtain ⟨x, b5, d0, d5, H⟩ := H
   refine pr (i := 4) rfl (wanted_0 rfl) rfl (.slice x b5 d0) (fun _ he => vl TyTE.agg69 rfl (Ext.cell he (Ext.cell b7 d5))) ?_
   refine pp (i := 5) rfl (wanted_0 rfl) rfl (.int .i64 (b5 : Int)) (fun _ => hv_len (n := b5) TyTE.u69 rfl) ?_
   refine pp (i := 6) rfl (wanted_0 rfl) rfl (ptr b 1) (fun _ => vf TyTE.fld81_1 (b := b) (o := 0) rfl) ?_
   refine pr (i := 7) rfl (wanted_0 rfl) rfl (.slice b6 a4 a9) (fun _ he => vl TyTE.agg79 rfl (Ext.cell he (rc e0 rfl))) ?_
   refine pp (i := 8) rfl (wanted_0 rfl) rfl (.int .i64 i) (fun _ => vm rfl) ?_
   obtain ⟨a8, b0, c3, f0, f1, Hq⟩ := H
   subst c3
   have H := Hq; clear Hq
   refine pp (i := 9) rfl (wanted_0 rfl) rfl (ptr a8 (b0 + (Int.toNat i) * 1)) (fun _ => vi TyTE.el79 rfl rfl f0 f1) ?_
   obtain ⟨c8, b2, c2, d8, H⟩ := H
   refine pr (i := 10) rfl (wanted_0 rfl) rfl (.slice c8 b2 c2) (fun _ he => vl TyTE.agg69 rfl (Ext.cell he (Ext.cell b7 d8))) ?_
   refine pp (i := 11) rfl (wanted_0 rfl) rfl (.int .i64 (b2 : Int)) (fun _ => hv_len (n := b2) TyTE.u69 rfl) ?_
   refine pp (i := 12) rfl (wanted_0 rfl) rfl (.bool ((b5 : Int) != (b2 : Int))) (fun _ => vr rfl rfl rfl) ?_
   refine hp_nil ?_
   refine qn ?_
   refine xc (b := (b5 : Int) != (b2 : Int)) rfl (fun d3 => ?_) (fun d3 => ?_)
   ·replace H := H.1 d3
    refine xs (xr ?_)
    refine lv rfl rfl (va rfl) ?_
    refine ln (qn (xt (qr (br (qr (qr (br (qr ?_))))))))
    replace H := H h2 b7
    exact endQ_ret _ (res_one Tryz.results63 (rv_tmp rfl)) H
   ·replace H := H.2 d3
    refine xi (qn (xs (xr ?_)))
    refine lv rfl rfl (va rfl) ?_
    refine ln (qn (xb ?_))
    obtain ⟨d1, c5, f6, g3⟩ := H
    refine xl (σ := Int) (fun s => [(2, (ptr a 0)), (3, (ptr b 0)), (5, (.int .i64 i)), (6, (.int .i64 s))]) (fun s h' => d1 s ∧ h2 = h') (fun s _ => c5 s) 0 ⟨f6, rfl⟩ (hc rfl (hc rfl (hc rfl (hc rfl hn)))) ?_
    rintro k ρ _ ⟨g5, rfl⟩
    have H := g3 k g5
    refine xs (xs (xr ?_))
    refine lv rfl rfl (vm rfl) (lv rfl rfl (v := (ptr a 1)) (vf TyTE.fld81_1 (b := a) (o := 0) rfl) (lv rfl rfl (vl TyTE.agg79 rfl (rc c1 rfl)) (lv rfl rfl (vm rfl) ?_)))
    obtain ⟨e1, e2, H⟩ := H
    refine lv rfl rfl (v := (ptr a5 (a3 + (Int.toNat i) * 1))) (vi TyTE.el79 rfl rfl e1 e2) (lv rfl rfl (vl TyTE.agg69 rfl (Ext.cell b7 d5)) (lv rfl rfl (v := (.int .i64 (b5 : Int))) (hv_len (n := b5) TyTE.u69 rfl) (lv rfl rfl (vr rfl rfl rfl) ?_)))
    refine ln (qn ?_)
    refine xc (b := decide (k < (b5 : Int))) rfl (fun d2 => ?_) (fun d2 => ?_)
    ·replace H := H.1 d2
     refine xi (qn (xs (xb (xs ?_))))
     refine hx_draw TyTE.mixed [.pure, .read, .pure, .pure, .read, .pure, .pure, .read, .pure, .read, .pure, .pure, .read, .pure, .pure, .read, .pure] [0, 1, 2, 3, 4, 5, 6, 7, 8, 9, 10, 11, 12, 13, 14, 15, 16] (by kernel_rfl) ?_
     refine pp (i := 0) rfl (wanted_0 rfl) rfl (ptr a 1) (fun _ => vf TyTE.fld81_1 (b := a) (o := 0) rfl) ?_
     refine pr (i := 1) rfl (wanted_0 rfl) rfl (.slice (some ⟨a5, a3, none⟩) a0 a2) (fun _ he => vl TyTE.agg79 rfl (Ext.cell he (rc c1 rfl))) ?_
     refine pp (i := 2) rfl (wanted_0 rfl) rfl (.int .i64 i) (fun _ => vm rfl) ?_
     refine pp (i := 3) rfl (wanted_0 rfl) rfl (ptr a5 (a3 + (Int.toNat i) * 1)) (fun _ => vi TyTE.el79 rfl rfl e1 e2) ?_
     refine pr (i := 4) rfl (wanted_0 rfl) rfl (.slice x b5 d0) (fun _ he => vl TyTE.agg69 rfl (Ext.cell he (Ext.cell b7 d5))) ?_
     refine pp (i := 5) rfl (wanted_0 rfl) rfl (.int .i64 k) (fun _ => vm rfl) ?_
     obtain ⟨c7, c9, c3, g0, g4, Hq⟩ := H
     subst c3
     have H := Hq; clear Hq
     refine pp (i := 6) rfl (wanted_0 rfl) rfl (ptr c7 (c9 + (Int.toNat k) * 2)) (fun _ => vi TyTE.el69 rfl rfl g0 g4) ?_
     obtain ⟨b8, a6, f2, f3, H⟩ := H
     refine pr (i := 7) rfl (wanted_0 rfl) rfl (.agg #[(.bool b8), (.string a6)]) (fun _ he => vL (vs := [(.bool b8), (.string a6)]) TyTE.agg95 TyTE.sz95 rfl (cc (Ext.cell he (Ext.cell b7 f2)) (cc (Ext.cell he (Ext.cell b7 f3)) cn))) ?_
     refine pp (i := 8) rfl (wanted_0 rfl) rfl (ptr b 1) (fun _ => vf TyTE.fld81_1 (b := b) (o := 0) rfl) ?_
     refine pr (i := 9) rfl (wanted_0 rfl) rfl (.slice (some ⟨a8, b0, none⟩) a4 a9) (fun _ he => vl TyTE.agg79 rfl (Ext.cell he (rc e0 rfl))) ?_
     refine pp (i := 10) rfl (wanted_0 rfl) rfl (.int .i64 i) (fun _ => vm rfl) ?_
     obtain ⟨g1, g6, H⟩ := H
     refine pp (i := 11) rfl (wanted_0 rfl) rfl (ptr a8 (b0 + (Int.toNat i) * 1)) (fun _ => vi TyTE.el79 rfl rfl g1 g6) ?_
     refine pr (i := 12) rfl (wanted_0 rfl) rfl (.slice c8 b2 c2) (fun _ he => vl TyTE.agg69 rfl (Ext.cell he (Ext.cell b7 d8))) ?_
     refine pp (i := 13) rfl (wanted_0 rfl) rfl (.int .i64 k) (fun _ => vm rfl) ?_
     obtain ⟨c0, b9, c3, g2, f5, Hq⟩ := H
     subst c3
     have H := Hq; clear Hq
     refine pp (i := 14) rfl (wanted_0 rfl) rfl (ptr c0 (b9 + (Int.toNat k) * 2)) (fun _ => vi TyTE.el69 rfl rfl g2 f5) ?_
     obtain ⟨a7, a1, f4, e8, H⟩ := H
     refine pr (i := 15) rfl (wanted_0 rfl) rfl (.agg #[(.bool a7), (.string a1)]) (fun _ he => vL (vs := [(.bool a7), (.string a1)]) TyTE.agg95 TyTE.sz95 rfl (cc (Ext.cell he (Ext.cell b7 f4)) (cc (Ext.cell he (Ext.cell b7 e8)) cn))) ?_
     refine pp (i := 16) rfl (wanted_0 rfl) rfl (.bool (!((b8 == a7 && (a6 == a1 && true))))) (fun _ => hv_structEq (xs := [(.bool b8), (.string a6)]) (ys := [(.bool a7), (.string a1)]) (b := (b8 == a7 && (a6 == a1 && true))) TyTE.se95 rfl rfl (by kernel_rfl) rfl) ?_
     refine hp_nil ?_
     refine qn ?_
     refine xc (b := !((b8 == a7 && (a6 == a1 && true)))) rfl (fun d7 => ?_) (fun d7 => ?_)
     ·replace H := H.1 d7
      refine xs (xr ?_)
      refine lv rfl rfl (va rfl) ?_
      refine ln (qn (xt (br (qr (qr (br (br (qr (qr (br (qr ?_)))))))))))
      replace H := H h2 b7
      exact endQ_ret _ (res_one Tryz.results63 (rv_tmp rfl)) H
     ·replace H := H.2 d7
      refine xi (bn (qn (xr ?_)))
      refine lv rfl rfl (vm rfl) (lv rfl rfl (vr rfl rfl rfl) (lv rfl rfl (va rfl) ?_))
      refine ln (qn ?_)
      exact ⟨IntKind.i64.wrap (k + 1), ⟨⟨H.1, rfl⟩, H.2⟩, (hc rfl (hc rfl (hc rfl (hc rfl hn))))⟩
    ·replace H := H.2 d2
     refine xe (qe (qe (bh (bn (qn (xr ?_))))))
     refine lv rfl rfl (vm rfl) (lv rfl rfl (vr rfl rfl rfl) (lv rfl rfl (va rfl) ?_))
     refine ln (qn ?_)
     exact ⟨IntKind.i64.wrap (i + 1), ⟨⟨H.1, rfl⟩, H.2⟩, (hc rfl (hc rfl (hc rfl hn)))⟩
  ·replace H := H.2 d4
   refine xe (qe (qe (bh (qn (xs (xr ?_))))))
   refine lv rfl rfl (va rfl) ?_
   refine ln (qn (xt ?_))
   replace H := H h2 b7
   exact endQ_ret _ (res_one Tryz.results63 (rv_tmp rfl)) H
theorem f64_sh (b6 : Nat) (c0 : Nat) (a1 : Int) (b5 : Option Addr) (a9 : Nat) (b0 : Nat) (n : Int) (h : Heap) (R : Value → Heap → Prop)
  (H : ((0 : Int) ≤ n ∧ ((((Int.tmod (Int.fdiv a1 (2 ^ min (Int.toNat n) 64)) 2) == 1) = true → (∀ (h1 : Heap), Ext h h1 → R (.bool false) h1)) ∧ (((Int.tmod (Int.fdiv a1 (2 ^ min (Int.toNat n) 64)) 2) == 1) = false → (∃ (I9 : Int → Prop) (c9 : Int → Nat), I9 0 ∧ (∀ (i : Int), I9 i → (∃ d0 : Option Addr, ∃ c6 d1 : Nat, hcell h b6 c0 = some (.slice d0 c6 d1) ∧ (((decide (i < (c6 : Int))) = true → (∃ j : Bool, ((0 : Int) ≤ i ∧ ((((Int.tmod (Int.fdiv a1 (2 ^ min (Int.toNat i) 64)) 2) == 0) = true → (((i != n) = true → (∃ a3 a2 : Nat, d0 = some ⟨a3, a2, none⟩ ∧ (0 : Int) ≤ i ∧ i < (c6 : Int) ∧ (∃ b9 : Int, ∃ c3 b4 : ByteArray, ∃ c5 : Int, ∃ c4 : Bool, ∃ b8 c1 c7 : Int, hcell h a3 (a2 + (Int.toNat i) * 8) = some (.int .i64 b9) ∧ hcell h a3 ((a2 + (Int.toNat i) * 8) + 1) = some (.string c3) ∧ hcell h a3 ((a2 + (Int.toNat i) * 8) + 2) = some (.string b4) ∧ hcell h a3 ((a2 + (Int.toNat i) * 8) + 3) = some (.int .i64 c5) ∧ hcell h a3 ((a2 + (Int.toNat i) * 8) + 4) = some (.bool c4) ∧ hcell h a3 ((a2 + (Int.toNat i) * 8) + 5) = some (.int .i64 b8) ∧ hcell h a3 ((a2 + (Int.toNat i) * 8) + 6) = some (.int .i64 c1) ∧ hcell h a3 ((a2 + (Int.toNat i) * 8) + 7) = some (.int .i64 c7) ∧ ((0 : Int) ≤ n ∧ n < (c6 : Int) ∧ (∃ a5 : Int, ∃ b1 a4 : ByteArray, ∃ b3 : Int, ∃ b2 : Bool, ∃ a7 a6 b7 : Int, hcell h a3 (a2 + (Int.toNat n) * 8) = some (.int .i64 a5) ∧ hcell h a3 ((a2 + (Int.toNat n) * 8) + 1) = some (.string b1) ∧ hcell h a3 ((a2 + (Int.toNat n) * 8) + 2) = some (.string a4) ∧ hcell h a3 ((a2 + (Int.toNat n) * 8) + 3) = some (.int .i64 b3) ∧ hcell h a3 ((a2 + (Int.toNat n) * 8) + 4) = some (.bool b2) ∧ hcell h a3 ((a2 + (Int.toNat n) * 8) + 5) = some (.int .i64 a7) ∧ hcell h a3 ((a2 + (Int.toNat n) * 8) + 6) = some (.int .i64 a6) ∧ hcell h a3 ((a2 + (Int.toNat n) * 8) + 7) = some (.int .i64 b7) ∧ (j = (Ml.ahB ⟨b9, c3, b4, c5, c4, b8, c1, c7⟩ ⟨a5, b1, a4, b3, b2, a7, a6, b7⟩))))))) ∧ ((i != n) = false → (j = false)))) ∧ (((Int.tmod (Int.fdiv a1 (2 ^ min (Int.toNat i) 64)) 2) == 0) = false → (j = false)))) ∧ ((j = true → (∀ (h3 : Heap), Ext h h3 → R (.bool false) h3)) ∧ (j = false → (I9 (IntKind.i64.wrap (i + 1)) ∧ c9 (IntKind.i64.wrap (i + 1)) < c9 i))))) ∧ ((decide (i < (c6 : Int))) = false → (∀ (h2 : Heap), Ext h h2 → R (.bool true) h2)))))))))) :
  HC Tryz.prog 64 #[(ptr b6 c0), (.agg #[(.int .i64 a1), (.slice b5 a9 b0)]), (.int .i64 n)] h R := by
 refine hc_of (args := [(ptr b6 c0), (.agg #[(.int .i64 a1), (.slice b5 a9 b0)]), (.int .i64 n)]) Tryz.func64 rfl Tryz.ntmps64 (Nat.le_of_ble_eq_true rfl) ?_
 refine xs (xr ?_)
 refine lp rfl rfl (hn_box (v := (.agg #[(.int .i64 a1), (.slice b5 a9 b0)])) rfl ?_)
 intro x h1 e1 e2
 have e0 := ext_pushed_f14_sh e2
 have i2 : Array.size h ≤ x := Nat.le_of_eq (Eq.symm e1)
 have e3 : h1[x]? = some (.cells #[(.int .i64 a1), (.slice b5 a9 b0)] 81 (0, 0)) := by rw [e2]; exact push_new e1
 refine lv rfl rfl (va rfl) ?_
 refine ln (qn (xs (xs (xr ?_))))
 refine lv rfl rfl (v := (ptr x 0)) (vf TyTE.fld81_0 (b := x) (o := 0) rfl) (lv rfl rfl (vl TyTE.agg3 rfl (rc e3 rfl)) (lv rfl rfl (vm rfl) ?_))
 obtain ⟨g7, H⟩ := H
 refine lv rfl rfl (v := (.int .i64 (Int.fdiv a1 (2 ^ min (Int.toNat n) 64)))) (hv_shift rfl rfl g7 rfl) (lv rfl rfl (v := (.int .i64 (Int.tmod (Int.fdiv a1 (2 ^ min (Int.toNat n) 64)) 2))) (hv_rem rfl rfl (by decide)) (lv rfl rfl (vr rfl rfl rfl) ?_))
 refine ln (qn ?_)
 refine xc (b := (Int.tmod (Int.fdiv a1 (2 ^ min (Int.toNat n) 64)) 2) == 1) rfl (fun d8 => ?_) (fun d8 => ?_)
 ·replace H := H.1 d8
  refine xs (xr ?_)
  refine lv rfl rfl (va rfl) ?_
  refine ln (qn (xt (qr ?_)))
  replace H := H h1 e0
  exact endQ_ret _ (res_one Tryz.results64 (rv_tmp rfl)) H
 ·replace H := H.2 d8
  refine xi (qn (xs (xs (xr ?_))))
  refine lv rfl rfl (va rfl) ?_
  refine ln (qn (xb ?_))
  obtain ⟨I9, c9, g0, g6⟩ := H
  refine xl (σ := Int) (fun s => [(0, (ptr b6 c0)), (2, (.int .i64 n)), (4, (ptr x 0)), (7, (.int .i64 s))]) (fun s h' => I9 s ∧ Ext h h' ∧ h'[x]? = some (.cells #[(.int .i64 a1), (.slice b5 a9 b0)] 81 (0, 0)) ∧ True) (fun s _ => c9 s) 0 ⟨g0, e0, e3, trivial⟩ (hc rfl (hc rfl (hc rfl (hc rfl hn)))) ?_
  rintro i ρ h2 ⟨e9, a8, c8, -⟩
  have H := g6 i e9
  refine xs (xs (xr ?_))
  refine lv rfl rfl (vm rfl) (lv rfl rfl (vm rfl) (lv rfl rfl (v := (ptr b6 c0)) (hv_nil rfl) (lv rfl rfl (v := (ptr b6 c0)) (vf TyTE.fld78_0 (b := b6) (o := c0) rfl) ?_)))
  obtain ⟨d0, c6, d1, d2, H⟩ := H
  refine lv rfl rfl (vl TyTE.agg22 rfl (Ext.cell a8 d2)) (lv rfl rfl (v := (.int .i64 (c6 : Int))) (hv_len (n := c6) TyTE.u22 rfl) (lv rfl rfl (vr rfl rfl rfl) ?_))
  refine ln (qn ?_)
  refine xc (b := decide (i < (c6 : Int))) rfl (fun d4 => ?_) (fun d4 => ?_)
  ·replace H := H.1 d4
   refine xi (qn (xs (xb ?_)))
   obtain ⟨j, d6, d3⟩ := H
   refine xk (fun ρ h' => (Ext h h' ∧ h'[x]? = some (.cells #[(.int .i64 a1), (.slice b5 a9 b0)] 81 (0, 0)) ∧ True) ∧ Has ρ [(0, (ptr b6 c0)), (2, (.int .i64 n)), (4, (ptr x 0)), (7, (.int .i64 i)), (50, (.bool j))]) ?_ ?_
   ·have H := d6; clear d6 d3
    refine hx_draw TyTE.mixed [.pure, .read, .pure, .pure, .pure, .pure, .pure, .pure, .pure, .pure, .pure, .pure, .pure, .pure, .pure, .read, .pure, .pure, .read, .pure, .pure, .pure, .read, .pure, .pure, .read, .ext, .pure] [0, 1, 2, 3, 4, 5, 6, 7, 8, 9, 10, 11, 12, 13, 14, 15, 16, 17, 18, 19, 20, 21, 22, 23, 24, 25, 26, 27] (by kernel_rfl) ?_
    refine pp (i := 0) rfl (wanted_0 rfl) rfl (ptr x 0) (fun _ => vf TyTE.fld81_0 (b := x) (o := 0) rfl) ?_
    refine pr (i := 1) rfl (wanted_0 rfl) rfl (.int .i64 a1) (fun _ he => vl TyTE.agg3 rfl (Ext.cell he (rc c8 rfl))) ?_
    refine pp (i := 2) rfl (wanted_0 rfl) rfl (.int .i64 i) (fun _ => vm rfl) ?_
    obtain ⟨e6, H⟩ := H
    refine pp (i := 3) rfl (wanted_0 rfl) rfl (.int .i64 (Int.fdiv a1 (2 ^ min (Int.toNat i) 64))) (fun _ => hv_shift rfl rfl e6 rfl) ?_
    refine pp (i := 4) rfl (wanted_0 rfl) rfl (.int .i64 (Int.tmod (Int.fdiv a1 (2 ^ min (Int.toNat i) 64)) 2)) (fun _ => hv_rem rfl rfl (by decide)) ?_
    refine pp (i := 5) rfl (wanted_0 rfl) rfl (.bool ((Int.tmod (Int.fdiv a1 (2 ^ min (Int.toNat i) 64)) 2) == 0)) (fun _ => vr rfl rfl rfl) ?_
    refine pp (i := 6) rfl (wanted_0 rfl) rfl (.bool ((Int.tmod (Int.fdiv a1 (2 ^ min (Int.toNat i) 64)) 2) == 0)) (fun _ => vm rfl) ?_
    rcases bool_or ((Int.tmod (Int.fdiv a1 (2 ^ min (Int.toNat i) 64)) 2) == 0) with c2 | c2
    ·replace H := H.1 c2
     refine pp (i := 7) rfl (wanted_y rfl rfl rfl c2) rfl (.int .i64 i) (fun _ => vm rfl) ?_
     refine pp (i := 8) rfl (wanted_y rfl rfl rfl c2) rfl (.int .i64 n) (fun _ => vm rfl) ?_
     refine pp (i := 9) rfl (wanted_y rfl rfl rfl c2) rfl (.bool (i != n)) (fun _ => vr rfl rfl rfl) ?_
     refine pp (i := 10) rfl (wanted_0 rfl) rfl (.bool (i != n)) (fun _ => hv_pick_t rfl c2 rfl) ?_
     refine pp (i := 11) rfl (wanted_0 rfl) rfl (.bool (i != n)) (fun _ => vm rfl) ?_
     rcases bool_or (i != n) with a0 | a0
     ·replace H := H.1 a0
      refine pp (i := 12) rfl (wanted_y rfl rfl rfl a0) rfl (ptr b6 c0) (fun _ => vm rfl) ?_
      refine pp (i := 13) rfl (wanted_y rfl rfl rfl a0) rfl (ptr b6 c0) (fun _ => hv_nil rfl) ?_
      refine pp (i := 14) rfl (wanted_y rfl rfl rfl a0) rfl (ptr b6 c0) (fun _ => vf TyTE.fld78_0 (b := b6) (o := c0) rfl) ?_
      refine pr (i := 15) rfl (wanted_y rfl rfl rfl a0) rfl (.slice d0 c6 d1) (fun _ he => vl TyTE.agg22 rfl (Ext.cell he (Ext.cell a8 d2))) ?_
      refine pp (i := 16) rfl (wanted_y rfl rfl rfl a0) rfl (.int .i64 i) (fun _ => vm rfl) ?_
      obtain ⟨a3, a2, i1, g5, e7, Hq⟩ := H
      subst i1
      have H := Hq; clear Hq
      refine pp (i := 17) rfl (wanted_y rfl rfl rfl a0) rfl (ptr a3 (a2 + (Int.toNat i) * 8)) (fun _ => vi TyTE.el22 rfl rfl g5 e7) ?_
      obtain ⟨b9, c3, b4, c5, c4, b8, c1, c7, f2, e8, e5, g1, g3, g2, f1, f6, H⟩ := H
      refine pr (i := 18) rfl (wanted_y rfl rfl rfl a0) rfl (.agg #[(.int .i64 b9), (.string c3), (.string b4), (.int .i64 c5), (.bool c4), (.int .i64 b8), (.int .i64 c1), (.int .i64 c7)]) (fun _ he => vL (vs := [(.int .i64 b9), (.string c3), (.string b4), (.int .i64 c5), (.bool c4), (.int .i64 b8), (.int .i64 c1), (.int .i64 c7)]) TyTE.agg40 TyTE.sz40 rfl (cc (Ext.cell he (Ext.cell a8 f2)) (cc (Ext.cell he (Ext.cell a8 e8)) (cc (Ext.cell he (Ext.cell a8 e5)) (cc (Ext.cell he (Ext.cell a8 g1)) (cc (Ext.cell he (Ext.cell a8 g3)) (cc (Ext.cell he (Ext.cell a8 g2)) (cc (Ext.cell he (Ext.cell a8 f1)) (cc (Ext.cell he (Ext.cell a8 f6)) cn))))))))) ?_
      refine pp (i := 19) rfl (wanted_y rfl rfl rfl a0) rfl (ptr b6 c0) (fun _ => vm rfl) ?_
      refine pp (i := 20) rfl (wanted_y rfl rfl rfl a0) rfl (ptr b6 c0) (fun _ => hv_nil rfl) ?_
      refine pp (i := 21) rfl (wanted_y rfl rfl rfl a0) rfl (ptr b6 c0) (fun _ => vf TyTE.fld78_0 (b := b6) (o := c0) rfl) ?_
      refine pr (i := 22) rfl (wanted_y rfl rfl rfl a0) rfl (.slice (some ⟨a3, a2, none⟩) c6 d1) (fun _ he => vl TyTE.agg22 rfl (Ext.cell he (Ext.cell a8 d2))) ?_
      refine pp (i := 23) rfl (wanted_y rfl rfl rfl a0) rfl (.int .i64 n) (fun _ => vm rfl) ?_
      obtain ⟨g4, i0, H⟩ := H
      refine pp (i := 24) rfl (wanted_y rfl rfl rfl a0) rfl (ptr a3 (a2 + (Int.toNat n) * 8)) (fun _ => vi TyTE.el22 rfl rfl g4 i0) ?_
      obtain ⟨a5, b1, a4, b3, b2, a7, a6, b7, g9, f5, f9, e4, f8, f0, f3, f7, H⟩ := H
      refine pr (i := 25) rfl (wanted_y rfl rfl rfl a0) rfl (.agg #[(.int .i64 a5), (.string b1), (.string a4), (.int .i64 b3), (.bool b2), (.int .i64 a7), (.int .i64 a6), (.int .i64 b7)]) (fun _ he => vL (vs := [(.int .i64 a5), (.string b1), (.string a4), (.int .i64 b3), (.bool b2), (.int .i64 a7), (.int .i64 a6), (.int .i64 b7)]) TyTE.agg40 TyTE.sz40 rfl (cc (Ext.cell he (Ext.cell a8 g9)) (cc (Ext.cell he (Ext.cell a8 f5)) (cc (Ext.cell he (Ext.cell a8 f9)) (cc (Ext.cell he (Ext.cell a8 e4)) (cc (Ext.cell he (Ext.cell a8 f8)) (cc (Ext.cell he (Ext.cell a8 f0)) (cc (Ext.cell he (Ext.cell a8 f3)) (cc (Ext.cell he (Ext.cell a8 f7)) cn))))))))) ?_
      refine hp_ext (i := 26) rfl (wanted_y rfl rfl rfl a0) rfl (sc TyTE.cb85 rfl (HC.mono (rahead_c (⟨b9, c3, b4, c5, c4, b8, c1, c7⟩) (⟨a5, b1, a4, b3, b2, a7, a6, b7⟩) _) ?_))
      rintro _ h4 ⟨rfl, d5⟩
      refine ⟨d5, ?_⟩
      replace c8 := Ext.row d5 c8
      have g8 := Ext.trans a8 d5
      refine pp (i := 27) rfl (wanted_0 rfl) rfl (.bool (Ml.ahB ⟨b9, c3, b4, c5, c4, b8, c1, c7⟩ ⟨a5, b1, a4, b3, b2, a7, a6, b7⟩)) (fun _ => hv_pick_t rfl a0 rfl) ?_
      refine hp_nil ?_
      refine qn ?_
      obtain rfl := H
      exact ⟨⟨g8, c8, trivial⟩, (hc rfl (hc rfl (hc rfl (hc rfl (hc rfl hn)))))⟩
     ·replace H := H.2 a0
      refine pn (i := 12) rfl (wanted_n rfl rfl rfl a0) ?_
      refine pn (i := 13) rfl (wanted_n rfl rfl rfl a0) ?_
      refine pn (i := 14) rfl (wanted_n rfl rfl rfl a0) ?_
      refine pn (i := 15) rfl (wanted_n rfl rfl rfl a0) ?_
      refine pn (i := 16) rfl (wanted_n rfl rfl rfl a0) ?_
      refine pn (i := 17) rfl (wanted_n rfl rfl rfl a0) ?_
      refine pn (i := 18) rfl (wanted_n rfl rfl rfl a0) ?_
      refine pn (i := 19) rfl (wanted_n rfl rfl rfl a0) ?_
      refine pn (i := 20) rfl (wanted_n rfl rfl rfl a0) ?_
      refine pn (i := 21) rfl (wanted_n rfl rfl rfl a0) ?_
      refine pn (i := 22) rfl (wanted_n rfl rfl rfl a0) ?_
      refine pn (i := 23) rfl (wanted_n rfl rfl rfl a0) ?_
      refine pn (i := 24) rfl (wanted_n rfl rfl rfl a0) ?_
      refine pn (i := 25) rfl (wanted_n rfl rfl rfl a0) ?_
      refine pn (i := 26) rfl (wanted_n rfl rfl rfl a0) ?_
      refine pp (i := 27) rfl (wanted_0 rfl) rfl (.bool false) (fun _ => hv_pick_f rfl a0 rfl) ?_
      refine hp_nil ?_
      refine qn ?_
      obtain rfl := H
      exact ⟨⟨a8, c8, trivial⟩, (hc rfl (hc rfl (hc rfl (hc rfl (hc rfl hn)))))⟩
    ·replace H := H.2 c2
     refine pn (i := 7) rfl (wanted_n rfl rfl rfl c2) ?_
     refine pn (i := 8) rfl (wanted_n rfl rfl rfl c2) ?_
     refine pn (i := 9) rfl (wanted_n rfl rfl rfl c2) ?_
     refine pp (i := 10) rfl (wanted_0 rfl) rfl (.bool false) (fun _ => hv_pick_f rfl c2 rfl) ?_
     refine pp (i := 11) rfl (wanted_0 rfl) rfl (.bool false) (fun _ => vm rfl) ?_
     refine pn (i := 12) rfl (wanted_n rfl rfl (c := false) rfl rfl) ?_
     refine pn (i := 13) rfl (wanted_n rfl rfl (c := false) rfl rfl) ?_
     refine pn (i := 14) rfl (wanted_n rfl rfl (c := false) rfl rfl) ?_
     refine pn (i := 15) rfl (wanted_n rfl rfl (c := false) rfl rfl) ?_
     refine pn (i := 16) rfl (wanted_n rfl rfl (c := false) rfl rfl) ?_
     refine pn (i := 17) rfl (wanted_n rfl rfl (c := false) rfl rfl) ?_
     refine pn (i := 18) rfl (wanted_n rfl rfl (c := false) rfl rfl) ?_
     refine pn (i := 19) rfl (wanted_n rfl rfl (c := false) rfl rfl) ?_
     refine pn (i := 20) rfl (wanted_n rfl rfl (c := false) rfl rfl) ?_
     refine pn (i := 21) rfl (wanted_n rfl rfl (c := false) rfl rfl) ?_
     refine pn (i := 22) rfl (wanted_n rfl rfl (c := false) rfl rfl) ?_
     refine pn (i := 23) rfl (wanted_n rfl rfl (c := false) rfl rfl) ?_
     refine pn (i := 24) rfl (wanted_n rfl rfl (c := false) rfl rfl) ?_
     refine pn (i := 25) rfl (wanted_n rfl rfl (c := false) rfl rfl) ?_
     refine pn (i := 26) rfl (wanted_n rfl rfl (c := false) rfl rfl) ?_
     refine pp (i := 27) rfl (wanted_0 rfl) rfl (.bool false) (fun _ => hv_pick (t := false) rfl rfl) ?_
     refine hp_nil ?_
     refine qn ?_
     obtain rfl := H
     exact ⟨⟨a8, c8, trivial⟩, (hc rfl (hc rfl (hc rfl (hc rfl (hc rfl hn)))))⟩
   ·have H := d3; clear d6 d3
    rintro ρ h3 ⟨⟨d9, f4, -⟩, hH⟩
    refine xh _ hH ?_
    refine xc (b := j) rfl (fun d7 => ?_) (fun d7 => ?_)
    ·replace H := H.1 d7
     refine xs (xr ?_)
     refine lv rfl rfl (va rfl) ?_
     refine ln (qn (xt (br (qr (qr (br (qr ?_)))))))
     replace H := H h3 d9
     exact endQ_ret _ (res_one Tryz.results64 (rv_tmp rfl)) H
    ·replace H := H.2 d7
     refine xi (bn (qn (xr ?_)))
     refine lv rfl rfl (vm rfl) (lv rfl rfl (vr rfl rfl rfl) (lv rfl rfl (va rfl) ?_))
     refine ln (qn ?_)
     exact ⟨IntKind.i64.wrap (i + 1), ⟨⟨H.1, d9, f4, trivial⟩, H.2⟩, (hc rfl (hc rfl (hc rfl (hc rfl hn))))⟩
  ·replace H := H.2 d4
   refine xe (qe (qe (bh (qn (xs (xr ?_))))))
   refine lv rfl rfl (va rfl) ?_
   refine ln (qn (xt ?_))
   replace H := H h2 a8
   exact endQ_ret _ (res_one Tryz.results64 (rv_tmp rfl)) H
theorem f65_sh (c0 : Nat) (c1 : Nat) (a6 : Int) (b8 : Option Addr) (a8 : Nat) (a9 : Nat) (n : Int) (h : Heap) (R : Value → Heap → Prop)
  (H : (∃ g8 : Nat → Nat → Nat → Heap → Prop, (∃ g5 : Heap → Heap → Prop, Fit g5 ∧ (∀ (x : Nat) (pb : Nat) (h2 : Heap), Array.size h ≤ x → x < Array.size h2 → Array.size h ≤ pb → pb < Array.size h2 → Ext h h2 → ((∀ ys, h2[x]? = some (.cells ys 81 (0, 0)) → ∀ hx, g5 h2 hx → Kp [x] h2 hx) ∧ ((0 : Int) ≤ n ∧ (((∀ e0 e6, e0 = Array.size h2 → e6 = Array.push h2 (.cells #[] 69) → ((HAppend Tryz.prog 79 79 (.slice (some ⟨e0, 0, none⟩) 0 0) (.slice b8 a8 a9) e6 (fun vv g9 => g5 e6 g9 ∧ Kp [pb] e6 g9 ∧ ∃ a7 : Option Addr, ∃ a3 a5 : Nat, vv = (.slice a7 a3 a5) ∧ (∀ b5 i1, b5 = Array.size g9 → i1 = Array.push g9 (.cells #[(.int .i64 0), (.slice none 0 0)] 81) → (HWs i1 b5 0 2 ∧ Off b5 [pb] ∧ ∀ k1, k1 = hsets i1 b5 0 [(.int .i64 (IntKind.i64.wrap (a6 + (IntKind.i64.wrap (1 * 2 ^ min (Int.toNat n) 64))))), (.slice a7 a3 a5)] → (g8 b5 0 pb k1))))) ∧ ((∀ b5 g4, b5 = Array.size e6 → g4 = Array.push e6 (.cells #[(.int .i64 0), (.slice none 0 0)] 81) → HAppend Tryz.prog 79 79 (.slice (some ⟨e0, 0, none⟩) 0 0) (.slice b8 a8 a9) g4 (fun vv j2 => g5 g4 j2 ∧ Kp [pb] g4 j2 ∧ ∃ a7 : Option Addr, ∃ a3 a5 : Nat, vv = (.slice a7 a3 a5) ∧ (HWs j2 b5 0 2 ∧ Off b5 [pb] ∧ ∀ k6, k6 = hsets j2 b5 0 [(.int .i64 (IntKind.i64.wrap (a6 + (IntKind.i64.wrap (1 * 2 ^ min (Int.toNat n) 64))))), (.slice a7 a3 a5)] → (g8 b5 0 pb k6)))))))) ∧ ((∀ b5 g6, b5 = Array.size h2 → g6 = Array.push h2 (.cells #[(.int .i64 0), (.slice none 0 0)] 81) → (∀ e0 g3, e0 = Array.size g6 → g3 = Array.push g6 (.cells #[] 69) → HAppend Tryz.prog 79 79 (.slice (some ⟨e0, 0, none⟩) 0 0) (.slice b8 a8 a9) g3 (fun vv j1 => g5 g3 j1 ∧ Kp [pb] g3 j1 ∧ ∃ a7 : Option Addr, ∃ a3 a5 : Nat, vv = (.slice a7 a3 a5) ∧ (HWs j1 b5 0 2 ∧ Off b5 [pb] ∧ ∀ k8, k8 = hsets j1 b5 0 [(.int .i64 (IntKind.i64.wrap (a6 + (IntKind.i64.wrap (1 * 2 ^ min (Int.toNat n) 64))))), (.slice a7 a3 a5)] → (g8 b5 0 pb k8))))))))))) ∧ (∀ (c9 : Nat) (c7 : Nat) (pb : Nat) (h3 : Heap), g8 c9 c7 pb h3 → Array.size h ≤ pb → pb < Array.size h3 → (∃ k3 : Option Addr, ∃ j0 l3 : Nat, hcell h3 c0 c1 = some (.slice k3 j0 l3) ∧ (∃ b3 b2 : Nat, k3 = some ⟨b3, b2, none⟩ ∧ (0 : Int) ≤ n ∧ n < (j0 : Int) ∧ (∃ b7 : Int, ∃ b4 b0 : ByteArray, ∃ c8 : Int, ∃ c5 : Bool, ∃ b6 b9 d7 : Int, hcell h3 b3 (b2 + (Int.toNat n) * 8) = some (.int .i64 b7) ∧ hcell h3 b3 ((b2 + (Int.toNat n) * 8) + 1) = some (.string b4) ∧ hcell h3 b3 ((b2 + (Int.toNat n) * 8) + 2) = some (.string b0) ∧ hcell h3 b3 ((b2 + (Int.toNat n) * 8) + 3) = some (.int .i64 c8) ∧ hcell h3 b3 ((b2 + (Int.toNat n) * 8) + 4) = some (.bool c5) ∧ hcell h3 b3 ((b2 + (Int.toNat n) * 8) + 5) = some (.int .i64 b6) ∧ hcell h3 b3 ((b2 + (Int.toNat n) * 8) + 6) = some (.int .i64 b9) ∧ hcell h3 b3 ((b2 + (Int.toNat n) * 8) + 7) = some (.int .i64 d7) ∧ (((!(Ml.keyed ⟨b7, b4, b0, c8, c5, b6, b9, d7⟩)) = true → (∃ a4 : Int, ∃ a2 : Option Addr, ∃ a1 a0 : Nat, hcell h3 c9 c7 = some (.int .i64 a4) ∧ hcell h3 c9 (c7 + 1) = some (.slice a2 a1 a0) ∧ (∀ (e4 : Heap), Ext h3 e4 → (∀ i9, Fr (fun i => i = pb) e4 i9 → (∃ ys, e4[pb]? = some (.cells ys 81 (0, 0))) → R (.tuple #[(.agg #[(.int .i64 a4), (.slice a2 a1 a0)]), (.bool true)]) i9)))) ∧ ((!(Ml.keyed ⟨b7, b4, b0, c8, c5, b6, b9, d7⟩)) = false → (∃ j3 : Option Addr, ∃ e9 e7 : Nat, hcell h3 c0 (c1 + 1) = some (.slice j3 e9 e7) ∧ (∀ (e4 : Heap), Ext h3 e4 → HC Tryz.prog 86 #[(.slice j3 e9 e7), (.string b4)] e4 (fun vv d3 => Kp [pb] e4 d3 ∧ ∃ r : Int, vv = (.int .i64 r) ∧ (∃ g7 : Heap → Heap → Prop, Fit g7 ∧ (∃ k9 : Option Addr, ∃ g2 i3 : Nat, (∀ hx, g7 d3 hx → hcell hx c9 (c7 + 1) = some (.slice k9 g2 i3)) ∧ (∃ l2 : Option Addr, ∃ g0 i4 : Nat, hcell d3 c9 (c7 + 1) = some (.slice l2 g0 i4) ∧ (∃ f9 f7 : Nat, l2 = some ⟨f9, f7, none⟩ ∧ (0 : Int) ≤ r ∧ r < (g0 : Int) ∧ (∃ i8 : Option Addr, ∃ f3 f0 : Nat, hcell d3 f9 (f7 + (Int.toNat r) * 1) = some (.slice i8 f3 f0) ∧ (∃ k5 : Option Addr, ∃ g1 i6 : Nat, hcell d3 c0 c1 = some (.slice k5 g1 i6) ∧ (∃ c6 c4 : Nat, k5 = some ⟨c6, c4, none⟩ ∧ (0 : Int) ≤ n ∧ n < (g1 : Int) ∧ (∃ d2 : Int, ∃ d4 c3 : ByteArray, ∃ d6 : Int, ∃ d5 : Bool, ∃ d1 d0 e1 : Int, hcell d3 c6 (c4 + (Int.toNat n) * 8) = some (.int .i64 d2) ∧ hcell d3 c6 ((c4 + (Int.toNat n) * 8) + 1) = some (.string d4) ∧ hcell d3 c6 ((c4 + (Int.toNat n) * 8) + 2) = some (.string c3) ∧ hcell d3 c6 ((c4 + (Int.toNat n) * 8) + 3) = some (.int .i64 d6) ∧ hcell d3 c6 ((c4 + (Int.toNat n) * 8) + 4) = some (.bool d5) ∧ hcell d3 c6 ((c4 + (Int.toNat n) * 8) + 5) = some (.int .i64 d1) ∧ hcell d3 c6 ((c4 + (Int.toNat n) * 8) + 6) = some (.int .i64 d0) ∧ hcell d3 c6 ((c4 + (Int.toNat n) * 8) + 7) = some (.int .i64 e1) ∧ HC Tryz.prog 87 #[(.slice i8 f3 f0), (.agg #[(.int .i64 d2), (.string d4), (.string c3), (.int .i64 d6), (.bool d5), (.int .i64 d1), (.int .i64 d0), (.int .i64 e1)])] d3 (fun vv i7 => g7 d3 i7 ∧ Kp [pb] d3 i7 ∧ ∃ l1 : Option Addr, ∃ l0 k7 : Nat, vv = (.slice l1 l0 k7) ∧ (∃ e3 f1 : Nat, k9 = some ⟨e3, f1, none⟩ ∧ (0 : Int) ≤ r ∧ r < (g2 : Int) ∧ (HW i7 e3 (f1 + (Int.toNat r) * 1) ∧ Off e3 [pb] ∧ ∀ e5, e5 = hset i7 e3 (f1 + (Int.toNat r) * 1) (.slice l1 l0 k7) → (∃ f4 : Heap → Heap → Prop, Fit f4 ∧ (∃ a4 : Int, ∃ a2 : Option Addr, ∃ a1 a0 : Nat, hcell e5 c9 c7 = some (.int .i64 a4) ∧ hcell e5 c9 (c7 + 1) = some (.slice a2 a1 a0) ∧ (∃ k4 : Option Addr, ∃ f8 i5 : Nat, (∀ hx, f4 e5 hx → hcell hx c9 (c7 + 1) = some (.slice k4 f8 i5)) ∧ (∃ f5 f6 : Nat, k4 = some ⟨f5, f6, none⟩ ∧ (0 : Int) ≤ r ∧ r < (f8 : Int) ∧ (∃ m1 : Option Addr, ∃ d9 i2 : Nat, (∀ hx, f4 e5 hx → hcell hx f5 (f6 + (Int.toNat r) * 1) = some (.slice m1 d9 i2)) ∧ (∀ i0, Fr (fun i => i = pb) e5 i0 → (∃ ys, e5[pb]? = some (.cells ys 81 (0, 0))) → f4 e5 i0 ∧ R (.tuple #[(.agg #[(.int .i64 a4), (.slice a2 a1 a0)]), (.bool (decide ((d9 : Int) > 0)))]) i0)))))))))))))))))))))))))))) :
  HC Tryz.prog 65 #[(ptr c0 c1), (.agg #[(.int .i64 a6), (.slice b8 a8 a9)]), (.int .i64 n)] h R := by
 refine hc_of (args := [(ptr c0 c1), (.agg #[(.int .i64 a6), (.slice b8 a8 a9)]), (.int .i64 n)]) Tryz.func65 rfl Tryz.ntmps65 (Nat.le_of_ble_eq_true rfl) ?_
 refine xs (xr ?_)
 refine lp rfl rfl (hn_box (v := (.agg #[(.int .i64 a6), (.slice b8 a8 a9)])) rfl ?_)
 intro x h1 q6 q7
 have q5 := ext_pushed_f14_sh q7
 have u1 : Array.size h ≤ x := Nat.le_of_eq (Eq.symm q6)
 have d8 : h1[x]? = some (.cells #[(.int .i64 a6), (.slice b8 a8 a9)] 81 (0, 0)) := by rw [q7]; exact push_new q6
 refine lp rfl rfl (hn_alloc TyTE.z81 ?_)
 intro pb h2 m5 q8
 have q9 := ext_pushed_f14_sh q8
 have u2 := Nat.ne_of_lt (Nat.lt_of_lt_of_eq (row_lt d8) (Eq.symm m5))
 have m3 : Array.size h ≤ pb := Nat.le_trans (Ext.size q5) (Nat.le_of_eq (Eq.symm m5))
 have b1 : h2[pb]? = some (.cells #[(.int .i64 0), (.slice none 0 0)] 81 (0, 0)) := by rw [q8]; exact push_new m5
 replace d8 := Ext.row q9 d8
 have r8 := Ext.trans q5 q9
 refine lv rfl rfl (va rfl) ?_
 refine ln (qn ?_)
 obtain ⟨g8, j9, j8⟩ := H
 refine xk (fun ρ h' => ∃ c9 c7 : Nat, (g8 c9 c7 pb h' ∧ h'[pb]? = some (.cells #[(.int .i64 0), (.slice none 0 0)] 81 (0, 0)) ∧ True) ∧ Has ρ [(0, (ptr c0 c1)), (2, (.int .i64 n)), (6, (ptr pb 0)), (8, (ptr c9 c7))]) ?_ ?_
 ·have H := j9; clear j9 j8
  obtain ⟨g5, r9, H⟩ := H
  refine hx_tree TyTE.mixed g5 r9 [.pure, .stay, .pure, .pure, .pure, .ext, .pure, .read, .tame, .pure, .ext, .wild] (.one 0 (.one 1 (.one 2 (.one 3 (.one 4 (.one 6 (.one 7 (.fork [5, 10] fun k => bif k == 5 then (.fork [8, 10] fun k => bif k == 8 then (.one 9 (.one 10 (.one 11 .done))) else (.one 8 (.one 9 (.one 11 .done)))) else (.one 5 (.one 8 (.one 9 (.one 11 .done)))))))))))) (by kernel_rfl) ?_
  refine to (ho_pure (i := 0) rfl (wanted_0 rfl) rfl (ptr x 0) (fun _ => vf TyTE.fld81_0 (b := x) (o := 0) rfl) ?_)
  replace H := H x pb h2 u1 (row_lt d8) m3 (row_lt b1) r8
  obtain ⟨t5, H⟩ := H
  refine to (ho_stay (i := 1) rfl (wanted_0 rfl) rfl (.int .i64 a6) (fun _ he => vl TyTE.agg3 rfl ((fun hx he => rc (Kp.row (t5 _ d8 hx he) (by simp) d8) rfl) _ he)) ?_)
  refine to (ho_pure (i := 2) rfl (wanted_0 rfl) rfl (.int .i64 n) (fun _ => vm rfl) ?_)
  obtain ⟨s1, H⟩ := H
  refine to (ho_pure (i := 3) rfl (wanted_0 rfl) rfl (.int .i64 (IntKind.i64.wrap (1 * 2 ^ min (Int.toNat n) 64))) (fun _ => hv_shift rfl rfl s1 rfl) ?_)
  refine to (ho_pure (i := 4) rfl (wanted_0 rfl) rfl (.int .i64 (IntKind.i64.wrap (a6 + (IntKind.i64.wrap (1 * 2 ^ min (Int.toNat n) 64))))) (fun _ => vr rfl rfl rfl) ?_)
  refine to (ho_pure (i := 6) rfl (wanted_0 rfl) rfl (ptr x 1) (fun _ => vf TyTE.fld81_1 (b := x) (o := 0) rfl) ?_)
  refine to (ho_read (i := 7) rfl (wanted_0 rfl) rfl (.slice b8 a8 a9) (fun _ he => vl TyTE.agg79 rfl (Ext.cell he (rc d8 rfl))) ?_)
  refine ht_fork2 rfl rfl ?_ ?_
  ·replace H := H.1
   refine ho_ext (i := 5) rfl (wanted_0 rfl) rfl (hn_buildSlice (n := 0) (vs := []) (cs := #[]) TyTE.u79 TyTE.sz69 TyTE.z69 rfl rfl (by kernel_rfl) ?_)
   intro e0 e6 t8 m6
   replace H := H e0 e6 t8 m6
   have j4 := ext_pushed_f14_sh m6
   replace d8 := Ext.row j4 d8
   replace b1 := Ext.row j4 b1
   refine ⟨j4, ?_⟩
   refine ht_fork2 rfl rfl ?_ ?_
   ·replace H := H.1
    refine ho_tame (i := 8) rfl (wanted_0 rfl) rfl (hs_append rfl rfl (HAppend.mono H ?_))
    rintro _ g9 ⟨r0, r5, a7, a3, a5, rfl, H⟩
    refine ⟨r0, ?_⟩
    replace b1 := Kp.row r5 (by simp) b1
    refine to (ho_pure (i := 9) rfl (wanted_0 rfl) rfl (.agg #[(.int .i64 (IntKind.i64.wrap (a6 + (IntKind.i64.wrap (1 * 2 ^ min (Int.toNat n) 64))))), (.slice a7 a3 a5)]) (fun _ => vb (vs := [(0, (.int .i64 (IntKind.i64.wrap (a6 + (IntKind.i64.wrap (1 * 2 ^ min (Int.toNat n) 64)))))), (1, (.slice a7 a3 a5))]) (cs := #[(.int .i64 (IntKind.i64.wrap (a6 + (IntKind.i64.wrap (1 * 2 ^ min (Int.toNat n) 64))))), (.slice a7 a3 a5)]) TyTE.z81 TyTE.pl81 rfl (by kernel_rfl)) ?_)
    refine to (ho_ext (i := 10) rfl (wanted_0 rfl) rfl (hn_alloc TyTE.z81 ?_))
    intro b5 i1 s0 l7
    replace H := H b5 i1 s0 l7
    have m2 := ext_pushed_f14_sh l7
    replace b1 := Ext.row m2 b1
    refine ⟨m2, ?_⟩
    obtain ⟨t9, u0, H⟩ := H
    refine to (ho_wild (i := 11) rfl (wanted_0 rfl) rfl (hn_stores (vs := [(.int .i64 (IntKind.i64.wrap (a6 + (IntKind.i64.wrap (1 * 2 ^ min (Int.toNat n) 64))))), (.slice a7 a3 a5)]) rfl rfl TyTE.sz81 rfl t9 ?_))
    intro k1 l8
    replace H := H k1 l8
    replace b1 := row_hsets_ne l8 (u0 _ (by simp)) b1
    refine ht_done ?_
    refine qn ?_
    exact ⟨_, _, ⟨H, b1, trivial⟩, (hc rfl (hc rfl (hc rfl (hc rfl hn))))⟩
   ·replace H := H.2
    refine ho_ext (i := 10) rfl (wanted_0 rfl) rfl (hn_alloc TyTE.z81 ?_)
    intro b5 g4 t6 l9
    replace H := H b5 g4 t6 l9
    have j5 := ext_pushed_f14_sh l9
    replace d8 := Ext.row j5 d8
    replace b1 := Ext.row j5 b1
    refine ⟨j5, ?_⟩
    refine to (ho_tame (i := 8) rfl (wanted_0 rfl) rfl (hs_append rfl rfl (HAppend.mono H ?_)))
    rintro _ j2 ⟨t0, t7, a7, a3, a5, rfl, H⟩
    refine ⟨t0, ?_⟩
    replace b1 := Kp.row t7 (by simp) b1
    refine to (ho_pure (i := 9) rfl (wanted_0 rfl) rfl (.agg #[(.int .i64 (IntKind.i64.wrap (a6 + (IntKind.i64.wrap (1 * 2 ^ min (Int.toNat n) 64))))), (.slice a7 a3 a5)]) (fun _ => vb (vs := [(0, (.int .i64 (IntKind.i64.wrap (a6 + (IntKind.i64.wrap (1 * 2 ^ min (Int.toNat n) 64)))))), (1, (.slice a7 a3 a5))]) (cs := #[(.int .i64 (IntKind.i64.wrap (a6 + (IntKind.i64.wrap (1 * 2 ^ min (Int.toNat n) 64))))), (.slice a7 a3 a5)]) TyTE.z81 TyTE.pl81 rfl (by kernel_rfl)) ?_)
    obtain ⟨s7, r7, H⟩ := H
    refine to (ho_wild (i := 11) rfl (wanted_0 rfl) rfl (hn_stores (vs := [(.int .i64 (IntKind.i64.wrap (a6 + (IntKind.i64.wrap (1 * 2 ^ min (Int.toNat n) 64))))), (.slice a7 a3 a5)]) rfl rfl TyTE.sz81 rfl s7 ?_))
    intro k6 n0
    replace H := H k6 n0
    replace b1 := row_hsets_ne n0 (r7 _ (by simp)) b1
    refine ht_done ?_
    refine qn ?_
    exact ⟨_, _, ⟨H, b1, trivial⟩, (hc rfl (hc rfl (hc rfl (hc rfl hn))))⟩
  ·replace H := H.2
   refine ho_ext (i := 10) rfl (wanted_0 rfl) rfl (hn_alloc TyTE.z81 ?_)
   intro b5 g6 s9 m4
   replace H := H b5 g6 s9 m4
   have j6 := ext_pushed_f14_sh m4
   replace d8 := Ext.row j6 d8
   replace b1 := Ext.row j6 b1
   refine ⟨j6, ?_⟩
   refine to (ho_ext (i := 5) rfl (wanted_0 rfl) rfl (hn_buildSlice (n := 0) (vs := []) (cs := #[]) TyTE.u79 TyTE.sz69 TyTE.z69 rfl rfl (by kernel_rfl) ?_))
   intro e0 g3 s5 m7
   replace H := H e0 g3 s5 m7
   have j7 := ext_pushed_f14_sh m7
   replace d8 := Ext.row j7 d8
   replace b1 := Ext.row j7 b1
   refine ⟨j7, ?_⟩
   refine to (ho_tame (i := 8) rfl (wanted_0 rfl) rfl (hs_append rfl rfl (HAppend.mono H ?_)))
   rintro _ j1 ⟨s6, t1, a7, a3, a5, rfl, H⟩
   refine ⟨s6, ?_⟩
   replace b1 := Kp.row t1 (by simp) b1
   refine to (ho_pure (i := 9) rfl (wanted_0 rfl) rfl (.agg #[(.int .i64 (IntKind.i64.wrap (a6 + (IntKind.i64.wrap (1 * 2 ^ min (Int.toNat n) 64))))), (.slice a7 a3 a5)]) (fun _ => vb (vs := [(0, (.int .i64 (IntKind.i64.wrap (a6 + (IntKind.i64.wrap (1 * 2 ^ min (Int.toNat n) 64)))))), (1, (.slice a7 a3 a5))]) (cs := #[(.int .i64 (IntKind.i64.wrap (a6 + (IntKind.i64.wrap (1 * 2 ^ min (Int.toNat n) 64))))), (.slice a7 a3 a5)]) TyTE.z81 TyTE.pl81 rfl (by kernel_rfl)) ?_)
   obtain ⟨t2, s4, H⟩ := H
   refine to (ho_wild (i := 11) rfl (wanted_0 rfl) rfl (hn_stores (vs := [(.int .i64 (IntKind.i64.wrap (a6 + (IntKind.i64.wrap (1 * 2 ^ min (Int.toNat n) 64))))), (.slice a7 a3 a5)]) rfl rfl TyTE.sz81 rfl t2 ?_))
   intro k8 m0
   replace H := H k8 m0
   replace b1 := row_hsets_ne m0 (s4 _ (by simp)) b1
   refine ht_done ?_
   refine qn ?_
   exact ⟨_, _, ⟨H, b1, trivial⟩, (hc rfl (hc rfl (hc rfl (hc rfl hn))))⟩
 ·rintro ρ h3 ⟨c9, c7, ⟨r3, c2, -⟩, hH⟩
  have H := j8 c9 c7 pb h3 r3; clear j9 j8
  refine xh _ hH ?_
  replace H := H m3 (row_lt c2)
  refine xs (xs (xr ?_))
  refine lv rfl rfl (vm rfl) (lv rfl rfl (v := (ptr c0 c1)) (hv_nil rfl) (lv rfl rfl (v := (ptr c0 c1)) (vf TyTE.fld78_0 (b := c0) (o := c1) rfl) ?_))
  obtain ⟨k3, j0, l3, l5, H⟩ := H
  refine lv rfl rfl (vl TyTE.agg22 rfl l5) (lv rfl rfl (vm rfl) ?_)
  obtain ⟨b3, b2, e8, m9, m8, Hq⟩ := H
  subst e8
  have H := Hq; clear Hq
  refine lv rfl rfl (v := (ptr b3 (b2 + (Int.toNat n) * 8))) (vi TyTE.el22 rfl rfl m9 m8) ?_
  obtain ⟨b7, b4, b0, c8, c5, b6, b9, d7, r2, l6, t3, r4, s2, r1, s3, t4, H⟩ := H
  refine lv rfl rfl (vL (vs := [(.int .i64 b7), (.string b4), (.string b0), (.int .i64 c8), (.bool c5), (.int .i64 b6), (.int .i64 b9), (.int .i64 d7)]) TyTE.agg40 TyTE.sz40 rfl (cc r2 (cc l6 (cc t3 (cc r4 (cc s2 (cc r1 (cc s3 (cc t4 cn))))))))) ?_
  refine lp rfl rfl (sc TyTE.cb23 rfl (HC.mono (ofKey_c (⟨b7, b4, b0, c8, c5, b6, b9, d7⟩) _) ?_))
  rintro _ e4 ⟨rfl, e2⟩
  replace c2 := Ext.row e2 c2
  refine lv rfl rfl (v := (.bool (!(Ml.keyed ⟨b7, b4, b0, c8, c5, b6, b9, d7⟩)))) (hv_not (b := Ml.keyed ⟨b7, b4, b0, c8, c5, b6, b9, d7⟩) rfl) ?_
  refine ln (qn ?_)
  refine xc (b := !(Ml.keyed ⟨b7, b4, b0, c8, c5, b6, b9, d7⟩)) rfl (fun k0 => ?_) (fun k0 => ?_)
  ·replace H := H.1 k0
   refine xs (xr ?_)
   obtain ⟨a4, a2, a1, a0, r6, s8, H⟩ := H
   refine lv rfl rfl (vL (vs := [(.int .i64 a4), (.slice a2 a1 a0)]) TyTE.agg81 TyTE.sz81 rfl (cc (Ext.cell e2 r6) (cc (Ext.cell e2 s8) cn))) ?_
   replace H := H e4 e2
   refine lp rfl rfl (hn_stores (vs := [(.int .i64 a4), (.slice a2 a1 a0)]) rfl rfl TyTE.sz81 rfl (HWs_row c2 (by simp)) ?_)
   intro i9 n1
   have f2 : i9[pb]? = some (.cells #[(.int .i64 a4), (.slice a2 a1 a0)] 81 (0, 0)) := row_hsets_eq n1 c2 rfl
   replace H := H i9 (fr_hsets_of n1) ⟨_, c2⟩
   refine lv rfl rfl (va rfl) ?_
   refine ln (qn (xt (qr ?_)))
   exact endQ_ret _ (res_two Tryz.results65 (rv_cell (vs := [(.int .i64 a4), (.slice a2 a1 a0)]) TyTE.agg81 TyTE.sz81 rfl (cc (rc f2 rfl) (cc (rc f2 rfl) cn))) (rv_tmp rfl)) H
  ·replace H := H.2 k0
   refine xi (qn (xs ?_))
   refine hx_draw TyTE.mixed [.pure, .pure, .pure, .read, .pure, .pure, .pure, .read, .pure, .pure, .pure, .read, .wild, .pure] [0, 1, 2, 3, 4, 5, 6, 7, 8, 9, 10, 11, 12, 13] (by kernel_rfl) ?_
   refine pp (i := 0) rfl (wanted_0 rfl) rfl (ptr c0 c1) (fun _ => vm rfl) ?_
   refine pp (i := 1) rfl (wanted_0 rfl) rfl (ptr c0 c1) (fun _ => hv_nil rfl) ?_
   refine pp (i := 2) rfl (wanted_0 rfl) rfl (ptr c0 (c1 + 1)) (fun _ => vf TyTE.fld78_1 (b := c0) (o := c1) rfl) ?_
   obtain ⟨j3, e9, e7, n5, H⟩ := H
   refine pr (i := 3) rfl (wanted_0 rfl) rfl (.slice j3 e9 e7) (fun _ he => vl TyTE.agg24 rfl (Ext.cell he (Ext.cell e2 n5))) ?_
   refine pp (i := 4) rfl (wanted_0 rfl) rfl (ptr c0 c1) (fun _ => vm rfl) ?_
   refine pp (i := 5) rfl (wanted_0 rfl) rfl (ptr c0 c1) (fun _ => hv_nil rfl) ?_
   refine pp (i := 6) rfl (wanted_0 rfl) rfl (ptr c0 c1) (fun _ => vf TyTE.fld78_0 (b := c0) (o := c1) rfl) ?_
   refine pr (i := 7) rfl (wanted_0 rfl) rfl (.slice (some ⟨b3, b2, none⟩) j0 l3) (fun _ he => vl TyTE.agg22 rfl (Ext.cell he (Ext.cell e2 l5))) ?_
   refine pp (i := 8) rfl (wanted_0 rfl) rfl (.int .i64 n) (fun _ => vm rfl) ?_
   refine pp (i := 9) rfl (wanted_0 rfl) rfl (ptr b3 (b2 + (Int.toNat n) * 8)) (fun _ => vi TyTE.el22 rfl rfl m9 m8) ?_
   refine pp (i := 10) rfl (wanted_0 rfl) rfl (ptr b3 ((b2 + (Int.toNat n) * 8) + 1)) (fun _ => vf TyTE.fld40_1 (b := b3) (o := b2 + (Int.toNat n) * 8) rfl) ?_
   refine pr (i := 11) rfl (wanted_0 rfl) rfl (.string b4) (fun _ he => vl TyTE.agg9 rfl (Ext.cell he (Ext.cell e2 l6))) ?_
   replace H := H e4 e2
   refine hp_wild (i := 12) rfl (wanted_0 rfl) rfl (sc TyTE.cb86 rfl (HC.mono H ?_))
   rintro _ d3 ⟨n6, r, rfl, H⟩
   replace c2 := Kp.row n6 (by simp) c2
   refine pp (i := 13) rfl (wanted_0 rfl) rfl (.int .i64 r) (fun _ => va rfl) ?_
   refine hp_nil ?_
   refine qn (xs ?_)
   obtain ⟨g7, p5, H⟩ := H
   refine hx_drawT TyTE.mixed g7 p5 [.pure, .stay, .pure, .pure, .read, .pure, .pure, .read, .pure, .pure, .pure, .read, .pure, .pure, .read, .tame, .pure, .wild] [0, 1, 2, 3, 4, 5, 6, 7, 8, 9, 10, 11, 12, 13, 14, 15, 16, 17] (by kernel_rfl) ?_
   refine pp (i := 0) rfl (wanted_0 rfl) rfl (ptr c9 (c7 + 1)) (fun _ => vf TyTE.fld81_1 (b := c9) (o := c7) rfl) ?_
   obtain ⟨k9, g2, i3, q3, H⟩ := H
   refine hp_stay (i := 1) rfl (wanted_0 rfl) rfl (.slice k9 g2 i3) (fun _ he => vl TyTE.agg79 rfl (q3 _ he)) ?_
   refine pp (i := 2) rfl (wanted_0 rfl) rfl (.int .i64 r) (fun _ => vm rfl) ?_
   refine pp (i := 3) rfl (wanted_0 rfl) rfl (ptr c9 (c7 + 1)) (fun _ => vf TyTE.fld81_1 (b := c9) (o := c7) rfl) ?_
   obtain ⟨l2, g0, i4, p0, H⟩ := H
   refine pr (i := 4) rfl (wanted_0 rfl) rfl (.slice l2 g0 i4) (fun _ he => vl TyTE.agg79 rfl (Ext.cell he p0)) ?_
   refine pp (i := 5) rfl (wanted_0 rfl) rfl (.int .i64 r) (fun _ => vm rfl) ?_
   obtain ⟨f9, f7, e8, o8, p8, Hq⟩ := H
   subst e8
   have H := Hq; clear Hq
   refine pp (i := 6) rfl (wanted_0 rfl) rfl (ptr f9 (f7 + (Int.toNat r) * 1)) (fun _ => vi TyTE.el79 rfl rfl o8 p8) ?_
   obtain ⟨i8, f3, f0, o5, H⟩ := H
   refine pr (i := 7) rfl (wanted_0 rfl) rfl (.slice i8 f3 f0) (fun _ he => vl TyTE.agg69 rfl (Ext.cell he o5)) ?_
   refine pp (i := 8) rfl (wanted_0 rfl) rfl (ptr c0 c1) (fun _ => vm rfl) ?_
   refine pp (i := 9) rfl (wanted_0 rfl) rfl (ptr c0 c1) (fun _ => hv_nil rfl) ?_
   refine pp (i := 10) rfl (wanted_0 rfl) rfl (ptr c0 c1) (fun _ => vf TyTE.fld78_0 (b := c0) (o := c1) rfl) ?_
   obtain ⟨k5, g1, i6, o0, H⟩ := H
   refine pr (i := 11) rfl (wanted_0 rfl) rfl (.slice k5 g1 i6) (fun _ he => vl TyTE.agg22 rfl (Ext.cell he o0)) ?_
   refine pp (i := 12) rfl (wanted_0 rfl) rfl (.int .i64 n) (fun _ => vm rfl) ?_
   obtain ⟨c6, c4, e8, n4, p2, Hq⟩ := H
   subst e8
   have H := Hq; clear Hq
   refine pp (i := 13) rfl (wanted_0 rfl) rfl (ptr c6 (c4 + (Int.toNat n) * 8)) (fun _ => vi TyTE.el22 rfl rfl n4 p2) ?_
   obtain ⟨d2, d4, c3, d6, d5, d1, d0, e1, o6, p7, n9, q4, p9, p3, q0, p6, H⟩ := H
   refine pr (i := 14) rfl (wanted_0 rfl) rfl (.agg #[(.int .i64 d2), (.string d4), (.string c3), (.int .i64 d6), (.bool d5), (.int .i64 d1), (.int .i64 d0), (.int .i64 e1)]) (fun _ he => vL (vs := [(.int .i64 d2), (.string d4), (.string c3), (.int .i64 d6), (.bool d5), (.int .i64 d1), (.int .i64 d0), (.int .i64 e1)]) TyTE.agg40 TyTE.sz40 rfl (cc (Ext.cell he o6) (cc (Ext.cell he p7) (cc (Ext.cell he n9) (cc (Ext.cell he q4) (cc (Ext.cell he p9) (cc (Ext.cell he p3) (cc (Ext.cell he q0) (cc (Ext.cell he p6) cn))))))))) ?_
   refine hp_tame (i := 15) rfl (wanted_0 rfl) rfl (sc TyTE.cb87 rfl (HC.mono H ?_))
   rintro _ i7 ⟨o2, n8, l1, l0, k7, rfl, H⟩
   refine ⟨o2, ?_⟩
   replace c2 := Kp.row n8 (by simp) c2
   obtain ⟨e3, f1, e8, n2, o7, Hq⟩ := H
   subst e8
   have H := Hq; clear Hq
   refine pp (i := 16) rfl (wanted_0 rfl) rfl (ptr e3 (f1 + (Int.toNat r) * 1)) (fun _ => vi TyTE.el79 rfl rfl n2 o7) ?_
   obtain ⟨q2, o4, H⟩ := H
   refine hp_wild (i := 17) rfl (wanted_0 rfl) rfl (hn_store (v := (.slice l1 l0 k7)) rfl rfl TyTE.sz69 rfl q2 ?_)
   intro e5 k2
   replace H := H e5 k2
   replace c2 := row_hset_ne k2 (o4 _ (by simp)) c2
   refine hp_nil ?_
   refine qn (xs ?_)
   obtain ⟨f4, q1, H⟩ := H
   refine hx_drawT TyTE.mixed f4 q1 [.read, .pure, .stay, .pure, .pure, .stay, .pure, .pure, .tame, .pure] [0, 1, 2, 3, 4, 5, 6, 7, 8, 9] (by kernel_rfl) ?_
   obtain ⟨a4, a2, a1, a0, p1, n7, H⟩ := H
   refine pr (i := 0) rfl (wanted_0 rfl) rfl (.agg #[(.int .i64 a4), (.slice a2 a1 a0)]) (fun _ he => vL (vs := [(.int .i64 a4), (.slice a2 a1 a0)]) TyTE.agg81 TyTE.sz81 rfl (cc (Ext.cell he p1) (cc (Ext.cell he n7) cn))) ?_
   refine pp (i := 1) rfl (wanted_0 rfl) rfl (ptr c9 (c7 + 1)) (fun _ => vf TyTE.fld81_1 (b := c9) (o := c7) rfl) ?_
   obtain ⟨k4, f8, i5, o3, H⟩ := H
   refine hp_stay (i := 2) rfl (wanted_0 rfl) rfl (.slice k4 f8 i5) (fun _ he => vl TyTE.agg79 rfl (o3 _ he)) ?_
   refine pp (i := 3) rfl (wanted_0 rfl) rfl (.int .i64 r) (fun _ => vm rfl) ?_
   obtain ⟨f5, f6, e8, o1, n3, Hq⟩ := H
   subst e8
   have H := Hq; clear Hq
   refine pp (i := 4) rfl (wanted_0 rfl) rfl (ptr f5 (f6 + (Int.toNat r) * 1)) (fun _ => vi TyTE.el79 rfl rfl o1 n3) ?_
   obtain ⟨m1, d9, i2, p4, H⟩ := H
   refine hp_stay (i := 5) rfl (wanted_0 rfl) rfl (.slice m1 d9 i2) (fun _ he => vl TyTE.agg69 rfl (p4 _ he)) ?_
   refine pp (i := 6) rfl (wanted_0 rfl) rfl (.int .i64 (d9 : Int)) (fun _ => hv_len (n := d9) TyTE.u69 rfl) ?_
   refine pp (i := 7) rfl (wanted_0 rfl) rfl (.bool (decide ((d9 : Int) > 0))) (fun _ => vr rfl rfl rfl) ?_
   refine hp_tame (i := 8) rfl (wanted_0 rfl) rfl (hn_stores (vs := [(.int .i64 a4), (.slice a2 a1 a0)]) rfl rfl TyTE.sz81 rfl (HWs_row c2 (by simp)) ?_)
   intro i0 l4
   have f2 : i0[pb]? = some (.cells #[(.int .i64 a4), (.slice a2 a1 a0)] 81 (0, 0)) := row_hsets_eq l4 c2 rfl
   replace H := H i0 (fr_hsets_of l4) ⟨_, c2⟩
   obtain ⟨o9, H⟩ := H
   refine ⟨o9, ?_⟩
   refine pp (i := 9) rfl (wanted_0 rfl) rfl (.bool (decide ((d9 : Int) > 0))) (fun _ => va rfl) ?_
   refine hp_nil ?_
   refine qn (xt ?_)
   exact endQ_ret _ (res_two Tryz.results65 (rv_cell (vs := [(.int .i64 a4), (.slice a2 a1 a0)]) TyTE.agg81 TyTE.sz81 rfl (cc (rc f2 rfl) (cc (rc f2 rfl) cn))) (rv_tmp rfl)) H
theorem f86_sh (a4 : Option Addr) (a0 : Nat) (a1 : Nat) (a5 : ByteArray) (h : Heap) (R : Value → Heap → Prop)
  (H : (∃ (I1 : Int → Prop) (a7 : Int → Nat), I1 0 ∧ (∀ (i : Int), I1 i → (((decide (i < (a0 : Int))) = true → (∃ a3 a2 : Nat, a4 = some ⟨a3, a2, none⟩ ∧ (0 : Int) ≤ i ∧ i < (a0 : Int) ∧ (∃ x : ByteArray, hcell h a3 (a2 + (Int.toNat i) * 1) = some (.string x) ∧ (((decide (x = a5)) = true → R (.int .i64 i) h) ∧ ((decide (x = a5)) = false → (I1 (IntKind.i64.wrap (i + 1)) ∧ a7 (IntKind.i64.wrap (i + 1)) < a7 i)))))) ∧ ((decide (i < (a0 : Int))) = false → R (.int .i64 0) h))))) :
  HC Tryz.prog 86 #[(.slice a4 a0 a1), (.string a5)] h R := by
 refine hc_of (args := [(.slice a4 a0 a1), (.string a5)]) Tryz.func86 rfl Tryz.ntmps86 (Nat.le_of_ble_eq_true rfl) ?_
 refine xs (xr ?_)
 refine lv rfl rfl (va rfl) ?_
 refine ln (qn (xs (xs (xr ?_))))
 refine lv rfl rfl (va rfl) ?_
 refine ln (qn (xb ?_))
 obtain ⟨I1, a7, b1, b0⟩ := H
 refine xl (σ := Int) (fun s => [(0, (.slice a4 a0 a1)), (1, (.string a5)), (5, (.int .i64 s))]) (fun s h' => I1 s ∧ h = h') (fun s _ => a7 s) 0 ⟨b1, rfl⟩ (hc rfl (hc rfl (hc rfl hn))) ?_
 rintro i ρ _ ⟨b5, rfl⟩
 have H := b0 i b5
 refine xs (xs (xr ?_))
 refine lv rfl rfl (vm rfl) (lv rfl rfl (vm rfl) (lv rfl rfl (v := (.int .i64 (a0 : Int))) (hv_len (n := a0) TyTE.u24 rfl) (lv rfl rfl (vr rfl rfl rfl) ?_)))
 refine ln (qn ?_)
 refine xc (b := decide (i < (a0 : Int))) rfl (fun a8 => ?_) (fun a8 => ?_)
 ·replace H := H.1 a8
  refine xi (qn (xs (xb (xs (xr ?_)))))
  refine lv rfl rfl (vm rfl) (lv rfl rfl (vm rfl) ?_)
  obtain ⟨a3, a2, b3, a9, b2, Hq⟩ := H
  subst b3
  have H := Hq; clear Hq
  refine lv rfl rfl (v := (ptr a3 (a2 + (Int.toNat i) * 1))) (vi TyTE.el24 rfl rfl a9 b2) ?_
  obtain ⟨x, b4, H⟩ := H
  refine lv rfl rfl (vl TyTE.agg9 rfl b4) (lv rfl rfl (vm rfl) (lv rfl rfl (v := (.bool (decide (x = a5)))) (hv_str rfl rfl rfl) ?_))
  refine ln (qn ?_)
  refine xc (b := decide (x = a5)) rfl (fun a6 => ?_) (fun a6 => ?_)
  ·replace H := H.1 a6
   refine xs (xr ?_)
   refine lv rfl rfl (vm rfl) (lv rfl rfl (va rfl) ?_)
   refine ln (qn (xt (br (qr (qr (br (qr ?_)))))))
   exact endQ_ret _ (res_one Tryz.results86 (rv_tmp rfl)) H
  ·replace H := H.2 a6
   refine xi (bn (qn (xr ?_)))
   refine lv rfl rfl (vm rfl) (lv rfl rfl (vr rfl rfl rfl) (lv rfl rfl (va rfl) ?_))
   refine ln (qn ?_)
   exact ⟨IntKind.i64.wrap (i + 1), ⟨⟨H.1, rfl⟩, H.2⟩, (hc rfl (hc rfl (hc rfl hn)))⟩
 ·replace H := H.2 a8
  refine xe (qe (qe (bh (qn (xs (xr ?_))))))
  refine lv rfl rfl (va rfl) ?_
  refine ln (qn (xt ?_))
  exact endQ_ret _ (res_one Tryz.results86 (rv_tmp rfl)) H
theorem f52_sh (b0 : Nat) (b1 : Nat) (a8 : Int) (a2 : Option Addr) (a0 : Nat) (a1 : Nat) (c1 : Option Addr) (b2 : Nat) (b6 : Nat) (h : Heap) (R : Value → Heap → Prop)
  (H : (∃ k3 : Option Addr, ∃ d7 l2 : Nat, hcell h b0 b1 = some (.slice k3 d7 l2) ∧ ((((b2 : Int) == (d7 : Int)) = true → (∀ (h1 : Heap), Ext h h1 → R (.tuple #[(.slice c1 b2 b6), (.bool true)]) h1)) ∧ (((b2 : Int) == (d7 : Int)) = false → (∀ (x : Nat) (h1 : Heap), Array.size h ≤ x → x < Array.size h1 → Ext h h1 → (∃ (I9 : Int → Heap → Prop) (f4 : Int → Heap → Nat), I9 0 h1 ∧ (∀ (i : Int) (h2 : Heap), I9 i h2 → (∃ g7 : Option Addr, ∃ c8 e0 : Nat, hcell h2 b0 (b1 + 2) = some (.slice g7 c8 e0) ∧ (((decide (i < (c8 : Int))) = true → (∃ d6 d5 : Nat, g7 = some ⟨d6, d5, none⟩ ∧ (0 : Int) ≤ i ∧ i < (c8 : Int) ∧ (∃ c9 : Int, ∃ c5 : Option Addr, ∃ c0 b9 : Nat, hcell h2 d6 (d5 + (Int.toNat i) * 2) = some (.int .i64 c9) ∧ hcell h2 d6 ((d5 + (Int.toNat i) * 2) + 1) = some (.slice c5 c0 b9) ∧ HC Tryz.prog 63 #[(.agg #[(.int .i64 c9), (.slice c5 c0 b9)]), (.agg #[(.int .i64 a8), (.slice a2 a0 a1)])] h2 (fun vv h3 => Kp [x] h2 h3 ∧ ∃ r : Bool, vv = (.bool r) ∧ ((r = true → R (.tuple #[(.slice none 0 0), (.bool false)]) h3) ∧ (r = false → (I9 (IntKind.i64.wrap (i + 1)) h3 ∧ f4 (IntKind.i64.wrap (i + 1)) h3 < f4 i h2))))))) ∧ ((decide (i < (c8 : Int))) = false → (∃ (g1 : Int → Heap → Prop) (f7 : Int → Heap → Nat), g1 0 h2 ∧ (∀ (n : Int) (h4 : Heap), g1 n h4 → (∃ k6 : Option Addr, ∃ d0 f5 : Nat, hcell h4 b0 b1 = some (.slice k6 d0 f5) ∧ (((decide (n < (d0 : Int))) = true → (∃ f1 : Heap → Prop, HC Tryz.prog 64 #[(ptr b0 b1), (.agg #[(.int .i64 a8), (.slice a2 a0 a1)]), (.int .i64 n)] h4 (fun vv h6 => Kp [x] h4 h6 ∧ ∃ r : Bool, vv = (.bool r) ∧ (((!r) = true → (f1 h6)) ∧ ((!r) = false → HC Tryz.prog 65 #[(ptr b0 b1), (.agg #[(.int .i64 a8), (.slice a2 a0 a1)]), (.int .i64 n)] h6 (fun vv h7 => Kp [x] h6 h7 ∧ ∃ b3 : Int, ∃ a9 : Option Addr, ∃ a5 a4 : Nat, ∃ r1 : Bool, vv = (.tuple #[(.agg #[(.int .i64 b3), (.slice a9 a5 a4)]), (.bool r1)]) ∧ (((!r1) = true → (∀ (h9 : Heap), Ext h7 h9 → (f1 h9))) ∧ ((!r1) = false → (∃ e8 : Option Addr → Nat → Nat → Bool → Heap → Prop, (∃ d4 : Heap → Heap → Prop, Fit d4 ∧ (∀ (y : Nat) (h9 : Heap), Array.size h7 ≤ y → y < Array.size h9 → Ext h7 h9 → ((∀ ys, h9[y]? = some (.cells ys 81 (0, 0)) → ∀ hx, d4 h9 hx → Kp [y] h9 hx) ∧ (((∀ d2 d3, d2 = Array.size h9 → d3 = Array.push h9 (.cells #[] 3) → ((HAppend Tryz.prog 26 26 (.slice (some ⟨d2, 0, none⟩) 0 0) (.slice c1 b2 b6) d3 (fun vv e7 => d4 d3 e7 ∧ Kp [x] d3 e7 ∧ ∃ d1 : Option Addr, ∃ c3 c2 : Nat, vv = (.slice d1 c3 c2) ∧ (∀ c6 e4, c6 = Array.size e7 → e4 = Array.push e7 (.cells #[(.int .i64 n)] 3) → HAppend Tryz.prog 26 26 (.slice d1 c3 c2) (.slice (some ⟨c6, 0, none⟩) 1 1) e4 (fun vv g3 => d4 e4 g3 ∧ Kp [x] e4 g3 ∧ ∃ c7 : Option Addr, ∃ b7 b8 : Nat, vv = (.slice c7 b7 b8) ∧ HC Tryz.prog 52 #[(ptr b0 b1), (.agg #[(.int .i64 b3), (.slice a9 a5 a4)]), (.slice c7 b7 b8)] g3 (fun vv j8 => Kp [x] g3 j8 ∧ ∃ b5 : Option Addr, ∃ a6 a7 : Nat, ∃ b4 : Bool, vv = (.tuple #[(.slice b5 a6 a7), (.bool b4)]) ∧ (e8 b5 a6 a7 b4 j8)))))) ∧ ((∀ c6 e6, c6 = Array.size d3 → e6 = Array.push d3 (.cells #[(.int .i64 n)] 3) → HAppend Tryz.prog 26 26 (.slice (some ⟨d2, 0, none⟩) 0 0) (.slice c1 b2 b6) e6 (fun vv f2 => d4 e6 f2 ∧ Kp [x] e6 f2 ∧ ∃ d1 : Option Addr, ∃ c3 c2 : Nat, vv = (.slice d1 c3 c2) ∧ HAppend Tryz.prog 26 26 (.slice d1 c3 c2) (.slice (some ⟨c6, 0, none⟩) 1 1) f2 (fun vv g5 => d4 f2 g5 ∧ Kp [x] f2 g5 ∧ ∃ c7 : Option Addr, ∃ b7 b8 : Nat, vv = (.slice c7 b7 b8) ∧ HC Tryz.prog 52 #[(ptr b0 b1), (.agg #[(.int .i64 b3), (.slice a9 a5 a4)]), (.slice c7 b7 b8)] g5 (fun vv k9 => Kp [x] g5 k9 ∧ ∃ b5 : Option Addr, ∃ a6 a7 : Nat, ∃ b4 : Bool, vv = (.tuple #[(.slice b5 a6 a7), (.bool b4)]) ∧ (e8 b5 a6 a7 b4 k9))))))))) ∧ ((∀ d2 e5, d2 = Array.size h9 → e5 = Array.push h9 (.cells #[(.int .i64 n)] 3) → (∀ c6 e3, c6 = Array.size e5 → e3 = Array.push e5 (.cells #[] 3) → HAppend Tryz.prog 26 26 (.slice (some ⟨c6, 0, none⟩) 0 0) (.slice c1 b2 b6) e3 (fun vv f0 => d4 e3 f0 ∧ Kp [x] e3 f0 ∧ ∃ d1 : Option Addr, ∃ c3 c2 : Nat, vv = (.slice d1 c3 c2) ∧ HAppend Tryz.prog 26 26 (.slice d1 c3 c2) (.slice (some ⟨d2, 0, none⟩) 1 1) f0 (fun vv g4 => d4 f0 g4 ∧ Kp [x] f0 g4 ∧ ∃ c7 : Option Addr, ∃ b7 b8 : Nat, vv = (.slice c7 b7 b8) ∧ HC Tryz.prog 52 #[(ptr b0 b1), (.agg #[(.int .i64 b3), (.slice a9 a5 a4)]), (.slice c7 b7 b8)] g4 (fun vv l3 => Kp [x] g4 l3 ∧ ∃ b5 : Option Addr, ∃ a6 a7 : Nat, ∃ b4 : Bool, vv = (.tuple #[(.slice b5 a6 a7), (.bool b4)]) ∧ (e8 b5 a6 a7 b4 l3))))))))))) ∧ (∀ (l : Option Addr) (d8 : Nat) (d9 : Nat) (is : Bool) (g2 : Heap), e8 l d8 d9 is g2 → ((is = true → R (.tuple #[(.slice l d8 d9), (.bool true)]) g2) ∧ (is = false → (f1 g2))))))))))) ∧ (∀ (h5 : Heap), f1 h5 → (g1 (IntKind.i64.wrap (n + 1)) h5 ∧ f7 (IntKind.i64.wrap (n + 1)) h5 < f7 n h4)))) ∧ ((decide (n < (d0 : Int))) = false → (∃ j7 : Option Addr, ∃ e2 e1 : Nat, hcell h4 b0 (b1 + 2) = some (.slice j7 e2 e1) ∧ (∀ nb g6, nb = Array.size h4 → g6 = Array.push h4 (.cells #[(.int .i64 a8), (.slice a2 a0 a1)] 81) → HAppend Tryz.prog 76 76 (.slice j7 e2 e1) (.slice (some ⟨nb, 0, none⟩) 1 1) g6 (fun vv k1 => ∃ ap : Option Addr, ∃ f6 f3 : Nat, vv = (.slice ap f6 f3) ∧ (HW k1 b0 (b1 + 2) ∧ ∀ j2, j2 = hset k1 b0 (b1 + 2) (.slice ap f6 f3) → R (.tuple #[(.slice none 0 0), (.bool false)]) j2))))))))))))))))))) :
  HC Tryz.prog 52 #[(ptr b0 b1), (.agg #[(.int .i64 a8), (.slice a2 a0 a1)]), (.slice c1 b2 b6)] h R := by
 refine hc_of (args := [(ptr b0 b1), (.agg #[(.int .i64 a8), (.slice a2 a0 a1)]), (.slice c1 b2 b6)]) Tryz.func52 rfl Tryz.ntmps52 (Nat.le_of_ble_eq_true rfl) ?_
 refine xs (xr ?_)
 refine lp rfl rfl (hn_box (v := (.agg #[(.int .i64 a8), (.slice a2 a0 a1)])) rfl ?_)
 intro x h1 n2 n3
 have k0 := ext_pushed_f14_sh n3
 have q5 : Array.size h ≤ x := Nat.le_of_eq (Eq.symm n2)
 have n4 : h1[x]? = some (.cells #[(.int .i64 a8), (.slice a2 a0 a1)] 81 (0, 0)) := by rw [n3]; exact push_new n2
 refine lv rfl rfl (va rfl) (lv rfl rfl (va rfl) ?_)
 refine ln (qn (xs (xs (xr ?_))))
 refine lv rfl rfl (vm rfl) (lv rfl rfl (v := (.int .i64 (b2 : Int))) (hv_len (n := b2) TyTE.u26 rfl) (lv rfl rfl (vm rfl) (lv rfl rfl (v := (ptr b0 b1)) (hv_nil rfl) (lv rfl rfl (v := (ptr b0 b1)) (vf TyTE.fld78_0 (b := b0) (o := b1) rfl) ?_))))
 obtain ⟨k3, d7, l2, q4, H⟩ := H
 refine lv rfl rfl (vl TyTE.agg22 rfl (Ext.cell k0 q4)) (lv rfl rfl (v := (.int .i64 (d7 : Int))) (hv_len (n := d7) TyTE.u22 rfl) (lv rfl rfl (vr rfl rfl rfl) ?_))
 refine ln (qn ?_)
 refine xc (b := (b2 : Int) == (d7 : Int)) rfl (fun l5 => ?_) (fun l5 => ?_)
 ·replace H := H.1 l5
  refine xs (xr ?_)
  refine lv rfl rfl (vm rfl) (lv rfl rfl (va rfl) (lv rfl rfl (va rfl) ?_))
  refine ln (qn (xt (qr ?_)))
  replace H := H h1 k0
  exact endQ_ret _ (res_two Tryz.results52 (rv_tmp rfl) (rv_tmp rfl)) H
 ·replace H := H.2 l5
  refine xi (qn (xs (xs (xr ?_))))
  refine lv rfl rfl (va rfl) ?_
  refine ln (qn (xb ?_))
  replace H := H x h1 q5 (row_lt n4) k0
  obtain ⟨I9, f4, o1, p9⟩ := H
  refine xl (σ := Int) (fun s => [(0, (ptr b0 b1)), (2, (.slice c1 b2 b6)), (4, (ptr x 0)), (8, (.int .i64 s))]) (fun s h' => I9 s h' ∧ h'[x]? = some (.cells #[(.int .i64 a8), (.slice a2 a0 a1)] 81 (0, 0)) ∧ True) (fun s h' => f4 s h') 0 ⟨o1, n4, trivial⟩ (hc rfl (hc rfl (hc rfl (hc rfl hn)))) ?_
  rintro i ρ h2 ⟨p2, e9, -⟩
  have H := p9 i h2 p2
  refine xs (xs (xr ?_))
  refine lv rfl rfl (vm rfl) (lv rfl rfl (vm rfl) (lv rfl rfl (v := (ptr b0 b1)) (hv_nil rfl) (lv rfl rfl (v := (ptr b0 (b1 + 2))) (vf TyTE.fld78_2 (b := b0) (o := b1) rfl) ?_)))
  obtain ⟨g7, c8, e0, l1, H⟩ := H
  refine lv rfl rfl (vl TyTE.agg76 rfl l1) (lv rfl rfl (v := (.int .i64 (c8 : Int))) (hv_len (n := c8) TyTE.u76 rfl) (lv rfl rfl (vr rfl rfl rfl) ?_))
  refine ln (qn ?_)
  refine xc (b := decide (i < (c8 : Int))) rfl (fun i2 => ?_) (fun i2 => ?_)
  ·replace H := H.1 i2
   refine xi (qn (xs (xb (xs ?_))))
   refine hx_draw TyTE.mixed [.pure, .pure, .pure, .read, .pure, .pure, .read, .read, .wild] [0, 1, 2, 3, 4, 5, 6, 7, 8] (by kernel_rfl) ?_
   refine pp (i := 0) rfl (wanted_0 rfl) rfl (ptr b0 b1) (fun _ => vm rfl) ?_
   refine pp (i := 1) rfl (wanted_0 rfl) rfl (ptr b0 b1) (fun _ => hv_nil rfl) ?_
   refine pp (i := 2) rfl (wanted_0 rfl) rfl (ptr b0 (b1 + 2)) (fun _ => vf TyTE.fld78_2 (b := b0) (o := b1) rfl) ?_
   refine pr (i := 3) rfl (wanted_0 rfl) rfl (.slice g7 c8 e0) (fun _ he => vl TyTE.agg76 rfl (Ext.cell he l1)) ?_
   refine pp (i := 4) rfl (wanted_0 rfl) rfl (.int .i64 i) (fun _ => vm rfl) ?_
   obtain ⟨d6, d5, q6, p3, p8, Hq⟩ := H
   subst q6
   have H := Hq; clear Hq
   refine pp (i := 5) rfl (wanted_0 rfl) rfl (ptr d6 (d5 + (Int.toNat i) * 2)) (fun _ => vi TyTE.el76 rfl rfl p3 p8) ?_
   obtain ⟨c9, c5, c0, b9, p5, o7, H⟩ := H
   refine pr (i := 6) rfl (wanted_0 rfl) rfl (.agg #[(.int .i64 c9), (.slice c5 c0 b9)]) (fun _ he => vL (vs := [(.int .i64 c9), (.slice c5 c0 b9)]) TyTE.agg81 TyTE.sz81 rfl (cc (Ext.cell he p5) (cc (Ext.cell he o7) cn))) ?_
   refine pr (i := 7) rfl (wanted_0 rfl) rfl (.agg #[(.int .i64 a8), (.slice a2 a0 a1)]) (fun _ he => vL (vs := [(.int .i64 a8), (.slice a2 a0 a1)]) TyTE.agg81 TyTE.sz81 rfl (cc (Ext.cell he (rc e9 rfl)) (cc (Ext.cell he (rc e9 rfl)) cn))) ?_
   refine hp_wild (i := 8) rfl (wanted_0 rfl) rfl (sc TyTE.cb63 rfl (HC.mono H ?_))
   rintro _ h3 ⟨q1, r, rfl, H⟩
   replace e9 := Kp.row q1 (by simp) e9
   refine hp_nil ?_
   refine qn ?_
   refine xc (b := r) rfl (fun i1 => ?_) (fun i1 => ?_)
   ·replace H := H.1 i1
    refine xs (xr ?_)
    refine lv rfl rfl (va rfl) (lv rfl rfl (va rfl) ?_)
    refine ln (qn (xt (br (qr (qr (br (qr ?_)))))))
    exact endQ_ret _ (res_two Tryz.results52 (rv_tmp rfl) (rv_tmp rfl)) H
   ·replace H := H.2 i1
    refine xi (bn (qn (xr ?_)))
    refine lv rfl rfl (vm rfl) (lv rfl rfl (vr rfl rfl rfl) (lv rfl rfl (va rfl) ?_))
    refine ln (qn ?_)
    exact ⟨IntKind.i64.wrap (i + 1), ⟨⟨H.1, e9, trivial⟩, H.2⟩, (hc rfl (hc rfl (hc rfl (hc rfl hn))))⟩
  ·replace H := H.2 i2
   refine xe (qe (qe (bh (qn (xs (xs (xr ?_)))))))
   refine lv rfl rfl (va rfl) ?_
   refine ln (qn (xb ?_))
   obtain ⟨g1, f7, o4, n5⟩ := H
   refine xl (σ := Int) (fun s => [(0, (ptr b0 b1)), (2, (.slice c1 b2 b6)), (4, (ptr x 0)), (9, (.int .i64 s))]) (fun s h' => g1 s h' ∧ h'[x]? = some (.cells #[(.int .i64 a8), (.slice a2 a0 a1)] 81 (0, 0)) ∧ True) (fun s h' => f7 s h') 0 ⟨o4, e9, trivial⟩ (hc rfl (hc rfl (hc rfl (hc rfl hn)))) ?_
   rintro n ρ h4 ⟨o6, a3, -⟩
   have H := n5 n h4 o6
   refine xs (xs (xr ?_))
   refine lv rfl rfl (vm rfl) (lv rfl rfl (vm rfl) (lv rfl rfl (v := (ptr b0 b1)) (hv_nil rfl) (lv rfl rfl (v := (ptr b0 b1)) (vf TyTE.fld78_0 (b := b0) (o := b1) rfl) ?_)))
   obtain ⟨k6, d0, f5, p6, H⟩ := H
   refine lv rfl rfl (vl TyTE.agg22 rfl p6) (lv rfl rfl (v := (.int .i64 (d0 : Int))) (hv_len (n := d0) TyTE.u22 rfl) (lv rfl rfl (vr rfl rfl rfl) ?_))
   refine ln (qn ?_)
   refine xc (b := decide (n < (d0 : Int))) rfl (fun i0 => ?_) (fun i0 => ?_)
   ·replace H := H.1 i0
    refine xi (qn ?_)
    obtain ⟨f1, i8, g8⟩ := H
    refine xk (fun ρ h' => (f1 h' ∧ h'[x]? = some (.cells #[(.int .i64 a8), (.slice a2 a0 a1)] 81 (0, 0)) ∧ True) ∧ Has ρ [(0, (ptr b0 b1)), (2, (.slice c1 b2 b6)), (4, (ptr x 0)), (9, (.int .i64 n))]) ?_ ?_
    ·have H := i8; clear i8 g8
     refine xb (xs (xs (xr ?_)))
     refine lv rfl rfl (vm rfl) (lv rfl rfl (vL (vs := [(.int .i64 a8), (.slice a2 a0 a1)]) TyTE.agg81 TyTE.sz81 rfl (cc (rc a3 rfl) (cc (rc a3 rfl) cn))) (lv rfl rfl (vm rfl) ?_))
     refine lp rfl rfl (sc TyTE.cb64 rfl (HC.mono H ?_))
     rintro _ h6 ⟨n9, r, rfl, H⟩
     replace a3 := Kp.row n9 (by simp) a3
     refine lv rfl rfl (v := (.bool (!r))) (hv_not (b := r) rfl) ?_
     refine ln (qn ?_)
     refine xc (b := !r) rfl (fun i5 => ?_) (fun i5 => ?_)
     ·replace H := H.1 i5
      refine xe (qe (bh (qn ?_)))
      exact ⟨⟨H, a3, trivial⟩, (hc rfl (hc rfl (hc rfl (hc rfl hn))))⟩
     ·replace H := H.2 i5
      refine xi (qn (xs (xr ?_)))
      refine lv rfl rfl (vm rfl) (lv rfl rfl (vL (vs := [(.int .i64 a8), (.slice a2 a0 a1)]) TyTE.agg81 TyTE.sz81 rfl (cc (rc a3 rfl) (cc (rc a3 rfl) cn))) (lv rfl rfl (vm rfl) ?_))
      refine lp rfl rfl (sc TyTE.cb65 rfl (HC.mono H ?_))
      rintro _ h7 ⟨q3, b3, a9, a5, a4, r1, rfl, H⟩
      replace a3 := Kp.row q3 (by simp) a3
      refine lv rfl rfl (vm rfl) (lv rfl rfl (vx rfl rfl) (lv rfl rfl (vx rfl rfl) ?_))
      refine lp rfl rfl (hn_alloc TyTE.z81 ?_)
      intro y h8 i7 k7
      have l0 := ext_pushed_f14_sh k7
      have o9 := Nat.ne_of_lt (Nat.lt_of_lt_of_eq (row_lt a3) (Eq.symm i7))
      have k8 : Array.size h7 ≤ y := Nat.le_of_eq (Eq.symm i7)
      have k4 : h8[y]? = some (.cells #[(.int .i64 0), (.slice none 0 0)] 81 (0, 0)) := by rw [k7]; exact push_new i7
      replace a3 := Ext.row l0 a3
      refine lp rfl rfl (hn_stores (vs := [(.int .i64 b3), (.slice a9 a5 a4)]) rfl rfl TyTE.sz81 rfl (HWs_row k4 (by simp)) ?_)
      intro h9 i6
      replace a3 := row_hsets_ne i6 o9 a3
      have c4 : h9[y]? = some (.cells #[(.int .i64 b3), (.slice a9 a5 a4)] 81 (0, 0)) := row_hsets_eq i6 k4 rfl
      have l6 := ext_hsets i6 l0 k8
      refine lv rfl rfl (va rfl) ?_
      refine ln (qn (xs (xs (xr ?_))))
      refine lv rfl rfl (vm rfl) (lv rfl rfl (v := (.bool (!r1))) (hv_not (b := r1) rfl) ?_)
      refine ln (qn ?_)
      refine xc (b := !r1) rfl (fun i9 => ?_) (fun i9 => ?_)
      ·replace H := H.1 i9
       refine xe (qe (bh ?_))
       replace H := H h9 l6
       refine qn ?_
       exact ⟨⟨H, a3, trivial⟩, (hc rfl (hc rfl (hc rfl (hc rfl hn))))⟩
      ·replace H := H.2 i9
       refine xi (qn ?_)
       obtain ⟨e8, j0, i3⟩ := H
       refine xk (fun ρ h' => ∃ l : Option Addr, ∃ d8 d9 : Nat, ∃ is : Bool, (e8 l d8 d9 is h' ∧ h'[x]? = some (.cells #[(.int .i64 a8), (.slice a2 a0 a1)] 81 (0, 0)) ∧ True) ∧ Has ρ [(0, (ptr b0 b1)), (2, (.slice c1 b2 b6)), (4, (ptr x 0)), (9, (.int .i64 n)), (12, (.slice l d8 d9)), (13, (.bool is))]) ?_ ?_
       ·have H := j0; clear j0 i3
        obtain ⟨d4, p7, H⟩ := H
        refine hx_tree TyTE.mixed d4 p7 [.pure, .stay, .ext, .pure, .tame, .pure, .ext, .tame, .wild, .pure, .pure, .pure, .pure, .pure] (.one 0 (.one 1 (.one 3 (.one 5 (.fork [2, 6] fun k => bif k == 2 then (.fork [4, 6] fun k => bif k == 4 then (.one 6 (.one 7 (.one 8 (.one 9 (.one 10 (.one 11 (.one 12 (.one 13 .done)))))))) else (.one 4 (.one 7 (.one 8 (.one 9 (.one 10 (.one 11 (.one 12 (.one 13 .done))))))))) else (.one 2 (.one 4 (.one 7 (.one 8 (.one 9 (.one 10 (.one 11 (.one 12 (.one 13 .done)))))))))))))) (by kernel_rfl) ?_
        refine to (ho_pure (i := 0) rfl (wanted_0 rfl) rfl (ptr b0 b1) (fun _ => vm rfl) ?_)
        replace H := H y h9 k8 (row_lt c4) l6
        obtain ⟨j1, H⟩ := H
        refine to (ho_stay (i := 1) rfl (wanted_0 rfl) rfl (.agg #[(.int .i64 b3), (.slice a9 a5 a4)]) (fun _ he => vL (vs := [(.int .i64 b3), (.slice a9 a5 a4)]) TyTE.agg81 TyTE.sz81 rfl (cc ((fun hx he => rc (Kp.row (j1 _ c4 hx he) (by simp) c4) rfl) _ he) (cc ((fun hx he => rc (Kp.row (j1 _ c4 hx he) (by simp) c4) rfl) _ he) cn))) ?_)
        refine to (ho_pure (i := 3) rfl (wanted_0 rfl) rfl (.slice c1 b2 b6) (fun _ => vm rfl) ?_)
        refine to (ho_pure (i := 5) rfl (wanted_0 rfl) rfl (.int .i64 n) (fun _ => vm rfl) ?_)
        refine ht_fork2 rfl rfl ?_ ?_
        ·replace H := H.1
         refine ho_ext (i := 2) rfl (wanted_0 rfl) rfl (hn_buildSlice (n := 0) (vs := []) (cs := #[]) TyTE.u26 TyTE.sz3 TyTE.z3 rfl rfl (by kernel_rfl) ?_)
         intro d2 d3 q0 k5
         replace H := H d2 d3 q0 k5
         have i4 := ext_pushed_f14_sh k5
         replace a3 := Ext.row i4 a3
         replace c4 := Ext.row i4 c4
         refine ⟨i4, ?_⟩
         refine ht_fork2 rfl rfl ?_ ?_
         ·replace H := H.1
          refine ho_tame (i := 4) rfl (wanted_0 rfl) rfl (hs_append rfl rfl (HAppend.mono H ?_))
          rintro _ e7 ⟨o8, n8, d1, c3, c2, rfl, H⟩
          refine ⟨o8, ?_⟩
          replace a3 := Kp.row n8 (by simp) a3
          refine to (ho_ext (i := 6) rfl (wanted_0 rfl) rfl (hn_buildSlice (n := 1) (vs := [(0, (.int .i64 n))]) (cs := #[(.int .i64 n)]) TyTE.u26 TyTE.sz3 TyTE.z3 rfl rfl (by kernel_rfl) ?_))
          intro c6 e4 n7 l4
          replace H := H c6 e4 n7 l4
          have j9 := ext_pushed_f14_sh l4
          replace a3 := Ext.row j9 a3
          refine ⟨j9, ?_⟩
          refine to (ho_tame (i := 7) rfl (wanted_0 rfl) rfl (hs_append rfl rfl (HAppend.mono H ?_)))
          rintro _ g3 ⟨o5, o3, c7, b7, b8, rfl, H⟩
          refine ⟨o5, ?_⟩
          replace a3 := Kp.row o3 (by simp) a3
          refine to (ho_wild (i := 8) rfl (wanted_0 rfl) rfl (sc TyTE.cb52 rfl (HC.mono H ?_)))
          rintro _ j8 ⟨p4, b5, a6, a7, b4, rfl, H⟩
          replace a3 := Kp.row p4 (by simp) a3
          refine to (ho_pure (i := 9) rfl (wanted_0 rfl) rfl (.tuple #[(.slice b5 a6 a7), (.bool b4)]) (fun _ => vm rfl) ?_)
          refine to (ho_pure (i := 10) rfl (wanted_0 rfl) rfl (.slice b5 a6 a7) (fun _ => vx (vs := #[(.slice b5 a6 a7), (.bool b4)]) rfl rfl) ?_)
          refine to (ho_pure (i := 11) rfl (wanted_0 rfl) rfl (.bool b4) (fun _ => vx (vs := #[(.slice b5 a6 a7), (.bool b4)]) rfl rfl) ?_)
          refine to (ho_pure (i := 12) rfl (wanted_0 rfl) rfl (.slice b5 a6 a7) (fun _ => va rfl) ?_)
          refine to (ho_pure (i := 13) rfl (wanted_0 rfl) rfl (.bool b4) (fun _ => va rfl) ?_)
          refine ht_done ?_
          refine qn ?_
          exact ⟨_, _, _, _, ⟨H, a3, trivial⟩, (hc rfl (hc rfl (hc rfl (hc rfl (hc rfl (hc rfl hn))))))⟩
         ·replace H := H.2
          refine ho_ext (i := 6) rfl (wanted_0 rfl) rfl (hn_buildSlice (n := 1) (vs := [(0, (.int .i64 n))]) (cs := #[(.int .i64 n)]) TyTE.u26 TyTE.sz3 TyTE.z3 rfl rfl (by kernel_rfl) ?_)
          intro c6 e6 q2 k2
          replace H := H c6 e6 q2 k2
          have g9 := ext_pushed_f14_sh k2
          replace a3 := Ext.row g9 a3
          replace c4 := Ext.row g9 c4
          refine ⟨g9, ?_⟩
          refine to (ho_tame (i := 4) rfl (wanted_0 rfl) rfl (hs_append rfl rfl (HAppend.mono H ?_)))
          rintro _ f2 ⟨m6, p1, d1, c3, c2, rfl, H⟩
          refine ⟨m6, ?_⟩
          replace a3 := Kp.row p1 (by simp) a3
          refine to (ho_tame (i := 7) rfl (wanted_0 rfl) rfl (hs_append rfl rfl (HAppend.mono H ?_)))
          rintro _ g5 ⟨m9, m4, c7, b7, b8, rfl, H⟩
          refine ⟨m9, ?_⟩
          replace a3 := Kp.row m4 (by simp) a3
          refine to (ho_wild (i := 8) rfl (wanted_0 rfl) rfl (sc TyTE.cb52 rfl (HC.mono H ?_)))
          rintro _ k9 ⟨n1, b5, a6, a7, b4, rfl, H⟩
          replace a3 := Kp.row n1 (by simp) a3
          refine to (ho_pure (i := 9) rfl (wanted_0 rfl) rfl (.tuple #[(.slice b5 a6 a7), (.bool b4)]) (fun _ => vm rfl) ?_)
          refine to (ho_pure (i := 10) rfl (wanted_0 rfl) rfl (.slice b5 a6 a7) (fun _ => vx (vs := #[(.slice b5 a6 a7), (.bool b4)]) rfl rfl) ?_)
          refine to (ho_pure (i := 11) rfl (wanted_0 rfl) rfl (.bool b4) (fun _ => vx (vs := #[(.slice b5 a6 a7), (.bool b4)]) rfl rfl) ?_)
          refine to (ho_pure (i := 12) rfl (wanted_0 rfl) rfl (.slice b5 a6 a7) (fun _ => va rfl) ?_)
          refine to (ho_pure (i := 13) rfl (wanted_0 rfl) rfl (.bool b4) (fun _ => va rfl) ?_)
          refine ht_done ?_
          refine qn ?_
          exact ⟨_, _, _, _, ⟨H, a3, trivial⟩, (hc rfl (hc rfl (hc rfl (hc rfl (hc rfl (hc rfl hn))))))⟩
        ·replace H := H.2
         refine ho_ext (i := 6) rfl (wanted_0 rfl) rfl (hn_buildSlice (n := 1) (vs := [(0, (.int .i64 n))]) (cs := #[(.int .i64 n)]) TyTE.u26 TyTE.sz3 TyTE.z3 rfl rfl (by kernel_rfl) ?_)
         intro d2 e5 m0 j6
         replace H := H d2 e5 m0 j6
         have f8 := ext_pushed_f14_sh j6
         replace a3 := Ext.row f8 a3
         replace c4 := Ext.row f8 c4
         refine ⟨f8, ?_⟩
         refine to (ho_ext (i := 2) rfl (wanted_0 rfl) rfl (hn_buildSlice (n := 0) (vs := []) (cs := #[]) TyTE.u26 TyTE.sz3 TyTE.z3 rfl rfl (by kernel_rfl) ?_))
         intro c6 e3 m5 j3
         replace H := H c6 e3 m5 j3
         have f9 := ext_pushed_f14_sh j3
         replace a3 := Ext.row f9 a3
         replace c4 := Ext.row f9 c4
         refine ⟨f9, ?_⟩
         refine to (ho_tame (i := 4) rfl (wanted_0 rfl) rfl (hs_append rfl rfl (HAppend.mono H ?_)))
         rintro _ f0 ⟨l7, m1, d1, c3, c2, rfl, H⟩
         refine ⟨l7, ?_⟩
         replace a3 := Kp.row m1 (by simp) a3
         refine to (ho_tame (i := 7) rfl (wanted_0 rfl) rfl (hs_append rfl rfl (HAppend.mono H ?_)))
         rintro _ g4 ⟨l9, m7, c7, b7, b8, rfl, H⟩
         refine ⟨l9, ?_⟩
         replace a3 := Kp.row m7 (by simp) a3
         refine to (ho_wild (i := 8) rfl (wanted_0 rfl) rfl (sc TyTE.cb52 rfl (HC.mono H ?_)))
         rintro _ l3 ⟨m2, b5, a6, a7, b4, rfl, H⟩
         replace a3 := Kp.row m2 (by simp) a3
         refine to (ho_pure (i := 9) rfl (wanted_0 rfl) rfl (.tuple #[(.slice b5 a6 a7), (.bool b4)]) (fun _ => vm rfl) ?_)
         refine to (ho_pure (i := 10) rfl (wanted_0 rfl) rfl (.slice b5 a6 a7) (fun _ => vx (vs := #[(.slice b5 a6 a7), (.bool b4)]) rfl rfl) ?_)
         refine to (ho_pure (i := 11) rfl (wanted_0 rfl) rfl (.bool b4) (fun _ => vx (vs := #[(.slice b5 a6 a7), (.bool b4)]) rfl rfl) ?_)
         refine to (ho_pure (i := 12) rfl (wanted_0 rfl) rfl (.slice b5 a6 a7) (fun _ => va rfl) ?_)
         refine to (ho_pure (i := 13) rfl (wanted_0 rfl) rfl (.bool b4) (fun _ => va rfl) ?_)
         refine ht_done ?_
         refine qn ?_
         exact ⟨_, _, _, _, ⟨H, a3, trivial⟩, (hc rfl (hc rfl (hc rfl (hc rfl (hc rfl (hc rfl hn))))))⟩
       ·rintro ρ g2 ⟨l, d8, d9, is, ⟨n6, p0, -⟩, hH⟩
        have H := i3 l d8 d9 is g2 n6; clear j0 i3
        refine xh _ hH ?_
        refine xs (xr ?_)
        refine lv rfl rfl (vm rfl) ?_
        refine ln (qn ?_)
        refine xc (b := is) rfl (fun g0 => ?_) (fun g0 => ?_)
        ·replace H := H.1 g0
         refine xs (xr ?_)
         refine lv rfl rfl (vm rfl) (lv rfl rfl (va rfl) (lv rfl rfl (va rfl) ?_))
         refine ln (qn (xt (br (qr (qr (br (qr ?_)))))))
         exact endQ_ret _ (res_two Tryz.results52 (rv_tmp rfl) (rv_tmp rfl)) H
        ·replace H := H.2 g0
         refine xi (bn (qn ?_))
         exact ⟨⟨H, p0, trivial⟩, (hc rfl (hc rfl (hc rfl (hc rfl hn))))⟩
    ·rintro ρ h5 ⟨⟨o0, o2, -⟩, hH⟩
     have H := g8 h5 o0; clear i8 g8
     refine xh _ hH ?_
     refine xr ?_
     refine lv rfl rfl (vm rfl) (lv rfl rfl (vr rfl rfl rfl) (lv rfl rfl (va rfl) ?_))
     refine ln (qn ?_)
     exact ⟨IntKind.i64.wrap (n + 1), ⟨⟨H.1, o2, trivial⟩, H.2⟩, (hc rfl (hc rfl (hc rfl (hc rfl hn))))⟩
   ·replace H := H.2 i0
    refine xe (qe (qe (bh (qn (xs ?_)))))
    refine hx_draw TyTE.mixed [.pure, .pure, .pure, .pure, .read, .read, .ext, .wild, .pure, .pure, .wild] [0, 1, 2, 3, 4, 5, 6, 7, 8, 9, 10] (by kernel_rfl) ?_
    refine pp (i := 0) rfl (wanted_0 rfl) rfl (ptr b0 b1) (fun _ => vm rfl) ?_
    refine pp (i := 1) rfl (wanted_0 rfl) rfl (ptr b0 b1) (fun _ => vm rfl) ?_
    refine pp (i := 2) rfl (wanted_0 rfl) rfl (ptr b0 b1) (fun _ => hv_nil rfl) ?_
    refine pp (i := 3) rfl (wanted_0 rfl) rfl (ptr b0 (b1 + 2)) (fun _ => vf TyTE.fld78_2 (b := b0) (o := b1) rfl) ?_
    obtain ⟨j7, e2, e1, n0, H⟩ := H
    refine pr (i := 4) rfl (wanted_0 rfl) rfl (.slice j7 e2 e1) (fun _ he => vl TyTE.agg76 rfl (Ext.cell he n0)) ?_
    refine pr (i := 5) rfl (wanted_0 rfl) rfl (.agg #[(.int .i64 a8), (.slice a2 a0 a1)]) (fun _ he => vL (vs := [(.int .i64 a8), (.slice a2 a0 a1)]) TyTE.agg81 TyTE.sz81 rfl (cc (Ext.cell he (rc a3 rfl)) (cc (Ext.cell he (rc a3 rfl)) cn))) ?_
    refine hp_ext (i := 6) rfl (wanted_0 rfl) rfl (hn_buildSlice (n := 1) (vs := [(0, (.agg #[(.int .i64 a8), (.slice a2 a0 a1)]))]) (cs := #[(.int .i64 a8), (.slice a2 a0 a1)]) TyTE.u76 TyTE.sz81 TyTE.z81 rfl rfl (by kernel_rfl) ?_)
    intro nb g6 m3 j4
    replace H := H nb g6 m3 j4
    have j5 := ext_pushed_f14_sh j4
    replace a3 := Ext.row j5 a3
    refine ⟨j5, ?_⟩
    refine hp_wild (i := 7) rfl (wanted_0 rfl) rfl (hs_append rfl rfl (HAppend.mono H ?_))
    rintro _ k1 ⟨ap, f6, f3, rfl, H⟩
    refine pp (i := 8) rfl (wanted_0 rfl) rfl (ptr b0 b1) (fun _ => hv_nil rfl) ?_
    refine pp (i := 9) rfl (wanted_0 rfl) rfl (ptr b0 (b1 + 2)) (fun _ => vf TyTE.fld78_2 (b := b0) (o := b1) rfl) ?_
    obtain ⟨m8, H⟩ := H
    refine hp_wild (i := 10) rfl (wanted_0 rfl) rfl (hn_store (v := (.slice ap f6 f3)) rfl rfl TyTE.sz76 rfl m8 ?_)
    intro j2 l8
    replace H := H j2 l8
    refine hp_nil ?_
    refine qn (xs (xr ?_))
    refine lv rfl rfl (va rfl) (lv rfl rfl (va rfl) ?_)
    refine ln (qn (xt ?_))
    exact endQ_ret _ (res_two Tryz.results52 (rv_tmp rfl) (rv_tmp rfl)) H
theorem f28_sh (l : Option Addr) (a6 : Nat) (a5 : Nat) (h : Heap) (R : Value → Heap → Prop)
  (H : HC Tryz.prog 9 #[(.slice l a6 a5)] h (fun vv h1 => ∃ r : Option Addr, ∃ b4 b5 : Nat, vv = (.slice r b4 b5) ∧ (∀ nb h2, nb = Array.size h1 → h2 = Array.push h1 (.cells #[(.slice l a6 a5), (.slice r b4 b5), (.slice none 0 0)] 78) → (∀ (x : Nat) (h3 : Heap), Array.size h2 ≤ x → x < Array.size h3 → Ext h2 h3 → (∃ (b9 : Int → Int → Option Addr → Nat → Nat → Heap → Prop) (b7 : Int → Int → Option Addr → Nat → Nat → Heap → Nat), b9 0 0 none 0 0 h3 ∧ (∀ (i : Int) (a4 : Int) (a0 : Option Addr) (a1 : Nat) (a2 : Nat) (h4 : Heap), b9 i a4 a0 a1 a2 h4 → (∃ c3 : Option Addr, ∃ b3 c4 : Nat, hcell h4 nb 1 = some (.slice c3 b3 c4) ∧ (((decide (i < (b3 : Int))) = true → (∃ c0 : Heap → Heap → Prop, Fit c0 ∧ ((∀ ys, h4[x]? = some (.cells ys 81 (0, 0)) → ∀ hx, c0 h4 hx → Kp [x] h4 hx) ∧ HC Tryz.prog 51 #[] h4 (fun vv h5 => c0 h4 h5 ∧ Kp [x] h4 h5 ∧ ∃ b8 : Option Addr, ∃ b2 b1 : Nat, vv = (.slice b8 b2 b1) ∧ (∀ b6 h6, b6 = Array.size h5 → h6 = Array.push h5 (.cells #[(.slice b8 b2 b1)] 69) → HAppend Tryz.prog 79 79 (.slice a0 a1 a2) (.slice (some ⟨b6, 0, none⟩) 1 1) h6 (fun vv h7 => Kp [x] h6 h7 ∧ ∃ ap : Option Addr, ∃ a9 a7 : Nat, vv = (.slice ap a9 a7) ∧ (∀ h8, Fr (fun i => i = x) h7 h8 → (∃ ys, h7[x]? = some (.cells ys 81 (0, 0))) → (b9 (IntKind.i64.wrap (i + 1)) a4 ap a9 a7 h8 ∧ b7 (IntKind.i64.wrap (i + 1)) a4 ap a9 a7 h8 < b7 i a4 a0 a1 a2 h4)))))))) ∧ ((decide (i < (b3 : Int))) = false → HC Tryz.prog 52 #[(ptr nb 0), (.agg #[(.int .i64 a4), (.slice a0 a1 a2)]), (.slice none 0 0)] h4 (fun vv h9 => ∃ r0 : Option Addr, ∃ b0 a8 : Nat, ∃ r1 : Bool, vv = (.tuple #[(.slice r0 b0 a8), (.bool r1)]) ∧ R (.tuple #[(.slice r0 b0 a8), (.bool r1)]) h9)))))))))) :
  HC Tryz.prog 28 #[(.slice l a6 a5)] h R := by
 refine hc_of (args := [(.slice l a6 a5)]) Tryz.func28 rfl Tryz.ntmps28 (Nat.le_of_ble_eq_true rfl) ?_
 refine xs (xr ?_)
 refine lv rfl rfl (va rfl) (lv rfl rfl (va rfl) ?_)
 refine ln (qn (xs (xr ?_)))
 refine lv rfl rfl (vm rfl) (lv rfl rfl (vm rfl) ?_)
 refine lp rfl rfl (sc TyTE.cb9 rfl (HC.mono H ?_))
 rintro _ h1 ⟨r, b4, b5, rfl, H⟩
 refine lv rfl rfl (v := (.agg #[(.slice l a6 a5), (.slice r b4 b5), (.slice none 0 0)])) (vb (vs := [(0, (.slice l a6 a5)), (1, (.slice r b4 b5))]) (cs := #[(.slice l a6 a5), (.slice r b4 b5), (.slice none 0 0)]) TyTE.z78 TyTE.pl78 rfl (by kernel_rfl)) ?_
 refine lp rfl rfl (hn_box (v := (.agg #[(.slice l a6 a5), (.slice r b4 b5), (.slice none 0 0)])) rfl ?_)
 intro nb h2 e4 c8
 replace H := H nb h2 e4 c8
 have e5 := ext_pushed_f14_sh c8
 refine lv rfl rfl (va rfl) ?_
 refine ln (qn (xs (xr ?_)))
 refine lp rfl rfl (hn_alloc TyTE.z81 ?_)
 intro x h3 c9 c7
 have e3 := ext_pushed_f14_sh c7
 have e2 : Array.size h2 ≤ x := Nat.le_of_eq (Eq.symm c9)
 have d0 : h3[x]? = some (.cells #[(.int .i64 0), (.slice none 0 0)] 81 (0, 0)) := by rw [c7]; exact push_new c9
 refine ln (qn (xs (xs (xr ?_))))
 refine lv rfl rfl (va rfl) ?_
 refine ln (qn (xb ?_))
 replace H := H x h3 e2 (row_lt d0) e3
 obtain ⟨b9, b7, d6, d4⟩ := H
 refine xl (σ := Int × Int × Option Addr × Nat × Nat) (fun s => [(4, (ptr nb 0)), (5, (ptr x 0)), (6, (.int .i64 s.1))]) (fun s h' => b9 s.1 s.2.1 s.2.2.1 s.2.2.2.1 s.2.2.2.2 h' ∧ h'[x]? = some (.cells #[(.int .i64 s.2.1), (.slice s.2.2.1 s.2.2.2.1 s.2.2.2.2)] 81 (0, 0)) ∧ True) (fun s h' => b7 s.1 s.2.1 s.2.2.1 s.2.2.2.1 s.2.2.2.2 h') (0, 0, none, 0, 0) ⟨d6, d0, trivial⟩ (hc rfl (hc rfl (hc rfl hn))) ?_
 rintro ⟨i, a4, a0, a1, a2⟩ ρ h4 ⟨d2, a3, -⟩
 have H := d4 i a4 a0 a1 a2 h4 d2
 refine xs (xs (xr ?_))
 refine lv rfl rfl (vm rfl) (lv rfl rfl (vm rfl) (lv rfl rfl (v := (ptr nb 0)) (hv_nil rfl) (lv rfl rfl (v := (ptr nb 1)) (vf TyTE.fld78_1 (b := nb) (o := 0) rfl) ?_)))
 obtain ⟨c3, b3, c4, d3, H⟩ := H
 refine lv rfl rfl (vl TyTE.agg24 rfl d3) (lv rfl rfl (v := (.int .i64 (b3 : Int))) (hv_len (n := b3) TyTE.u24 rfl) (lv rfl rfl (vr rfl rfl rfl) ?_))
 refine ln (qn ?_)
 refine xc (b := decide (i < (b3 : Int))) rfl (fun c1 => ?_) (fun c1 => ?_)
 ·replace H := H.1 c1
  refine xi (qn (xs (xb ?_)))
  obtain ⟨c0, d7, H⟩ := H
  refine hx_drawT TyTE.mixed c0 d7 [.pure, .stay, .tame, .ext, .wild, .pure, .wild] [0, 1, 2, 3, 4, 5, 6] (by kernel_rfl) ?_
  refine pp (i := 0) rfl (wanted_0 rfl) rfl (ptr x 1) (fun _ => vf TyTE.fld81_1 (b := x) (o := 0) rfl) ?_
  obtain ⟨d8, H⟩ := H
  refine hp_stay (i := 1) rfl (wanted_0 rfl) rfl (.slice a0 a1 a2) (fun _ he => vl TyTE.agg79 rfl ((fun hx he => rc (Kp.row (d8 _ a3 hx he) (by simp) a3) rfl) _ he)) ?_
  refine hp_tame (i := 2) rfl (wanted_0 rfl) rfl (sc TyTE.cb51 rfl (HC.mono H ?_))
  rintro _ h5 ⟨e1, d9, b8, b2, b1, rfl, H⟩
  refine ⟨e1, ?_⟩
  replace a3 := Kp.row d9 (by simp) a3
  refine hp_ext (i := 3) rfl (wanted_0 rfl) rfl (hn_buildSlice (n := 1) (vs := [(0, (.slice b8 b2 b1))]) (cs := #[(.slice b8 b2 b1)]) TyTE.u79 TyTE.sz69 TyTE.z69 rfl rfl (by kernel_rfl) ?_)
  intro b6 h6 d1 c2
  replace H := H b6 h6 d1 c2
  have c5 := ext_pushed_f14_sh c2
  replace a3 := Ext.row c5 a3
  refine ⟨c5, ?_⟩
  refine hp_wild (i := 4) rfl (wanted_0 rfl) rfl (hs_append rfl rfl (HAppend.mono H ?_))
  rintro _ h7 ⟨e0, ap, a9, a7, rfl, H⟩
  replace a3 := Kp.row e0 (by simp) a3
  refine pp (i := 5) rfl (wanted_0 rfl) rfl (ptr x 1) (fun _ => vf TyTE.fld81_1 (b := x) (o := 0) rfl) ?_
  refine hp_wild (i := 6) rfl (wanted_0 rfl) rfl (hn_store (v := (.slice ap a9 a7)) rfl rfl TyTE.sz79 rfl (HW_row a3 (by simp)) ?_)
  intro h8 c6
  have d5 : h8[x]? = some (.cells #[(.int .i64 a4), (.slice ap a9 a7)] 81 (0, 0)) := row_hset_eq c6 a3 rfl
  replace H := H h8 (fr_hset_of c6) ⟨_, a3⟩
  refine hp_nil ?_
  refine bn (qn (xr ?_))
  refine lv rfl rfl (vm rfl) (lv rfl rfl (vr rfl rfl rfl) (lv rfl rfl (va rfl) ?_))
  refine ln (qn ?_)
  exact ⟨(IntKind.i64.wrap (i + 1), a4, ap, a9, a7), ⟨⟨H.1, d5, trivial⟩, H.2⟩, (hc rfl (hc rfl (hc rfl hn)))⟩
 ·replace H := H.2 c1
  refine xe (qe (qe (bh (qn (xs (xr ?_))))))
  refine lv rfl rfl (vm rfl) (lv rfl rfl (vL (vs := [(.int .i64 a4), (.slice a0 a1 a2)]) TyTE.agg81 TyTE.sz81 rfl (cc (rc a3 rfl) (cc (rc a3 rfl) cn))) ?_)
  refine lp rfl rfl (sc TyTE.cb52 rfl (HC.mono H ?_))
  rintro _ h9 ⟨r0, b0, a8, r1, rfl, H⟩
  refine lv rfl rfl (vx rfl rfl) (lv rfl rfl (vx rfl rfl) (lv rfl rfl (va rfl) (lv rfl rfl (va rfl) ?_)))
  refine ln (qn (xt ?_))
  exact endQ_ret _ (res_two Tryz.results28 (rv_tmp rfl) (rv_tmp rfl)) H
theorem f9_sh (l : Option Addr) (b4 : Nat) (b9 : Nat) (h : Heap) (R : Value → Heap → Prop)
  (H : (∃ (I1 : Option Addr → Nat → Nat → Int → Heap → Prop) (e9 : Option Addr → Nat → Nat → Int → Heap → Nat), I1 none 0 0 0 h ∧ (∀ (a8 : Option Addr) (a0 : Nat) (a1 : Nat) (i : Int) (h1 : Heap), I1 a8 a0 a1 i h1 → (((decide (i < (b4 : Int))) = true → (∃ A9 : Option Addr → Nat → Nat → Heap → Prop, (∃ a7 a6 : Nat, l = some ⟨a7, a6, none⟩ ∧ (0 : Int) ≤ i ∧ i < (b4 : Int) ∧ (∃ b0 : Int, ∃ a4 a5 : ByteArray, ∃ b6 : Int, ∃ b5 : Bool, ∃ a9 b1 b8 : Int, hcell h1 a7 (a6 + (Int.toNat i) * 8) = some (.int .i64 b0) ∧ hcell h1 a7 ((a6 + (Int.toNat i) * 8) + 1) = some (.string a4) ∧ hcell h1 a7 ((a6 + (Int.toNat i) * 8) + 2) = some (.string a5) ∧ hcell h1 a7 ((a6 + (Int.toNat i) * 8) + 3) = some (.int .i64 b6) ∧ hcell h1 a7 ((a6 + (Int.toNat i) * 8) + 4) = some (.bool b5) ∧ hcell h1 a7 ((a6 + (Int.toNat i) * 8) + 5) = some (.int .i64 a9) ∧ hcell h1 a7 ((a6 + (Int.toNat i) * 8) + 6) = some (.int .i64 b1) ∧ hcell h1 a7 ((a6 + (Int.toNat i) * 8) + 7) = some (.int .i64 b8) ∧ (((!(Ml.keyed ⟨b0, a4, a5, b6, b5, a9, b1, b8⟩)) = true → (∀ (h3 : Heap), Ext h1 h3 → (A9 a8 a0 a1 h3))) ∧ ((!(Ml.keyed ⟨b0, a4, a5, b6, b5, a9, b1, b8⟩)) = false → (∃ (d8 : Int → Prop) (d7 : Int → Nat), d8 0 ∧ (∀ (k : Int), d8 k → (∃ j : Bool, (((decide (k < (a0 : Int))) = true → (∃ c6 c5 : Nat, a8 = some ⟨c6, c5, none⟩ ∧ (0 : Int) ≤ k ∧ k < (a0 : Int) ∧ (∃ x : ByteArray, hcell h1 c6 (c5 + (Int.toNat k) * 1) = some (.string x) ∧ ((0 : Int) ≤ i ∧ i < (b4 : Int) ∧ (j = (slt x a4)))))) ∧ ((decide (k < (a0 : Int))) = false → (j = false))) ∧ ((j = true → (d8 (IntKind.i64.wrap (k + 1)) ∧ d7 (IntKind.i64.wrap (k + 1)) < d7 k)) ∧ (j = false → (∃ d0 : Bool, (((decide (k < (a0 : Int))) = true → (∃ c0 c1 : Nat, a8 = some ⟨c0, c1, none⟩ ∧ (0 : Int) ≤ k ∧ k < (a0 : Int) ∧ (∃ d3 : ByteArray, hcell h1 c0 (c1 + (Int.toNat k) * 1) = some (.string d3) ∧ ((0 : Int) ≤ i ∧ i < (b4 : Int) ∧ (d0 = (decide (d3 = a4))))))) ∧ ((decide (k < (a0 : Int))) = false → (d0 = false))) ∧ ((d0 = true → (∀ (h3 : Heap), Ext h1 h3 → (A9 a8 a0 a1 h3))) ∧ (d0 = false → (∀ (h3 : Heap), Ext h1 h3 → (∀ nb h4, nb = Array.size h3 → h4 = Array.push h3 (.cells #[] 9) → (0 ≤ (k : Int) ∧ k ≤ (a0 : Int) ∧ (a0 : Int) ≤ (a1 : Int) ∧ ∀ sl : Option Addr, sl = slA a8 (Int.toNat k) 1 a1 → HAppend Tryz.prog 24 24 (.slice (some ⟨nb, 0, none⟩) 0 0) (.slice sl (Int.toNat (a0 : Int) - Int.toNat k) (a1 - Int.toNat k)) h4 (fun vv h5 => ∃ ap : Option Addr, ∃ d1 c8 : Nat, vv = (.slice ap d1 c8) ∧ (0 ≤ ((0 : Int) : Int) ∧ (0 : Int) ≤ k ∧ k ≤ (a1 : Int) ∧ ∀ c9 : Option Addr, c9 = slA a8 (Int.toNat 0) 1 a1 → ((0 : Int) ≤ i ∧ i < (b4 : Int) ∧ (∃ d4 : ByteArray, hcell h5 a7 ((a6 + (Int.toNat i) * 8) + 1) = some (.string d4) ∧ (∀ d5 h6, d5 = Array.size h5 → h6 = Array.push h5 (.cells #[(.string d4)] 9) → HAppend Tryz.prog 24 24 (.slice c9 (Int.toNat k - Int.toNat 0) (a1 - Int.toNat 0)) (.slice (some ⟨d5, 0, none⟩) 1 1) h6 (fun vv h7 => ∃ e1 : Option Addr, ∃ c7 d2 : Nat, vv = (.slice e1 c7 d2) ∧ HAppend Tryz.prog 24 24 (.slice e1 c7 d2) (.slice ap d1 c8) h7 (fun vv h8 => ∃ d6 : Option Addr, ∃ c4 c3 : Nat, vv = (.slice d6 c4 c3) ∧ (A9 d6 c4 c3 h8))))))))))))))))))))))) ∧ (∀ (b7 : Option Addr) (b3 : Nat) (b2 : Nat) (h2 : Heap), A9 b7 b3 b2 h2 → (I1 b7 b3 b2 (IntKind.i64.wrap (i + 1)) h2 ∧ e9 b7 b3 b2 (IntKind.i64.wrap (i + 1)) h2 < e9 a8 a0 a1 i h1)))) ∧ ((decide (i < (b4 : Int))) = false → R (.slice a8 a0 a1) h1))))) :
  HC Tryz.prog 9 #[(.slice l b4 b9)] h R := by
 refine hc_of (args := [(.slice l b4 b9)]) Tryz.func9 rfl Tryz.ntmps9 (Nat.le_of_ble_eq_true rfl) ?_
 refine xs (xr ?_)
 refine lv rfl rfl (va rfl) ?_
 refine ln (qn (xs (xr ?_)))
 refine lv rfl rfl (va rfl) ?_
 refine ln (qn (xs (xs (xr ?_))))
 refine lv rfl rfl (va rfl) ?_
 refine ln (qn (xb ?_))
 obtain ⟨I1, e9, k2, k1⟩ := H
 refine xl (σ := Option Addr × Nat × Nat × Int) (fun s => [(0, (.slice l b4 b9)), (3, (.slice s.1 s.2.1 s.2.2.1)), (4, (.int .i64 s.2.2.2))]) (fun s h' => I1 s.1 s.2.1 s.2.2.1 s.2.2.2 h' ∧ True) (fun s h' => e9 s.1 s.2.1 s.2.2.1 s.2.2.2 h') (none, 0, 0, 0) ⟨k2, trivial⟩ (hc rfl (hc rfl (hc rfl hn))) ?_
 rintro ⟨a8, a0, a1, i⟩ ρ h1 ⟨k0, -⟩
 have H := k1 a8 a0 a1 i h1 k0
 refine xs (xs (xr ?_))
 refine lv rfl rfl (vm rfl) (lv rfl rfl (vm rfl) (lv rfl rfl (v := (.int .i64 (b4 : Int))) (hv_len (n := b4) TyTE.u22 rfl) (lv rfl rfl (vr rfl rfl rfl) ?_)))
 refine ln (qn ?_)
 refine xc (b := decide (i < (b4 : Int))) rfl (fun f0 => ?_) (fun f0 => ?_)
 ·replace H := H.1 f0
  refine xi (qn ?_)
  obtain ⟨A9, f2, f1⟩ := H
  refine xk (fun ρ h' => ∃ b7 : Option Addr, ∃ b3 b2 : Nat, (A9 b7 b3 b2 h' ∧ True) ∧ Has ρ [(0, (.slice l b4 b9)), (3, (.slice b7 b3 b2)), (4, (.int .i64 i))]) ?_ ?_
  ·have H := f2; clear f2 f1
   refine xb (xs (xs (xr ?_)))
   refine lv rfl rfl (vm rfl) (lv rfl rfl (vm rfl) ?_)
   obtain ⟨a7, a6, d9, i0, j7, Hq⟩ := H
   subst d9
   have H := Hq; clear Hq
   refine lv rfl rfl (v := (ptr a7 (a6 + (Int.toNat i) * 8))) (vi TyTE.el22 rfl rfl i0 j7) ?_
   obtain ⟨b0, a4, a5, b6, b5, a9, b1, b8, i5, e2, g2, j8, i1, i2, j1, g5, H⟩ := H
   refine lv rfl rfl (vL (vs := [(.int .i64 b0), (.string a4), (.string a5), (.int .i64 b6), (.bool b5), (.int .i64 a9), (.int .i64 b1), (.int .i64 b8)]) TyTE.agg40 TyTE.sz40 rfl (cc i5 (cc e2 (cc g2 (cc j8 (cc i1 (cc i2 (cc j1 (cc g5 cn))))))))) ?_
   refine lp rfl rfl (sc TyTE.cb23 rfl (HC.mono (ofKey_c (⟨b0, a4, a5, b6, b5, a9, b1, b8⟩) _) ?_))
   rintro _ h3 ⟨rfl, c2⟩
   refine lv rfl rfl (v := (.bool (!(Ml.keyed ⟨b0, a4, a5, b6, b5, a9, b1, b8⟩)))) (hv_not (b := Ml.keyed ⟨b0, a4, a5, b6, b5, a9, b1, b8⟩) rfl) ?_
   refine ln (qn ?_)
   refine xc (b := !(Ml.keyed ⟨b0, a4, a5, b6, b5, a9, b1, b8⟩)) rfl (fun e3 => ?_) (fun e3 => ?_)
   ·replace H := H.1 e3
    refine xe (qe (bh ?_))
    replace H := H h3 c2
    refine qn ?_
    exact ⟨_, _, _, ⟨H, trivial⟩, (hc rfl (hc rfl (hc rfl hn)))⟩
   ·replace H := H.2 e3
    refine xi (qn (xs (xr ?_)))
    refine lv rfl rfl (va rfl) ?_
    refine ln (qn (xs (xb ?_)))
    obtain ⟨d8, d7, i8, f7⟩ := H
    refine xl (σ := Int) (fun s => [(0, (.slice (some ⟨a7, a6, none⟩) b4 b9)), (3, (.slice a8 a0 a1)), (4, (.int .i64 i)), (5, (.int .i64 s))]) (fun s h' => d8 s ∧ h3 = h') (fun s _ => d7 s) 0 ⟨i8, rfl⟩ (hc rfl (hc rfl (hc rfl (hc rfl hn)))) ?_
    rintro k ρ _ ⟨j0, rfl⟩
    have H := f7 k j0
    refine xs ?_
    obtain ⟨j, e5, e7⟩ := H
    refine xk (fun ρ h' => h3 = h' ∧ Has ρ [(0, (.slice (some ⟨a7, a6, none⟩) b4 b9)), (3, (.slice a8 a0 a1)), (4, (.int .i64 i)), (5, (.int .i64 k)), (34, (.bool j))]) ?_ ?_
    ·have H := e5; clear e5 e7
     refine hx_draw TyTE.mixed [.pure, .pure, .pure, .pure, .pure, .pure, .pure, .pure, .read, .pure, .pure, .pure, .pure, .read, .pure, .pure] [0, 1, 2, 3, 4, 5, 6, 7, 8, 9, 10, 11, 12, 13, 14, 15] (by kernel_rfl) ?_
     refine pp (i := 0) rfl (wanted_0 rfl) rfl (.int .i64 k) (fun _ => vm rfl) ?_
     refine pp (i := 1) rfl (wanted_0 rfl) rfl (.slice a8 a0 a1) (fun _ => vm rfl) ?_
     refine pp (i := 2) rfl (wanted_0 rfl) rfl (.int .i64 (a0 : Int)) (fun _ => hv_len (n := a0) TyTE.u24 rfl) ?_
     refine pp (i := 3) rfl (wanted_0 rfl) rfl (.bool (decide (k < (a0 : Int)))) (fun _ => vr rfl rfl rfl) ?_
     refine pp (i := 4) rfl (wanted_0 rfl) rfl (.bool (decide (k < (a0 : Int)))) (fun _ => vm rfl) ?_
     rcases bool_or (decide (k < (a0 : Int))) with a2 | a2
     ·replace H := H.1 a2
      refine pp (i := 5) rfl (wanted_y rfl rfl rfl a2) rfl (.slice a8 a0 a1) (fun _ => vm rfl) ?_
      refine pp (i := 6) rfl (wanted_y rfl rfl rfl a2) rfl (.int .i64 k) (fun _ => vm rfl) ?_
      obtain ⟨c6, c5, d9, i3, i7, Hq⟩ := H
      subst d9
      have H := Hq; clear Hq
      refine pp (i := 7) rfl (wanted_y rfl rfl rfl a2) rfl (ptr c6 (c5 + (Int.toNat k) * 1)) (fun _ => vi TyTE.el24 rfl rfl i3 i7) ?_
      obtain ⟨x, i4, H⟩ := H
      refine pr (i := 8) rfl (wanted_y rfl rfl rfl a2) rfl (.string x) (fun _ he => vl TyTE.agg9 rfl (Ext.cell he (Ext.cell c2 i4))) ?_
      refine pp (i := 9) rfl (wanted_y rfl rfl rfl a2) rfl (.slice (some ⟨a7, a6, none⟩) b4 b9) (fun _ => vm rfl) ?_
      refine pp (i := 10) rfl (wanted_y rfl rfl rfl a2) rfl (.int .i64 i) (fun _ => vm rfl) ?_
      obtain ⟨j5, j4, H⟩ := H
      refine pp (i := 11) rfl (wanted_y rfl rfl rfl a2) rfl (ptr a7 (a6 + (Int.toNat i) * 8)) (fun _ => vi TyTE.el22 rfl rfl j5 j4) ?_
      refine pp (i := 12) rfl (wanted_y rfl rfl rfl a2) rfl (ptr a7 ((a6 + (Int.toNat i) * 8) + 1)) (fun _ => vf TyTE.fld40_1 (b := a7) (o := a6 + (Int.toNat i) * 8) rfl) ?_
      refine pr (i := 13) rfl (wanted_y rfl rfl rfl a2) rfl (.string a4) (fun _ he => vl TyTE.agg9 rfl (Ext.cell he (Ext.cell c2 e2))) ?_
      refine pp (i := 14) rfl (wanted_y rfl rfl rfl a2) rfl (.bool (slt x a4)) (fun _ => hv_str rfl rfl rfl) ?_
      refine pp (i := 15) rfl (wanted_0 rfl) rfl (.bool (slt x a4)) (fun _ => hv_pick_t rfl a2 rfl) ?_
      refine hp_nil ?_
      refine qn ?_
      obtain rfl := H
      exact ⟨rfl, (hc rfl (hc rfl (hc rfl (hc rfl (hc rfl hn)))))⟩
     ·replace H := H.2 a2
      refine pn (i := 5) rfl (wanted_n rfl rfl rfl a2) ?_
      refine pn (i := 6) rfl (wanted_n rfl rfl rfl a2) ?_
      refine pn (i := 7) rfl (wanted_n rfl rfl rfl a2) ?_
      refine pn (i := 8) rfl (wanted_n rfl rfl rfl a2) ?_
      refine pn (i := 9) rfl (wanted_n rfl rfl rfl a2) ?_
      refine pn (i := 10) rfl (wanted_n rfl rfl rfl a2) ?_
      refine pn (i := 11) rfl (wanted_n rfl rfl rfl a2) ?_
      refine pn (i := 12) rfl (wanted_n rfl rfl rfl a2) ?_
      refine pn (i := 13) rfl (wanted_n rfl rfl rfl a2) ?_
      refine pn (i := 14) rfl (wanted_n rfl rfl rfl a2) ?_
      refine pp (i := 15) rfl (wanted_0 rfl) rfl (.bool false) (fun _ => hv_pick_f rfl a2 rfl) ?_
      refine hp_nil ?_
      refine qn ?_
      obtain rfl := H
      exact ⟨rfl, (hc rfl (hc rfl (hc rfl (hc rfl (hc rfl hn)))))⟩
    ·have H := e7; clear e5 e7
     rintro ρ _ ⟨rfl, hH⟩
     refine xh _ hH ?_
     refine xc (b := j) rfl (fun e6 => ?_) (fun e6 => ?_)
     ·replace H := H.1 e6
      refine xi (qn (xb (xr ?_)))
      refine lv rfl rfl (vm rfl) (lv rfl rfl (vr rfl rfl rfl) (lv rfl rfl (va rfl) ?_))
      refine ln (bn (qn ?_))
      exact ⟨IntKind.i64.wrap (k + 1), ⟨⟨H.1, rfl⟩, H.2⟩, (hc rfl (hc rfl (hc rfl (hc rfl hn))))⟩
     ·replace H := H.2 e6
      refine xe (qe (qe (bh (qn (xs ?_)))))
      obtain ⟨d0, e0, e4⟩ := H
      refine xk (fun ρ h' => h3 = h' ∧ Has ρ [(0, (.slice (some ⟨a7, a6, none⟩) b4 b9)), (3, (.slice a8 a0 a1)), (4, (.int .i64 i)), (5, (.int .i64 k)), (52, (.bool d0))]) ?_ ?_
      ·have H := e0; clear e0 e4
       refine hx_draw TyTE.mixed [.pure, .pure, .pure, .pure, .pure, .pure, .pure, .pure, .read, .pure, .pure, .pure, .pure, .read, .pure, .pure] [0, 1, 2, 3, 4, 5, 6, 7, 8, 9, 10, 11, 12, 13, 14, 15] (by kernel_rfl) ?_
       refine pp (i := 0) rfl (wanted_0 rfl) rfl (.int .i64 k) (fun _ => vm rfl) ?_
       refine pp (i := 1) rfl (wanted_0 rfl) rfl (.slice a8 a0 a1) (fun _ => vm rfl) ?_
       refine pp (i := 2) rfl (wanted_0 rfl) rfl (.int .i64 (a0 : Int)) (fun _ => hv_len (n := a0) TyTE.u24 rfl) ?_
       refine pp (i := 3) rfl (wanted_0 rfl) rfl (.bool (decide (k < (a0 : Int)))) (fun _ => vr rfl rfl rfl) ?_
       refine pp (i := 4) rfl (wanted_0 rfl) rfl (.bool (decide (k < (a0 : Int)))) (fun _ => vm rfl) ?_
       rcases bool_or (decide (k < (a0 : Int))) with a3 | a3
       ·replace H := H.1 a3
        refine pp (i := 5) rfl (wanted_y rfl rfl rfl a3) rfl (.slice a8 a0 a1) (fun _ => vm rfl) ?_
        refine pp (i := 6) rfl (wanted_y rfl rfl rfl a3) rfl (.int .i64 k) (fun _ => vm rfl) ?_
        obtain ⟨c0, c1, d9, f9, j2, Hq⟩ := H
        subst d9
        have H := Hq; clear Hq
        refine pp (i := 7) rfl (wanted_y rfl rfl rfl a3) rfl (ptr c0 (c1 + (Int.toNat k) * 1)) (fun _ => vi TyTE.el24 rfl rfl f9 j2) ?_
        obtain ⟨d3, f8, H⟩ := H
        refine pr (i := 8) rfl (wanted_y rfl rfl rfl a3) rfl (.string d3) (fun _ he => vl TyTE.agg9 rfl (Ext.cell he (Ext.cell c2 f8))) ?_
        refine pp (i := 9) rfl (wanted_y rfl rfl rfl a3) rfl (.slice (some ⟨a7, a6, none⟩) b4 b9) (fun _ => vm rfl) ?_
        refine pp (i := 10) rfl (wanted_y rfl rfl rfl a3) rfl (.int .i64 i) (fun _ => vm rfl) ?_
        obtain ⟨j3, g8, H⟩ := H
        refine pp (i := 11) rfl (wanted_y rfl rfl rfl a3) rfl (ptr a7 (a6 + (Int.toNat i) * 8)) (fun _ => vi TyTE.el22 rfl rfl j3 g8) ?_
        refine pp (i := 12) rfl (wanted_y rfl rfl rfl a3) rfl (ptr a7 ((a6 + (Int.toNat i) * 8) + 1)) (fun _ => vf TyTE.fld40_1 (b := a7) (o := a6 + (Int.toNat i) * 8) rfl) ?_
        refine pr (i := 13) rfl (wanted_y rfl rfl rfl a3) rfl (.string a4) (fun _ he => vl TyTE.agg9 rfl (Ext.cell he (Ext.cell c2 e2))) ?_
        refine pp (i := 14) rfl (wanted_y rfl rfl rfl a3) rfl (.bool (decide (d3 = a4))) (fun _ => hv_str rfl rfl rfl) ?_
        refine pp (i := 15) rfl (wanted_0 rfl) rfl (.bool (decide (d3 = a4))) (fun _ => hv_pick_t rfl a3 rfl) ?_
        refine hp_nil ?_
        refine qn ?_
        obtain rfl := H
        exact ⟨rfl, (hc rfl (hc rfl (hc rfl (hc rfl (hc rfl hn)))))⟩
       ·replace H := H.2 a3
        refine pn (i := 5) rfl (wanted_n rfl rfl rfl a3) ?_
        refine pn (i := 6) rfl (wanted_n rfl rfl rfl a3) ?_
        refine pn (i := 7) rfl (wanted_n rfl rfl rfl a3) ?_
        refine pn (i := 8) rfl (wanted_n rfl rfl rfl a3) ?_
        refine pn (i := 9) rfl (wanted_n rfl rfl rfl a3) ?_
        refine pn (i := 10) rfl (wanted_n rfl rfl rfl a3) ?_
        refine pn (i := 11) rfl (wanted_n rfl rfl rfl a3) ?_
        refine pn (i := 12) rfl (wanted_n rfl rfl rfl a3) ?_
        refine pn (i := 13) rfl (wanted_n rfl rfl rfl a3) ?_
        refine pn (i := 14) rfl (wanted_n rfl rfl rfl a3) ?_
        refine pp (i := 15) rfl (wanted_0 rfl) rfl (.bool false) (fun _ => hv_pick_f rfl a3 rfl) ?_
        refine hp_nil ?_
        refine qn ?_
        obtain rfl := H
        exact ⟨rfl, (hc rfl (hc rfl (hc rfl (hc rfl (hc rfl hn)))))⟩
      ·have H := e4; clear e0 e4
       rintro ρ _ ⟨rfl, hH⟩
       refine xh _ hH ?_
       refine xc (b := d0) rfl (fun e8 => ?_) (fun e8 => ?_)
       ·replace H := H.1 e8
        refine xe (qe (bh ?_))
        replace H := H h3 c2
        refine qn ?_
        exact ⟨_, _, _, ⟨H, trivial⟩, (hc rfl (hc rfl (hc rfl hn)))⟩
       ·replace H := H.2 e8
        refine xi (qn (xs (xr ?_)))
        replace H := H h3 c2
        refine lp rfl rfl (hn_buildSlice (n := 0) (vs := []) (cs := #[]) TyTE.u24 TyTE.sz9 TyTE.z9 rfl rfl (by kernel_rfl) ?_)
        intro nb h4 g7 f3
        replace H := H nb h4 g7 f3
        have k3 := ext_pushed_f14_sh f3
        refine lv rfl rfl (vm rfl) (lv rfl rfl (vm rfl) ?_)
        obtain ⟨g0, f6, g1, H⟩ := H
        obtain ⟨sl, hq52⟩ : ∃ q, q = slA a8 (Int.toNat k) 1 a1 := ⟨_, rfl⟩
        replace H := H sl hq52
        refine lv rfl rfl (v := (.slice sl (Int.toNat (a0 : Int) - Int.toNat k) (a1 - Int.toNat k))) (hv_slice (l := k) (r := (a0 : Int)) TyTE.u24 TyTE.sz9 rfl (sl_some rfl) sh_none g0 f6 g1 hq52) ?_
        refine lp rfl rfl (hs_append rfl rfl (HAppend.mono H ?_))
        rintro _ h5 ⟨ap, d1, c8, rfl, H⟩
        refine lv rfl rfl (va rfl) ?_
        refine ln (qn ?_)
        refine hx_draw TyTE.mixed [.pure, .pure, .pure, .pure, .pure, .pure, .pure, .read, .ext, .wild, .pure, .wild, .pure] [0, 1, 2, 3, 4, 5, 6, 7, 10, 8, 9, 11, 12] (by kernel_rfl) ?_
        refine pp (i := 0) rfl (wanted_0 rfl) rfl (.slice a8 a0 a1) (fun _ => vm rfl) ?_
        refine pp (i := 1) rfl (wanted_0 rfl) rfl (.int .i64 k) (fun _ => vm rfl) ?_
        obtain ⟨g3, i6, i9, H⟩ := H
        obtain ⟨c9, hq56⟩ : ∃ q, q = slA a8 (Int.toNat 0) 1 a1 := ⟨_, rfl⟩
        replace H := H c9 hq56
        refine pp (i := 2) rfl (wanted_0 rfl) rfl (.slice c9 (Int.toNat k - Int.toNat 0) (a1 - Int.toNat 0)) (fun _ => hv_slice (l := 0) (r := k) TyTE.u24 TyTE.sz9 rfl sl_none (sh_some rfl) g3 i6 i9 hq56) ?_
        refine pp (i := 3) rfl (wanted_0 rfl) rfl (.slice (some ⟨a7, a6, none⟩) b4 b9) (fun _ => vm rfl) ?_
        refine pp (i := 4) rfl (wanted_0 rfl) rfl (.int .i64 i) (fun _ => vm rfl) ?_
        obtain ⟨j6, g9, H⟩ := H
        refine pp (i := 5) rfl (wanted_0 rfl) rfl (ptr a7 (a6 + (Int.toNat i) * 8)) (fun _ => vi TyTE.el22 rfl rfl j6 g9) ?_
        refine pp (i := 6) rfl (wanted_0 rfl) rfl (ptr a7 ((a6 + (Int.toNat i) * 8) + 1)) (fun _ => vf TyTE.fld40_1 (b := a7) (o := a6 + (Int.toNat i) * 8) rfl) ?_
        obtain ⟨d4, j9, H⟩ := H
        refine pr (i := 7) rfl (wanted_0 rfl) rfl (.string d4) (fun _ he => vl TyTE.agg9 rfl (Ext.cell he j9)) ?_
        refine pp (i := 10) rfl (wanted_0 rfl) rfl (.slice ap d1 c8) (fun _ => vm rfl) ?_
        refine hp_ext (i := 8) rfl (wanted_0 rfl) rfl (hn_buildSlice (n := 1) (vs := [(0, (.string d4))]) (cs := #[(.string d4)]) TyTE.u24 TyTE.sz9 TyTE.z9 rfl rfl (by kernel_rfl) ?_)
        intro d5 h6 f5 f4
        replace H := H d5 h6 f5 f4
        have g4 := ext_pushed_f14_sh f4
        refine ⟨g4, ?_⟩
        refine hp_wild (i := 9) rfl (wanted_0 rfl) rfl (hs_append rfl rfl (HAppend.mono H ?_))
        rintro _ h7 ⟨e1, c7, d2, rfl, H⟩
        refine hp_wild (i := 11) rfl (wanted_0 rfl) rfl (hs_append rfl rfl (HAppend.mono H ?_))
        rintro _ h8 ⟨d6, c4, c3, rfl, H⟩
        refine pp (i := 12) rfl (wanted_0 rfl) rfl (.slice d6 c4 c3) (fun _ => va rfl) ?_
        refine hp_nil ?_
        refine bn (qn ?_)
        exact ⟨_, _, _, ⟨H, trivial⟩, (hc rfl (hc rfl (hc rfl hn)))⟩
  ·rintro ρ h2 ⟨b7, b3, b2, ⟨g6, -⟩, hH⟩
   have H := f1 b7 b3 b2 h2 g6; clear f2 f1
   refine xh _ hH ?_
   refine xr ?_
   refine lv rfl rfl (vm rfl) (lv rfl rfl (vr rfl rfl rfl) (lv rfl rfl (va rfl) ?_))
   refine ln (qn ?_)
   exact ⟨(b7, b3, b2, IntKind.i64.wrap (i + 1)), ⟨⟨H.1, trivial⟩, H.2⟩, (hc rfl (hc rfl (hc rfl hn)))⟩
 ·replace H := H.2 f0
  refine xe (qe (qe (bh (qn (xs (xr ?_))))))
  refine lv rfl rfl (vm rfl) (lv rfl rfl (va rfl) ?_)
  refine ln (qn (xt ?_))
  exact endQ_ret _ (res_one Tryz.results9 (rv_tmp rfl)) H
theorem f27_sh (l : Option Addr) (b4 : Nat) (b9 : Nat) (b8 : ByteArray) (h : Heap) (R : Value → Heap → Prop)
  (H : (∃ (I1 : Option Addr → Nat → Nat → Int → Heap → Prop) (c6 : Option Addr → Nat → Nat → Int → Heap → Nat), I1 none 0 0 0 h ∧ (∀ (b7 : Option Addr) (a9 : Nat) (a8 : Nat) (i : Int) (h1 : Heap), I1 b7 a9 a8 i h1 → (((decide (i < (b4 : Int))) = true → (∃ A9 : Option Addr → Nat → Nat → Heap → Prop, (∃ j : Bool, (∃ b5 b3 : Nat, l = some ⟨b5, b3, none⟩ ∧ (0 : Int) ≤ i ∧ i < (b4 : Int) ∧ (∃ a5 : Int, ∃ a2 a1 : ByteArray, ∃ b1 : Int, ∃ b0 : Bool, ∃ a7 a6 b6 : Int, hcell h1 b5 (b3 + (Int.toNat i) * 8) = some (.int .i64 a5) ∧ hcell h1 b5 ((b3 + (Int.toNat i) * 8) + 1) = some (.string a2) ∧ hcell h1 b5 ((b3 + (Int.toNat i) * 8) + 2) = some (.string a1) ∧ hcell h1 b5 ((b3 + (Int.toNat i) * 8) + 3) = some (.int .i64 b1) ∧ hcell h1 b5 ((b3 + (Int.toNat i) * 8) + 4) = some (.bool b0) ∧ hcell h1 b5 ((b3 + (Int.toNat i) * 8) + 5) = some (.int .i64 a7) ∧ hcell h1 b5 ((b3 + (Int.toNat i) * 8) + 6) = some (.int .i64 a6) ∧ hcell h1 b5 ((b3 + (Int.toNat i) * 8) + 7) = some (.int .i64 b6) ∧ (((Ml.keyed ⟨a5, a2, a1, b1, b0, a7, a6, b6⟩) = true → (j = (decide (a2 = b8)))) ∧ ((Ml.keyed ⟨a5, a2, a1, b1, b0, a7, a6, b6⟩) = false → (j = false))))) ∧ ((j = true → (∀ (h3 : Heap), Ext h1 h3 → (∀ nb h5, nb = Array.size h3 → h5 = Array.push h3 (.cells #[(.int .i64 i)] 3) → HAppend Tryz.prog 26 26 (.slice b7 a9 a8) (.slice (some ⟨nb, 0, none⟩) 1 1) h5 (fun vv h6 => ∃ ap : Option Addr, ∃ c1 c0 : Nat, vv = (.slice ap c1 c0) ∧ (A9 ap c1 c0 h6))))) ∧ (j = false → (∀ (h3 : Heap), Ext h1 h3 → (A9 b7 a9 a8 h3))))) ∧ (∀ (b2 : Option Addr) (a3 : Nat) (a4 : Nat) (h2 : Heap), A9 b2 a3 a4 h2 → (I1 b2 a3 a4 (IntKind.i64.wrap (i + 1)) h2 ∧ c6 b2 a3 a4 (IntKind.i64.wrap (i + 1)) h2 < c6 b7 a9 a8 i h1)))) ∧ ((decide (i < (b4 : Int))) = false → R (.slice b7 a9 a8) h1))))) :
  HC Tryz.prog 27 #[(.slice l b4 b9), (.string b8)] h R := by
 refine hc_of (args := [(.slice l b4 b9), (.string b8)]) Tryz.func27 rfl Tryz.ntmps27 (Nat.le_of_ble_eq_true rfl) ?_
 refine xs (xr ?_)
 refine lv rfl rfl (va rfl) ?_
 refine ln (qn (xs (xr ?_)))
 refine lv rfl rfl (va rfl) ?_
 refine ln (qn (xs (xs (xr ?_))))
 refine lv rfl rfl (va rfl) ?_
 refine ln (qn (xb ?_))
 obtain ⟨I1, c6, e6, e4⟩ := H
 refine xl (σ := Option Addr × Nat × Nat × Int) (fun s => [(0, (.slice l b4 b9)), (1, (.string b8)), (5, (.slice s.1 s.2.1 s.2.2.1)), (6, (.int .i64 s.2.2.2))]) (fun s h' => I1 s.1 s.2.1 s.2.2.1 s.2.2.2 h' ∧ True) (fun s h' => c6 s.1 s.2.1 s.2.2.1 s.2.2.2 h') (none, 0, 0, 0) ⟨e6, trivial⟩ (hc rfl (hc rfl (hc rfl (hc rfl hn)))) ?_
 rintro ⟨b7, a9, a8, i⟩ ρ h1 ⟨e5, -⟩
 have H := e4 b7 a9 a8 i h1 e5
 refine xs (xs (xr ?_))
 refine lv rfl rfl (vm rfl) (lv rfl rfl (vm rfl) (lv rfl rfl (v := (.int .i64 (b4 : Int))) (hv_len (n := b4) TyTE.u22 rfl) (lv rfl rfl (vr rfl rfl rfl) ?_)))
 refine ln (qn ?_)
 refine xc (b := decide (i < (b4 : Int))) rfl (fun d1 => ?_) (fun d1 => ?_)
 ·replace H := H.1 d1
  refine xi (qn ?_)
  obtain ⟨A9, c7, d2⟩ := H
  refine xk (fun ρ h' => ∃ b2 : Option Addr, ∃ a3 a4 : Nat, (A9 b2 a3 a4 h' ∧ True) ∧ Has ρ [(0, (.slice l b4 b9)), (1, (.string b8)), (5, (.slice b2 a3 a4)), (6, (.int .i64 i))]) ?_ ?_
  ·have H := c7; clear c7 d2
   refine xb ?_
   obtain ⟨j, c3, c4⟩ := H
   refine xk (fun ρ h' => (Ext h1 h' ∧ True) ∧ Has ρ [(0, (.slice l b4 b9)), (1, (.string b8)), (5, (.slice b7 a9 a8)), (6, (.int .i64 i)), (26, (.bool j))]) ?_ ?_
   ·have H := c3; clear c3 c4
    refine xr ?_
    refine lv rfl rfl (vm rfl) (lv rfl rfl (vm rfl) ?_)
    obtain ⟨b5, b3, e7, c9, c8, Hq⟩ := H
    subst e7
    have H := Hq; clear Hq
    refine lv rfl rfl (v := (ptr b5 (b3 + (Int.toNat i) * 8))) (vi TyTE.el22 rfl rfl c9 c8) ?_
    obtain ⟨a5, a2, a1, b1, b0, a7, a6, b6, e3, d4, e0, d7, d8, e2, d6, d5, H⟩ := H
    refine lv rfl rfl (vL (vs := [(.int .i64 a5), (.string a2), (.string a1), (.int .i64 b1), (.bool b0), (.int .i64 a7), (.int .i64 a6), (.int .i64 b6)]) TyTE.agg40 TyTE.sz40 rfl (cc e3 (cc d4 (cc e0 (cc d7 (cc d8 (cc e2 (cc d6 (cc d5 cn))))))))) ?_
    refine lp rfl rfl (sc TyTE.cb23 rfl (HC.mono (ofKey_c (⟨a5, a2, a1, b1, b0, a7, a6, b6⟩) _) ?_))
    rintro _ h4 ⟨rfl, c2⟩
    refine lv rfl rfl (vm rfl) ?_
    rcases bool_or (Ml.keyed ⟨a5, a2, a1, b1, b0, a7, a6, b6⟩) with a0 | a0
    ·replace H := H.1 a0
     refine ly (wanted_y rfl rfl rfl a0) rfl (HStep.of_val (v := (.slice (some ⟨b5, b3, none⟩) b4 b9)) (vm rfl) ?_)
     refine ly (wanted_y rfl rfl rfl a0) rfl (HStep.of_val (v := (.int .i64 i)) (vm rfl) ?_)
     refine ly (wanted_y rfl rfl rfl a0) rfl (HStep.of_val (v := (ptr b5 (b3 + (Int.toNat i) * 8))) (vi TyTE.el22 rfl rfl c9 c8) ?_)
     refine ly (wanted_y rfl rfl rfl a0) rfl (HStep.of_val (v := (ptr b5 ((b3 + (Int.toNat i) * 8) + 1))) (vf TyTE.fld40_1 (b := b5) (o := b3 + (Int.toNat i) * 8) rfl) ?_)
     refine ly (wanted_y rfl rfl rfl a0) rfl (HStep.of_val (v := (.string a2)) (vl TyTE.agg9 rfl (Ext.cell c2 d4)) ?_)
     refine ly (wanted_y rfl rfl rfl a0) rfl (HStep.of_val (v := (.string b8)) (vm rfl) ?_)
     refine ly (wanted_y rfl rfl rfl a0) rfl (HStep.of_val (v := (.bool (decide (a2 = b8)))) (hv_str rfl rfl rfl) ?_)
     refine lv rfl rfl (v := (.bool (decide (a2 = b8)))) (hv_pick_t rfl a0 rfl) ?_
     refine ln (qn ?_)
     obtain rfl := H
     exact ⟨⟨c2, trivial⟩, (hc rfl (hc rfl (hc rfl (hc rfl (hc rfl hn)))))⟩
    ·replace H := H.2 a0
     refine lo (wanted_n rfl rfl rfl a0) rfl ?_
     refine lo (wanted_n rfl rfl rfl a0) rfl ?_
     refine lo (wanted_n rfl rfl rfl a0) rfl ?_
     refine lo (wanted_n rfl rfl rfl a0) rfl ?_
     refine lo (wanted_n rfl rfl rfl a0) rfl ?_
     refine lo (wanted_n rfl rfl rfl a0) rfl ?_
     refine lo (wanted_n rfl rfl rfl a0) rfl ?_
     refine lv rfl rfl (v := (.bool false)) (hv_pick_f rfl a0 rfl) ?_
     refine ln (qn ?_)
     obtain rfl := H
     exact ⟨⟨c2, trivial⟩, (hc rfl (hc rfl (hc rfl (hc rfl (hc rfl hn)))))⟩
   ·have H := c4; clear c3 c4
    rintro ρ h3 ⟨⟨d0, -⟩, hH⟩
    refine xh _ hH ?_
    refine xc (b := j) rfl (fun c5 => ?_) (fun c5 => ?_)
    ·replace H := H.1 c5
     refine xr ?_
     refine lv rfl rfl (vm rfl) (lv rfl rfl (vm rfl) ?_)
     replace H := H h3 d0
     refine lp rfl rfl (hn_buildSlice (n := 1) (vs := [(0, (.int .i64 i))]) (cs := #[(.int .i64 i)]) TyTE.u26 TyTE.sz3 TyTE.z3 rfl rfl (by kernel_rfl) ?_)
     intro nb h5 e1 d3
     replace H := H nb h5 e1 d3
     have e8 := ext_pushed_f14_sh d3
     refine lp rfl rfl (hs_append rfl rfl (HAppend.mono H ?_))
     rintro _ h6 ⟨ap, c1, c0, rfl, H⟩
     refine lv rfl rfl (va rfl) ?_
     refine ln (bn (qn ?_))
     exact ⟨_, _, _, ⟨H, trivial⟩, (hc rfl (hc rfl (hc rfl (hc rfl hn))))⟩
    ·replace H := H.2 c5
     refine xi (bn ?_)
     replace H := H h3 d0
     refine qn ?_
     exact ⟨_, _, _, ⟨H, trivial⟩, (hc rfl (hc rfl (hc rfl (hc rfl hn))))⟩
  ·rintro ρ h2 ⟨b2, a3, a4, ⟨d9, -⟩, hH⟩
   have H := d2 b2 a3 a4 h2 d9; clear c7 d2
   refine xh _ hH ?_
   refine xr ?_
   refine lv rfl rfl (vm rfl) (lv rfl rfl (vr rfl rfl rfl) (lv rfl rfl (va rfl) ?_))
   refine ln (qn ?_)
   exact ⟨(b2, a3, a4, IntKind.i64.wrap (i + 1)), ⟨⟨H.1, trivial⟩, H.2⟩, (hc rfl (hc rfl (hc rfl (hc rfl hn))))⟩
 ·replace H := H.2 d1
  refine xe (qe (qe (bh (qn (xs (xr ?_))))))
  refine lv rfl rfl (vm rfl) (lv rfl rfl (va rfl) ?_)
  refine ln (qn (xt ?_))
  exact endQ_ret _ (res_one Tryz.results27 (rv_tmp rfl)) H
theorem f11_sh (l : Option Addr) (b9 : Nat) (c1 : Nat) (d3 : ByteArray) (h : Heap) (R : Value → Heap → Prop)
  (H : HC Tryz.prog 17 #[(.slice l b9 c1)] h (fun vv h1 => ∃ r : Int, vv = (.int .i64 r) ∧ (((r != 0) = true → R (.tuple #[(.slice none 0 0), (.int .i64 r)]) h1) ∧ ((r != 0) = false → HC Tryz.prog 27 #[(.slice l b9 c1), (.string d3)] h1 (fun vv h2 => ∃ b7 : Option Addr, ∃ a0 c6 : Nat, vv = (.slice b7 a0 c6) ∧ (((decide ((a0 : Int) > 24)) = true → R (.tuple #[(.slice none 0 0), (.int .i64 250)]) h2) ∧ ((decide ((a0 : Int) > 24)) = false → (∃ (I3 : Option Addr → Nat → Nat → Int → Heap → Prop) (d6 : Option Addr → Nat → Nat → Int → Heap → Nat), I3 none 0 0 0 h2 ∧ (∀ (m : Option Addr) (c4 : Nat) (c3 : Nat) (i : Int) (h3 : Heap), I3 m c4 c3 i h3 → (((decide (i < (a0 : Int))) = true → (∃ a9 a8 : Nat, b7 = some ⟨a9, a8, none⟩ ∧ (0 : Int) ≤ i ∧ i < (a0 : Int) ∧ (∃ x : Int, hcell h3 a9 (a8 + (Int.toNat i) * 1) = some (.int .i64 x) ∧ (∃ c0 b8 : Nat, l = some ⟨c0, b8, none⟩ ∧ (0 : Int) ≤ x ∧ x < (b9 : Int) ∧ (∃ b1 : Int, ∃ b4 a4 : ByteArray, ∃ b6 : Int, ∃ b5 : Bool, ∃ b0 b2 c2 : Int, hcell h3 c0 (b8 + (Int.toNat x) * 8) = some (.int .i64 b1) ∧ hcell h3 c0 ((b8 + (Int.toNat x) * 8) + 1) = some (.string b4) ∧ hcell h3 c0 ((b8 + (Int.toNat x) * 8) + 2) = some (.string a4) ∧ hcell h3 c0 ((b8 + (Int.toNat x) * 8) + 3) = some (.int .i64 b6) ∧ hcell h3 c0 ((b8 + (Int.toNat x) * 8) + 4) = some (.bool b5) ∧ hcell h3 c0 ((b8 + (Int.toNat x) * 8) + 5) = some (.int .i64 b0) ∧ hcell h3 c0 ((b8 + (Int.toNat x) * 8) + 6) = some (.int .i64 b2) ∧ hcell h3 c0 ((b8 + (Int.toNat x) * 8) + 7) = some (.int .i64 c2) ∧ (∀ nb h4, nb = Array.size h3 → h4 = Array.push h3 (.cells #[(.int .i64 b1), (.string b4), (.string a4), (.int .i64 b6), (.bool b5), (.int .i64 b0), (.int .i64 b2), (.int .i64 c2)] 40) → HAppend Tryz.prog 22 22 (.slice m c4 c3) (.slice (some ⟨nb, 0, none⟩) 1 1) h4 (fun vv h5 => ∃ ap : Option Addr, ∃ a5 a3 : Nat, vv = (.slice ap a5 a3) ∧ (I3 ap a5 a3 (IntKind.i64.wrap (i + 1)) h5 ∧ d6 ap a5 a3 (IntKind.i64.wrap (i + 1)) h5 < d6 m c4 c3 i h3)))))))) ∧ ((decide (i < (a0 : Int))) = false → HC Tryz.prog 28 #[(.slice m c4 c3)] h3 (fun vv h6 => ∃ r0 : Option Addr, ∃ a1 b3 : Nat, ∃ r1 : Bool, vv = (.tuple #[(.slice r0 a1 b3), (.bool r1)]) ∧ (((!r1) = true → R (.tuple #[(.slice none 0 0), (.int .i64 251)]) h6) ∧ ((!r1) = false → (∃ (d2 : Option Addr → Nat → Nat → Int → Heap → Prop) (c9 : Option Addr → Nat → Nat → Int → Heap → Nat), d2 none 0 0 0 h6 ∧ (∀ (c5 : Option Addr) (a7 : Nat) (a6 : Nat) (a2 : Int) (h7 : Heap), d2 c5 a7 a6 a2 h7 → (((decide (a2 < (a1 : Int))) = true → (∃ d1 d0 : Nat, r0 = some ⟨d1, d0, none⟩ ∧ (0 : Int) ≤ a2 ∧ a2 < (a1 : Int) ∧ (∃ x : Int, hcell h7 d1 (d0 + (Int.toNat a2) * 1) = some (.int .i64 x) ∧ (∃ a9 a8 : Nat, b7 = some ⟨a9, a8, none⟩ ∧ (0 : Int) ≤ x ∧ x < (a0 : Int) ∧ (∃ c8 : Int, hcell h7 a9 (a8 + (Int.toNat x) * 1) = some (.int .i64 c8) ∧ (∀ nb h8, nb = Array.size h7 → h8 = Array.push h7 (.cells #[(.int .i64 c8)] 3) → HAppend Tryz.prog 26 26 (.slice c5 a7 a6) (.slice (some ⟨nb, 0, none⟩) 1 1) h8 (fun vv h9 => ∃ ap : Option Addr, ∃ a5 a3 : Nat, vv = (.slice ap a5 a3) ∧ (d2 ap a5 a3 (IntKind.i64.wrap (a2 + 1)) h9 ∧ c9 ap a5 a3 (IntKind.i64.wrap (a2 + 1)) h9 < c9 c5 a7 a6 a2 h7)))))))) ∧ ((decide (a2 < (a1 : Int))) = false → R (.tuple #[(.slice c5 a7 a6), (.int .i64 0)]) h7)))))))))))))))))) :
  HC Tryz.prog 11 #[(.slice l b9 c1), (.string d3)] h R := by
 refine hc_of (args := [(.slice l b9 c1), (.string d3)]) Tryz.func11 rfl Tryz.ntmps11 (Nat.le_of_ble_eq_true rfl) ?_
 refine xs (xr ?_)
 refine lv rfl rfl (va rfl) (lv rfl rfl (va rfl) ?_)
 refine ln (qn (xs (xs (xr ?_))))
 refine lv rfl rfl (vm rfl) ?_
 refine lp rfl rfl (sc TyTE.cb17 rfl (HC.mono H ?_))
 rintro _ h1 ⟨r, rfl, H⟩
 refine lv rfl rfl (va rfl) ?_
 refine ln (qn (xs (xr ?_)))
 refine lv rfl rfl (vm rfl) (lv rfl rfl (vr rfl rfl rfl) ?_)
 refine ln (qn ?_)
 refine xc (b := r != 0) rfl (fun d8 => ?_) (fun d8 => ?_)
 ·replace H := H.1 d8
  refine xs (xr ?_)
  refine lv rfl rfl (vm rfl) (lv rfl rfl (va rfl) (lv rfl rfl (va rfl) ?_))
  refine ln (qn (xt (qr ?_)))
  exact endQ_ret _ (res_two Tryz.results11 (rv_tmp rfl) (rv_tmp rfl)) H
 ·replace H := H.2 d8
  refine xi (qn (xs (xr ?_)))
  refine lv rfl rfl (vm rfl) (lv rfl rfl (vm rfl) ?_)
  refine lp rfl rfl (sc TyTE.cb27 rfl (HC.mono H ?_))
  rintro _ h2 ⟨b7, a0, c6, rfl, H⟩
  refine lv rfl rfl (va rfl) ?_
  refine ln (qn (xs (xs (xr ?_))))
  refine lv rfl rfl (vm rfl) (lv rfl rfl (v := (.int .i64 (a0 : Int))) (hv_len (n := a0) TyTE.u26 rfl) (lv rfl rfl (vr rfl rfl rfl) ?_))
  refine ln (qn ?_)
  refine xc (b := decide ((a0 : Int) > 24)) rfl (fun d9 => ?_) (fun d9 => ?_)
  ·replace H := H.1 d9
   refine xs (xr ?_)
   refine lv rfl rfl (va rfl) (lv rfl rfl (va rfl) ?_)
   refine ln (qn (xt (qr ?_)))
   exact endQ_ret _ (res_two Tryz.results11 (rv_tmp rfl) (rv_tmp rfl)) H
  ·replace H := H.2 d9
   refine xi (qn (xs (xr ?_)))
   refine lv rfl rfl (va rfl) ?_
   refine ln (qn (xs (xs (xr ?_))))
   refine lv rfl rfl (va rfl) ?_
   refine ln (qn (xb ?_))
   obtain ⟨I3, d6, g7, g6⟩ := H
   refine xl (σ := Option Addr × Nat × Nat × Int) (fun s => [(0, (.slice l b9 c1)), (7, (.slice b7 a0 c6)), (8, (.slice s.1 s.2.1 s.2.2.1)), (9, (.int .i64 s.2.2.2))]) (fun s h' => I3 s.1 s.2.1 s.2.2.1 s.2.2.2 h' ∧ True) (fun s h' => d6 s.1 s.2.1 s.2.2.1 s.2.2.2 h') (none, 0, 0, 0) ⟨g7, trivial⟩ (hc rfl (hc rfl (hc rfl (hc rfl hn)))) ?_
   rintro ⟨m, c4, c3, i⟩ ρ h3 ⟨g5, -⟩
   have H := g6 m c4 c3 i h3 g5
   refine xs (xs (xr ?_))
   refine lv rfl rfl (vm rfl) (lv rfl rfl (vm rfl) (lv rfl rfl (v := (.int .i64 (a0 : Int))) (hv_len (n := a0) TyTE.u26 rfl) (lv rfl rfl (vr rfl rfl rfl) ?_)))
   refine ln (qn ?_)
   refine xc (b := decide (i < (a0 : Int))) rfl (fun e1 => ?_) (fun e1 => ?_)
   ·replace H := H.1 e1
    refine xi (qn (xs (xb (xr ?_))))
    refine lv rfl rfl (vm rfl) (lv rfl rfl (vm rfl) (lv rfl rfl (vm rfl) (lv rfl rfl (vm rfl) ?_)))
    obtain ⟨a9, a8, c7, g8, f0, Hq⟩ := H
    subst c7
    have H := Hq; clear Hq
    refine lv rfl rfl (v := (ptr a9 (a8 + (Int.toNat i) * 1))) (vi TyTE.el26 rfl rfl g8 f0) ?_
    obtain ⟨x, g4, H⟩ := H
    refine lv rfl rfl (vl TyTE.agg3 rfl g4) ?_
    obtain ⟨c0, b8, c7, g1, f4, Hq⟩ := H
    subst c7
    have H := Hq; clear Hq
    refine lv rfl rfl (v := (ptr c0 (b8 + (Int.toNat x) * 8))) (vi TyTE.el22 rfl rfl g1 f4) ?_
    obtain ⟨b1, b4, a4, b6, b5, b0, b2, c2, f3, e3, g2, e8, e9, f5, e4, g0, H⟩ := H
    refine lv rfl rfl (vL (vs := [(.int .i64 b1), (.string b4), (.string a4), (.int .i64 b6), (.bool b5), (.int .i64 b0), (.int .i64 b2), (.int .i64 c2)]) TyTE.agg40 TyTE.sz40 rfl (cc f3 (cc e3 (cc g2 (cc e8 (cc e9 (cc f5 (cc e4 (cc g0 cn))))))))) ?_
    refine lp rfl rfl (hn_buildSlice (n := 1) (vs := [(0, (.agg #[(.int .i64 b1), (.string b4), (.string a4), (.int .i64 b6), (.bool b5), (.int .i64 b0), (.int .i64 b2), (.int .i64 c2)]))]) (cs := #[(.int .i64 b1), (.string b4), (.string a4), (.int .i64 b6), (.bool b5), (.int .i64 b0), (.int .i64 b2), (.int .i64 c2)]) TyTE.u22 TyTE.sz40 TyTE.z40 rfl rfl (by kernel_rfl) ?_)
    intro nb h4 g3 e0
    replace H := H nb h4 g3 e0
    have i0 := ext_pushed_f14_sh e0
    refine lp rfl rfl (hs_append rfl rfl (HAppend.mono H ?_))
    rintro _ h5 ⟨ap, a5, a3, rfl, H⟩
    refine lv rfl rfl (va rfl) ?_
    refine ln (bn (qn (xr ?_)))
    refine lv rfl rfl (vm rfl) (lv rfl rfl (vr rfl rfl rfl) (lv rfl rfl (va rfl) ?_))
    refine ln (qn ?_)
    exact ⟨(ap, a5, a3, IntKind.i64.wrap (i + 1)), ⟨⟨H.1, trivial⟩, H.2⟩, (hc rfl (hc rfl (hc rfl (hc rfl hn))))⟩
   ·replace H := H.2 e1
    refine xe (qe (qe (bh (qn (xs (xr ?_))))))
    refine lv rfl rfl (vm rfl) ?_
    refine lp rfl rfl (sc TyTE.cb28 rfl (HC.mono H ?_))
    rintro _ h6 ⟨r0, a1, b3, r1, rfl, H⟩
    refine lv rfl rfl (vm rfl) (lv rfl rfl (vx rfl rfl) (lv rfl rfl (vx rfl rfl) (lv rfl rfl (va rfl) (lv rfl rfl (va rfl) ?_))))
    refine ln (qn (xs (xs (xr ?_))))
    refine lv rfl rfl (vm rfl) (lv rfl rfl (v := (.bool (!r1))) (hv_not (b := r1) rfl) ?_)
    refine ln (qn ?_)
    refine xc (b := !r1) rfl (fun d5 => ?_) (fun d5 => ?_)
    ·replace H := H.1 d5
     refine xs (xr ?_)
     refine lv rfl rfl (va rfl) (lv rfl rfl (va rfl) ?_)
     refine ln (qn (xt (qr ?_)))
     exact endQ_ret _ (res_two Tryz.results11 (rv_tmp rfl) (rv_tmp rfl)) H
    ·replace H := H.2 d5
     refine xi (qn (xs (xr ?_)))
     refine lv rfl rfl (va rfl) ?_
     refine ln (qn (xs (xs (xr ?_))))
     refine lv rfl rfl (va rfl) ?_
     refine ln (qn (xb ?_))
     obtain ⟨d2, c9, e7, e6⟩ := H
     refine xl (σ := Option Addr × Nat × Nat × Int) (fun s => [(7, (.slice b7 a0 c6)), (10, (.slice r0 a1 b3)), (12, (.slice s.1 s.2.1 s.2.2.1)), (13, (.int .i64 s.2.2.2))]) (fun s h' => d2 s.1 s.2.1 s.2.2.1 s.2.2.2 h' ∧ True) (fun s h' => c9 s.1 s.2.1 s.2.2.1 s.2.2.2 h') (none, 0, 0, 0) ⟨e7, trivial⟩ (hc rfl (hc rfl (hc rfl (hc rfl hn)))) ?_
     rintro ⟨c5, a7, a6, a2⟩ ρ h7 ⟨f6, -⟩
     have H := e6 c5 a7 a6 a2 h7 f6
     refine xs (xs (xr ?_))
     refine lv rfl rfl (vm rfl) (lv rfl rfl (vm rfl) (lv rfl rfl (v := (.int .i64 (a1 : Int))) (hv_len (n := a1) TyTE.u26 rfl) (lv rfl rfl (vr rfl rfl rfl) ?_)))
     refine ln (qn ?_)
     refine xc (b := decide (a2 < (a1 : Int))) rfl (fun d4 => ?_) (fun d4 => ?_)
     ·replace H := H.1 d4
      refine xi (qn (xs (xb (xr ?_))))
      refine lv rfl rfl (vm rfl) (lv rfl rfl (vm rfl) (lv rfl rfl (vm rfl) (lv rfl rfl (vm rfl) ?_)))
      obtain ⟨d1, d0, c7, f2, f9, Hq⟩ := H
      subst c7
      have H := Hq; clear Hq
      refine lv rfl rfl (v := (ptr d1 (d0 + (Int.toNat a2) * 1))) (vi TyTE.el26 rfl rfl f2 f9) ?_
      obtain ⟨x, f8, H⟩ := H
      refine lv rfl rfl (vl TyTE.agg3 rfl f8) ?_
      obtain ⟨a9, a8, c7, f7, f1, Hq⟩ := H
      subst c7
      have H := Hq; clear Hq
      refine lv rfl rfl (v := (ptr a9 (a8 + (Int.toNat x) * 1))) (vi TyTE.el26 rfl rfl f7 f1) ?_
      obtain ⟨c8, e2, H⟩ := H
      refine lv rfl rfl (vl TyTE.agg3 rfl e2) ?_
      refine lp rfl rfl (hn_buildSlice (n := 1) (vs := [(0, (.int .i64 c8))]) (cs := #[(.int .i64 c8)]) TyTE.u26 TyTE.sz3 TyTE.z3 rfl rfl (by kernel_rfl) ?_)
      intro nb h8 e5 d7
      replace H := H nb h8 e5 d7
      have g9 := ext_pushed_f14_sh d7
      refine lp rfl rfl (hs_append rfl rfl (HAppend.mono H ?_))
      rintro _ h9 ⟨ap, a5, a3, rfl, H⟩
      refine lv rfl rfl (va rfl) ?_
      refine ln (bn (qn (xr ?_)))
      refine lv rfl rfl (vm rfl) (lv rfl rfl (vr rfl rfl rfl) (lv rfl rfl (va rfl) ?_))
      refine ln (qn ?_)
      exact ⟨(ap, a5, a3, IntKind.i64.wrap (a2 + 1)), ⟨⟨H.1, trivial⟩, H.2⟩, (hc rfl (hc rfl (hc rfl (hc rfl hn))))⟩
     ·replace H := H.2 d4
      refine xe (qe (qe (bh (qn (xs (xr ?_))))))
      refine lv rfl rfl (vm rfl) (lv rfl rfl (va rfl) (lv rfl rfl (va rfl) ?_))
      refine ln (qn (xt ?_))
      exact endQ_ret _ (res_two Tryz.results11 (rv_tmp rfl) (rv_tmp rfl)) H
end Go.Proofs.YtfjcciaabkjkgaaGreatDoor
namespace Go.Proofs.YtfjcciaabkjkgaaGreatDoor
open Go Ml
def Typ (T : TypeId) (h : Heap) (a : Option Addr) : Prop := ∀ b, blkA a b → ∃ cs fr, h[b]? = some (.cells cs T fr)
theorem Typ.none {T : TypeId} {h : Heap} : Typ T h none := fun _ q => (blkA_none q).elim
theorem Typ.of_own {k N c : Nat} {T : TypeId} {h : Heap} {a : Option Addr} (w : Own k T N h a c) : Typ T h a := fun b hb => by
  rcases w with ⟨e, _⟩ | ⟨b', o', cs', e, _, r1, _⟩
  · rw [e] at hb; exact (blkA_none hb).elim
  · rw [e, blkA_some] at hb; subst hb; exact ⟨_, _, r1⟩
theorem Typ.ext {h h' : Heap} {T : TypeId} {a : Option Addr} (t : Typ T h a) (x : Ext h h') : Typ T h' a := fun b hb => by
  obtain ⟨cs, fr, r⟩ := t b hb
  exact ⟨cs, fr, x.row r⟩
def RdT (h : Heap) (v : Value) (L : List Mt) : Prop := ∃ a c, v = .slice a L.length c ∧ Sl eMt h a c L ∧ Typ tMt h a
theorem with_t {h : Heap} {a : Option Addr} {c : Nat} {L : List Mt} (s : Sl eMt h a c L) (ty : Typ tMt h a) (hl : L.length ≤ 1099511627776) (m : Mt) :
    HC Tryz.prog 106 #[.slice a L.length c, mtV m] h fun v h' => Ext h h' ∧ RdT h' v (insW L (norm m)) := by
  have hle := s.le
  refine f106_sh _ _ _ _ _ _ _ fun mc hmc => ?_
  subst hmc
  refine ⟨fun i => ∃ j : Nat, i = j ∧ j ≤ L.length ∧ ∀ t x, t < j → L[t]? = some x → mlt x (norm m) = true, fun i => L.length - i.toNat, ⟨0, rfl, Nat.zero_le _, fun t x ht => by omega⟩, ?_⟩
  rintro _ ⟨j, rfl, hj, hb⟩
  have fin : (∀ y, L[j]? = some y → mlt y (norm m) = false ∧ y ≠ norm m) → ∀ (m_b : Nat) (h5 : Heap), Array.size h ≤ m_b → m_b < Array.size h5 → Ext h h5 → ∀ nb h7, nb = Array.size h5 → h7 = Array.push h5 (.cells #[] tMt) →
      (0 ≤ (0 : Int) ∧ (0 : Int) ≤ (j : Int) ∧ (j : Int) ≤ (c : Int) ∧ ∀ sl : Option Addr, sl = slA a (Int.toNat 0) 2 c →
        HAppend Tryz.prog tMts tMts (.slice (some ⟨nb, 0, none⟩) 0 0) (.slice sl (Int.toNat (j : Int) - Int.toNat 0) (c - Int.toNat 0)) h7 (fun vv h8 => Kp [m_b] h7 h8 ∧ ∃ ap : Option Addr, ∃ ap_n ap_c : Nat, vv = (.slice ap ap_n ap_c) ∧
          (∀ nb_1 h9, nb_1 = Array.size h8 → h9 = Array.push h8 (.cells #[(.bool m.has), (.string (bif !m.has then ByteArray.empty else m.val))] tMt) →
            HAppend Tryz.prog tMts tMts (.slice ap ap_n ap_c) (.slice (some ⟨nb_1, 0, none⟩) 1 1) h9 (fun vv h10 => ∃ ap_1 : Option Addr, ∃ ap_n_1 ap_c_1 : Nat, vv = (.slice ap_1 ap_n_1 ap_c_1) ∧
              (0 ≤ (j : Int) ∧ (j : Int) ≤ (L.length : Int) ∧ (L.length : Int) ≤ (c : Int) ∧ ∀ sl_1 : Option Addr, sl_1 = slA a (Int.toNat (j : Int)) 2 c →
                HAppend Tryz.prog tMts tMts (.slice ap_1 ap_n_1 ap_c_1) (.slice sl_1 (Int.toNat (L.length : Int) - Int.toNat (j : Int)) (c - Int.toNat (j : Int))) h10 (fun vv h11 => ∃ ap_2 : Option Addr, ∃ ap_n_2 ap_c_2 : Nat, vv = (.slice ap_2 ap_n_2 ap_c_2) ∧ (Ext h h11 ∧ RdT h11 (.slice ap_2 ap_n_2 ap_c_2) (insW L (norm m))))))))) := by
    intro hn m_b h5 lo lt5 x5 nb h7 eb eh
    have hmb : m_b ≠ nb := by omega
    refine ⟨by omega, by omega, by omega, fun sl es => ?_⟩
    subst es
    obtain ⟨a0, c0, e0, x0, s0, w0⟩ := New.lit (E := eMt) (h0 := h) (n := 0) (L := ([] : List Mt)) x5 eb eh rfl rfl
    cases e0
    refine app_own aMt x0 s0 w0 rfl ((s.ext x0).cut (l := 0) (r := j) (Nat.zero_le _) hj) (by simp; omega) (by simp; omega) ?_
    intro a1 c1 h8 x8 f8 s8 w8 _
    refine ⟨f8.kp fun b hb => by simp at hb; subst hb; rw [blkA_some]; exact hmb, a1, _, c1, rfl, ?_⟩
    intro nb1 h9 eb1 eh1
    refine app_one (x := norm m) aMt eb1 eh1 rfl x8 s8 w8 (by simp; omega) (by simp; omega) ?_
    intro a2 c2 h10 x10 _ s10 w10 _
    refine ⟨a2, _, c2, rfl, by omega, by omega, by omega, fun sl1 es1 => ?_⟩
    subst es1
    refine app_own aMt x10 s10 w10 (by simp; omega) ((s.ext x10).cut (l := j) (r := L.length) hj (Nat.le_refl _)) (by simp) (by simp; omega) ?_
    intro a3 c3 h11 x11 _ s11 w11 _
    refine ⟨a3, _, c3, rfl, x11, a3, c3, ?_, s11.cast ?_, Typ.of_own w11⟩
    · rw [insW_at L (norm m) j hj hb (fun y hy => (hn y hy).1), if_neg (fun h => (hn _ h).2 rfl)]
      congr 1; simp; omega
    · rw [insW_at L (norm m) j hj hb (fun y hy => (hn y hy).1), if_neg (fun h => (hn _ h).2 rfl)]
      simp
  by_cases hjl : j < L.length
  · have hx := List.getElem?_eq_getElem hjl
    obtain ⟨b, o, e0, hc⟩ := s.at hx
    refine ⟨mlt L[j] (norm m), ⟨fun _ => ⟨b, o, e0, by omega, by omega, L[j].has, L[j].val, hc.1, hc.2.1, rfl⟩, fun e => absurd (ge_of_dec e) (by omega)⟩, fun e => ?_, fun e => ?_⟩
    · rw [wadd j (by omega)]
      refine ⟨⟨j + 1, rfl, hjl, fun t x ht hx' => ?_⟩, by simp only [Int.toNat_natCast]; omega⟩
      by_cases htj : t = j
      · subst htj; rw [hx] at hx'; cases hx'; exact e
      · exact hb t x (by omega) hx'
    · refine ⟨decide (L[j] = norm m), ⟨fun _ => ⟨b, o, e0, by omega, by omega, L[j].has, L[j].val, hc.1, hc.2.1, (mt_eq L[j] (norm m)).symm⟩, fun e => absurd (ge_of_dec e) (by omega)⟩, fun e2 h5 x5 => ?_, fun e2 => ?_⟩
      · have he : L[j] = norm m := by simpa using e2
        have := insW_at L (norm m) j hj hb (fun y hy => by rw [hx] at hy; cases hy; exact e)
        rw [hx, he, if_pos rfl] at this
        rw [this]
        exact ⟨x5, a, c, rfl, s.ext x5, ty.ext x5⟩
      · have hne : ¬ L[j] = norm m := by simpa using e2
        exact fin fun y hy => by rw [hx] at hy; cases hy; exact ⟨e, hne⟩
  · refine ⟨false, ⟨fun e => absurd (lt_of_dec e) hjl, fun _ => rfl⟩, fun e => (by cases e), fun _ => ⟨false, ⟨fun e => absurd (lt_of_dec e) hjl, fun _ => rfl⟩, fun e => (by cases e), fun _ => ?_⟩⟩
    exact fin fun y hy => absurd (List.getElem?_eq_some_iff.1 hy).1 hjl
theorem rnext_t {h : Heap} {a : Option Addr} {c : Nat} {L : List Mt} (s : Sl eMt h a c L) (hl : L.length ≤ 68719476736) (hn : Nm L) (m : Mv) :
    HC Tryz.prog 87 #[.slice a L.length c, mvV m] h fun v h' => Ext h h' ∧ RdT h' v (next L m) := by
  refine f87_sh _ _ _ _ _ _ _ _ _ _ _ _ _ fun mb h2 lo lt x2 => ?_
  refine ⟨fun a' n' c' v h3 => ∃ j : Nat, v = j ∧ j ≤ L.length ∧ n' = (insAll [] ((L.take j).flatMap (outs m))).length ∧ Ext h h3 ∧ Sl eMt h3 a' c' (insAll [] ((L.take j).flatMap (outs m))) ∧ Typ tMt h3 a',
    fun _ _ _ v _ => L.length - v.toNat, ⟨0, rfl, Nat.zero_le _, rfl, x2, Sl.nil _ _, Typ.none⟩, ?_⟩
  rintro out _ c' _ h3 ⟨j, rfl, hj, rfl, x3, s3, y3⟩
  generalize hT : insAll [] ((L.take j).flatMap (outs m)) = T at *
  have sT : Srt T := by rw [← hT]; exact insAll_srt _ _ List.Pairwise.nil
  have bT : T.length ≤ 3 * L.length := by
    have h1 := insAll_len ((L.take j).flatMap (outs m)) []
    have h2 := flat_outs_len m (L.take j)
    have h3 : (L.take j).length ≤ L.length := by simp; omega
    rw [← hT]; rw [List.length_nil] at h1; omega
  refine ⟨fun hlt => ?_, fun hge => ?_⟩
  · have hjl := lt_of_dec hlt
    obtain ⟨b, o, e0, hc⟩ := (s.ext x3).at (List.getElem?_eq_getElem hjl)
    have hw := hn L[j] (List.getElem_mem hjl)
    have eN : insAll [] ((L.take (j + 1)).flatMap (outs m)) = insAll T (rOuts m L[j]) := by
      rw [flat_take L (outs m) j hjl, insAll_app, hT, insAll_outs sT]
    refine ⟨fun a' n' c' h' => ∃ T', T' = insAll T (rOuts m L[j]) ∧ n' = T'.length ∧ Ext h h' ∧ Sl eMt h' a' c' T' ∧ Typ tMt h' a', ⟨b, o, e0, by omega, by omega, L[j].has, L[j].val, hc.1, hc.2.1, fun e => ?_, fun e => ?_⟩, ?_⟩
    · intro h6 x6
      refine ⟨T, ?_, rfl, x3.trans x6, s3.ext x6, y3.ext x6⟩
      have : rOuts m L[j] = [] := by
        unfold rOuts; rw [if_pos]
        simp [hits] at e ⊢
        exact ⟨⟨e.1.1, e.1.2.2.2, e.1.2.2.1, e.1.2.1⟩, e.2⟩
      rw [this]; rfl
    · have eR : rOuts m L[j] = (if (doesR m).1 then [L[j]] else []) ++ (if (doesR m).2.1 then [⟨true, m.val⟩] else []) ++ (if (doesR m).2.2 then [nil] else []) := by
        unfold rOuts; rw [if_neg]
        rintro ⟨h1, h2⟩
        rw [Bool.eq_false_iff] at e
        apply e
        simp [hits] at h1 h2 ⊢
        exact ⟨⟨h1.1, h1.2.2.2, h1.2.2.1, h1.2.1⟩, h2⟩
      refine ⟨fun a' n' c' h' => ∃ T', T' = insAll T (if (doesR m).1 then [L[j]] else []) ∧ n' = T'.length ∧ T'.length ≤ T.length + 1 ∧ Ext h h' ∧ Sl eMt h' a' c' T' ∧ Typ tMt h' a', ⟨fun e1 h6 x6 => ?_, fun e1 h6 x6 => ?_⟩, ?_⟩
      · have e1' : (doesR m).1 = true := e1
        refine (with_t (s3.ext x6) (y3.ext x6) (by omega) L[j]).mono ?_
        rintro _ h8 ⟨x8, a8, c8, rfl, s8, y8⟩
        rw [norm_id hw] at *
        exact ⟨x8.kp _, a8, _, c8, rfl, _, by rw [if_pos e1']; rfl, rfl, insW_len _ _, x3.trans (x6.trans x8), s8, y8⟩
      · have e1' : (doesR m).1 = false := e1
        exact ⟨T, by rw [if_neg (by rw [e1']; simp)]; rfl, rfl, by omega, x3.trans x6, s3.ext x6, y3.ext x6⟩
      · rintro a7 _ c7 h7 ⟨T7, eT7, rfl, b7, x7, s7, y7⟩
        refine ⟨fun a' n' c' h' => ∃ T', T' = insAll T7 (if (doesR m).2.1 then [⟨true, m.val⟩] else []) ∧ n' = T'.length ∧ T'.length ≤ T7.length + 1 ∧ Ext h h' ∧ Sl eMt h' a' c' T' ∧ Typ tMt h' a', ⟨fun e2 => ?_, fun e2 => ?_⟩, ?_⟩
        · have e2' : (doesR m).2.1 = true := e2
          refine (with_t s7 y7 (by omega) ⟨true, m.val⟩).mono ?_
          rintro _ h10 ⟨x10, a10, c10, rfl, s10, y10⟩
          exact ⟨x10.kp _, a10, _, c10, rfl, _, by rw [if_pos e2']; rfl, rfl, insW_len _ _, x7.trans x10, s10, y10⟩
        · have e2' : (doesR m).2.1 = false := e2
          exact ⟨T7, by rw [if_neg (by rw [e2']; simp)]; rfl, rfl, by omega, x7, s7, y7⟩
        · rintro a9 _ c9 h9 ⟨T9, eT9, rfl, b9, x9, s9, y9⟩
          refine ⟨fun e3 => ?_, fun e3 => ?_⟩
          · have e3' : (doesR m).2.2 = true := e3
            refine (with_t s9 y9 (by omega) nil).mono ?_
            rintro _ h11 ⟨x11, a11, c11, rfl, s11, y11⟩
            refine ⟨x11.kp _, a11, _, c11, rfl, _, ?_, rfl, x9.trans x11, s11, y11⟩
            rw [eR, insAll_app, insAll_app, ← eT7, ← eT9, if_pos e3']; rfl
          · have e3' : (doesR m).2.2 = false := e3
            refine ⟨T9, ?_, rfl, x9, s9, y9⟩
            rw [eR, insAll_app, insAll_app, ← eT7, ← eT9, if_neg (by rw [e3']; simp)]; rfl
    · rintro a4 _ c4 h4 ⟨T4, rfl, rfl, x4, s4, y4⟩
      rw [wadd j (by omega)]
      exact ⟨⟨j + 1, rfl, hjl, by rw [eN], x4, by rw [eN]; exact s4, y4⟩, by simp only [Int.toNat_natCast]; omega⟩
  · have hjl : j = L.length := by have := ge_of_dec hge; omega
    subst hjl
    rw [List.take_length] at hT
    have : next L m = T := hT
    rw [this]
    exact ⟨x3, out, c', rfl, s3, y3⟩
end Go.Proofs.YtfjcciaabkjkgaaGreatDoor
namespace Go.Proofs.YtfjcciaabkjkgaaGreatDoor
open Go Ml
abbrev Sv := Option Addr × Nat × Nat
def eSv : Elt Sv := ⟨1, fun q => [.slice q.1 q.2.1 q.2.2], fun _ => rfl, fun x v hv => by simp at hv; subst hv; rfl⟩
def eSt : Elt (Int × Sv) := ⟨2, fun q => [.int .i64 q.1, .slice q.2.1 q.2.2.1 q.2.2.2], fun _ => rfl, fun x v hv => by simp at hv; rcases hv with rfl | rfl <;> rfl⟩
def Qt (Ts : List TypeId) (X : Nat → Prop) (h : Heap) : Prop := ∀ b, X b → ∀ cs T fr, h[b]? = some (.cells cs T fr) → T ∈ Ts
abbrev tFnd : List TypeId := [78, 81]
theorem Qt.none {h : Heap} : Qt [] (fun _ => False) h := fun _ q => q.elim
theorem Qt.one {h : Heap} {b : Nat} {cs : Array Value} {T : TypeId} {fr : Nat × Nat} (r : h[b]? = some (.cells cs T fr)) : Qt [T] (fun i => i = b) h := fun i e cs' T' fr' r' => by
  subst e
  rw [r] at r'; cases r'; exact List.mem_cons_self
section
variable {X : Nat → Prop} {h h' : Heap} {T : TypeId} {a : Option Addr} {Ts : List TypeId}
theorem Typ.off (t : Typ T h a) (q : Qt Ts X h) (hT : T ∉ Ts) : ∀ b, blkA a b → ¬ X b := fun b hb hX => by
  obtain ⟨cs, fr, r⟩ := t b hb
  exact hT (q b hX _ _ _ r)
theorem Typ.fr (t : Typ T h a) (f : Fr X h h') (q : Qt Ts X h) (hT : T ∉ Ts) : Typ T h' a := fun b hb => by
  obtain ⟨cs, fr, r⟩ := t b hb
  exact ⟨cs, fr, f.row r (t.off q hT b hb)⟩
end
structure InM (h : Heap) (q : Sv) (S : List Mt) : Prop where
  n : q.2.1 = S.length
  sl : Sl eMt h q.1 q.2.2 S
  ty : Typ tMt h q.1
structure Ste (h : Heap) (a : Option Addr) (n c : Nat) (SS : List (List Mt)) : Prop where
  ex : ∃ L : List Sv, L.length = SS.length ∧ n = L.length ∧ Sl eSv h a c L ∧ ∀ (i : Nat) q S, L[i]? = some q → SS[i]? = some S → InM h q S
  ty : Typ tMts h a
section
variable {X : Nat → Prop} {h h' : Heap} {a : Option Addr} {n c : Nat} {SS : List (List Mt)} {q : Sv} {S : List Mt} {Ts : List TypeId}
theorem InM.fr (m : InM h q S) (f : Fr X h h') (t : Qt Ts X h) (hT : tMt ∉ Ts) : InM h' q S := ⟨m.n, m.sl.fr f (m.ty.off t hT), m.ty.fr f t hT⟩
theorem InM.ext (m : InM h q S) (x : Ext h h') : InM h' q S := m.fr (x.fr fun _ => False) Qt.none List.not_mem_nil
theorem Ste.fr (s : Ste h a n c SS) (f : Fr X h h') (t : Qt Ts X h) (hT : tMt ∉ Ts ∧ tMts ∉ Ts) : Ste h' a n c SS := by
  obtain ⟨L, h1, h2, h3, h4⟩ := s.ex
  exact ⟨⟨L, h1, h2, h3.fr f (s.ty.off t hT.2), fun i q S e1 e2 => (h4 i q S e1 e2).fr f t hT.1⟩, s.ty.fr f t hT.2⟩
theorem Ste.ext (s : Ste h a n c SS) (x : Ext h h') : Ste h' a n c SS := s.fr (x.fr fun _ => False) Qt.none ⟨List.not_mem_nil, List.not_mem_nil⟩
theorem Ste.len (s : Ste h a n c SS) : n = SS.length := by obtain ⟨L, h1, h2, _⟩ := s.ex; omega
theorem Ste.at (s : Ste h a n c SS) {i : Nat} {S : List Mt} (e : SS[i]? = some S) : ∃ b o q, a = some ⟨b, o, none⟩ ∧ hcell h b (o + i * 1) = some (.slice q.1 q.2.1 q.2.2) ∧ InM h q S := by
  obtain ⟨L, h1, h2, h3, h4⟩ := s.ex
  have hi : i < L.length := by rw [h1]; exact (List.getElem?_eq_some_iff.1 e).1
  obtain ⟨b, o, ea, d⟩ := h3.at (List.getElem?_eq_getElem hi)
  exact ⟨b, o, L[i], ea, d.1, h4 i _ _ (List.getElem?_eq_getElem hi) e⟩
set_option maxHeartbeats 4000000 in
theorem same_r {d e : Nat} {a' : Option Addr} {n' c' : Nat} {SS' : List (List Mt)} (s : Ste h a n c SS) (s' : Ste h a' n' c' SS') (hl : SS'.length = SS.length) (hb : SS.length ≤ 1099511627776) (hS : ∀ S ∈ SS, S.length ≤ 1099511627776) :
    HC Tryz.prog 63 #[.agg #[.int .i64 (d : Nat), .slice a n c], .agg #[.int .i64 (e : Nat), .slice a' n' c']] h fun v h' => v = .bool (decide (d = e ∧ SS = SS')) ∧ Ext h h' := by
  have hn := s.len
  have hn' := s'.len
  subst hn; subst hn'
  refine f63_sh _ _ _ _ _ _ _ _ _ _ ⟨fun g h2 x2 => ⟨?_, x2⟩, fun g => ⟨fun i => ∃ j : Nat, i = j ∧ j ≤ SS.length ∧ SS.take j = SS'.take j, fun i => SS.length - i.toNat, ⟨0, rfl, Nat.zero_le _, rfl⟩, ?_⟩⟩
  · have : d ≠ e := fun q => by subst q; simp at g
    simp [this]
  have hde : d = e := by
    have g : (d : Int) = e := by simpa using g
    omega
  rintro _ ⟨j, rfl, hj, ht⟩
  refine ⟨fun hlt => ?_, fun hge h2 x2 => ⟨?_, x2⟩⟩
  · have hjl := lt_of_dec hlt
    have hjl' : j < SS'.length := by omega
    obtain ⟨b, o, q, ea, c1, m1⟩ := s.at (List.getElem?_eq_getElem hjl)
    obtain ⟨b', o', q', ea', c1', m1'⟩ := s'.at (List.getElem?_eq_getElem hjl')
    have b1 := hS _ (List.getElem_mem hjl)
    obtain ⟨q1, q2, q3⟩ := q
    obtain ⟨p1, p2, p3⟩ := q'
    have n1 := m1.n; have n1' := m1'.n
    simp only at n1 n1'
    subst n1; subst n1'
    refine ⟨b, o, ea, by omega, by omega, q1, SS[j].length, q3, c1, b', o', ea', by omega, by omega, p1, SS'[j].length, p3, c1', fun g1 h2 x2 => ⟨?_, x2⟩, fun g1 => ?_⟩
    · have hne : SS[j].length ≠ SS'[j].length := by
        have : ((SS[j].length : Nat) : Int) ≠ SS'[j].length := by simpa using g1
        omega
      have : SS ≠ SS' := fun q => by subst q; exact hne rfl
      simp [this]
    have hlen : SS[j].length = SS'[j].length := by
      have : ((SS[j].length : Nat) : Int) = SS'[j].length := by simpa using g1
      omega
    refine ⟨fun k => ∃ u : Nat, k = u ∧ u ≤ SS[j].length ∧ SS[j].take u = SS'[j].take u, fun k => SS[j].length - k.toNat, ⟨0, rfl, Nat.zero_le _, rfl⟩, ?_⟩
    rintro _ ⟨u, rfl, hu, htu⟩
    refine ⟨by omega, by omega, fun hlt2 => ?_, fun hge2 => ?_⟩
    · have hul := lt_of_dec hlt2
      have hul' : u < SS'[j].length := by omega
      obtain ⟨f1, g1', e1, d1⟩ := m1.sl.at (List.getElem?_eq_getElem hul)
      obtain ⟨f2, g2', e2, d2⟩ := m1'.sl.at (List.getElem?_eq_getElem hul')
      refine ⟨f1, g1', e1, by omega, by omega, _, _, d1.1, d1.2.1, by omega, by omega, f2, g2', e2, by omega, by omega, _, _, d2.1, d2.2.1, fun g3 h2 x2 => ⟨?_, x2⟩, fun g3 => ?_⟩
      · rw [mt_eq] at g3
        have hne : SS[j][u] ≠ SS'[j][u] := by simpa using g3
        have : SS ≠ SS' := fun q => by subst q; exact hne rfl
        simp [this]
      · rw [mt_eq] at g3
        have heq : SS[j][u] = SS'[j][u] := by simpa using g3
        rw [wadd u (by omega)]
        refine ⟨⟨u + 1, rfl, hul, ?_⟩, by simp only [Int.toNat_natCast]; omega⟩
        rw [List.take_add_one, List.take_add_one, htu, List.getElem?_eq_getElem hul, List.getElem?_eq_getElem hul', heq]
    · have hul : u = SS[j].length := by have := ge_of_dec hge2; omega
      subst hul
      rw [List.take_length, hlen, List.take_length] at htu
      rw [wadd j (by omega)]
      refine ⟨⟨j + 1, rfl, hjl, ?_⟩, by simp only [Int.toNat_natCast]; omega⟩
      rw [List.take_add_one, List.take_add_one, ht, List.getElem?_eq_getElem hjl, List.getElem?_eq_getElem hjl', htu]
  · have hjl : j = SS.length := by have := ge_of_dec hge; omega
    subst hjl
    rw [List.take_length, ← hl, List.take_length] at ht
    simp [hde, ht]
def Ml.idxK (keys : List Str) (key : Str) : Nat := keys.findIdx fun k => decide (k = key)
theorem idxK_lt {keys : List Str} {key : Str} (hk : key ∈ keys) : idxK keys key < keys.length := List.findIdx_lt_length_of_exists ⟨key, hk, by simp⟩
theorem idxK_at {keys : List Str} {key : Str} (hk : key ∈ keys) : keys[idxK keys key]? = some key := by
  have h := idxK_lt hk
  rw [List.getElem?_eq_getElem h]
  have := List.findIdx_getElem (xs := keys) (p := fun k => decide (k = key)) (w := h)
  simp only [decide_eq_true_eq] at this
  exact congrArg some this
theorem place_r {ka : Option Addr} {kc : Nat} {keys : List Str} {key : Str} (sk : Sl eStr h ka kc keys) (hl : keys.length ≤ 1099511627776) (hk : key ∈ keys) :
    HC Tryz.prog 86 #[.slice ka keys.length kc, .string key] h fun v h' => v = .int .i64 (idxK keys key : Nat) ∧ h' = h := by
  have hix := idxK_lt hk
  have hat := idxK_at hk
  refine f86_sh _ _ _ _ _ _ ⟨fun i => ∃ j : Nat, i = j ∧ j ≤ idxK keys key, fun i => keys.length - i.toNat, ⟨0, rfl, Nat.zero_le _⟩, ?_⟩
  rintro _ ⟨j, rfl, hj⟩
  refine ⟨fun hlt => ?_, fun hge => by have := ge_of_dec hge; omega⟩
  have hjl := lt_of_dec hlt
  obtain ⟨b, o, ea, d⟩ := sk.at (List.getElem?_eq_getElem hjl)
  refine ⟨b, o, ea, by omega, by omega, _, d.1, fun g => ⟨?_, rfl⟩, fun g => ?_⟩
  · have : j = idxK keys key := by
      rcases Nat.lt_or_ge j (idxK keys key) with q | q
      · have := List.not_of_lt_findIdx (p := fun k => decide (k = key)) (xs := keys) q
        rw [g] at this; cases this
      · omega
    rw [this]
  · have g : keys[j] ≠ key := of_decide_eq_false g
    rw [wadd j (by omega)]
    refine ⟨⟨j + 1, rfl, ?_⟩, by simp only [Int.toNat_natCast]; omega⟩
    rcases Nat.lt_or_ge j (idxK keys key) with q | q
    · exact q
    · have : j = idxK keys key := by omega
      subst this
      rw [List.getElem?_eq_getElem hjl] at hat
      exact absurd (Option.some.inj hat) g
end
theorem app_zero {α : Type} {E : Elt α} {P : Program} {t : TypeId} {T : TypeId} {by_ : Nat} (A : AppT P t T E.k by_) {h : Heap} {nb N c2 n2 : Nat} {cs : Array Value} {a2 : Option Addr} {L2 : List α} (r : h[nb]? = some (.cells cs T (0, 0))) (hN : N ≤ nb) (hn : n2 = L2.length)
    (s2 : Sl E h a2 c2 L2) (hsz : L2.length * by_ ≤ 140737488355328) {K : Value → Heap → Prop} (hk : ∀ a' c' h', Ext h h' → Sl E h' a' c' L2 → Own E.k T N h' a' c' → K (.slice a' L2.length c') h') : HAppend P t t (.slice (some ⟨nb, 0, none⟩) 0 0) (.slice a2 n2 c2) h K := by
  subst hn
  have hnb := row_lt r
  have s0 : Sl E h (some ⟨nb, 0, none⟩) 0 [] := ⟨Nat.le_refl _, .inl rfl⟩
  have w0 : Own E.k T N h (some ⟨nb, 0, none⟩) 0 := .inr ⟨nb, 0, cs, rfl, hN, r, by simp⟩
  by_cases he : L2 = []
  · subst he
    obtain ⟨hu, hz, hby, ⟨z, zs, hzv, hzc, hzl⟩, hb0⟩ := A
    refine happ_zero hu hz (by simpa using s2.src) (Nat.le_refl _) (hk _ _ _ (Ext.refl _) s0 w0)
  · have hp : 0 < L2.length := List.length_pos_iff.2 he
    obtain ⟨hu, hz, hby, ⟨z, zs, hzv, hzc, hzl⟩, hb0⟩ := A
    have h47 : L2.length ≤ 140737488355328 := Nat.le_trans (Nat.le_mul_of_pos_right _ hb0) hsz
    refine happ_grow hu hz hby hzv hzc s0.src s2.src (by simp only [List.length_nil]; omega) (by simpa using hsz) (by simp only [List.length_nil]; omega) ?_
    intro b cap h' eb h1 h2 eh
    simp only [List.length_nil, Nat.zero_add] at h1 eh
    have hrow := push_new (h := h) (o := .cells (([] : List α).flatMap E.enc ++ L2.flatMap E.enc ++ (Builtin.zeroCells zs.toArray (cap - L2.length)).toList).toArray T) eb
    rw [← eh] at hrow
    have hx : Ext h h' := by rw [eh]; exact Ext.push _ _
    have hk' := hk (some ⟨b, 0, none⟩) cap h' hx (Sl.of_row hrow h1 fun j v hv => ?_) (.inr ⟨b, 0, _, rfl, by omega, hrow, ?_⟩)
    · simpa using hk'
    · rw [Nat.zero_add, List.getElem?_toArray, List.flatMap_nil, List.nil_append]
      rw [List.getElem?_append_left (List.getElem?_eq_some_iff.1 hv).1]; exact hv
    · have e2 := flat_len E L2
      have e3 : (Builtin.zeroCells zs.toArray (cap - L2.length)).size = (cap - L2.length) * E.k := by
        unfold Builtin.zeroCells; simp [hzl]
      have e4 : cap * E.k = L2.length * E.k + (cap - L2.length) * E.k := by rw [← Nat.add_mul]; congr 1; omega
      simp only [List.size_toArray, List.length_append, List.flatMap_nil, List.length_nil, Nat.zero_add, e2, Array.length_toList, e3, e4]
      exact Nat.le_refl _
namespace Ml
theorem bit_mod (d i : Nat) (hi : i < 64) : Int.tmod (Int.fdiv (d : Int) (2 ^ min (Int.toNat (i : Int)) 64)) 2 = if d.testBit i = true then 1 else 0 := by
  rw [Int.toNat_natCast, Nat.min_eq_left (by omega), Int.fdiv_eq_ediv_of_nonneg _ (Int.pow_nonneg (by decide))]
  have e : (d : Int) / 2 ^ i = ((d / 2 ^ i : Nat) : Int) := by simp
  rw [e, Nat.testBit_eq_decide_div_mod_eq]
  have : Int.tmod ((d / 2 ^ i : Nat) : Int) 2 = ((d / 2 ^ i % 2 : Nat) : Int) := rfl
  rw [this]
  have hm := Nat.mod_two_eq_zero_or_one (d / 2 ^ i)
  rcases hm with q | q <;> rw [q] <;> rfl
end Ml
end Go.Proofs.YtfjcciaabkjkgaaGreatDoor
namespace Go.Proofs.YtfjcciaabkjkgaaGreatDoor
namespace Ml
theorem add_bit {d n : Nat} (hd : d < 2147483648) (hn : n < 31) (h : d.testBit n = false) : d + 2 ^ n = d ||| 2 ^ n := by
  have hp : (2 : Nat) ^ n < 2 ^ 31 := Nat.pow_lt_pow_right (by decide) hn
  have h0 : BitVec.ofNat 32 d &&& BitVec.ofNat 32 (2 ^ n) = 0#32 := by
    apply BitVec.eq_of_getLsbD_eq
    intro i hi
    simp only [BitVec.getLsbD_and, BitVec.getLsbD_ofNat, hi, decide_true, Bool.true_and, Nat.zero_testBit, Nat.testBit_two_pow]
    by_cases e : n = i
    · subst e; rw [h]; rfl
    · simp [e]
  have e1 := congrArg BitVec.toNat (BitVec.add_eq_or_of_and_eq_zero _ _ h0)
  rw [BitVec.toNat_add, BitVec.toNat_or, BitVec.toNat_ofNat, BitVec.toNat_ofNat, Nat.mod_eq_of_lt (show d < 2 ^ 32 by omega), Nat.mod_eq_of_lt (show 2 ^ n < 2 ^ 32 by omega)] at e1
  rw [Nat.mod_eq_of_lt (by omega)] at e1
  exact e1
theorem add_bit_at {d n : Nat} (hd : d < 2147483648) (hn : n < 31) (h : d.testBit n = false) (j : Nat) : (d + 2 ^ n).testBit j = (d.testBit j || decide (n = j)) := by
  rw [add_bit hd hn h, Nat.testBit_or, Nat.testBit_two_pow]
def Dn (order : List Nat) (d : Nat) : Prop := ∀ i, d.testBit i = true ↔ i ∈ order
theorem dn_nil : Dn [] 0 := fun i => by rw [Nat.zero_testBit]; simp
theorem dn_snoc {order : List Nat} {d n : Nat} (h : Dn order d) (hd : d < 2147483648) (hn : n < 31) (hno : n ∉ order) : Dn (order ++ [n]) (d + 2 ^ n) := fun i => by
  have hb : d.testBit n = false := by
    cases q : d.testBit n with
    | false => rfl
    | true => exact absurd ((h n).1 q) hno
  rw [add_bit_at hd hn hb, List.mem_append, List.mem_singleton, ← h i]
  simp only [Bool.or_eq_true, decide_eq_true_eq]
  exact or_congr Iff.rfl eq_comm
theorem dn_lt {order : List Nat} {d n : Nat} (h : Dn order d) (ho : ∀ i ∈ order, i < n) : d < 2 ^ n := by
  refine Nat.lt_pow_two_of_testBit _ fun i hi => ?_
  cases q : d.testBit i with
  | false => rfl
  | true => have := ho i ((h i).1 q); omega
theorem nodup_le : ∀ {n : Nat} {L : List Nat}, L.Nodup → (∀ x ∈ L, x < n) → L.length ≤ n
  | 0, [], _, _ => Nat.le_refl _
  | 0, x :: L, _, h => by have := h x (by simp); omega
  | n + 1, L, hd, h => by
    have h1 := nodup_le (n := n) (L := L.erase n) (hd.erase n) fun x hx => by
      have := h x (List.mem_of_mem_erase hx)
      have hne : x ≠ n := fun e => by rw [e] at hx; exact (hd.mem_erase_iff.1 hx).1 rfl
      omega
    by_cases q : n ∈ L
    · rw [List.length_erase_of_mem q] at h1; omega
    · rw [List.erase_of_not_mem q] at h1; omega
theorem nodup_sub : ∀ {L S : List Nat}, L.Nodup → (∀ x ∈ L, x ∈ S) → L.length ≤ S.length
  | [], _, _, _ => Nat.zero_le _
  | x :: L, S, hn, hs => by
    obtain ⟨h1, h2⟩ := List.nodup_cons.1 hn
    have hx : x ∈ S := hs x (by simp)
    have := nodup_sub (L := L) (S := S.erase x) h2 fun y hy => by
      have hne : y ≠ x := fun e => h1 (by rw [← e]; exact hy)
      exact (List.mem_erase_of_ne hne).2 (hs y (by simp [hy]))
    rw [List.length_erase_of_mem hx] at this
    have hp : 0 < S.length := List.length_pos_of_mem hx
    simp only [List.length_cons]; omega
def Rest (n : Nat) (order : List Nat) : Nat → Prop := fun i => i < n ∧ i ∉ order
theorem rest_del {n i : Nat} {order : List Nat} : Rest n (order ++ [i]) = del (Rest n order) i := by
  funext j
  unfold Rest del
  apply propext
  simp only [List.mem_append, List.mem_singleton, not_or]
  exact ⟨fun ⟨a, b, c⟩ => ⟨⟨a, b⟩, c⟩, fun ⟨⟨a, b⟩, c⟩ => ⟨a, b, c⟩⟩
theorem rest_none {n : Nat} {order : List Nat} (hd : order.Nodup) (ho : ∀ i ∈ order, i < n) : order.length = n ↔ ∀ i, ¬ Rest n order i := by
  constructor
  · rintro h i ⟨h1, h2⟩
    have := nodup_le (L := i :: order) (n := n) (List.nodup_cons.2 ⟨h2, hd⟩) fun x hx => by
      rcases List.mem_cons.1 hx with rfl | hx
      · exact h1
      · exact ho x hx
    simp only [List.length_cons] at this
    omega
  · intro h
    have h1 := nodup_le hd ho
    have h2 := nodup_sub (L := List.range n) (S := order) List.nodup_range fun x hx => Classical.byContradiction fun q => h x ⟨List.mem_range.1 hx, q⟩
    rw [List.length_range] at h2
    omega
theorem none_ok {l : List Mv} {R : Nat → Prop} {st : Fam} (hne : ∃ i, R i) (h : ∀ i, R i → ¬ Ok l R st i) : ¬ Cmp l R st := fun c => by
  obtain ⟨i, hi⟩ := cmp_ok c hne
  exact h i hi.1.1 hi
end Ml
end Go.Proofs.YtfjcciaabkjkgaaGreatDoor
namespace Go.Proofs.YtfjcciaabkjkgaaGreatDoor
open Go Ml
namespace Ml
theorem idxK_iff {keys : List Str} {k : Str} : idxK keys k < keys.length ↔ k ∈ keys := ⟨fun h => by
  have := List.findIdx_getElem (xs := keys) (p := fun x => decide (x = k)) (w := h)
  simp only [decide_eq_true_eq] at this
  rw [← this]; exact List.getElem_mem _, idxK_lt⟩
def famK (keys : List Str) (SS : List (List Mt)) : Fam := fun k => if idxK keys k < keys.length then SS.getD (idxK keys k) [] else start
def wth (keys : List Str) (SS : List (List Mt)) (m : Mv) : List (List Mt) := if keyed m = true then SS.set (idxK keys m.key) (next (SS.getD (idxK keys m.key) []) m) else SS
section
variable {keys : List Str} {SS : List (List Mt)} {m : Mv}
theorem wth_len : (wth keys SS m).length = SS.length := by unfold wth; split <;> simp
theorem idxK_inj {a b : Str} (ha : a ∈ keys) (hb : b ∈ keys) (e : idxK keys a = idxK keys b) : a = b := by
  have h1 := idxK_at ha
  have h2 := idxK_at hb
  rw [e, h2] at h1
  exact (Option.some.inj h1).symm
theorem famK_wth (hl : SS.length = keys.length) (hk : keyed m = true → m.key ∈ keys) : famK keys (wth keys SS m) = Ml.upd (famK keys SS) m := by
  funext k
  by_cases q : keyed m = true ∧ m.key = k
  · obtain ⟨hm, rfl⟩ := q
    have hlt := idxK_lt (hk hm)
    rw [upd_own hm]
    unfold famK wth
    rw [if_pos hlt, if_pos hlt, if_pos hm, List.getD_eq_getElem?_getD, List.getElem?_set_self (by omega)]
    rfl
  · rw [upd_other q]
    unfold famK
    by_cases hkk : idxK keys k < keys.length
    · rw [if_pos hkk, if_pos hkk]
      unfold wth
      by_cases hm : keyed m = true
      · rw [if_pos hm, List.getD_eq_getElem?_getD, List.getD_eq_getElem?_getD, List.getElem?_set_ne (fun r => q ⟨hm, idxK_inj (hk hm) (idxK_iff.1 hkk) r⟩), List.getD_eq_getElem?_getD]
      · rw [if_neg hm]
    · rw [if_neg hkk, if_neg hkk]
end
end Ml
section
variable {h : Heap} {sb vn vc lc kc : Nat} {l : List Mv} {keys : List Str} {la ka va : Option Addr} {d i : Nat} {order : List Nat} {a : Option Addr} {m c : Nat} {SS : List (List Mt)}
def FndRow (h : Heap) (sb : Nat) (l : List Mv) (la : Option Addr) (lc : Nat) (keys : List Str) (ka : Option Addr) (kc : Nat) (va : Option Addr) (vn vc : Nat) : Prop :=
  h[sb]? = some (.cells #[.slice la l.length lc, .slice ka keys.length kc, .slice va vn vc] 78 (0, 0))
theorem next_r (rs : FndRow h sb l la lc keys ka kc va vn vc) (sl : Sl eMv h la lc l) (hl : l.length ≤ 24) (dn : Dn order d) (hi : i < l.length) (ht : okT (mv l i)) :
    HC Tryz.prog 64 #[ptr sb 0, .agg #[.int .i64 (d : Nat), .slice a m c], .int .i64 (i : Nat)] h fun v h' => (∃ r : Bool, v = .bool r ∧ (r = true ↔ mini l (Ml.Rest l.length order) i)) ∧ Ext h h' := by
  refine f64_sh _ _ _ _ _ _ _ _ _ ⟨by omega, ?_⟩
  rw [bit_mod d i (by omega)]
  refine ⟨fun g h1 x1 => ⟨⟨false, rfl, ⟨fun q => (by cases q), fun q => ?_⟩⟩, x1⟩, fun g => ?_⟩
  · have hb : d.testBit i = true := by
      cases q : d.testBit i with
      | true => rfl
      | false => rw [q] at g; simp at g
    exact absurd ((dn i).1 hb) q.1.2
  have hni : i ∉ order := fun q => by rw [if_pos ((dn i).2 q)] at g; simp at g
  refine ⟨fun v => ∃ j : Nat, v = j ∧ j ≤ l.length ∧ ∀ t, t < j → t ∉ order → ¬ ah (mv l t) (mv l i), fun v => l.length - v.toNat, ⟨0, rfl, Nat.zero_le _, fun t q => by omega⟩, ?_⟩
  rintro _ ⟨j, rfl, hj, hno⟩
  refine ⟨la, _, lc, by rw [hcell_row rs]; rfl, fun hlt => ?_, fun hge h2 x2 => ⟨⟨true, rfl, ⟨fun _ => ?_, fun _ => rfl⟩⟩, x2⟩⟩
  · have hjl := lt_of_dec hlt
    obtain ⟨lb, lo, ela, dl⟩ := sl.at (List.getElem?_eq_getElem hjl)
    obtain ⟨lb2, lo2, ela2, dl2⟩ := sl.at (List.getElem?_eq_getElem hi)
    rw [ela] at ela2; cases ela2
    have e1 : mv l j = l[j] := mv_at hjl
    have e2 : mv l i = l[i] := mv_at hi
    have stay : ¬ (j ∉ order ∧ ah (mv l j) (mv l i)) → (∃ j' : Nat, IntKind.i64.wrap ((j : Int) + 1) = j' ∧ j' ≤ l.length ∧ ∀ t, t < j' → t ∉ order → ¬ ah (mv l t) (mv l i)) ∧ l.length - (IntKind.i64.wrap ((j : Int) + 1)).toNat < l.length - (j : Int).toNat := fun hn => by
      rw [wadd j (by omega)]
      refine ⟨⟨j + 1, rfl, hjl, fun t ht' hto => ?_⟩, by simp only [Int.toNat_natCast]; omega⟩
      rcases Nat.lt_or_ge t j with q | q
      · exact hno t q hto
      · have : t = j := by omega
        subst this
        exact fun a => hn ⟨hto, a⟩
    rw [bit_mod d j (by omega)]
    by_cases hb : d.testBit j = true
    · have hjo := (dn j).1 hb
      refine ⟨false, ⟨by omega, fun g1 => ?_, fun _ => rfl⟩, fun q => (by cases q), fun _ => stay fun q => q.1 hjo⟩
      rw [if_pos hb] at g1; simp at g1
    · have hjo : j ∉ order := fun q => hb ((dn j).2 q)
      by_cases hij : j = i
      · subst hij
        refine ⟨false, ⟨by omega, fun _ => ⟨fun q => ?_, fun _ => rfl⟩, fun _ => rfl⟩, fun q => (by cases q), fun _ => stay fun q => ah_irr ht q.2⟩
        simp at q
      · refine ⟨ahB (mv l j) (mv l i), ⟨by omega, fun _ => ⟨fun _ => ⟨lb, lo, ela, by omega, by omega, _, _, _, _, _, _, _, _, dl.1, dl.2.1, dl.2.2.1, dl.2.2.2.1, dl.2.2.2.2.1, dl.2.2.2.2.2.1, dl.2.2.2.2.2.2.1, dl.2.2.2.2.2.2.2.1, by omega, by omega, _, _, _, _, _, _, _, _, dl2.1, dl2.2.1, dl2.2.2.1, dl2.2.2.2.1, dl2.2.2.2.2.1, dl2.2.2.2.2.2.1, dl2.2.2.2.2.2.2.1, dl2.2.2.2.2.2.2.2.1, by rw [e1, e2]⟩, fun q => ?_⟩, fun q => ?_⟩, fun q h3 x3 => ⟨⟨false, rfl, ⟨fun q => (by cases q), fun r => ?_⟩⟩, x3⟩, fun q => stay fun r => ?_⟩
        · have : (j : Int) = i := by simpa using q
          omega
        · rw [if_neg hb] at q; simp at q
        · exact absurd (of_decide_eq_true q) (r.2 j ⟨hjl, hjo⟩)
        · exact of_decide_eq_false q r.2
  · have hjl : j = l.length := by have := ge_of_dec hge; omega
    subst hjl
    exact ⟨⟨hi, hni⟩, fun t ht' => hno t ht'.1 ht'.2⟩
end
end Go.Proofs.YtfjcciaabkjkgaaGreatDoor
namespace Go.Proofs.YtfjcciaabkjkgaaGreatDoor
open Go Ml
theorem aSv : AppT Tryz.prog 79 tMts eSv.k 24 := ⟨by kernel_rfl, by kernel_rfl, by kernel_rfl, ⟨.slice none 0 0, [.slice none 0 0], by unfold zeroB; kernel_rfl, rfl, rfl⟩, by decide⟩
theorem fit_fr (S : Nat → Prop) : Fit (Fr S) := ⟨fun _ _ x => x.fr S, fun _ _ _ x y => x.trans y fun _ _ q => q⟩
abbrev tSta : TypeId := 81
theorem shl64 {d i : Nat} (hd : d < 1073741824) (hi : i < 30) : IntKind.i64.wrap ((d : Int) + IntKind.i64.wrap (1 * 2 ^ min (Int.toNat (i : Int)) 64)) = ((d + 2 ^ i : Nat) : Int) := by
  have hp : (2 : Nat) ^ i < 2 ^ 30 := Nat.pow_lt_pow_right (by decide) hi
  rw [Int.toNat_natCast, Nat.min_eq_left (by omega)]
  have h2 : ((1 : Int) * 2 ^ i) = ((2 ^ i : Nat) : Int) := by simp
  rw [h2]
  generalize (2 : Nat) ^ i = z at hp
  rw [w64 (x := (z : Int)) (by omega) (by omega), w64 (by omega) (by omega)]
  omega
section
variable {h : Heap} {sb vn vc lc kc : Nat} {l : List Mv} {keys : List Str} {la ka va : Option Addr} {d i : Nat} {a : Option Addr} {m c : Nat} {SS : List (List Mt)}
set_option maxHeartbeats 8000000 in
theorem with_r (rs : FndRow h sb l la lc keys ka kc va vn vc) (sl : Sl eMv h la lc l) (sk : Sl eStr h ka kc keys) (s : Ste h a m c SS) (hSl : SS.length = keys.length) (hl : l.length ≤ 24) (hkl : keys.length ≤ 1099511627776) (hd : d < 1073741824) (hi : i < l.length)
    (hK : keyed (mv l i) = true → (mv l i).key ∈ keys) (hS : ∀ S ∈ SS, S.length ≤ 68719476736 ∧ Nm S) :
    HC Tryz.prog 65 #[ptr sb 0, .agg #[.int .i64 (d : Nat), .slice a m c], .int .i64 (i : Nat)] h fun v h' => Ext h h' ∧ ∃ a' n' c' r, v = .tuple #[.agg #[.int .i64 ((d + 2 ^ i : Nat) : Int), .slice a' n' c'], .bool r] ∧ Ste h' a' n' c' (wth keys SS (mv l i)) ∧ (r = true ↔ Lv (famK keys SS) (mv l i)) := by
  obtain ⟨L, hL1, hL2, sL, hL⟩ := s.ex
  subst hL2
  have emv : mv l i = l[i] := mv_at hi
  have hLl : L.length * 24 ≤ 140737488355328 := by omega
  have fin : ∀ {hk : Heap} {y pb : Nat} {a1 : Option Addr} {c1 : Nat}, Ext h hk → h.size ≤ y → y ≠ pb → hk[y]? = some (.cells #[.int .i64 0, .slice none 0 0] tSta (0, 0)) → Sl eSv hk a1 c1 L → Own eSv.k tMts h.size hk a1 c1 → (∀ b, blkA a1 b → b ≠ pb) →
      ∀ hh, hh = hsets hk y 0 [.int .i64 (IntKind.i64.wrap ((d : Int) + IntKind.i64.wrap (1 * 2 ^ min (Int.toNat (i : Int)) 64))), .slice a1 L.length c1] →
      (0 = 0 ∧ Ext h hh ∧ h.size ≤ y ∧ y ≠ pb ∧ ∃ a1 c1, hh[y]? = some (.cells #[.int .i64 ((d + 2 ^ i : Nat) : Int), .slice a1 L.length c1] tSta (0, 0)) ∧ Sl eSv hh a1 c1 L ∧ Own eSv.k tMts h.size hh a1 c1 ∧ ∀ b, blkA a1 b → b ≠ pb) := by
    intro hk y pb a1 c1 x lo ne r s w np hh e
    rw [shl64 hd (by omega)] at e
    have f := fr_hsets_of e
    have nn : ∀ b, blkA a1 b → b ≠ y := fun b hb q => own_ne w r (by decide) (by rw [← q]; exact hb)
    refine ⟨rfl, ext_of_fr f x lo, lo, ne, a1, c1, ?_, s.fr f nn, w.fr f nn, np⟩
    rw [e, hsets_row _ r]; rfl
  refine f65_sh _ _ _ _ _ _ _ _ _ ⟨fun y yo pb hh => yo = 0 ∧ Ext h hh ∧ h.size ≤ y ∧ y ≠ pb ∧ ∃ a1 c1, hh[y]? = some (.cells #[.int .i64 ((d + 2 ^ i : Nat) : Int), .slice a1 L.length c1] tSta (0, 0)) ∧ Sl eSv hh a1 c1 L ∧ Own eSv.k tMts h.size hh a1 c1 ∧ ∀ b, blkA a1 b → b ≠ pb,
    ⟨Ext, fit_ext, fun x pb h2 lox ltx lop ltp x2 => ⟨fun ys _ hx xx => xx.kp _, by omega, ⟨fun nb1 h15 e15 eh15 => ⟨?_, fun y1 h19 e19 eh19 => ?_⟩, fun y1 h22 e22 eh22 nb1 h23 e23 eh23 => ?_⟩⟩⟩, ?_⟩
  · have r15 : h15[nb1]? = some (.cells #[] tMts (0, 0)) := by rw [eh15]; exact push_new e15
    have x15 : Ext h2 h15 := by rw [eh15]; exact Ext.push _ _
    clear eh15
    refine app_zero aSv r15 (N := h2.size) (by omega) rfl (sL.ext (x2.trans x15)) hLl fun a1 c1 h16 x16 s16 w16 => ⟨x16, x16.kp _, a1, _, c1, rfl, fun y1 h17 e17 eh17 => ?_⟩
    have r17 : h17[y1]? = some (.cells #[.int .i64 0, .slice none 0 0] tSta (0, 0)) := by rw [eh17]; exact push_new e17
    have x17 : Ext h16 h17 := by rw [eh17]; exact Ext.push _ _
    clear eh17
    have z2 := x2.size; have z15 := x15.size; have z16 := x16.size
    exact ⟨HWs_row r17 (by simp), fun p hp => by (simp at hp; omega), fin (x2.trans (x15.trans (x16.trans x17))) (by omega) (by omega) r17 (s16.ext x17) ((w16.ext x17).down (by omega)) fun b hb => by have := (w16.low hb).1; omega⟩
  · have r15 : h15[nb1]? = some (.cells #[] tMts (0, 0)) := by rw [eh15]; exact push_new e15
    have x15 : Ext h2 h15 := by rw [eh15]; exact Ext.push _ _
    clear eh15
    have r19 : h19[y1]? = some (.cells #[.int .i64 0, .slice none 0 0] tSta (0, 0)) := by rw [eh19]; exact push_new e19
    have x19 : Ext h15 h19 := by rw [eh19]; exact Ext.push _ _
    clear eh19
    refine app_zero aSv (x19.row r15) (N := h2.size) (by omega) rfl (sL.ext (x2.trans (x15.trans x19))) hLl fun a1 c1 h20 x20 s20 w20 => ⟨x20, x20.kp _, a1, _, c1, rfl, ?_⟩
    have z2 := x2.size; have z15 := x15.size
    exact ⟨HWs_row (x20.row r19) (by simp), fun p hp => by (simp at hp; omega), fin (x2.trans (x15.trans (x19.trans x20))) (by omega) (by omega) (x20.row r19) s20 (w20.down (by omega)) fun b hb => by have := (w20.low hb).1; omega⟩
  · have r22 : h22[y1]? = some (.cells #[.int .i64 0, .slice none 0 0] tSta (0, 0)) := by rw [eh22]; exact push_new e22
    have x22 : Ext h2 h22 := by rw [eh22]; exact Ext.push _ _
    clear eh22
    have r23 : h23[nb1]? = some (.cells #[] tMts (0, 0)) := by rw [eh23]; exact push_new e23
    have x23 : Ext h22 h23 := by rw [eh23]; exact Ext.push _ _
    clear eh23
    have z2 := x2.size; have z22 := x22.size
    refine app_zero aSv r23 (N := h2.size) (by omega) rfl (sL.ext (x2.trans (x22.trans x23))) hLl fun a1 c1 h24 x24 s24 w24 => ⟨x24, x24.kp _, a1, _, c1, rfl, ?_⟩
    have rr := x24.row (x23.row r22)
    exact ⟨HWs_row rr (by simp), fun p hp => by (simp at hp; omega), fin (x2.trans (x22.trans (x23.trans x24))) (by omega) (by omega) rr s24 (w24.down (by omega)) fun b hb => by have := (w24.low hb).1; omega⟩
  rintro y _ pb h3 ⟨rfl, x3, loy, nyp, a1, c1, ry, s3, w3, np⟩ lop ltp
  obtain ⟨lb, lo, ela, dl⟩ := (sl.ext x3).at (List.getElem?_eq_getElem hi)
  have rs3 := x3.row rs
  refine ⟨la, _, lc, by rw [hcell_row rs3]; rfl, lb, lo, ela, by omega, by omega, _, _, _, _, _, _, _, _, dl.1, dl.2.1, dl.2.2.1, dl.2.2.2.1, dl.2.2.2.2.1, dl.2.2.2.2.2.1, dl.2.2.2.2.2.2.1, dl.2.2.2.2.2.2.2.1, fun g => ?_, fun g => ?_⟩
  · have g : keyed (mv l i) = false := by rw [emv]; simpa using g
    refine ⟨_, a1, _, c1, by rw [hcell_row ry]; rfl, by rw [hcell_row ry]; rfl, fun h26 x26 h27 f27 _ => ?_⟩
    have x27 : Ext h h27 := ext_of_fr f27 (x3.trans x26) lop
    have ew : wth keys SS (mv l i) = SS := by unfold wth; rw [if_neg (by rw [g]; simp)]
    refine ⟨x27, a1, _, c1, true, rfl, ?_, ⟨fun _ q => by (rw [g] at q; cases q), fun _ => rfl⟩⟩
    rw [ew]
    exact ⟨⟨L, hL1, rfl, (s3.ext x26).fr f27 np, fun j q S e1 e2 => (hL j q S e1 e2).ext x27⟩, Typ.of_own ((w3.ext x26).fr f27 np)⟩
  · have g : keyed (mv l i) = true := by rw [emv]; simpa using g
    have hKi := hK g
    rw [emv] at hKi
    refine ⟨ka, _, kc, by rw [hcell_row rs3]; rfl, fun h26 x26 => (place_r ((sk.ext x3).ext x26) hkl hKi).mono ?_⟩
    rintro _ h28 ⟨rfl, e28⟩
    subst e28
    have hkx := idxK_lt hKi
    generalize hkk : idxK keys l[i].key = k at hkx
    have hkL : k < L.length := by omega
    have hkS : k < SS.length := by omega
    have mk := hL k L[k] SS[k] (List.getElem?_eq_getElem hkL) (List.getElem?_eq_getElem hkS)
    have s28 := s3.ext x26
    have w28 := w3.ext x26
    have ry28 := x26.row ry
    obtain ⟨b4, o4, ea, d4⟩ := s28.at (List.getElem?_eq_getElem hkL)
    subst ea
    have x28 := x3.trans x26
    obtain ⟨lb2, lo2, ela2, dl2⟩ := (sl.ext x28).at (List.getElem?_eq_getElem hi)
    obtain ⟨hb1, hb2⟩ := hS SS[k] (List.getElem_mem hkS)
    refine ⟨(Ext.refl _).kp _, _, rfl, Ext, fit_ext, _, L.length, c1, fun hx xx => by rw [hcell_row (xx.row ry28)]; rfl, _, L.length, c1, by rw [hcell_row ry28]; rfl, b4, o4, rfl, by omega, by omega, L[k].1, SS[k].length, L[k].2.2, by rw [← mk.n]; exact d4.1, la, _, lc, by rw [hcell_row (x26.row rs3)]; rfl, lb2, lo2, ela2, by omega, by omega, _, _, _, _, _, _, _, _, dl2.1, dl2.2.1, dl2.2.2.1, dl2.2.2.2.1, dl2.2.2.2.2.1, dl2.2.2.2.2.2.1, dl2.2.2.2.2.2.2.1, dl2.2.2.2.2.2.2.2.1, (rnext_t (mk.ext x28).sl hb1 hb2 l[i]).mono ?_⟩
    rintro _ h29 ⟨x29, a5, c5, rfl, s5, t5⟩
    obtain ⟨hw, s30, w30⟩ := (s28.ext x29).put (w28.ext x29) (i := k) hkL (a5, (next SS[k] l[i]).length, c5)
    obtain ⟨cs, rb4, _⟩ := (w28.ext x29).row
    have ny4 : y ≠ b4 := fun q => own_ne w28 ry28 (by decide) (by rw [q]; exact blkA_some.2 rfl)
    have np4 : b4 ≠ pb := np b4 (blkA_some.2 rfl)
    refine ⟨x29, x29.kp _, a5, _, c5, rfl, b4, o4, rfl, by omega, by omega, hw 0 (by decide), fun p hp => by (simp at hp; omega), fun h30 e30 => ?_⟩
    have eh : h30 = hsets h29 b4 (o4 + k * eSv.k) (eSv.enc (a5, (next SS[k] l[i]).length, c5)) := e30
    rw [← eh] at s30 w30
    have f30 : Fr (fun j => j = b4) h29 h30 := fr_hset_of e30
    have ry30 := f30.row (x29.row ry28) ny4
    obtain ⟨b5, o5, e5, d5⟩ := s30.at (List.getElem?_set_self hkL)
    cases e5
    refine ⟨Fr (fun j => j = pb), fit_fr _, _, _, L.length, c1, by rw [hcell_row ry30]; rfl, by rw [hcell_row ry30]; rfl, _, L.length, c1, fun hx f => by rw [hcell_row (f.row ry30 nyp)]; rfl, b4, o4, rfl, by omega, by omega, a5, (next SS[k] l[i]).length, c5, fun hx f => ?_, fun h31 f31 hp => ⟨f31, ?_⟩⟩
    · have := row_lt ry30
      have hc := d5.1
      unfold hcell at hc ⊢
      rw [f.block b4 (by
        refine Nat.lt_of_not_le fun q => ?_
        rw [Array.getElem?_eq_none q] at hc; cases hc) np4]
      exact hc
    · have x30 : Ext h h30 := ext_fr (x28.trans x29) f30 fun b e => by subst e; exact (w3.low (blkA_some.2 rfl)).1
      have x31 : Ext h h31 := ext_of_fr f31 x30 lop
      obtain ⟨ys, rp⟩ := hp
      have eS : SS.getD k [] = SS[k] := by rw [List.getD_eq_getElem?_getD, List.getElem?_eq_getElem hkS]; rfl
      have ew : wth keys SS (mv l i) = SS.set k (next SS[k] l[i]) := by unfold wth; rw [if_pos g, emv, hkk, eS]
      refine ⟨x31, _, _, c1, _, rfl, ?_, ?_⟩
      · rw [ew]
        refine ⟨⟨L.set k (a5, (next SS[k] l[i]).length, c5), by simp [hL1], by simp, s30.fr f31 np, fun j q S e1 e2 => ?_⟩, Typ.of_own (w30.fr f31 np)⟩
        by_cases ej : j = k
        · subst ej
          rw [List.getElem?_set_self hkL] at e1
          rw [List.getElem?_set_self hkS] at e2
          cases e1; cases e2
          exact ((⟨rfl, s5, t5⟩ : InM h29 _ _).fr f30 (Qt.one rb4) (by decide)).fr f31 (Qt.one rp) (by decide)
        · rw [List.getElem?_set_ne (fun q => ej q.symm)] at e1 e2
          exact (hL j q S e1 e2).ext x31
      · unfold Lv
        have ef : famK keys SS (mv l i).key = SS[k] := by
          unfold famK
          rw [emv, hkk, if_pos hkx, eS]
        rw [ef, emv]
        rw [emv] at g
        constructor
        · intro q _ e
          rw [e] at q; simp at q
        · intro q
          have := List.length_pos_iff.2 (q g)
          exact decide_eq_true (by omega)
end
end Go.Proofs.YtfjcciaabkjkgaaGreatDoor
