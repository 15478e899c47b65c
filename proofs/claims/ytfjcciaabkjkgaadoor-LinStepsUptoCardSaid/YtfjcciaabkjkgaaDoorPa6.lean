import Derived.Test.YtfjcciaabkjkgaaDoorProg
import Derived.Test.YtfjcciaabkjkgaaDoorPa1
import Derived.Test.YtfjcciaabkjkgaaDoorPa4
import Derived.Test.YtfjcciaabkjkgaaDoorPa5
namespace Go.Proofs.YtfjcciaabkjkgaaDoor
open Go
open Go.Proofs.YtfjcciaabkjkgaaDoor renaming hl_val → lv, hl_step → lp, hl_nil → ln, hl_yes → ly, hl_no → lo, hx_seq → xs, hx_region → xr, hx_cond → xc, hx_block → xb, hx_loopT → xl, hx_cut → xk, hx_has → xh, hx_skip → xi, hx_ret → xt, hx_exit → xe, seqQ_n → qn, seqQ_ret → qr, seqQ_exit → qe, blockQ_n → bn, blockQ_ret → br, blockQ_here → bh, blockQ_past → bp, hv_move → vm, hv_assign → va, hv_arith → vr, hv_load → vl, hv_loads → vL, hv_extract → vx, hv_field → vf, hv_build → vb, hv_index → vi, hp_pure → pp, hp_read → pr, has_cons → hc, has_nil → hn, hcells_cons → cc, hcells_nil → cn, rowcell → rc, hs_call → sc
set_option maxRecDepth 100000
set_option maxHeartbeats 4000000
theorem TyTC.agg22 : aggB Tryd.prog 22 = some false := by kernel_rfl
theorem TyTC.agg23 : aggB Tryd.prog 23 = some false := by kernel_rfl
theorem TyTC.agg3 : aggB Tryd.prog 3 = some false := by kernel_rfl
theorem TyTC.agg30 : aggB Tryd.prog 30 = some true := by kernel_rfl
theorem TyTC.agg4 : aggB Tryd.prog 4 = some false := by kernel_rfl
theorem TyTC.agg43 : aggB Tryd.prog 43 = some false := by kernel_rfl
theorem TyTC.agg53 : aggB Tryd.prog 53 = some false := by kernel_rfl
theorem TyTC.agg55 : aggB Tryd.prog 55 = some false := by kernel_rfl
theorem TyTC.agg62 : aggB Tryd.prog 62 = some true := by kernel_rfl
theorem TyTC.agg73 : aggB Tryd.prog 73 = some false := by kernel_rfl
theorem TyTC.agg74 : aggB Tryd.prog 74 = some false := by kernel_rfl
theorem TyTC.agg9 : aggB Tryd.prog 9 = some false := by kernel_rfl
theorem TyTC.cb10 : CallB Tryd.prog 10 := fun _ _ => Tryd.call10 _ _
theorem TyTC.cb11 : CallB Tryd.prog 11 := fun _ _ => Tryd.call11 _ _
theorem TyTC.cb12 : CallB Tryd.prog 12 := fun _ _ => Tryd.call12 _ _
theorem TyTC.cb17 : CallB Tryd.prog 17 := fun _ _ => Tryd.call17 _ _
theorem TyTC.cb20 : CallB Tryd.prog 20 := fun _ _ => Tryd.call20 _ _
theorem TyTC.cb21 : CallB Tryd.prog 21 := fun _ _ => Tryd.call21 _ _
theorem TyTC.cb24 : CallB Tryd.prog 24 := fun _ _ => Tryd.call24 _ _
theorem TyTC.cb25 : CallB Tryd.prog 25 := fun _ _ => Tryd.call25 _ _
theorem TyTC.cb26 : CallB Tryd.prog 26 := fun _ _ => Tryd.call26 _ _
theorem TyTC.cb28 : CallB Tryd.prog 28 := fun _ _ => Tryd.call28 _ _
theorem TyTC.cb29 : CallB Tryd.prog 29 := fun _ _ => Tryd.call29 _ _
theorem TyTC.cb30 : CallB Tryd.prog 30 := fun _ _ => Tryd.call30 _ _
theorem TyTC.cb31 : CallB Tryd.prog 31 := fun _ _ => Tryd.call31 _ _
theorem TyTC.cb33 : CallB Tryd.prog 33 := fun _ _ => Tryd.call33 _ _
theorem TyTC.cb34 : CallB Tryd.prog 34 := fun _ _ => Tryd.call34 _ _
theorem TyTC.cb46 : CallB Tryd.prog 46 := fun _ _ => Tryd.call46 _ _
theorem TyTC.cb47 : CallB Tryd.prog 47 := fun _ _ => Tryd.call47 _ _
theorem TyTC.cb5 : CallB Tryd.prog 5 := fun _ _ => Tryd.call5 _ _
theorem TyTC.cb56 : CallB Tryd.prog 56 := fun _ _ => Tryd.call56 _ _
theorem TyTC.cb6 : CallB Tryd.prog 6 := fun _ _ => Tryd.call6 _ _
theorem TyTC.cb7 : CallB Tryd.prog 7 := fun _ _ => Tryd.call7 _ _
theorem TyTC.cb70 : CallB Tryd.prog 70 := fun _ _ => Tryd.call70 _ _
theorem TyTC.cb71 : CallB Tryd.prog 71 := fun _ _ => Tryd.call71 _ _
theorem TyTC.cb72 : CallB Tryd.prog 72 := fun _ _ => Tryd.call72 _ _
theorem TyTC.cb8 : CallB Tryd.prog 8 := fun _ _ => Tryd.call8 _ _
theorem TyTC.cb9 : CallB Tryd.prog 9 := fun _ _ => Tryd.call9 _ _
theorem TyTC.el22 : elB Tryd.prog 22 = some 8 := by kernel_rfl
theorem TyTC.el23 : elB Tryd.prog 23 = some 1 := by kernel_rfl
theorem TyTC.el43 : elB Tryd.prog 43 = some 2 := by kernel_rfl
theorem TyTC.el74 : elB Tryd.prog 74 = some 1 := by kernel_rfl
theorem TyTC.fld30_1 : fldB Tryd.prog 30 1 = some 1 := by kernel_rfl
theorem TyTC.fld30_5 : fldB Tryd.prog 30 5 = some 5 := by kernel_rfl
theorem TyTC.fld30_6 : fldB Tryd.prog 30 6 = some 6 := by kernel_rfl
theorem TyTC.fld30_7 : fldB Tryd.prog 30 7 = some 7 := by kernel_rfl
theorem TyTC.fld58_0 : fldB Tryd.prog 58 0 = some 0 := by kernel_rfl
theorem TyTC.fld58_1 : fldB Tryd.prog 58 1 = some 1 := by kernel_rfl
theorem TyTC.fld58_2 : fldB Tryd.prog 58 2 = some 2 := by kernel_rfl
theorem TyTC.fld62_0 : fldB Tryd.prog 62 0 = some 0 := by kernel_rfl
theorem TyTC.fld62_1 : fldB Tryd.prog 62 1 = some 1 := by kernel_rfl
theorem TyTC.fld76_0 : fldB Tryd.prog 76 0 = some 0 := by kernel_rfl
theorem TyTC.fld76_1 : fldB Tryd.prog 76 1 = some 1 := by kernel_rfl
theorem TyTC.fld76_2 : fldB Tryd.prog 76 2 = some 2 := by kernel_rfl
theorem TyTC.fld76_3 : fldB Tryd.prog 76 3 = some 3 := by kernel_rfl
theorem TyTC.mixed : Tryd.prog.follows .mixedOrders = true := by kernel_rfl
theorem TyTC.pl30 : plB Tryd.prog 30 = some [(0, 1), (1, 1), (2, 1), (3, 1), (4, 1), (5, 1), (6, 1), (7, 1)] := by kernel_rfl
theorem TyTC.pl58 : plB Tryd.prog 58 = some [(0, 1), (1, 1), (2, 1)] := by kernel_rfl
theorem TyTC.pl76 : plB Tryd.prog 76 = some [(0, 1), (1, 1), (2, 1), (3, 1)] := by kernel_rfl
theorem TyTC.sz3 : szB Tryd.prog 3 = some 1 := by kernel_rfl
theorem TyTC.sz30 : szB Tryd.prog 30 = some 8 := by kernel_rfl
theorem TyTC.sz43 : szB Tryd.prog 43 = some 1 := by kernel_rfl
theorem TyTC.sz55 : szB Tryd.prog 55 = some 1 := by kernel_rfl
theorem TyTC.sz62 : szB Tryd.prog 62 = some 2 := by kernel_rfl
theorem TyTC.sz74 : szB Tryd.prog 74 = some 1 := by kernel_rfl
theorem TyTC.u22 : Tryd.prog.underlying 22 = some (.slice 30) := by kernel_rfl
theorem TyTC.u23 : Tryd.prog.underlying 23 = some (.slice 3) := by kernel_rfl
theorem TyTC.u43 : Tryd.prog.underlying 43 = some (.slice 62) := by kernel_rfl
theorem TyTC.u48 : Tryd.prog.underlying 48 = some (.map 9 49) := by kernel_rfl
theorem TyTC.u55 : Tryd.prog.underlying 55 = some (.int .u32) := by kernel_rfl
theorem TyTC.u73 : Tryd.prog.underlying 73 = some (.map 9 3) := by kernel_rfl
theorem TyTC.u74 : Tryd.prog.underlying 74 = some (.slice 55) := by kernel_rfl
theorem TyTC.u9 : Tryd.prog.underlying 9 = some (.string) := by kernel_rfl
theorem TyTC.u99 : Tryd.prog.underlying 99 = some (.int .u64) := by kernel_rfl
theorem TyTC.up49 : Tryd.prog.underlying 49 = some (.pointer 58) := by kernel_rfl
theorem TyTC.z3 : zeroB Tryd.prog 3 (.int .i64 0) := by unfold zeroB; kernel_rfl
theorem TyTC.z30 : zeroB Tryd.prog 30 (.agg #[(.int .i64 0), (.string ByteArray.empty), (.string ByteArray.empty), (.int .i64 0), (.bool false), (.int .i64 0), (.int .i64 0), (.int .i64 0)]) := by unfold zeroB; kernel_rfl
theorem TyTC.z49 : zeroB Tryd.prog 49 (.pointer none) := by unfold zeroB; kernel_rfl
theorem TyTC.z55 : zeroB Tryd.prog 55 (.int .u32 0) := by unfold zeroB; kernel_rfl
theorem TyTC.z58 : zeroB Tryd.prog 58 (.agg #[(.pointer none), (.int .u32 0), (.slice none 0 0)]) := by unfold zeroB; kernel_rfl
theorem TyTC.z62 : zeroB Tryd.prog 62 (.agg #[(.bool false), (.string ByteArray.empty)]) := by unfold zeroB; kernel_rfl
theorem TyTC.z76 : zeroB Tryd.prog 76 (.agg #[(.slice none 0 0), (.slice none 0 0), (.slice none 0 0), (.map none)]) := by unfold zeroB; kernel_rfl
theorem ext_pushed_f4_sh {h h1 : Heap} {o : Obj} (e : h1 = Array.push h o) : Ext h h1 := by rw [e]; exact Ext.push _ _
theorem f28_sh (l : Option Addr) (c6 : Nat) (c7 : Nat) (c9 : Option Addr) (a0 : Nat) (a1 : Nat) (h : Heap) (R : Value → Heap → Prop)
  (H : (∀ mb h1, mb = Array.size h → Ext h h1 → Array.size h1 = Array.size h + 1 → MapL h1 mb Value.string [] → (∀ nb h2, nb = Array.size h1 → h2 = Array.push h1 (.cells #[(.slice l c6 c7), (.slice c9 a0 a1), (.slice none 0 0), (.map (some mb))] 76) → (∃ (I8 : Int → Heap → Prop) (e2 : Int → Heap → Nat), I8 0 h2 ∧ (∀ (v : Int) (h3 : Heap), I8 v h3 → (((decide (v < (a0 : Int))) = true → (∃ b2 b0 : Nat, c9 = some ⟨b2, b0, none⟩ ∧ (0 : Int) ≤ v ∧ v < (a0 : Int) ∧ (∃ x : Int, hcell h3 b2 (b0 + (Int.toNat v) * 1) = some (.int .i64 x) ∧ (∃ (d4 : Int → Int → Prop) (d2 : Int → Int → Nat), d4 0 0 ∧ (∀ (b1 : Int) (a4 : Int), d4 b1 a4 → (((decide (a4 < (a0 : Int))) = true → (∃ c2 : Int, ((0 : Int) ≤ a4 ∧ a4 < (a0 : Int) ∧ (∃ b7 : Int, hcell h3 b2 (b0 + (Int.toNat a4) * 1) = some (.int .i64 b7) ∧ (∃ b5 b6 : Nat, l = some ⟨b5, b6, none⟩ ∧ (0 : Int) ≤ b7 ∧ b7 < (c6 : Int) ∧ (∃ b9 : Int, ∃ c5 b3 : ByteArray, ∃ c3 : Int, ∃ c4 : Bool, ∃ c1 b8 c8 : Int, hcell h3 b5 (b6 + (Int.toNat b7) * 8) = some (.int .i64 b9) ∧ hcell h3 b5 ((b6 + (Int.toNat b7) * 8) + 1) = some (.string c5) ∧ hcell h3 b5 ((b6 + (Int.toNat b7) * 8) + 2) = some (.string b3) ∧ hcell h3 b5 ((b6 + (Int.toNat b7) * 8) + 3) = some (.int .i64 c3) ∧ hcell h3 b5 ((b6 + (Int.toNat b7) * 8) + 4) = some (.bool c4) ∧ hcell h3 b5 ((b6 + (Int.toNat b7) * 8) + 5) = some (.int .i64 c1) ∧ hcell h3 b5 ((b6 + (Int.toNat b7) * 8) + 6) = some (.int .i64 b8) ∧ hcell h3 b5 ((b6 + (Int.toNat b7) * 8) + 7) = some (.int .i64 c8) ∧ ((0 : Int) ≤ x ∧ x < (c6 : Int) ∧ (∃ a6 : Int, ∃ a8 a2 : ByteArray, ∃ a9 : Int, ∃ b4 : Bool, ∃ a5 a7 c0 : Int, hcell h3 b5 (b6 + (Int.toNat x) * 8) = some (.int .i64 a6) ∧ hcell h3 b5 ((b6 + (Int.toNat x) * 8) + 1) = some (.string a8) ∧ hcell h3 b5 ((b6 + (Int.toNat x) * 8) + 2) = some (.string a2) ∧ hcell h3 b5 ((b6 + (Int.toNat x) * 8) + 3) = some (.int .i64 a9) ∧ hcell h3 b5 ((b6 + (Int.toNat x) * 8) + 4) = some (.bool b4) ∧ hcell h3 b5 ((b6 + (Int.toNat x) * 8) + 5) = some (.int .i64 a5) ∧ hcell h3 b5 ((b6 + (Int.toNat x) * 8) + 6) = some (.int .i64 a7) ∧ hcell h3 b5 ((b6 + (Int.toNat x) * 8) + 7) = some (.int .i64 c0) ∧ (((Ml.ahB ⟨b9, c5, b3, c3, c4, c1, b8, c8⟩ ⟨a6, a8, a2, a9, b4, a5, a7, c0⟩) = true → ((0 : Int) ≤ a4 ∧ (c2 = (ibor .u32 b1 (IntKind.u32.wrap (1 * 2 ^ min (Int.toNat a4) 32)))))) ∧ ((Ml.ahB ⟨b9, c5, b3, c3, c4, c1, b8, c8⟩ ⟨a6, a8, a2, a9, b4, a5, a7, c0⟩) = false → (c2 = b1))))))))) ∧ (d4 c2 (IntKind.i64.wrap (a4 + 1)) ∧ d2 c2 (IntKind.i64.wrap (a4 + 1)) < d2 b1 a4))) ∧ ((decide (a4 < (a0 : Int))) = false → (∃ b7 : Option Addr, ∃ e0 e1 : Nat, hcell h3 nb 2 = some (.slice b7 e0 e1) ∧ (∀ (h4 : Heap), Ext h3 h4 → (∀ d0 h7, d0 = Array.size h4 → h7 = Array.push h4 (.cells #[(.int .u32 b1)] 55) → HAppend Tryd.prog 74 74 (.slice b7 e0 e1) (.slice (some ⟨d0, 0, none⟩) 1 1) h7 (fun vv h8 => ∃ ap : Option Addr, ∃ d3 d1 : Nat, vv = (.slice ap d3 d1) ∧ (HW h8 nb 2 ∧ ∀ h9, h9 = hset h8 nb 2 (.slice ap d3 d1) → (I8 (IntKind.i64.wrap (v + 1)) h9 ∧ e2 (IntKind.i64.wrap (v + 1)) h9 < e2 v h3))))))))))))) ∧ ((decide (v < (a0 : Int))) = false → R (ptr nb 0) h3))))))) :
  HC Tryd.prog 28 #[(.slice l c6 c7), (.slice c9 a0 a1)] h R := by
 refine hc_of (args := [(.slice l c6 c7), (.slice c9 a0 a1)]) Tryd.func28 rfl Tryd.ntmps28 (Nat.le_of_ble_eq_true rfl) ?_
 refine xs (xr ?_)
 refine lv rfl rfl (va rfl) ?_
 refine ln (qn (xs (xr ?_)))
 refine lv rfl rfl (vm rfl) (lv rfl rfl (vm rfl) ?_)
 refine lp rfl rfl (hn_makeMap (enc := Value.string) ?_)
 intro mb h1 j6 j7 k0 j8
 replace H := H mb h1 j6 j7 k0 j8
 refine lv rfl rfl (v := (.agg #[(.slice l c6 c7), (.slice c9 a0 a1), (.slice none 0 0), (.map (some mb))])) (vb (vs := [(0, (.slice l c6 c7)), (1, (.slice c9 a0 a1)), (3, (.map (some mb)))]) (cs := #[(.slice l c6 c7), (.slice c9 a0 a1), (.slice none 0 0), (.map (some mb))]) TyTC.z76 TyTC.pl76 rfl (by kernel_rfl)) ?_
 refine lp rfl rfl (hn_box (v := (.agg #[(.slice l c6 c7), (.slice c9 a0 a1), (.slice none 0 0), (.map (some mb))])) rfl ?_)
 intro nb h2 j9 e7
 replace H := H nb h2 j9 e7
 have k2 := ext_pushed_f4_sh e7
 refine lv rfl rfl (va rfl) ?_
 refine ln (qn (xs (xs (xr ?_))))
 refine lv rfl rfl (vm rfl) (lv rfl rfl (v := (.int .i64 (a0 : Int))) (hv_len (n := a0) TyTC.u23 rfl) (lv rfl rfl (vm rfl) ?_))
 refine ln (qn (xb ?_))
 obtain ⟨I8, e2, i6, j3⟩ := H
 refine xl (σ := Int) (fun s => [(0, (.slice l c6 c7)), (1, (.slice c9 a0 a1)), (5, (ptr nb 0)), (16, (.slice c9 a0 a1)), (17, (.int .i64 (a0 : Int))), (18, (.int .i64 s))]) (fun s h' => I8 s h' ∧ True) (fun s h' => e2 s h') 0 ⟨i6, trivial⟩ (hc rfl (hc rfl (hc rfl (hc rfl (hc rfl (hc rfl hn)))))) ?_
 rintro v ρ h3 ⟨g7, -⟩
 have H := j3 v h3 g7
 refine xs (xr ?_)
 refine lv rfl rfl (vr rfl rfl rfl) ?_
 refine ln (qn (xs ?_))
 refine xc (b := decide (v < (a0 : Int))) rfl (fun d8 => ?_) (fun d8 => ?_)
 ·replace H := H.1 d8
  refine xi (qn (xs (xb (xs (xr ?_)))))
  obtain ⟨b2, b0, e3, i9, g2, Hq⟩ := H
  subst e3
  have H := Hq; clear Hq
  refine lv rfl rfl (v := (ptr b2 (b0 + (Int.toNat v) * 1))) (vi TyTC.el23 rfl rfl i9 g2) ?_
  obtain ⟨x, e9, H⟩ := H
  refine lv rfl rfl (vl TyTC.agg3 rfl e9) (lv rfl rfl (va rfl) ?_)
  refine ln (qn (xs (xr ?_)))
  refine lv rfl rfl (va rfl) ?_
  refine ln (qn (xs (xs (xr ?_))))
  refine lv rfl rfl (vm rfl) (lv rfl rfl (v := (.int .i64 (a0 : Int))) (hv_len (n := a0) TyTC.u23 rfl) (lv rfl rfl (vm rfl) ?_))
  refine ln (qn (xb ?_))
  obtain ⟨d4, d2, g3, f5⟩ := H
  refine xl (σ := Int × Int) (fun s => [(0, (.slice l c6 c7)), (1, (.slice (some ⟨b2, b0, none⟩) a0 a1)), (5, (ptr nb 0)), (7, (.int .i64 x)), (8, (.int .u32 s.1)), (16, (.slice (some ⟨b2, b0, none⟩) a0 a1)), (17, (.int .i64 (a0 : Int))), (18, (.int .i64 v)), (22, (.slice (some ⟨b2, b0, none⟩) a0 a1)), (23, (.int .i64 (a0 : Int))), (24, (.int .i64 s.2))]) (fun s h' => d4 s.1 s.2 ∧ Ext h3 h' ∧ True) (fun s _ => d2 s.1 s.2) (0, 0) ⟨g3, (Ext.refl _), trivial⟩ (hc rfl (hc rfl (hc rfl (hc rfl (hc rfl (hc rfl (hc rfl (hc rfl (hc rfl (hc rfl (hc rfl hn))))))))))) ?_
  rintro ⟨b1, a4⟩ ρ h4 ⟨g4, a3, -⟩
  have H := f5 b1 a4 g4
  refine xs (xr ?_)
  refine lv rfl rfl (vr rfl rfl rfl) ?_
  refine ln (qn (xs ?_))
  refine xc (b := decide (a4 < (a0 : Int))) rfl (fun d9 => ?_) (fun d9 => ?_)
  ·replace H := H.1 d9
   refine xi (qn ?_)
   obtain ⟨c2, d7, d5⟩ := H
   refine xk (fun ρ h' => (Ext h3 h' ∧ True) ∧ Has ρ [(0, (.slice l c6 c7)), (1, (.slice (some ⟨b2, b0, none⟩) a0 a1)), (5, (ptr nb 0)), (7, (.int .i64 x)), (8, (.int .u32 c2)), (16, (.slice (some ⟨b2, b0, none⟩) a0 a1)), (17, (.int .i64 (a0 : Int))), (18, (.int .i64 v)), (22, (.slice (some ⟨b2, b0, none⟩) a0 a1)), (23, (.int .i64 (a0 : Int))), (24, (.int .i64 a4))]) ?_ ?_
   ·have H := d7; clear d7 d5
    refine xb (xs (xr ?_))
    refine lv rfl rfl (vm rfl) ?_
    obtain ⟨f7, j2, H⟩ := H
    refine lv rfl rfl (v := (ptr b2 (b0 + (Int.toNat a4) * 1))) (vi TyTC.el23 rfl rfl f7 j2) ?_
    obtain ⟨b7, g8, H⟩ := H
    refine lv rfl rfl (vl TyTC.agg3 rfl (Ext.cell a3 g8)) (lv rfl rfl (va rfl) (lv rfl rfl (va rfl) ?_))
    refine ln (qn (xs ?_))
    refine hx_draw TyTC.mixed [.pure, .pure, .pure, .read, .pure, .pure, .pure, .read, .ext] [0, 1, 2, 3, 4, 5, 6, 7, 8] (by kernel_rfl) ?_
    refine pp (i := 0) rfl (wanted_0 rfl) rfl (.slice l c6 c7) (fun _ => vm rfl) ?_
    refine pp (i := 1) rfl (wanted_0 rfl) rfl (.int .i64 b7) (fun _ => vm rfl) ?_
    obtain ⟨b5, b6, e3, f6, f4, Hq⟩ := H
    subst e3
    have H := Hq; clear Hq
    refine pp (i := 2) rfl (wanted_0 rfl) rfl (ptr b5 (b6 + (Int.toNat b7) * 8)) (fun _ => vi TyTC.el22 rfl rfl f6 f4) ?_
    obtain ⟨b9, c5, b3, c3, c4, c1, b8, c8, g0, i1, g6, g9, g5, i2, j5, f2, H⟩ := H
    refine pr (i := 3) rfl (wanted_0 rfl) rfl (.agg #[(.int .i64 b9), (.string c5), (.string b3), (.int .i64 c3), (.bool c4), (.int .i64 c1), (.int .i64 b8), (.int .i64 c8)]) (fun _ he => vL (vs := [(.int .i64 b9), (.string c5), (.string b3), (.int .i64 c3), (.bool c4), (.int .i64 c1), (.int .i64 b8), (.int .i64 c8)]) TyTC.agg30 TyTC.sz30 rfl (cc (Ext.cell he (Ext.cell a3 g0)) (cc (Ext.cell he (Ext.cell a3 i1)) (cc (Ext.cell he (Ext.cell a3 g6)) (cc (Ext.cell he (Ext.cell a3 g9)) (cc (Ext.cell he (Ext.cell a3 g5)) (cc (Ext.cell he (Ext.cell a3 i2)) (cc (Ext.cell he (Ext.cell a3 j5)) (cc (Ext.cell he (Ext.cell a3 f2)) cn))))))))) ?_
    refine pp (i := 4) rfl (wanted_0 rfl) rfl (.slice (some ⟨b5, b6, none⟩) c6 c7) (fun _ => vm rfl) ?_
    refine pp (i := 5) rfl (wanted_0 rfl) rfl (.int .i64 x) (fun _ => vm rfl) ?_
    obtain ⟨j0, e8, H⟩ := H
    refine pp (i := 6) rfl (wanted_0 rfl) rfl (ptr b5 (b6 + (Int.toNat x) * 8)) (fun _ => vi TyTC.el22 rfl rfl j0 e8) ?_
    obtain ⟨a6, a8, a2, a9, b4, a5, a7, c0, f9, i5, f0, g1, f3, f8, f1, i4, H⟩ := H
    refine pr (i := 7) rfl (wanted_0 rfl) rfl (.agg #[(.int .i64 a6), (.string a8), (.string a2), (.int .i64 a9), (.bool b4), (.int .i64 a5), (.int .i64 a7), (.int .i64 c0)]) (fun _ he => vL (vs := [(.int .i64 a6), (.string a8), (.string a2), (.int .i64 a9), (.bool b4), (.int .i64 a5), (.int .i64 a7), (.int .i64 c0)]) TyTC.agg30 TyTC.sz30 rfl (cc (Ext.cell he (Ext.cell a3 f9)) (cc (Ext.cell he (Ext.cell a3 i5)) (cc (Ext.cell he (Ext.cell a3 f0)) (cc (Ext.cell he (Ext.cell a3 g1)) (cc (Ext.cell he (Ext.cell a3 f3)) (cc (Ext.cell he (Ext.cell a3 f8)) (cc (Ext.cell he (Ext.cell a3 f1)) (cc (Ext.cell he (Ext.cell a3 i4)) cn))))))))) ?_
    refine hp_ext (i := 8) rfl (wanted_0 rfl) rfl (sc TyTC.cb12 rfl (HC.mono (ahead_c (⟨b9, c5, b3, c3, c4, c1, b8, c8⟩) (⟨a6, a8, a2, a9, b4, a5, a7, c0⟩) _) ?_))
    rintro _ h6 ⟨rfl, e4⟩
    refine ⟨e4, ?_⟩
    have e5 := Ext.trans a3 e4
    refine hp_nil ?_
    refine qn ?_
    refine xc (b := Ml.ahB ⟨b9, c5, b3, c3, c4, c1, b8, c8⟩ ⟨a6, a8, a2, a9, b4, a5, a7, c0⟩) rfl (fun d6 => ?_) (fun d6 => ?_)
    ·replace H := H.1 d6
     refine xr ?_
     refine lv rfl rfl (vm rfl) (lv rfl rfl (vm rfl) ?_)
     obtain ⟨i3, H⟩ := H
     refine lv rfl rfl (v := (.int .u32 (IntKind.u32.wrap (1 * 2 ^ min (Int.toNat a4) 32)))) (hv_shift rfl rfl i3 rfl) (lv rfl rfl (v := (.int .u32 (ibor .u32 b1 (IntKind.u32.wrap (1 * 2 ^ min (Int.toNat a4) 32))))) (hv_bits rfl rfl rfl) (lv rfl rfl (va rfl) ?_))
     refine ln (bn (qn ?_))
     obtain rfl := H
     exact ⟨⟨e5, trivial⟩, (hc rfl (hc rfl (hc rfl (hc rfl (hc rfl (hc rfl (hc rfl (hc rfl (hc rfl (hc rfl (hc rfl hn)))))))))))⟩
    ·replace H := H.2 d6
     refine xi (bn (qn ?_))
     obtain rfl := H
     exact ⟨⟨e5, trivial⟩, (hc rfl (hc rfl (hc rfl (hc rfl (hc rfl (hc rfl (hc rfl (hc rfl (hc rfl (hc rfl (hc rfl hn)))))))))))⟩
   ·have H := d5; clear d7 d5
    rintro ρ h5 ⟨⟨j1, -⟩, hH⟩
    refine xh _ hH ?_
    refine xr ?_
    refine lv rfl rfl (vr rfl rfl rfl) (lv rfl rfl (vm rfl) ?_)
    refine ln (qn ?_)
    exact ⟨(c2, IntKind.i64.wrap (a4 + 1)), ⟨⟨H.1, j1, trivial⟩, H.2⟩, (hc rfl (hc rfl (hc rfl (hc rfl (hc rfl (hc rfl (hc rfl (hc rfl (hc rfl (hc rfl (hc rfl hn)))))))))))⟩
  ·replace H := H.2 d9
   refine xe (qe (qe (bh (qn (xr ?_)))))
   refine lv rfl rfl (vm rfl) (lv rfl rfl (vm rfl) (lv rfl rfl (v := (ptr nb 0)) (hv_nil rfl) (lv rfl rfl (v := (ptr nb 2)) (vf TyTC.fld76_2 (b := nb) (o := 0) rfl) ?_)))
   obtain ⟨b7, e0, e1, i8, H⟩ := H
   refine lv rfl rfl (vl TyTC.agg74 rfl (Ext.cell a3 i8)) (lv rfl rfl (vm rfl) ?_)
   replace H := H h4 a3
   refine lp rfl rfl (hn_buildSlice (n := 1) (vs := [(0, (.int .u32 b1))]) (cs := #[(.int .u32 b1)]) TyTC.u74 TyTC.sz55 TyTC.z55 rfl rfl (by kernel_rfl) ?_)
   intro d0 h7 i0 e6
   replace H := H d0 h7 i0 e6
   have k1 := ext_pushed_f4_sh e6
   refine lp rfl rfl (hs_append rfl rfl (HAppend.mono H ?_))
   rintro _ h8 ⟨ap, d3, d1, rfl, H⟩
   refine lv rfl rfl (v := (ptr nb 0)) (hv_nil rfl) (lv rfl rfl (v := (ptr nb 2)) (vf TyTC.fld76_2 (b := nb) (o := 0) rfl) ?_)
   obtain ⟨i7, H⟩ := H
   refine lp rfl rfl (hn_store (v := (.slice ap d3 d1)) rfl rfl TyTC.sz74 rfl i7 ?_)
   intro h9 j4
   replace H := H h9 j4
   refine ln (bn (qn (xr ?_)))
   refine lv rfl rfl (vr rfl rfl rfl) (lv rfl rfl (vm rfl) ?_)
   refine ln (qn ?_)
   exact ⟨IntKind.i64.wrap (v + 1), ⟨⟨H.1, trivial⟩, H.2⟩, (hc rfl (hc rfl (hc rfl (hc rfl (hc rfl (hc rfl hn))))))⟩
 ·replace H := H.2 d8
  refine xe (qe (qe (bh (qn (xs (xr ?_))))))
  refine lv rfl rfl (vm rfl) (lv rfl rfl (va rfl) ?_)
  refine ln (qn (xt ?_))
  exact endQ_ret _ (res_one Tryd.results28 (rv_tmp rfl)) H
theorem f56_sh (b1 : Int) (a8 : Option Addr) (a0 : Nat) (a6 : Nat) (h : Heap) (R : Value → Heap → Prop)
  (H : HC Tryd.prog 70 #[(.int .u64 (IntKind.u64.wrap b1)), (.int .i64 36)] h (fun vv h1 => ∃ r : ByteArray, vv = (.string r) ∧ (∃ (I1 : ByteArray → Int → Heap → Prop) (b3 : ByteArray → Int → Heap → Nat), I1 r 0 h1 ∧ (∀ (a5 : ByteArray) (v : Int) (h2 : Heap), I1 a5 v h2 → (((decide (v < (a0 : Int))) = true → (∃ a3 a4 : Nat, a8 = some ⟨a3, a4, none⟩ ∧ (0 : Int) ≤ v ∧ v < (a0 : Int) ∧ (∃ a2 : Bool, ∃ a1 : ByteArray, hcell h2 a3 (a4 + (Int.toNat v) * 2) = some (.bool a2) ∧ hcell h2 a3 ((a4 + (Int.toNat v) * 2) + 1) = some (.string a1) ∧ (∃ b2 : Heap → Heap → Prop, Fit b2 ∧ (∀ (m : Nat) (h4 : Heap), Array.size h2 ≤ m → m < Array.size h4 → Ext h2 h4 → ((∀ hx, b2 h4 hx → Kp [m] h4 hx) ∧ HC Tryd.prog 71 #[(.bool a2)] h4 (fun vv h7 => b2 h4 h7 ∧ Kp [m] h4 h7 ∧ ∃ a7 : ByteArray, vv = (.string a7) ∧ (ByteArray.size (ByteArray.mk #[32]) + ByteArray.size a7 ≤ 9223372036854775807 ∧ HC Tryd.prog 72 #[(.string a1)] h7 (fun vv h8 => ∃ a9 : ByteArray, vv = (.string a9) ∧ (ByteArray.size ((ByteArray.mk #[32]) ++ a7) + ByteArray.size a9 ≤ 9223372036854775807 ∧ (ByteArray.size a5 + ByteArray.size (((ByteArray.mk #[32]) ++ a7) ++ a9) ≤ 9223372036854775807 ∧ (I1 (a5 ++ (((ByteArray.mk #[32]) ++ a7) ++ a9)) (IntKind.i64.wrap (v + 1)) h8 ∧ b3 (a5 ++ (((ByteArray.mk #[32]) ++ a7) ++ a9)) (IntKind.i64.wrap (v + 1)) h8 < b3 a5 v h2)))))))))))) ∧ ((decide (v < (a0 : Int))) = false → R (.string a5) h2)))))) :
  HC Tryd.prog 56 #[(.int .u32 b1), (.slice a8 a0 a6)] h R := by
 refine hc_of (args := [(.int .u32 b1), (.slice a8 a0 a6)]) Tryd.func56 rfl Tryd.ntmps56 (Nat.le_of_ble_eq_true rfl) ?_
 refine xs (xr ?_)
 refine lv rfl rfl (va rfl) ?_
 refine ln (qn (xs (xr ?_)))
 refine lv rfl rfl (vm rfl) (lv rfl rfl (v := (.int .u64 (IntKind.u64.wrap b1))) (hv_convInt TyTC.u55 TyTC.u99 rfl) ?_)
 refine lp rfl rfl (sc TyTC.cb70 rfl (HC.mono H ?_))
 rintro _ h1 ⟨r, rfl, H⟩
 refine lv rfl rfl (va rfl) ?_
 refine ln (qn (xs (xs (xr ?_))))
 refine lv rfl rfl (vm rfl) (lv rfl rfl (v := (.int .i64 (a0 : Int))) (hv_len (n := a0) TyTC.u43 rfl) (lv rfl rfl (vm rfl) ?_))
 refine ln (qn (xb ?_))
 obtain ⟨I1, b3, d2, d1⟩ := H
 refine xl (σ := ByteArray × Int) (fun s => [(5, (.string s.1)), (11, (.slice a8 a0 a6)), (12, (.int .i64 (a0 : Int))), (13, (.int .i64 s.2))]) (fun s h' => I1 s.1 s.2 h' ∧ True) (fun s h' => b3 s.1 s.2 h') (r, 0) ⟨d2, trivial⟩ (hc rfl (hc rfl (hc rfl (hc rfl hn)))) ?_
 rintro ⟨a5, v⟩ ρ h2 ⟨d0, -⟩
 have H := d1 a5 v h2 d0
 refine xs (xr ?_)
 refine lv rfl rfl (vr rfl rfl rfl) ?_
 refine ln (qn (xs ?_))
 refine xc (b := decide (v < (a0 : Int))) rfl (fun b9 => ?_) (fun b9 => ?_)
 ·replace H := H.1 b9
  refine xi (qn (xs (xb (xs (xr ?_)))))
  obtain ⟨a3, a4, d3, d4, d6, Hq⟩ := H
  subst d3
  have H := Hq; clear Hq
  refine lv rfl rfl (v := (ptr a3 (a4 + (Int.toNat v) * 2))) (vi TyTC.el43 rfl rfl d4 d6) ?_
  obtain ⟨a2, a1, d5, c8, H⟩ := H
  refine lv rfl rfl (vL (vs := [(.bool a2), (.string a1)]) TyTC.agg62 TyTC.sz62 rfl (cc d5 (cc c8 cn))) ?_
  refine lp rfl rfl (hn_alloc TyTC.z62 ?_)
  intro m h3 b7 b4
  have c7 := ext_pushed_f4_sh b4
  have b5 : Array.size h2 ≤ m := Nat.le_of_eq (Eq.symm b7)
  have b8 : h3[m]? = some (.cells #[(.bool false), (.string ByteArray.empty)] 62 (0, 0)) := by rw [b4]; exact push_new b7
  refine lp rfl rfl (hn_stores (vs := [(.bool a2), (.string a1)]) rfl rfl TyTC.sz62 rfl (HWs_row b8 (by simp)) ?_)
  intro h4 b6
  have b0 : h4[m]? = some (.cells #[(.bool a2), (.string a1)] 62 (0, 0)) := row_hsets_eq b6 b8 rfl
  have c0 := ext_hsets b6 c7 b5
  refine ln (qn ?_)
  obtain ⟨b2, c5, H⟩ := H
  refine hx_drawT TyTC.mixed b2 c5 [.pure, .pure, .read, .tame, .pure, .pure, .stay, .wild, .pure, .pure, .pure] [0, 1, 2, 5, 6, 3, 4, 7, 8, 9, 10] (by kernel_rfl) ?_
  refine pp (i := 0) rfl (wanted_0 rfl) rfl (.string a5) (fun _ => vm rfl) ?_
  refine pp (i := 1) rfl (wanted_0 rfl) rfl (ptr m 0) (fun _ => vf TyTC.fld62_0 (b := m) (o := 0) rfl) ?_
  refine pr (i := 2) rfl (wanted_0 rfl) rfl (.bool a2) (fun _ he => vl TyTC.agg4 rfl (Ext.cell he (rc b0 rfl))) ?_
  refine pp (i := 5) rfl (wanted_0 rfl) rfl (ptr m 1) (fun _ => vf TyTC.fld62_1 (b := m) (o := 0) rfl) ?_
  replace H := H m h4 b5 (row_lt b0) c0
  obtain ⟨c6, H⟩ := H
  refine hp_stay (i := 6) rfl (wanted_0 rfl) rfl (.string a1) (fun _ he => vl TyTC.agg9 rfl ((fun hx he => rc (Kp.row (c6 hx he) (by simp) b0) rfl) _ he)) ?_
  refine hp_tame (i := 3) rfl (wanted_0 rfl) rfl (sc TyTC.cb71 rfl (HC.mono H ?_))
  rintro _ h7 ⟨c9, c1, a7, rfl, H⟩
  refine ⟨c9, ?_⟩
  replace b0 := Kp.row c1 (by simp) b0
  obtain ⟨c3, H⟩ := H
  refine pp (i := 4) rfl (wanted_0 rfl) rfl (.string ((ByteArray.mk #[32]) ++ a7)) (fun _ => hv_strAdd rfl rfl c3) ?_
  refine hp_wild (i := 7) rfl (wanted_0 rfl) rfl (sc TyTC.cb72 rfl (HC.mono H ?_))
  rintro _ h8 ⟨a9, rfl, H⟩
  obtain ⟨c4, H⟩ := H
  refine pp (i := 8) rfl (wanted_0 rfl) rfl (.string (((ByteArray.mk #[32]) ++ a7) ++ a9)) (fun _ => hv_strAdd rfl rfl c4) ?_
  obtain ⟨c2, H⟩ := H
  refine pp (i := 9) rfl (wanted_0 rfl) rfl (.string (a5 ++ (((ByteArray.mk #[32]) ++ a7) ++ a9))) (fun _ => hv_strAdd rfl rfl c2) ?_
  refine pp (i := 10) rfl (wanted_0 rfl) rfl (.string (a5 ++ (((ByteArray.mk #[32]) ++ a7) ++ a9))) (fun _ => va rfl) ?_
  refine hp_nil ?_
  refine bn (qn (xr ?_))
  refine lv rfl rfl (vr rfl rfl rfl) (lv rfl rfl (vm rfl) ?_)
  refine ln (qn ?_)
  exact ⟨(a5 ++ (((ByteArray.mk #[32]) ++ a7) ++ a9), IntKind.i64.wrap (v + 1)), ⟨⟨H.1, trivial⟩, H.2⟩, (hc rfl (hc rfl (hc rfl (hc rfl hn))))⟩
 ·replace H := H.2 b9
  refine xe (qe (qe (bh (qn (xs (xr ?_))))))
  refine lv rfl rfl (vm rfl) (lv rfl rfl (va rfl) ?_)
  refine ln (qn (xt ?_))
  exact endQ_ret _ (res_one Tryd.results56 (rv_tmp rfl)) H
theorem f46_sh (a1 : Nat) (a2 : Nat) (a0 : Int) (a7 : Option Addr) (a3 : Nat) (a5 : Nat) (h : Heap) (R : Value → Heap → Prop)
  (H : (((a0 == 0) = true → R (.bool true) h) ∧ ((a0 == 0) = false → HC Tryd.prog 56 #[(.int .u32 a0), (.slice a7 a3 a5)] h (fun vv h1 => ∃ r : ByteArray, vv = (.string r) ∧ (∃ x : Option Nat, hcell h1 a1 (a2 + 3) = some (.map x) ∧ (∃ f8 : Nat, x = some f8 ∧ ∃ kv : List (ByteArray × Value), MapL h1 f8 Value.string kv ∧ ∃ d5 : Int, (lk kv r).getD (.int .i64 0) = (.int .i64 d5) ∧ (((decide (d5 > 0)) = true → R (.bool false) h1) ∧ ((decide (d5 > 0)) = false → (∃ f7 : Option Addr, ∃ b4 f6 : Nat, hcell h1 a1 (a2 + 1) = some (.slice f7 b4 f6) ∧ (∃ (I7 : Int → Heap → Prop) (f4 : Int → Heap → Nat), I7 0 h1 ∧ (∀ (v : Int) (h2 : Heap), I7 v h2 → (((decide (v < (b4 : Int))) = true → (∃ e2 : Heap → Prop, (∃ j : Bool, ((0 : Int) ≤ v ∧ ((((iband .u32 (Int.fdiv a0 (2 ^ min (Int.toNat v) 32)) 1) == 0) = true → (j = true)) ∧ (((iband .u32 (Int.fdiv a0 (2 ^ min (Int.toNat v) 32)) 1) == 0) = false → (∃ c4 : Option Addr, ∃ c9 d9 : Nat, hcell h2 a1 (a2 + 2) = some (.slice c4 c9 d9) ∧ (∃ c6 c7 : Nat, c4 = some ⟨c6, c7, none⟩ ∧ (0 : Int) ≤ v ∧ v < (c9 : Int) ∧ (∃ b6 : Int, hcell h2 c6 (c7 + (Int.toNat v) * 1) = some (.int .u32 b6) ∧ (j = ((iband .u32 b6 a0) != 0)))))))) ∧ ((j = true → (e2 h2)) ∧ (j = false → (∃ f3 : Option Addr, ∃ d1 e0 : Nat, hcell h2 a1 a2 = some (.slice f3 d1 e0) ∧ (∃ f2 : Option Addr, ∃ d2 d8 : Nat, hcell h2 a1 (a2 + 1) = some (.slice f2 d2 d8) ∧ (∃ d0 c8 : Nat, f2 = some ⟨d0, c8, none⟩ ∧ (0 : Int) ≤ v ∧ v < (d2 : Int) ∧ (∃ b2 : Int, hcell h2 d0 (c8 + (Int.toNat v) * 1) = some (.int .i64 b2) ∧ (∃ a9 a8 : Nat, f3 = some ⟨a9, a8, none⟩ ∧ (0 : Int) ≤ b2 ∧ b2 < (d1 : Int) ∧ (∃ b5 : Int, ∃ c1 b0 : ByteArray, ∃ b8 : Int, ∃ c0 : Bool, ∃ b7 b3 c5 : Int, hcell h2 a9 (a8 + (Int.toNat b2) * 8) = some (.int .i64 b5) ∧ hcell h2 a9 ((a8 + (Int.toNat b2) * 8) + 1) = some (.string c1) ∧ hcell h2 a9 ((a8 + (Int.toNat b2) * 8) + 2) = some (.string b0) ∧ hcell h2 a9 ((a8 + (Int.toNat b2) * 8) + 3) = some (.int .i64 b8) ∧ hcell h2 a9 ((a8 + (Int.toNat b2) * 8) + 4) = some (.bool c0) ∧ hcell h2 a9 ((a8 + (Int.toNat b2) * 8) + 5) = some (.int .i64 b7) ∧ hcell h2 a9 ((a8 + (Int.toNat b2) * 8) + 6) = some (.int .i64 b3) ∧ hcell h2 a9 ((a8 + (Int.toNat b2) * 8) + 7) = some (.int .i64 c5) ∧ HC Tryd.prog 21 #[(.slice a7 a3 a5), (.agg #[(.int .i64 b5), (.string c1), (.string b0), (.int .i64 b8), (.bool c0), (.int .i64 b7), (.int .i64 b3), (.int .i64 c5)])] h2 (fun vv h4 => ∃ d3 : Option Addr, ∃ b1 d4 : Nat, vv = (.slice d3 b1 d4) ∧ (∃ e1 : Bool → Heap → Prop, (((decide ((b1 : Int) > 0)) = true → ((0 : Int) ≤ v ∧ HC Tryd.prog 46 #[(ptr a1 a2), (.int .u32 (ibandNot .u32 a0 (IntKind.u32.wrap (1 * 2 ^ min (Int.toNat v) 32)))), (.slice d3 b1 d4)] h4 (fun vv h6 => ∃ f5 : Bool, vv = (.bool f5) ∧ (e1 f5 h6)))) ∧ ((decide ((b1 : Int) > 0)) = false → (e1 false h4))) ∧ (∀ (c3 : Bool) (h5 : Heap), e1 c3 h5 → ((c3 = true → R (.bool true) h5) ∧ (c3 = false → (e2 h5))))))))))))))) ∧ (∀ (h3 : Heap), e2 h3 → (I7 (IntKind.i64.wrap (v + 1)) h3 ∧ f4 (IntKind.i64.wrap (v + 1)) h3 < f4 v h2)))) ∧ ((decide (v < (b4 : Int))) = false → (∃ c4 : Option Nat, hcell h2 a1 (a2 + 3) = some (.map c4) ∧ (∃ b9 : Nat, c4 = some b9 ∧ ∃ d6 : List (ByteArray × Value), MapL h2 b9 Value.string d6 ∧ ∃ b6 : Int, (lk d6 r).getD (.int .i64 0) = (.int .i64 b6) ∧ (∃ d7 : List (ByteArray × Value), MapL h2 b9 Value.string d7 ∧ ∀ h7, Only b9 h2 h7 → MapL h7 b9 Value.string (kput d7 r (.int .i64 (IntKind.i64.wrap (b6 + 1)))) → R (.bool false) h7)))))))))))))))) :
  HC Tryd.prog 46 #[(ptr a1 a2), (.int .u32 a0), (.slice a7 a3 a5)] h R := by
 refine hc_of (args := [(ptr a1 a2), (.int .u32 a0), (.slice a7 a3 a5)]) Tryd.func46 rfl Tryd.ntmps46 (Nat.le_of_ble_eq_true rfl) ?_
 refine xs (xr ?_)
 refine lv rfl rfl (va rfl) ?_
 refine ln (qn (xs (xs (xr ?_))))
 refine lv rfl rfl (vm rfl) (lv rfl rfl (vr rfl rfl rfl) ?_)
 refine ln (qn ?_)
 refine xc (b := a0 == 0) rfl (fun g0 => ?_) (fun g0 => ?_)
 ·replace H := H.1 g0
  refine xs (xr ?_)
  refine lv rfl rfl (va rfl) ?_
  refine ln (qn (xt (qr ?_)))
  exact endQ_ret _ (res_one Tryd.results46 (rv_tmp rfl)) H
 ·replace H := H.2 g0
  refine xi (qn (xs (xr ?_)))
  refine lv rfl rfl (vm rfl) (lv rfl rfl (vm rfl) ?_)
  refine lp rfl rfl (sc TyTC.cb56 rfl (HC.mono H ?_))
  rintro _ h1 ⟨r, rfl, H⟩
  refine lv rfl rfl (va rfl) ?_
  refine ln (qn (xs (xs (xr ?_))))
  refine lv rfl rfl (vm rfl) (lv rfl rfl (v := (ptr a1 a2)) (hv_nil rfl) (lv rfl rfl (v := (ptr a1 (a2 + 3))) (vf TyTC.fld76_3 (b := a1) (o := a2) rfl) ?_))
  obtain ⟨x, k6, H⟩ := H
  refine lv rfl rfl (vl TyTC.agg73 rfl k6) (lv rfl rfl (vm rfl) ?_)
  obtain ⟨f8, c2, Hq⟩ := H
  subst c2
  have H := Hq; clear Hq
  obtain ⟨kv, k5, d5, k3, H⟩ := H
  refine lv rfl rfl (v := (.int .i64 d5)) (hv_look (l := kv) (a := r) strK TyTC.u73 TyTC.u9 TyTC.z3 rfl rfl k5 k3) (lv rfl rfl (vr rfl rfl rfl) ?_)
  refine ln (qn ?_)
  refine xc (b := decide (d5 > 0)) rfl (fun f9 => ?_) (fun f9 => ?_)
  ·replace H := H.1 f9
   refine xs (xr ?_)
   refine lv rfl rfl (va rfl) ?_
   refine ln (qn (xt (qr ?_)))
   exact endQ_ret _ (res_one Tryd.results46 (rv_tmp rfl)) H
  ·replace H := H.2 f9
   refine xi (qn (xs (xs (xr ?_))))
   refine lv rfl rfl (vm rfl) (lv rfl rfl (v := (ptr a1 a2)) (hv_nil rfl) (lv rfl rfl (v := (ptr a1 (a2 + 1))) (vf TyTC.fld76_1 (b := a1) (o := a2) rfl) ?_))
   obtain ⟨f7, b4, f6, k4, H⟩ := H
   refine lv rfl rfl (vl TyTC.agg23 rfl k4) (lv rfl rfl (v := (.int .i64 (b4 : Int))) (hv_len (n := b4) TyTC.u23 rfl) (lv rfl rfl (vm rfl) ?_))
   refine ln (qn (xb ?_))
   obtain ⟨I7, f4, k2, k1⟩ := H
   refine xl (σ := Int) (fun s => [(0, (ptr a1 a2)), (1, (.int .u32 a0)), (2, (.slice a7 a3 a5)), (7, (.string r)), (26, (.int .i64 (b4 : Int))), (27, (.int .i64 s))]) (fun s h' => I7 s h' ∧ True) (fun s h' => f4 s h') 0 ⟨k2, trivial⟩ (hc rfl (hc rfl (hc rfl (hc rfl (hc rfl (hc rfl hn)))))) ?_
   rintro v ρ h2 ⟨i4, -⟩
   have H := k1 v h2 i4
   refine xs (xr ?_)
   refine lv rfl rfl (vr rfl rfl rfl) ?_
   refine ln (qn (xs ?_))
   refine xc (b := decide (v < (b4 : Int))) rfl (fun f1 => ?_) (fun f1 => ?_)
   ·replace H := H.1 f1
    refine xi (qn ?_)
    obtain ⟨e2, f0, e6⟩ := H
    refine xk (fun ρ h' => (e2 h' ∧ True) ∧ Has ρ [(0, (ptr a1 a2)), (1, (.int .u32 a0)), (2, (.slice a7 a3 a5)), (7, (.string r)), (26, (.int .i64 (b4 : Int))), (27, (.int .i64 v))]) ?_ ?_
    ·have H := f0; clear f0 e6
     refine xb (xs (xr ?_))
     refine lv rfl rfl (vm rfl) (lv rfl rfl (va rfl) ?_)
     refine ln (qn (xs ?_))
     obtain ⟨j, e5, e8⟩ := H
     refine xk (fun ρ h' => h2 = h' ∧ Has ρ [(0, (ptr a1 a2)), (1, (.int .u32 a0)), (2, (.slice a7 a3 a5)), (7, (.string r)), (8, (.int .i64 v)), (26, (.int .i64 (b4 : Int))), (27, (.int .i64 v)), (46, (.bool j))]) ?_ ?_
     ·have H := e5; clear e5 e8
      refine xr ?_
      refine lv rfl rfl (vm rfl) (lv rfl rfl (vm rfl) ?_)
      obtain ⟨j0, H⟩ := H
      refine lv rfl rfl (v := (.int .u32 (Int.fdiv a0 (2 ^ min (Int.toNat v) 32)))) (hv_shift rfl rfl j0 rfl) (lv rfl rfl (v := (.int .u32 (iband .u32 (Int.fdiv a0 (2 ^ min (Int.toNat v) 32)) 1))) (hv_bits rfl rfl rfl) (lv rfl rfl (vr rfl rfl rfl) (lv rfl rfl (vm rfl) ?_)))
      rcases bool_or ((iband .u32 (Int.fdiv a0 (2 ^ min (Int.toNat v) 32)) 1) == 0) with a4 | a4
      ·replace H := H.1 a4
       refine lo (wanted_n rfl rfl rfl a4) rfl ?_
       refine lo (wanted_n rfl rfl rfl a4) rfl ?_
       refine lo (wanted_n rfl rfl rfl a4) rfl ?_
       refine lo (wanted_n rfl rfl rfl a4) rfl ?_
       refine lo (wanted_n rfl rfl rfl a4) rfl ?_
       refine lo (wanted_n rfl rfl rfl a4) rfl ?_
       refine lo (wanted_n rfl rfl rfl a4) rfl ?_
       refine lo (wanted_n rfl rfl rfl a4) rfl ?_
       refine lo (wanted_n rfl rfl rfl a4) rfl ?_
       refine lo (wanted_n rfl rfl rfl a4) rfl ?_
       refine lv rfl rfl (v := (.bool true)) (hv_pick_t rfl a4 rfl) ?_
       refine ln (qn ?_)
       obtain rfl := H
       exact ⟨rfl, (hc rfl (hc rfl (hc rfl (hc rfl (hc rfl (hc rfl (hc rfl (hc rfl hn))))))))⟩
      ·replace H := H.2 a4
       refine ly (wanted_y rfl rfl rfl a4) rfl (HStep.of_val (v := (ptr a1 a2)) (vm rfl) ?_)
       refine ly (wanted_y rfl rfl rfl a4) rfl (HStep.of_val (v := (ptr a1 a2)) (hv_nil rfl) ?_)
       refine ly (wanted_y rfl rfl rfl a4) rfl (HStep.of_val (v := (ptr a1 (a2 + 2))) (vf TyTC.fld76_2 (b := a1) (o := a2) rfl) ?_)
       obtain ⟨c4, c9, d9, j2, H⟩ := H
       refine ly (wanted_y rfl rfl rfl a4) rfl (HStep.of_val (v := (.slice c4 c9 d9)) (vl TyTC.agg74 rfl j2) ?_)
       refine ly (wanted_y rfl rfl rfl a4) rfl (HStep.of_val (v := (.int .i64 v)) (vm rfl) ?_)
       obtain ⟨c6, c7, c2, j7, j3, Hq⟩ := H
       subst c2
       have H := Hq; clear Hq
       refine ly (wanted_y rfl rfl rfl a4) rfl (HStep.of_val (v := (ptr c6 (c7 + (Int.toNat v) * 1))) (vi TyTC.el74 rfl rfl j7 j3) ?_)
       obtain ⟨b6, i3, H⟩ := H
       refine ly (wanted_y rfl rfl rfl a4) rfl (HStep.of_val (v := (.int .u32 b6)) (vl TyTC.agg55 rfl i3) ?_)
       refine ly (wanted_y rfl rfl rfl a4) rfl (HStep.of_val (v := (.int .u32 a0)) (vm rfl) ?_)
       refine ly (wanted_y rfl rfl rfl a4) rfl (HStep.of_val (v := (.int .u32 (iband .u32 b6 a0))) (hv_bits rfl rfl rfl) ?_)
       refine ly (wanted_y rfl rfl rfl a4) rfl (HStep.of_val (v := (.bool ((iband .u32 b6 a0) != 0))) (vr rfl rfl rfl) ?_)
       refine lv rfl rfl (v := (.bool ((iband .u32 b6 a0) != 0))) (hv_pick_f rfl a4 rfl) ?_
       refine ln (qn ?_)
       obtain rfl := H
       exact ⟨rfl, (hc rfl (hc rfl (hc rfl (hc rfl (hc rfl (hc rfl (hc rfl (hc rfl hn))))))))⟩
     ·have H := e8; clear e5 e8
      rintro ρ _ ⟨rfl, hH⟩
      refine xh _ hH ?_
      refine xc (b := j) rfl (fun e9 => ?_) (fun e9 => ?_)
      ·replace H := H.1 e9
       refine xe (qe (bh (qn ?_)))
       exact ⟨⟨H, trivial⟩, (hc rfl (hc rfl (hc rfl (hc rfl (hc rfl (hc rfl hn))))))⟩
      ·replace H := H.2 e9
       refine xi (qn (xs ?_))
       refine hx_draw TyTC.mixed [.pure, .pure, .pure, .pure, .read, .pure, .pure, .pure, .read, .pure, .pure, .read, .pure, .read, .wild, .pure] [0, 1, 2, 3, 4, 5, 6, 7, 8, 9, 10, 11, 12, 13, 14, 15] (by kernel_rfl) ?_
       refine pp (i := 0) rfl (wanted_0 rfl) rfl (.slice a7 a3 a5) (fun _ => vm rfl) ?_
       refine pp (i := 1) rfl (wanted_0 rfl) rfl (ptr a1 a2) (fun _ => vm rfl) ?_
       refine pp (i := 2) rfl (wanted_0 rfl) rfl (ptr a1 a2) (fun _ => hv_nil rfl) ?_
       refine pp (i := 3) rfl (wanted_0 rfl) rfl (ptr a1 a2) (fun _ => vf TyTC.fld76_0 (b := a1) (o := a2) rfl) ?_
       obtain ⟨f3, d1, e0, g6, H⟩ := H
       refine pr (i := 4) rfl (wanted_0 rfl) rfl (.slice f3 d1 e0) (fun _ he => vl TyTC.agg22 rfl (Ext.cell he g6)) ?_
       refine pp (i := 5) rfl (wanted_0 rfl) rfl (ptr a1 a2) (fun _ => vm rfl) ?_
       refine pp (i := 6) rfl (wanted_0 rfl) rfl (ptr a1 a2) (fun _ => hv_nil rfl) ?_
       refine pp (i := 7) rfl (wanted_0 rfl) rfl (ptr a1 (a2 + 1)) (fun _ => vf TyTC.fld76_1 (b := a1) (o := a2) rfl) ?_
       obtain ⟨f2, d2, d8, g9, H⟩ := H
       refine pr (i := 8) rfl (wanted_0 rfl) rfl (.slice f2 d2 d8) (fun _ he => vl TyTC.agg23 rfl (Ext.cell he g9)) ?_
       refine pp (i := 9) rfl (wanted_0 rfl) rfl (.int .i64 v) (fun _ => vm rfl) ?_
       obtain ⟨d0, c8, c2, j9, j8, Hq⟩ := H
       subst c2
       have H := Hq; clear Hq
       refine pp (i := 10) rfl (wanted_0 rfl) rfl (ptr d0 (c8 + (Int.toNat v) * 1)) (fun _ => vi TyTC.el23 rfl rfl j9 j8) ?_
       obtain ⟨b2, i2, H⟩ := H
       refine pr (i := 11) rfl (wanted_0 rfl) rfl (.int .i64 b2) (fun _ he => vl TyTC.agg3 rfl (Ext.cell he i2)) ?_
       obtain ⟨a9, a8, c2, i1, g3, Hq⟩ := H
       subst c2
       have H := Hq; clear Hq
       refine pp (i := 12) rfl (wanted_0 rfl) rfl (ptr a9 (a8 + (Int.toNat b2) * 8)) (fun _ => vi TyTC.el22 rfl rfl i1 g3) ?_
       obtain ⟨b5, c1, b0, b8, c0, b7, b3, c5, j6, i8, j4, i9, j5, k0, g7, i7, H⟩ := H
       refine pr (i := 13) rfl (wanted_0 rfl) rfl (.agg #[(.int .i64 b5), (.string c1), (.string b0), (.int .i64 b8), (.bool c0), (.int .i64 b7), (.int .i64 b3), (.int .i64 c5)]) (fun _ he => vL (vs := [(.int .i64 b5), (.string c1), (.string b0), (.int .i64 b8), (.bool c0), (.int .i64 b7), (.int .i64 b3), (.int .i64 c5)]) TyTC.agg30 TyTC.sz30 rfl (cc (Ext.cell he j6) (cc (Ext.cell he i8) (cc (Ext.cell he j4) (cc (Ext.cell he i9) (cc (Ext.cell he j5) (cc (Ext.cell he k0) (cc (Ext.cell he g7) (cc (Ext.cell he i7) cn))))))))) ?_
       refine hp_wild (i := 14) rfl (wanted_0 rfl) rfl (sc TyTC.cb21 rfl (HC.mono H ?_))
       rintro _ h4 ⟨d3, b1, d4, rfl, H⟩
       refine pp (i := 15) rfl (wanted_0 rfl) rfl (.slice d3 b1 d4) (fun _ => va rfl) ?_
       refine hp_nil ?_
       refine qn ?_
       obtain ⟨e1, e4, e7⟩ := H
       refine xk (fun ρ h' => ∃ c3 : Bool, (e1 c3 h' ∧ True) ∧ Has ρ [(0, (ptr a1 a2)), (1, (.int .u32 a0)), (2, (.slice a7 a3 a5)), (7, (.string r)), (26, (.int .i64 (b4 : Int))), (27, (.int .i64 v)), (73, (.bool c3))]) ?_ ?_
       ·have H := e4; clear e4 e7
        refine xr ?_
        refine lv rfl rfl (vm rfl) (lv rfl rfl (v := (.int .i64 (b1 : Int))) (hv_len (n := b1) TyTC.u43 rfl) (lv rfl rfl (vr rfl rfl rfl) (lv rfl rfl (vm rfl) ?_)))
        rcases bool_or (decide ((b1 : Int) > 0)) with a6 | a6
        ·replace H := H.1 a6
         refine ly (wanted_y rfl rfl rfl a6) rfl (HStep.of_val (v := (ptr a1 a2)) (vm rfl) ?_)
         refine ly (wanted_y rfl rfl rfl a6) rfl (HStep.of_val (v := (.int .u32 a0)) (vm rfl) ?_)
         refine ly (wanted_y rfl rfl rfl a6) rfl (HStep.of_val (v := (.int .i64 v)) (vm rfl) ?_)
         obtain ⟨i6, H⟩ := H
         refine ly (wanted_y rfl rfl rfl a6) rfl (HStep.of_val (v := (.int .u32 (IntKind.u32.wrap (1 * 2 ^ min (Int.toNat v) 32)))) (hv_shift rfl rfl i6 rfl) ?_)
         refine ly (wanted_y rfl rfl rfl a6) rfl (HStep.of_val (v := (.int .u32 (ibandNot .u32 a0 (IntKind.u32.wrap (1 * 2 ^ min (Int.toNat v) 32))))) (hv_bits rfl rfl rfl) ?_)
         refine ly (wanted_y rfl rfl rfl a6) rfl (HStep.of_val (v := (.slice d3 b1 d4)) (vm rfl) ?_)
         refine ly (wanted_y rfl rfl rfl a6) rfl (sc TyTC.cb46 rfl (HC.mono H ?_))
         rintro _ h6 ⟨f5, rfl, H⟩
         refine lv rfl rfl (v := (.bool f5)) (hv_pick_t rfl a6 rfl) ?_
         refine ln (qn ?_)
         exact ⟨_, ⟨H, trivial⟩, (hc rfl (hc rfl (hc rfl (hc rfl (hc rfl (hc rfl (hc rfl hn)))))))⟩
        ·replace H := H.2 a6
         refine lo (wanted_n rfl rfl rfl a6) rfl ?_
         refine lo (wanted_n rfl rfl rfl a6) rfl ?_
         refine lo (wanted_n rfl rfl rfl a6) rfl ?_
         refine lo (wanted_n rfl rfl rfl a6) rfl ?_
         refine lo (wanted_n rfl rfl rfl a6) rfl ?_
         refine lo (wanted_n rfl rfl rfl a6) rfl ?_
         refine lo (wanted_n rfl rfl rfl a6) rfl ?_
         refine lv rfl rfl (v := (.bool false)) (hv_pick_f rfl a6 rfl) ?_
         refine ln (qn ?_)
         exact ⟨_, ⟨H, trivial⟩, (hc rfl (hc rfl (hc rfl (hc rfl (hc rfl (hc rfl (hc rfl hn)))))))⟩
       ·rintro ρ h5 ⟨c3, ⟨g1, -⟩, hH⟩
        have H := e7 c3 h5 g1; clear e4 e7
        refine xh _ hH ?_
        refine xc (b := c3) rfl (fun e3 => ?_) (fun e3 => ?_)
        ·replace H := H.1 e3
         refine xs (xr ?_)
         refine lv rfl rfl (va rfl) ?_
         refine ln (qn (xt (br (qr (qr (br (qr ?_)))))))
         exact endQ_ret _ (res_one Tryd.results46 (rv_tmp rfl)) H
        ·replace H := H.2 e3
         refine xi (bn (qn ?_))
         exact ⟨⟨H, trivial⟩, (hc rfl (hc rfl (hc rfl (hc rfl (hc rfl (hc rfl hn))))))⟩
    ·rintro ρ h3 ⟨⟨g4, -⟩, hH⟩
     have H := e6 h3 g4; clear f0 e6
     refine xh _ hH ?_
     refine xr ?_
     refine lv rfl rfl (vr rfl rfl rfl) (lv rfl rfl (vm rfl) ?_)
     refine ln (qn ?_)
     exact ⟨IntKind.i64.wrap (v + 1), ⟨⟨H.1, trivial⟩, H.2⟩, (hc rfl (hc rfl (hc rfl (hc rfl (hc rfl (hc rfl hn))))))⟩
   ·replace H := H.2 f1
    refine xe (qe (qe (bh (qn (xs (xr ?_))))))
    refine lv rfl rfl (vm rfl) (lv rfl rfl (v := (ptr a1 a2)) (hv_nil rfl) (lv rfl rfl (v := (ptr a1 (a2 + 3))) (vf TyTC.fld76_3 (b := a1) (o := a2) rfl) ?_))
    obtain ⟨c4, g5, H⟩ := H
    refine lv rfl rfl (vl TyTC.agg73 rfl g5) (lv rfl rfl (vm rfl) ?_)
    obtain ⟨b9, c2, Hq⟩ := H
    subst c2
    have H := Hq; clear Hq
    obtain ⟨d6, i5, b6, j1, H⟩ := H
    refine lv rfl rfl (v := (.int .i64 b6)) (hv_look (l := d6) (a := r) strK TyTC.u73 TyTC.u9 TyTC.z3 rfl rfl i5 j1) (lv rfl rfl (vr rfl rfl rfl) ?_)
    obtain ⟨d7, i0, H⟩ := H
    refine lp rfl rfl (hn_mapPut (l := d7) (a := r) strK TyTC.u73 TyTC.u9 rfl rfl rfl i0 ?_)
    intro h7 g2 g8
    replace H := H h7 g2 g8
    refine ln (qn (xs (xr ?_)))
    refine lv rfl rfl (va rfl) ?_
    refine ln (qn (xt ?_))
    exact endQ_ret _ (res_one Tryd.results46 (rv_tmp rfl)) H
theorem f30_sh (a2 : Nat) (a1 : Nat) (h : Heap) (R : Value → Heap → Prop)
  (H : (∃ x : Option Addr, ∃ a0 a3 : Nat, hcell h a2 (a1 + 1) = some (.slice x a0 a3) ∧ ((0 : Int) ≤ (a0 : Int) ∧ R (.int .u32 (IntKind.u32.wrap ((IntKind.u32.wrap (1 * 2 ^ min (Int.toNat (a0 : Int)) 32)) - 1))) h))) :
  HC Tryd.prog 30 #[(ptr a2 a1)] h R := by
 refine hc_of (args := [(ptr a2 a1)]) Tryd.func30 rfl Tryd.ntmps30 (Nat.le_of_ble_eq_true rfl) ?_
 refine xs (xr ?_)
 refine lv rfl rfl (va rfl) ?_
 refine ln (qn (xs (xr ?_)))
 refine lv rfl rfl (vm rfl) (lv rfl rfl (v := (ptr a2 a1)) (hv_nil rfl) (lv rfl rfl (v := (ptr a2 (a1 + 1))) (vf TyTC.fld76_1 (b := a2) (o := a1) rfl) ?_))
 obtain ⟨x, a0, a3, a4, H⟩ := H
 refine lv rfl rfl (vl TyTC.agg23 rfl a4) (lv rfl rfl (v := (.int .i64 (a0 : Int))) (hv_len (n := a0) TyTC.u23 rfl) ?_)
 obtain ⟨a5, H⟩ := H
 refine lv rfl rfl (v := (.int .u32 (IntKind.u32.wrap (1 * 2 ^ min (Int.toNat (a0 : Int)) 32)))) (hv_shift rfl rfl a5 rfl) (lv rfl rfl (vr rfl rfl rfl) (lv rfl rfl (va rfl) ?_))
 refine ln (qn (xt ?_))
 exact endQ_ret _ (res_one Tryd.results30 (rv_tmp rfl)) H
theorem f29_sh (a1 : Nat) (a0 : Nat) (h : Heap) (R : Value → Heap → Prop)
  (H : HC Tryd.prog 30 #[(ptr a1 a0)] h (fun vv h1 => ∃ r : Int, vv = (.int .u32 r) ∧ HC Tryd.prog 20 #[] h1 (fun vv h2 => ∃ a2 : Option Addr, ∃ a4 a3 : Nat, vv = (.slice a2 a4 a3) ∧ HC Tryd.prog 46 #[(ptr a1 a0), (.int .u32 r), (.slice a2 a4 a3)] h2 (fun vv h3 => ∃ a5 : Bool, vv = (.bool a5) ∧ R (.bool a5) h3)))) :
  HC Tryd.prog 29 #[(ptr a1 a0)] h R := by
 refine hc_of (args := [(ptr a1 a0)]) Tryd.func29 rfl Tryd.ntmps29 (Nat.le_of_ble_eq_true rfl) ?_
 refine xs (xr ?_)
 refine lv rfl rfl (va rfl) ?_
 refine ln (qn (xs (xr ?_)))
 refine lv rfl rfl (vm rfl) (lv rfl rfl (vm rfl) ?_)
 refine lp rfl rfl (sc TyTC.cb30 rfl (HC.mono H ?_))
 rintro _ h1 ⟨r, rfl, H⟩
 refine lp rfl rfl (sc TyTC.cb20 rfl (HC.mono H ?_))
 rintro _ h2 ⟨a2, a4, a3, rfl, H⟩
 refine lp rfl rfl (sc TyTC.cb46 rfl (HC.mono H ?_))
 rintro _ h3 ⟨a5, rfl, H⟩
 refine lv rfl rfl (va rfl) ?_
 refine ln (qn (xt ?_))
 exact endQ_ret _ (res_one Tryd.results29 (rv_tmp rfl)) H
theorem f33_sh (a1 : Nat) (a0 : Nat) (i : Int) (h : Heap) (R : Value → Heap → Prop)
  (H : (∃ x : Option Addr, hcell h a1 a0 = some (.pointer x) ∧ (∃ c4 c2 : Nat, x = some ⟨c4, c2, none⟩ ∧ (∃ d2 : Option Addr, ∃ c7 c9 : Nat, hcell h c4 (c2 + 1) = some (.slice d2 c7 c9) ∧ HC Tryd.prog 47 #[(.slice d2 c7 c9), (.int .i64 i)] h (fun vv h1 => ∃ r : Int, vv = (.int .i64 r) ∧ (∃ d0 : Option Addr, ∃ b8 b9 : Nat, hcell h1 a1 (a0 + 2) = some (.slice d0 b8 b9) ∧ (∃ d7 : Option Addr, hcell h1 a1 a0 = some (.pointer d7) ∧ (∃ b4 b5 : Nat, d7 = some ⟨b4, b5, none⟩ ∧ (∃ d6 : Option Addr, ∃ c1 c5 : Nat, hcell h1 b4 b5 = some (.slice d6 c1 c5) ∧ (∃ a3 a4 : Nat, d6 = some ⟨a3, a4, none⟩ ∧ (0 : Int) ≤ i ∧ i < (c1 : Int) ∧ (∃ a8 : Int, ∃ b7 a6 : ByteArray, ∃ b3 : Int, ∃ b6 : Bool, ∃ a9 a7 c0 : Int, hcell h1 a3 (a4 + (Int.toNat i) * 8) = some (.int .i64 a8) ∧ hcell h1 a3 ((a4 + (Int.toNat i) * 8) + 1) = some (.string b7) ∧ hcell h1 a3 ((a4 + (Int.toNat i) * 8) + 2) = some (.string a6) ∧ hcell h1 a3 ((a4 + (Int.toNat i) * 8) + 3) = some (.int .i64 b3) ∧ hcell h1 a3 ((a4 + (Int.toNat i) * 8) + 4) = some (.bool b6) ∧ hcell h1 a3 ((a4 + (Int.toNat i) * 8) + 5) = some (.int .i64 a9) ∧ hcell h1 a3 ((a4 + (Int.toNat i) * 8) + 6) = some (.int .i64 a7) ∧ hcell h1 a3 ((a4 + (Int.toNat i) * 8) + 7) = some (.int .i64 c0) ∧ HC Tryd.prog 21 #[(.slice d0 b8 b9), (.agg #[(.int .i64 a8), (.string b7), (.string a6), (.int .i64 b3), (.bool b6), (.int .i64 a9), (.int .i64 a7), (.int .i64 c0)])] h1 (fun vv h2 => ∃ b1 : Option Addr, ∃ a5 b2 : Nat, vv = (.slice b1 a5 b2) ∧ (∃ b0 : Int, hcell h2 a1 (a0 + 1) = some (.int .u32 b0) ∧ ((0 : Int) ≤ r ∧ (∃ d1 : Bool → Heap → Prop, ((((a5 : Int) == 0) = true → (d1 true h2)) ∧ (((a5 : Int) == 0) = false → (∃ c8 : Option Addr, hcell h2 a1 a0 = some (.pointer c8) ∧ HC Tryd.prog 46 #[(.pointer c8), (.int .u32 (ibandNot .u32 b0 (IntKind.u32.wrap (1 * 2 ^ min (Int.toNat r) 32)))), (.slice b1 a5 b2)] h2 (fun vv h4 => ∃ c3 : Bool, vv = (.bool c3) ∧ (d1 (!c3) h4))))) ∧ (∀ (j : Bool) (h3 : Heap), d1 j h3 → ((j = true → R (.bool false) h3) ∧ (j = false → (HW h3 a1 (a0 + 1) ∧ ∀ h5, h5 = hset h3 a1 (a0 + 1) (.int .u32 (ibandNot .u32 b0 (IntKind.u32.wrap (1 * 2 ^ min (Int.toNat r) 32)))) → (HW h5 a1 (a0 + 2) ∧ ∀ h6, h6 = hset h5 a1 (a0 + 2) (.slice b1 a5 b2) → R (.bool true) h6)))))))))))))))))))) :
  HC Tryd.prog 33 #[(ptr a1 a0), (.int .i64 i)] h R := by
 refine hc_of (args := [(ptr a1 a0), (.int .i64 i)]) Tryd.func33 rfl Tryd.ntmps33 (Nat.le_of_ble_eq_true rfl) ?_
 refine xs (xr ?_)
 refine lv rfl rfl (va rfl) ?_
 refine ln (qn (xs (xr ?_)))
 refine lv rfl rfl (vm rfl) (lv rfl rfl (v := (ptr a1 a0)) (hv_nil rfl) (lv rfl rfl (v := (ptr a1 a0)) (vf TyTC.fld58_0 (b := a1) (o := a0) rfl) ?_))
 obtain ⟨x, f5, H⟩ := H
 refine lv rfl rfl (vl TyTC.agg53 rfl f5) ?_
 obtain ⟨c4, c2, c6, Hq⟩ := H
 subst c6
 have H := Hq; clear Hq
 refine lv rfl rfl (v := (ptr c4 c2)) (hv_nil rfl) (lv rfl rfl (v := (ptr c4 (c2 + 1))) (vf TyTC.fld76_1 (b := c4) (o := c2) rfl) ?_)
 obtain ⟨d2, c7, c9, f9, H⟩ := H
 refine lv rfl rfl (vl TyTC.agg23 rfl f9) (lv rfl rfl (vm rfl) ?_)
 refine lp rfl rfl (sc TyTC.cb47 rfl (HC.mono H ?_))
 rintro _ h1 ⟨r, rfl, H⟩
 refine lv rfl rfl (va rfl) ?_
 refine ln (qn (xs ?_))
 refine hx_draw TyTC.mixed [.pure, .pure, .pure, .read, .pure, .pure, .pure, .read, .pure, .pure, .read, .pure, .pure, .read, .wild, .pure] [0, 1, 2, 3, 4, 5, 6, 7, 8, 9, 10, 11, 12, 13, 14, 15] (by kernel_rfl) ?_
 refine pp (i := 0) rfl (wanted_0 rfl) rfl (ptr a1 a0) (fun _ => vm rfl) ?_
 refine pp (i := 1) rfl (wanted_0 rfl) rfl (ptr a1 a0) (fun _ => hv_nil rfl) ?_
 refine pp (i := 2) rfl (wanted_0 rfl) rfl (ptr a1 (a0 + 2)) (fun _ => vf TyTC.fld58_2 (b := a1) (o := a0) rfl) ?_
 obtain ⟨d0, b8, b9, f2, H⟩ := H
 refine pr (i := 3) rfl (wanted_0 rfl) rfl (.slice d0 b8 b9) (fun _ he => vl TyTC.agg43 rfl (Ext.cell he f2)) ?_
 refine pp (i := 4) rfl (wanted_0 rfl) rfl (ptr a1 a0) (fun _ => vm rfl) ?_
 refine pp (i := 5) rfl (wanted_0 rfl) rfl (ptr a1 a0) (fun _ => hv_nil rfl) ?_
 refine pp (i := 6) rfl (wanted_0 rfl) rfl (ptr a1 a0) (fun _ => vf TyTC.fld58_0 (b := a1) (o := a0) rfl) ?_
 obtain ⟨d7, f6, H⟩ := H
 refine pr (i := 7) rfl (wanted_0 rfl) rfl (.pointer d7) (fun _ he => vl TyTC.agg53 rfl (Ext.cell he f6)) ?_
 obtain ⟨b4, b5, c6, Hq⟩ := H
 subst c6
 have H := Hq; clear Hq
 refine pp (i := 8) rfl (wanted_0 rfl) rfl (ptr b4 b5) (fun _ => hv_nil rfl) ?_
 refine pp (i := 9) rfl (wanted_0 rfl) rfl (ptr b4 b5) (fun _ => vf TyTC.fld76_0 (b := b4) (o := b5) rfl) ?_
 obtain ⟨d6, c1, c5, f4, H⟩ := H
 refine pr (i := 10) rfl (wanted_0 rfl) rfl (.slice d6 c1 c5) (fun _ he => vl TyTC.agg22 rfl (Ext.cell he f4)) ?_
 refine pp (i := 11) rfl (wanted_0 rfl) rfl (.int .i64 i) (fun _ => vm rfl) ?_
 obtain ⟨a3, a4, c6, f8, f3, Hq⟩ := H
 subst c6
 have H := Hq; clear Hq
 refine pp (i := 12) rfl (wanted_0 rfl) rfl (ptr a3 (a4 + (Int.toNat i) * 8)) (fun _ => vi TyTC.el22 rfl rfl f8 f3) ?_
 obtain ⟨a8, b7, a6, b3, b6, a9, a7, c0, g0, f7, e5, e0, f1, e4, e7, e1, H⟩ := H
 refine pr (i := 13) rfl (wanted_0 rfl) rfl (.agg #[(.int .i64 a8), (.string b7), (.string a6), (.int .i64 b3), (.bool b6), (.int .i64 a9), (.int .i64 a7), (.int .i64 c0)]) (fun _ he => vL (vs := [(.int .i64 a8), (.string b7), (.string a6), (.int .i64 b3), (.bool b6), (.int .i64 a9), (.int .i64 a7), (.int .i64 c0)]) TyTC.agg30 TyTC.sz30 rfl (cc (Ext.cell he g0) (cc (Ext.cell he f7) (cc (Ext.cell he e5) (cc (Ext.cell he e0) (cc (Ext.cell he f1) (cc (Ext.cell he e4) (cc (Ext.cell he e7) (cc (Ext.cell he e1) cn))))))))) ?_
 refine hp_wild (i := 14) rfl (wanted_0 rfl) rfl (sc TyTC.cb21 rfl (HC.mono H ?_))
 rintro _ h2 ⟨b1, a5, b2, rfl, H⟩
 refine pp (i := 15) rfl (wanted_0 rfl) rfl (.slice b1 a5 b2) (fun _ => va rfl) ?_
 refine hp_nil ?_
 refine qn (xs ?_)
 refine hx_draw TyTC.mixed [.pure, .pure, .pure, .read, .pure, .pure, .pure, .pure] [0, 1, 2, 3, 4, 5, 6, 7] (by kernel_rfl) ?_
 refine pp (i := 0) rfl (wanted_0 rfl) rfl (ptr a1 a0) (fun _ => vm rfl) ?_
 refine pp (i := 1) rfl (wanted_0 rfl) rfl (ptr a1 a0) (fun _ => hv_nil rfl) ?_
 refine pp (i := 2) rfl (wanted_0 rfl) rfl (ptr a1 (a0 + 1)) (fun _ => vf TyTC.fld58_1 (b := a1) (o := a0) rfl) ?_
 obtain ⟨b0, d9, H⟩ := H
 refine pr (i := 3) rfl (wanted_0 rfl) rfl (.int .u32 b0) (fun _ he => vl TyTC.agg55 rfl (Ext.cell he d9)) ?_
 refine pp (i := 4) rfl (wanted_0 rfl) rfl (.int .i64 r) (fun _ => vm rfl) ?_
 obtain ⟨e9, H⟩ := H
 refine pp (i := 5) rfl (wanted_0 rfl) rfl (.int .u32 (IntKind.u32.wrap (1 * 2 ^ min (Int.toNat r) 32))) (fun _ => hv_shift rfl rfl e9 rfl) ?_
 refine pp (i := 6) rfl (wanted_0 rfl) rfl (.int .u32 (ibandNot .u32 b0 (IntKind.u32.wrap (1 * 2 ^ min (Int.toNat r) 32)))) (fun _ => hv_bits rfl rfl rfl) ?_
 refine pp (i := 7) rfl (wanted_0 rfl) rfl (.int .u32 (ibandNot .u32 b0 (IntKind.u32.wrap (1 * 2 ^ min (Int.toNat r) 32)))) (fun _ => va rfl) ?_
 refine hp_nil ?_
 refine qn (xs ?_)
 obtain ⟨d1, d3, d4⟩ := H
 refine xk (fun ρ h' => ∃ j : Bool, (d1 j h' ∧ True) ∧ Has ρ [(0, (ptr a1 a0)), (6, (.slice b1 a5 b2)), (7, (.int .u32 (ibandNot .u32 b0 (IntKind.u32.wrap (1 * 2 ^ min (Int.toNat r) 32))))), (51, (.bool j))]) ?_ ?_
 ·have H := d3; clear d3 d4
  refine xr ?_
  refine lv rfl rfl (vm rfl) (lv rfl rfl (v := (.int .i64 (a5 : Int))) (hv_len (n := a5) TyTC.u43 rfl) (lv rfl rfl (vr rfl rfl rfl) (lv rfl rfl (vm rfl) ?_)))
  rcases bool_or ((a5 : Int) == 0) with a2 | a2
  ·replace H := H.1 a2
   refine lo (wanted_n rfl rfl rfl a2) rfl ?_
   refine lo (wanted_n rfl rfl rfl a2) rfl ?_
   refine lo (wanted_n rfl rfl rfl a2) rfl ?_
   refine lo (wanted_n rfl rfl rfl a2) rfl ?_
   refine lo (wanted_n rfl rfl rfl a2) rfl ?_
   refine lo (wanted_n rfl rfl rfl a2) rfl ?_
   refine lo (wanted_n rfl rfl rfl a2) rfl ?_
   refine lo (wanted_n rfl rfl rfl a2) rfl ?_
   refine lv rfl rfl (v := (.bool true)) (hv_pick_t rfl a2 rfl) ?_
   refine ln (qn ?_)
   exact ⟨_, ⟨H, trivial⟩, (hc rfl (hc rfl (hc rfl (hc rfl hn))))⟩
  ·replace H := H.2 a2
   refine ly (wanted_y rfl rfl rfl a2) rfl (HStep.of_val (v := (ptr a1 a0)) (vm rfl) ?_)
   refine ly (wanted_y rfl rfl rfl a2) rfl (HStep.of_val (v := (ptr a1 a0)) (hv_nil rfl) ?_)
   refine ly (wanted_y rfl rfl rfl a2) rfl (HStep.of_val (v := (ptr a1 a0)) (vf TyTC.fld58_0 (b := a1) (o := a0) rfl) ?_)
   obtain ⟨c8, e6, H⟩ := H
   refine ly (wanted_y rfl rfl rfl a2) rfl (HStep.of_val (v := (.pointer c8)) (vl TyTC.agg53 rfl e6) ?_)
   refine ly (wanted_y rfl rfl rfl a2) rfl (HStep.of_val (v := (.int .u32 (ibandNot .u32 b0 (IntKind.u32.wrap (1 * 2 ^ min (Int.toNat r) 32))))) (vm rfl) ?_)
   refine ly (wanted_y rfl rfl rfl a2) rfl (HStep.of_val (v := (.slice b1 a5 b2)) (vm rfl) ?_)
   refine ly (wanted_y rfl rfl rfl a2) rfl (sc TyTC.cb46 rfl (HC.mono H ?_))
   rintro _ h4 ⟨c3, rfl, H⟩
   refine ly (wanted_y rfl rfl rfl a2) rfl (HStep.of_val (v := (.bool (!c3))) (hv_not (b := c3) rfl) ?_)
   refine lv rfl rfl (v := (.bool (!c3))) (hv_pick_f rfl a2 rfl) ?_
   refine ln (qn ?_)
   exact ⟨_, ⟨H, trivial⟩, (hc rfl (hc rfl (hc rfl (hc rfl hn))))⟩
 ·rintro ρ h3 ⟨j, ⟨e3, -⟩, hH⟩
  have H := d4 j h3 e3; clear d3 d4
  refine xh _ hH ?_
  refine xc (b := j) rfl (fun d5 => ?_) (fun d5 => ?_)
  ·replace H := H.1 d5
   refine xs (xr ?_)
   refine lv rfl rfl (va rfl) ?_
   refine ln (qn (xt (qr ?_)))
   exact endQ_ret _ (res_one Tryd.results33 (rv_tmp rfl)) H
  ·replace H := H.2 d5
   refine xi (qn (xs (xr ?_)))
   refine lv rfl rfl (vm rfl) (lv rfl rfl (vm rfl) (lv rfl rfl (vm rfl) (lv rfl rfl (vm rfl) (lv rfl rfl (v := (ptr a1 a0)) (hv_nil rfl) (lv rfl rfl (v := (ptr a1 (a0 + 1))) (vf TyTC.fld58_1 (b := a1) (o := a0) rfl) ?_)))))
   obtain ⟨d8, H⟩ := H
   refine lp rfl rfl (hn_store (v := (.int .u32 (ibandNot .u32 b0 (IntKind.u32.wrap (1 * 2 ^ min (Int.toNat r) 32))))) rfl rfl TyTC.sz55 rfl d8 ?_)
   intro h5 e2
   replace H := H h5 e2
   refine lv rfl rfl (v := (ptr a1 a0)) (hv_nil rfl) (lv rfl rfl (v := (ptr a1 (a0 + 2))) (vf TyTC.fld58_2 (b := a1) (o := a0) rfl) ?_)
   obtain ⟨f0, H⟩ := H
   refine lp rfl rfl (hn_store (v := (.slice b1 a5 b2)) rfl rfl TyTC.sz43 rfl f0 ?_)
   intro h6 e8
   replace H := H h6 e8
   refine ln (qn (xs (xr ?_)))
   refine lv rfl rfl (va rfl) ?_
   refine ln (qn (xt ?_))
   exact endQ_ret _ (res_one Tryd.results33 (rv_tmp rfl)) H
theorem f17_sh (l : Option Addr) (l1 : Nat) (l4 : Nat) (c1 : Option Addr) (a0 : Nat) (a5 : Nat) (h : Heap) (R : Value → Heap → Prop)
  (H : (∀ c9 h1, c9 = Array.size h → h1 = Array.push h (.cells #[(.slice l l1 l4)] 22) → (∀ mb h2, mb = Array.size h1 → Ext h1 h2 → Array.size h2 = Array.size h1 + 1 → MapL h2 mb Value.string [] → (∃ (I8 : Int → Heap → Prop) (l5 : Int → Heap → Nat), I8 0 h2 ∧ (∀ (v : Int) (h3 : Heap), I8 v h3 → (((decide (v < (a0 : Int))) = true → (∃ j0 : Heap → Prop, (∃ b6 b8 : Nat, c1 = some ⟨b6, b8, none⟩ ∧ (0 : Int) ≤ v ∧ v < (a0 : Int) ∧ (∃ x : Int, hcell h3 b6 (b8 + (Int.toNat v) * 1) = some (.int .i64 x) ∧ (∀ i h5, i = Array.size h3 → h5 = Array.push h3 (.cells #[(.int .i64 0)] 3) → (HW h5 i 0 ∧ ∀ h6, h6 = hset h5 i 0 (.int .i64 x) → (∃ j : Bool, (∃ f6 : Option Addr, ∃ e3 f2 : Nat, hcell h6 c9 0 = some (.slice f6 e3 f2) ∧ (∃ b1 : Int, hcell h6 i 0 = some (.int .i64 b1) ∧ (∃ a2 a3 : Nat, f6 = some ⟨a2, a3, none⟩ ∧ (0 : Int) ≤ b1 ∧ b1 < (e3 : Int) ∧ (∃ a7 : Int, ∃ b2 a4 : ByteArray, ∃ b3 : Int, ∃ b4 : Bool, ∃ a8 a6 b9 : Int, hcell h6 a2 (a3 + (Int.toNat b1) * 8) = some (.int .i64 a7) ∧ hcell h6 a2 ((a3 + (Int.toNat b1) * 8) + 1) = some (.string b2) ∧ hcell h6 a2 ((a3 + (Int.toNat b1) * 8) + 2) = some (.string a4) ∧ hcell h6 a2 ((a3 + (Int.toNat b1) * 8) + 3) = some (.int .i64 b3) ∧ hcell h6 a2 ((a3 + (Int.toNat b1) * 8) + 4) = some (.bool b4) ∧ hcell h6 a2 ((a3 + (Int.toNat b1) * 8) + 5) = some (.int .i64 a8) ∧ hcell h6 a2 ((a3 + (Int.toNat b1) * 8) + 6) = some (.int .i64 a6) ∧ hcell h6 a2 ((a3 + (Int.toNat b1) * 8) + 7) = some (.int .i64 b9) ∧ (((Ml.keyed ⟨a7, b2, a4, b3, b4, a8, a6, b9⟩) = true → (∃ kv : List (ByteArray × Value), MapL h6 mb Value.string kv ∧ ∃ e0 : Option Addr, (lk kv b2).getD (.pointer none) = (.pointer e0) ∧ (j = e0.isNone))) ∧ ((Ml.keyed ⟨a7, b2, a4, b3, b4, a8, a6, b9⟩) = false → (j = false))))))) ∧ ((j = true → (∀ (h7 : Heap), Ext h6 h7 → HC Tryd.prog 26 #[(.slice (some ⟨b6, b8, none⟩) a0 a5)] h7 (fun vv h9 => ∃ r : Option Addr, ∃ e7 e8 : Nat, vv = (.slice r e7 e8) ∧ HC Tryd.prog 25 #[(.slice r e7 e8), (.func (.func 27) #[] #[(ptr c9 0), (ptr i 0)])] h9 (fun vv l9 => ∃ d9 : Option Addr, ∃ c6 c5 : Nat, vv = (.slice d9 c6 c5) ∧ (∃ d6 : Option Addr, ∃ f5 f3 : Nat, hcell l9 c9 0 = some (.slice d6 f5 f3) ∧ HC Tryd.prog 28 #[(.slice d6 f5 f3), (.slice d9 c6 c5)] l9 (fun vv o4 => ∃ c8 : Option Addr, vv = (.pointer c8) ∧ HC Tryd.prog 29 #[(.pointer c8)] o4 (fun vv g4 => ∃ d5 : Bool, vv = (.bool d5) ∧ (((!d5) = true → R (.tuple #[(.slice none 0 0), (.int .i64 251)]) g4) ∧ ((!d5) = false → (∃ g0 : Heap → Heap → Prop, Fit g0 ∧ (∃ e2 : Option Addr, ∃ g3 i3 : Nat, (∀ hx, g0 g4 hx → hcell hx c9 0 = some (.slice e2 g3 i3)) ∧ (∃ f1 : Int, (∀ hx, g0 g4 hx → hcell hx i 0 = some (.int .i64 f1)) ∧ (∃ e6 e5 : Nat, e2 = some ⟨e6, e5, none⟩ ∧ (0 : Int) ≤ f1 ∧ f1 < (g3 : Int) ∧ (∃ i7 : ByteArray, (∀ hx, g0 g4 hx → hcell hx e6 ((e5 + (Int.toNat f1) * 8) + 1) = some (.string i7)) ∧ HC Tryd.prog 30 #[(.pointer c8)] g4 (fun vv l3 => g0 g4 l3 ∧ ∃ g6 : Int, vv = (.int .u32 g6) ∧ HC Tryd.prog 20 #[] l3 (fun vv j5 => g0 l3 j5 ∧ ∃ g5 : Option Addr, ∃ d8 d7 : Nat, vv = (.slice g5 d8 d7) ∧ (∀ nb g7, nb = Array.size j5 → g7 = Array.push j5 (.cells #[(.pointer c8), (.int .u32 g6), (.slice g5 d8 d7)] 58) → (∃ i1 : List (ByteArray × Value), MapL g7 mb Value.string i1 ∧ ∀ j2, Only mb g7 j2 → MapL j2 mb Value.string (kput i1 i7 (ptr nb 0)) → (j0 j2))))))))))))))))))) ∧ (j = false → (∀ (h7 : Heap), Ext h6 h7 → (j0 h7))))))))) ∧ (∀ (h4 : Heap), j0 h4 → (I8 (IntKind.i64.wrap (v + 1)) h4 ∧ l5 (IntKind.i64.wrap (v + 1)) h4 < l5 v h3)))) ∧ ((decide (v < (a0 : Int))) = false → HC Tryd.prog 26 #[(.slice c1 a0 a5)] h3 (fun vv o5 => ∃ r : Option Addr, ∃ e7 e8 : Nat, vv = (.slice r e7 e8) ∧ (∃ (j1 : Option Addr → Nat → Nat → Option Addr → Nat → Nat → Heap → Prop) (i4 : Option Addr → Nat → Nat → Option Addr → Nat → Nat → Heap → Nat), j1 r e7 e8 none 0 0 o5 ∧ (∀ (d4 : Option Addr) (a1 : Nat) (c4 : Nat) (e9 : Option Addr) (d3 : Nat) (d2 : Nat) (g9 : Heap), j1 d4 a1 c4 e9 d3 d2 g9 → (((decide ((a1 : Int) > 0)) = true → (∃ (j3 : Option Addr → Nat → Nat → Option Addr → Nat → Nat → Int → Heap → Prop) (i2 : Option Addr → Nat → Nat → Option Addr → Nat → Nat → Int → Heap → Nat), j3 d4 a1 c4 e9 d3 d2 0 g9 ∧ (∀ (b5 : Option Addr) (b0 : Nat) (a9 : Nat) (d0 : Option Addr) (c3 : Nat) (c2 : Nat) (b7 : Int) (f0 : Heap), j3 b5 b0 a9 d0 c3 c2 b7 f0 → (((decide (b7 < (a1 : Int))) = true → (∃ i6 : Heap → Prop, (∃ e4 e1 : Nat, d4 = some ⟨e4, e1, none⟩ ∧ (0 : Int) ≤ b7 ∧ b7 < (a1 : Int) ∧ (∃ x : Int, hcell f0 e4 (e1 + (Int.toNat b7) * 1) = some (.int .i64 x) ∧ (∀ i g8, i = Array.size f0 → g8 = Array.push f0 (.cells #[(.int .i64 0)] 3) → (HW g8 i 0 ∧ ∀ l6, l6 = hset g8 i 0 (.int .i64 x) → HC Tryd.prog 31 #[(.slice b5 b0 a9), (.func (.func 32) #[] #[(ptr c9 0), (ptr i 0)])] l6 (fun vv d1 => ∃ d9 : Bool, vv = (.bool d9) ∧ ((d9 = true → (i6 d1)) ∧ (d9 = false → (∃ f6 : Option Addr, ∃ e3 f2 : Nat, hcell d1 c9 0 = some (.slice f6 e3 f2) ∧ (∃ b1 : Int, hcell d1 i 0 = some (.int .i64 b1) ∧ (∃ a2 a3 : Nat, f6 = some ⟨a2, a3, none⟩ ∧ (0 : Int) ≤ b1 ∧ b1 < (e3 : Int) ∧ (∃ e0 : ByteArray, hcell d1 a2 ((a3 + (Int.toNat b1) * 8) + 1) = some (.string e0) ∧ (∃ kv : List (ByteArray × Value), MapL d1 mb Value.string kv ∧ ∃ d6 : Option Addr, (lk kv e0).getD (.pointer none) = (.pointer d6) ∧ (∃ j4 : Bool → Heap → Prop, (∃ a7 : Int, ∃ b2 a4 : ByteArray, ∃ b3 : Int, ∃ b4 : Bool, ∃ a8 a6 b9 : Int, hcell d1 a2 (a3 + (Int.toNat b1) * 8) = some (.int .i64 a7) ∧ hcell d1 a2 ((a3 + (Int.toNat b1) * 8) + 1) = some (.string b2) ∧ hcell d1 a2 ((a3 + (Int.toNat b1) * 8) + 2) = some (.string a4) ∧ hcell d1 a2 ((a3 + (Int.toNat b1) * 8) + 3) = some (.int .i64 b3) ∧ hcell d1 a2 ((a3 + (Int.toNat b1) * 8) + 4) = some (.bool b4) ∧ hcell d1 a2 ((a3 + (Int.toNat b1) * 8) + 5) = some (.int .i64 a8) ∧ hcell d1 a2 ((a3 + (Int.toNat b1) * 8) + 6) = some (.int .i64 a6) ∧ hcell d1 a2 ((a3 + (Int.toNat b1) * 8) + 7) = some (.int .i64 b9) ∧ (((Ml.keyed ⟨a7, b2, a4, b3, b4, a8, a6, b9⟩) = true → (∀ (g1 : Heap), Ext d1 g1 → HC Tryd.prog 33 #[(.pointer d6), (.int .i64 b1)] g1 (fun vv o2 => ∃ c8 : Bool, vv = (.bool c8) ∧ (j4 (!c8) o2)))) ∧ ((Ml.keyed ⟨a7, b2, a4, b3, b4, a8, a6, b9⟩) = false → (∀ (g1 : Heap), Ext d1 g1 → (j4 false g1))))) ∧ (∀ (j : Bool) (g2 : Heap), j4 j g2 → ((j = true → (i6 g2)) ∧ (j = false → (∃ e2 : Int, hcell g2 i 0 = some (.int .i64 e2) ∧ (∀ nb i8, nb = Array.size g2 → i8 = Array.push g2 (.cells #[(.int .i64 e2)] 3) → HAppend Tryd.prog 23 23 (.slice d0 c3 c2) (.slice (some ⟨nb, 0, none⟩) 1 1) i8 (fun vv o3 => ∃ ap : Option Addr, ∃ f9 f7 : Nat, vv = (.slice ap f9 f7) ∧ HC Tryd.prog 34 #[(.slice b5 b0 a9), (.int .i64 b7), (.int .i64 (IntKind.i64.wrap (b7 + 1)))] o3 (fun vv l7 => ∃ d5 : Option Addr, ∃ c6 c5 : Nat, vv = (.slice d5 c6 c5) ∧ (j1 d5 c6 c5 ap f9 f7 l7 ∧ i4 d5 c6 c5 ap f9 f7 l7 < i4 d4 a1 c4 e9 d3 d2 g9))))))))))))))))))))) ∧ (∀ (i9 : Heap), i6 i9 → (j3 b5 b0 a9 d0 c3 c2 (IntKind.i64.wrap (b7 + 1)) i9 ∧ i2 b5 b0 a9 d0 c3 c2 (IntKind.i64.wrap (b7 + 1)) i9 < i2 b5 b0 a9 d0 c3 c2 b7 f0)))) ∧ ((decide (b7 < (a1 : Int))) = false → R (.tuple #[(.slice none 0 0), (.int .i64 251)]) f0))))) ∧ ((decide ((a1 : Int) > 0)) = false → R (.tuple #[(.slice e9 d3 d2), (.int .i64 0)]) g9)))))))))))) :
  HC Tryd.prog 17 #[(.slice l l1 l4), (.slice c1 a0 a5)] h R := by
 refine hc_of (args := [(.slice l l1 l4), (.slice c1 a0 a5)]) Tryd.func17 rfl Tryd.ntmps17 (Nat.le_of_ble_eq_true rfl) ?_
 refine xs (xr ?_)
 refine lp rfl rfl (hn_box (v := (.slice l l1 l4)) rfl ?_)
 intro c9 h1 t8 o6
 replace H := H c9 h1 t8 o6
 have u4 := ext_pushed_f4_sh o6
 refine lv rfl rfl (va rfl) (lv rfl rfl (va rfl) ?_)
 refine ln (qn ?_)
 refine hx_scope ?_
 refine xs (xr ?_)
 refine lp rfl rfl (hn_makeMap (enc := Value.string) ?_)
 intro mb h2 u0 t7 t9 t6
 replace H := H mb h2 u0 t7 t9 t6
 refine lv rfl rfl (va rfl) ?_
 refine ln (qn (xs (xs (xr ?_))))
 refine lv rfl rfl (vm rfl) (lv rfl rfl (v := (.int .i64 (a0 : Int))) (hv_len (n := a0) TyTC.u23 rfl) (lv rfl rfl (vm rfl) ?_))
 refine ln (qn (xb ?_))
 obtain ⟨I8, l5, q9, r0⟩ := H
 refine xl (σ := Int) (fun s => [(1, (.slice c1 a0 a5)), (2, (ptr c9 0)), (6, (.map (some mb))), (17, (.slice c1 a0 a5)), (18, (.int .i64 (a0 : Int))), (19, (.int .i64 s))]) (fun s h' => I8 s h' ∧ True) (fun s h' => l5 s h') 0 ⟨q9, trivial⟩ (hc rfl (hc rfl (hc rfl (hc rfl (hc rfl (hc rfl hn)))))) ?_
 rintro v ρ h3 ⟨q4, -⟩
 have H := r0 v h3 q4
 refine xs (xr ?_)
 refine lv rfl rfl (vr rfl rfl rfl) ?_
 refine ln (qn (xs ?_))
 refine xc (b := decide (v < (a0 : Int))) rfl (fun k9 => ?_) (fun k9 => ?_)
 ·replace H := H.1 k9
  refine xi (qn ?_)
  obtain ⟨j0, j6, k3⟩ := H
  refine xk (fun ρ h' => (j0 h' ∧ True) ∧ Has ρ [(1, (.slice c1 a0 a5)), (2, (ptr c9 0)), (6, (.map (some mb))), (17, (.slice c1 a0 a5)), (18, (.int .i64 (a0 : Int))), (19, (.int .i64 v))]) ?_ ?_
  ·have H := j6; clear j6 k3
   refine xb (xs (xr ?_))
   obtain ⟨b6, b8, f4, r9, p0, Hq⟩ := H
   subst f4
   have H := Hq; clear Hq
   refine lv rfl rfl (v := (ptr b6 (b8 + (Int.toNat v) * 1))) (vi TyTC.el23 rfl rfl r9 p0) ?_
   obtain ⟨x, q2, H⟩ := H
   refine lv rfl rfl (vl TyTC.agg3 rfl q2) ?_
   refine lp rfl rfl (hn_alloc TyTC.z3 ?_)
   intro i h5 r5 m1
   replace H := H i h5 r5 m1
   have u3 := ext_pushed_f4_sh m1
   obtain ⟨o8, H⟩ := H
   refine lp rfl rfl (hn_store (v := (.int .i64 x)) rfl rfl TyTC.sz3 rfl o8 ?_)
   intro h6 s2
   replace H := H h6 s2
   refine ln (qn ?_)
   obtain ⟨j, k1, k4⟩ := H
   refine xk (fun ρ h' => (Ext h6 h' ∧ True) ∧ Has ρ [(1, (.slice (some ⟨b6, b8, none⟩) a0 a5)), (2, (ptr c9 0)), (6, (.map (some mb))), (8, (ptr i 0)), (17, (.slice (some ⟨b6, b8, none⟩) a0 a5)), (18, (.int .i64 (a0 : Int))), (19, (.int .i64 v)), (37, (.bool j))]) ?_ ?_
   ·have H := k1; clear k1 k4
    refine xr ?_
    obtain ⟨f6, e3, f2, m7, H⟩ := H
    refine lv rfl rfl (vl TyTC.agg22 rfl m7) ?_
    obtain ⟨b1, m0, H⟩ := H
    refine lv rfl rfl (vl TyTC.agg3 rfl m0) ?_
    obtain ⟨a2, a3, f4, m4, l8, Hq⟩ := H
    subst f4
    have H := Hq; clear Hq
    refine lv rfl rfl (v := (ptr a2 (a3 + (Int.toNat b1) * 8))) (vi TyTC.el22 rfl rfl m4 l8) ?_
    obtain ⟨a7, b2, a4, b3, b4, a8, a6, b9, q8, m6, q6, q0, t2, r2, o9, s5, H⟩ := H
    refine lv rfl rfl (vL (vs := [(.int .i64 a7), (.string b2), (.string a4), (.int .i64 b3), (.bool b4), (.int .i64 a8), (.int .i64 a6), (.int .i64 b9)]) TyTC.agg30 TyTC.sz30 rfl (cc q8 (cc m6 (cc q6 (cc q0 (cc t2 (cc r2 (cc o9 (cc s5 cn))))))))) ?_
    refine lp rfl rfl (sc TyTC.cb24 rfl (HC.mono (lkeyed_c (⟨a7, b2, a4, b3, b4, a8, a6, b9⟩) _) ?_))
    rintro _ h8 ⟨rfl, f8⟩
    refine lv rfl rfl (vm rfl) ?_
    rcases bool_or (Ml.keyed ⟨a7, b2, a4, b3, b4, a8, a6, b9⟩) with c0 | c0
    ·replace H := H.1 c0
     refine ly (wanted_y rfl rfl rfl c0) rfl (HStep.of_val (v := (.map (some mb))) (vm rfl) ?_)
     refine ly (wanted_y rfl rfl rfl c0) rfl (HStep.of_val (v := (.slice (some ⟨a2, a3, none⟩) e3 f2)) (vl TyTC.agg22 rfl (Ext.cell f8 m7)) ?_)
     refine ly (wanted_y rfl rfl rfl c0) rfl (HStep.of_val (v := (.int .i64 b1)) (vl TyTC.agg3 rfl (Ext.cell f8 m0)) ?_)
     refine ly (wanted_y rfl rfl rfl c0) rfl (HStep.of_val (v := (ptr a2 (a3 + (Int.toNat b1) * 8))) (vi TyTC.el22 rfl rfl m4 l8) ?_)
     refine ly (wanted_y rfl rfl rfl c0) rfl (HStep.of_val (v := (ptr a2 ((a3 + (Int.toNat b1) * 8) + 1))) (vf TyTC.fld30_1 (b := a2) (o := a3 + (Int.toNat b1) * 8) rfl) ?_)
     refine ly (wanted_y rfl rfl rfl c0) rfl (HStep.of_val (v := (.string b2)) (vl TyTC.agg9 rfl (Ext.cell f8 m6)) ?_)
     obtain ⟨kv, p9, e0, o7, H⟩ := H
     refine ly (wanted_y rfl rfl rfl c0) rfl (HStep.of_val (v := (.pointer e0)) (hv_look (l := kv) (a := b2) strK TyTC.u48 TyTC.u9 TyTC.z49 rfl rfl (MapL.ext f8 p9) o7) ?_)
     refine ly (wanted_y rfl rfl rfl c0) rfl (HStep.of_val (v := (.bool e0.isNone)) (hv_ptrNil TyTC.up49 rfl rfl) ?_)
     refine lv rfl rfl (v := (.bool e0.isNone)) (hv_pick_t rfl c0 rfl) ?_
     refine ln (qn ?_)
     obtain rfl := H
     exact ⟨⟨f8, trivial⟩, (hc rfl (hc rfl (hc rfl (hc rfl (hc rfl (hc rfl (hc rfl (hc rfl hn))))))))⟩
    ·replace H := H.2 c0
     refine lo (wanted_n rfl rfl rfl c0) rfl ?_
     refine lo (wanted_n rfl rfl rfl c0) rfl ?_
     refine lo (wanted_n rfl rfl rfl c0) rfl ?_
     refine lo (wanted_n rfl rfl rfl c0) rfl ?_
     refine lo (wanted_n rfl rfl rfl c0) rfl ?_
     refine lo (wanted_n rfl rfl rfl c0) rfl ?_
     refine lo (wanted_n rfl rfl rfl c0) rfl ?_
     refine lo (wanted_n rfl rfl rfl c0) rfl ?_
     refine lv rfl rfl (v := (.bool false)) (hv_pick_f rfl c0 rfl) ?_
     refine ln (qn ?_)
     obtain rfl := H
     exact ⟨⟨f8, trivial⟩, (hc rfl (hc rfl (hc rfl (hc rfl (hc rfl (hc rfl (hc rfl (hc rfl hn))))))))⟩
   ·have H := k4; clear k1 k4
    rintro ρ h7 ⟨⟨n0, -⟩, hH⟩
    refine xh _ hH ?_
    refine xc (b := j) rfl (fun k6 => ?_) (fun k6 => ?_)
    ·replace H := H.1 k6
     refine xs (xr ?_)
     refine lv rfl rfl (vm rfl) ?_
     replace H := H h7 n0
     refine lp rfl rfl (sc TyTC.cb26 rfl (HC.mono H ?_))
     rintro _ h9 ⟨r, e7, e8, rfl, H⟩
     refine lv rfl rfl (v := (.func (.func 27) #[] #[(ptr c9 0), (ptr i 0)])) (hv_makeFunc (fv := []) (cv := [(ptr c9 0), (ptr i 0)]) rfl rfl) ?_
     refine lp rfl rfl (sc TyTC.cb25 rfl (HC.mono H ?_))
     rintro _ l9 ⟨d9, c6, c5, rfl, H⟩
     refine lv rfl rfl (va rfl) ?_
     refine ln (qn (xs (xr ?_)))
     obtain ⟨d6, f5, f3, r6, H⟩ := H
     refine lv rfl rfl (vl TyTC.agg22 rfl r6) (lv rfl rfl (vm rfl) ?_)
     refine lp rfl rfl (sc TyTC.cb28 rfl (HC.mono H ?_))
     rintro _ o4 ⟨c8, rfl, H⟩
     refine lv rfl rfl (va rfl) ?_
     refine ln (qn (xs (xs (xr ?_))))
     refine lv rfl rfl (vm rfl) ?_
     refine lp rfl rfl (sc TyTC.cb29 rfl (HC.mono H ?_))
     rintro _ g4 ⟨d5, rfl, H⟩
     refine lv rfl rfl (v := (.bool (!d5))) (hv_not (b := d5) rfl) ?_
     refine ln (qn ?_)
     refine xc (b := !d5) rfl (fun k7 => ?_) (fun k7 => ?_)
     ·replace H := H.1 k7
      refine xs (xr ?_)
      refine lv rfl rfl (va rfl) (lv rfl rfl (va rfl) ?_)
      refine ln (qn (xt (qr (br (qr (qr (br (qr ?_))))))))
      refine scopeQ_ret ?_
      exact endQ_ret _ (res_two Tryd.results17 (rv_tmp rfl) (rv_tmp rfl)) H
     ·replace H := H.2 k7
      refine xi (qn ?_)
      obtain ⟨g0, t0, H⟩ := H
      refine hx_drawT TyTC.mixed g0 t0 [.pure, .stay, .stay, .pure, .pure, .stay, .pure, .pure, .tame, .tame, .pure, .ext, .wild] [0, 1, 2, 3, 4, 5, 6, 7, 8, 9, 10, 11, 12] (by kernel_rfl) ?_
      refine pp (i := 0) rfl (wanted_0 rfl) rfl (.map (some mb)) (fun _ => vm rfl) ?_
      obtain ⟨e2, g3, i3, s8, H⟩ := H
      refine hp_stay (i := 1) rfl (wanted_0 rfl) rfl (.slice e2 g3 i3) (fun _ he => vl TyTC.agg22 rfl (s8 _ he)) ?_
      obtain ⟨f1, t5, H⟩ := H
      refine hp_stay (i := 2) rfl (wanted_0 rfl) rfl (.int .i64 f1) (fun _ he => vl TyTC.agg3 rfl (t5 _ he)) ?_
      obtain ⟨e6, e5, f4, p3, s3, Hq⟩ := H
      subst f4
      have H := Hq; clear Hq
      refine pp (i := 3) rfl (wanted_0 rfl) rfl (ptr e6 (e5 + (Int.toNat f1) * 8)) (fun _ => vi TyTC.el22 rfl rfl p3 s3) ?_
      refine pp (i := 4) rfl (wanted_0 rfl) rfl (ptr e6 ((e5 + (Int.toNat f1) * 8) + 1)) (fun _ => vf TyTC.fld30_1 (b := e6) (o := e5 + (Int.toNat f1) * 8) rfl) ?_
      obtain ⟨i7, r3, H⟩ := H
      refine hp_stay (i := 5) rfl (wanted_0 rfl) rfl (.string i7) (fun _ he => vl TyTC.agg9 rfl (r3 _ he)) ?_
      refine pp (i := 6) rfl (wanted_0 rfl) rfl (.pointer c8) (fun _ => vm rfl) ?_
      refine pp (i := 7) rfl (wanted_0 rfl) rfl (.pointer c8) (fun _ => vm rfl) ?_
      refine hp_tame (i := 8) rfl (wanted_0 rfl) rfl (sc TyTC.cb30 rfl (HC.mono H ?_))
      rintro _ l3 ⟨q7, g6, rfl, H⟩
      refine ⟨q7, ?_⟩
      refine hp_tame (i := 9) rfl (wanted_0 rfl) rfl (sc TyTC.cb20 rfl (HC.mono H ?_))
      rintro _ j5 ⟨p4, g5, d8, d7, rfl, H⟩
      refine ⟨p4, ?_⟩
      refine pp (i := 10) rfl (wanted_0 rfl) rfl (.agg #[(.pointer c8), (.int .u32 g6), (.slice g5 d8 d7)]) (fun _ => vb (vs := [(0, (.pointer c8)), (1, (.int .u32 g6)), (2, (.slice g5 d8 d7))]) (cs := #[(.pointer c8), (.int .u32 g6), (.slice g5 d8 d7)]) TyTC.z58 TyTC.pl58 rfl (by kernel_rfl)) ?_
      refine hp_ext (i := 11) rfl (wanted_0 rfl) rfl (hn_box (v := (.agg #[(.pointer c8), (.int .u32 g6), (.slice g5 d8 d7)])) rfl ?_)
      intro nb g7 q5 m8
      replace H := H nb g7 q5 m8
      have s1 := ext_pushed_f4_sh m8
      refine ⟨s1, ?_⟩
      obtain ⟨i1, q3, H⟩ := H
      refine hp_wild (i := 12) rfl (wanted_0 rfl) rfl (hn_mapPut (l := i1) (a := i7) strK TyTC.u48 TyTC.u9 rfl rfl rfl q3 ?_)
      intro j2 p6 r7
      replace H := H j2 p6 r7
      refine hp_nil ?_
      refine bn (qn ?_)
      exact ⟨⟨H, trivial⟩, (hc rfl (hc rfl (hc rfl (hc rfl (hc rfl (hc rfl hn))))))⟩
    ·replace H := H.2 k6
     refine xi (bn ?_)
     replace H := H h7 n0
     refine qn ?_
     exact ⟨⟨H, trivial⟩, (hc rfl (hc rfl (hc rfl (hc rfl (hc rfl (hc rfl hn))))))⟩
  ·rintro ρ h4 ⟨⟨p7, -⟩, hH⟩
   have H := k3 h4 p7; clear j6 k3
   refine xh _ hH ?_
   refine xr ?_
   refine lv rfl rfl (vr rfl rfl rfl) (lv rfl rfl (vm rfl) ?_)
   refine ln (qn ?_)
   exact ⟨IntKind.i64.wrap (v + 1), ⟨⟨H.1, trivial⟩, H.2⟩, (hc rfl (hc rfl (hc rfl (hc rfl (hc rfl (hc rfl hn))))))⟩
 ·replace H := H.2 k9
  refine xe (qe (qe (bh (qn (xs (xr ?_))))))
  refine lv rfl rfl (vm rfl) ?_
  refine lp rfl rfl (sc TyTC.cb26 rfl (HC.mono H ?_))
  rintro _ o5 ⟨r, e7, e8, rfl, H⟩
  refine lv rfl rfl (va rfl) ?_
  refine ln (qn (xs (xr ?_)))
  refine lv rfl rfl (va rfl) ?_
  refine ln (qn (xs (hx_label (qn (xs (xb ?_))))))
  obtain ⟨j1, i4, r1, s9⟩ := H
  refine xl (σ := Option Addr × Nat × Nat × Option Addr × Nat × Nat) (fun s => [(2, (ptr c9 0)), (6, (.map (some mb))), (11, (.slice s.1 s.2.1 s.2.2.1)), (12, (.slice s.2.2.2.1 s.2.2.2.2.1 s.2.2.2.2.2))]) (fun s h' => j1 s.1 s.2.1 s.2.2.1 s.2.2.2.1 s.2.2.2.2.1 s.2.2.2.2.2 h' ∧ True) (fun s h' => i4 s.1 s.2.1 s.2.2.1 s.2.2.2.1 s.2.2.2.2.1 s.2.2.2.2.2 h') (r, e7, e8, none, 0, 0) ⟨r1, trivial⟩ (hc rfl (hc rfl (hc rfl (hc rfl hn)))) ?_
  rintro ⟨d4, a1, c4, e9, d3, d2⟩ ρ g9 ⟨r8, -⟩
  have H := s9 d4 a1 c4 e9 d3 d2 g9 r8
  refine xs (xs (xr ?_))
  refine lv rfl rfl (vm rfl) (lv rfl rfl (v := (.int .i64 (a1 : Int))) (hv_len (n := a1) TyTC.u23 rfl) (lv rfl rfl (vr rfl rfl rfl) ?_))
  refine ln (qn ?_)
  refine xc (b := decide ((a1 : Int) > 0)) rfl (fun k2 => ?_) (fun k2 => ?_)
  ·replace H := H.1 k2
   refine xi (qn (xb (xs (xs (xr ?_)))))
   refine lv rfl rfl (vm rfl) (lv rfl rfl (v := (.int .i64 (a1 : Int))) (hv_len (n := a1) TyTC.u23 rfl) (lv rfl rfl (vm rfl) ?_))
   refine ln (qn (xb ?_))
   obtain ⟨j3, i2, s6, s4⟩ := H
   refine xl (σ := Option Addr × Nat × Nat × Option Addr × Nat × Nat × Int) (fun s => [(2, (ptr c9 0)), (6, (.map (some mb))), (11, (.slice s.1 s.2.1 s.2.2.1)), (12, (.slice s.2.2.2.1 s.2.2.2.2.1 s.2.2.2.2.2.1)), (66, (.slice d4 a1 c4)), (67, (.int .i64 (a1 : Int))), (68, (.int .i64 s.2.2.2.2.2.2))]) (fun s h' => j3 s.1 s.2.1 s.2.2.1 s.2.2.2.1 s.2.2.2.2.1 s.2.2.2.2.2.1 s.2.2.2.2.2.2 h' ∧ True) (fun s h' => i2 s.1 s.2.1 s.2.2.1 s.2.2.2.1 s.2.2.2.2.1 s.2.2.2.2.2.1 s.2.2.2.2.2.2 h') (d4, a1, c4, e9, d3, d2, 0) ⟨s6, trivial⟩ (hc rfl (hc rfl (hc rfl (hc rfl (hc rfl (hc rfl (hc rfl hn))))))) ?_
   rintro ⟨b5, b0, a9, d0, c3, c2, b7⟩ ρ f0 ⟨p2, -⟩
   have H := s4 b5 b0 a9 d0 c3 c2 b7 f0 p2
   refine xs (xr ?_)
   refine lv rfl rfl (vr rfl rfl rfl) ?_
   refine ln (qn (xs ?_))
   refine xc (b := decide (b7 < (a1 : Int))) rfl (fun k0 => ?_) (fun k0 => ?_)
   ·replace H := H.1 k0
    refine xi (qn ?_)
    obtain ⟨i6, j7, k8⟩ := H
    refine xk (fun ρ h' => (i6 h' ∧ True) ∧ Has ρ [(2, (ptr c9 0)), (6, (.map (some mb))), (11, (.slice b5 b0 a9)), (12, (.slice d0 c3 c2)), (66, (.slice d4 a1 c4)), (67, (.int .i64 (a1 : Int))), (68, (.int .i64 b7))]) ?_ ?_
    ·have H := j7; clear j7 k8
     refine xb (xs (xr ?_))
     refine lv rfl rfl (vm rfl) ?_
     obtain ⟨e4, e1, f4, t1, s0, Hq⟩ := H
     subst f4
     have H := Hq; clear Hq
     refine lv rfl rfl (v := (ptr e4 (e1 + (Int.toNat b7) * 1))) (vi TyTC.el23 rfl rfl t1 s0) ?_
     obtain ⟨x, p1, H⟩ := H
     refine lv rfl rfl (vl TyTC.agg3 rfl p1) ?_
     refine lp rfl rfl (hn_alloc TyTC.z3 ?_)
     intro i g8 s7 m5
     replace H := H i g8 s7 m5
     have u2 := ext_pushed_f4_sh m5
     refine lv rfl rfl (va rfl) ?_
     obtain ⟨t3, H⟩ := H
     refine lp rfl rfl (hn_store (v := (.int .i64 x)) rfl rfl TyTC.sz3 rfl t3 ?_)
     intro l6 t4
     replace H := H l6 t4
     refine ln (qn (xs (xs (xr ?_))))
     refine lv rfl rfl (vm rfl) (lv rfl rfl (v := (.func (.func 32) #[] #[(ptr c9 0), (ptr i 0)])) (hv_makeFunc (fv := []) (cv := [(ptr c9 0), (ptr i 0)]) rfl rfl) ?_)
     refine lp rfl rfl (sc TyTC.cb31 rfl (HC.mono H ?_))
     rintro _ d1 ⟨d9, rfl, H⟩
     refine ln (qn ?_)
     refine xc (b := d9) rfl (fun j8 => ?_) (fun j8 => ?_)
     ·replace H := H.1 j8
      refine xe (qe (bh (qn ?_)))
      exact ⟨⟨H, trivial⟩, (hc rfl (hc rfl (hc rfl (hc rfl (hc rfl (hc rfl (hc rfl hn)))))))⟩
     ·replace H := H.2 j8
      refine xi (qn (xs (xs (xr ?_))))
      refine lv rfl rfl (vm rfl) ?_
      obtain ⟨f6, e3, f2, m9, H⟩ := H
      refine lv rfl rfl (vl TyTC.agg22 rfl m9) ?_
      obtain ⟨b1, j9, H⟩ := H
      refine lv rfl rfl (vl TyTC.agg3 rfl j9) ?_
      obtain ⟨a2, a3, f4, m2, m3, Hq⟩ := H
      subst f4
      have H := Hq; clear Hq
      refine lv rfl rfl (v := (ptr a2 (a3 + (Int.toNat b1) * 8))) (vi TyTC.el22 rfl rfl m2 m3) (lv rfl rfl (v := (ptr a2 ((a3 + (Int.toNat b1) * 8) + 1))) (vf TyTC.fld30_1 (b := a2) (o := a3 + (Int.toNat b1) * 8) rfl) ?_)
      obtain ⟨e0, r4, H⟩ := H
      refine lv rfl rfl (vl TyTC.agg9 rfl r4) ?_
      obtain ⟨kv, q1, d6, p5, H⟩ := H
      refine lv rfl rfl (v := (.pointer d6)) (hv_look (l := kv) (a := e0) strK TyTC.u48 TyTC.u9 TyTC.z49 rfl rfl q1 p5) (lv rfl rfl (va rfl) ?_)
      refine ln (qn ?_)
      obtain ⟨j4, l0, k5⟩ := H
      refine xk (fun ρ h' => ∃ j : Bool, (j4 j h' ∧ True) ∧ Has ρ [(2, (ptr c9 0)), (6, (.map (some mb))), (11, (.slice b5 b0 a9)), (12, (.slice d0 c3 c2)), (13, (.int .i64 b7)), (14, (ptr i 0)), (66, (.slice (some ⟨e4, e1, none⟩) a1 c4)), (67, (.int .i64 (a1 : Int))), (68, (.int .i64 b7)), (93, (.bool j))]) ?_ ?_
      ·have H := l0; clear l0 k5
       refine xr ?_
       refine lv rfl rfl (vl TyTC.agg22 rfl m9) (lv rfl rfl (vl TyTC.agg3 rfl j9) (lv rfl rfl (v := (ptr a2 (a3 + (Int.toNat b1) * 8))) (vi TyTC.el22 rfl rfl m2 m3) ?_))
       obtain ⟨a7, b2, a4, b3, b4, a8, a6, b9, n4, n6, o1, n8, n3, n2, n5, o0, H⟩ := H
       refine lv rfl rfl (vL (vs := [(.int .i64 a7), (.string b2), (.string a4), (.int .i64 b3), (.bool b4), (.int .i64 a8), (.int .i64 a6), (.int .i64 b9)]) TyTC.agg30 TyTC.sz30 rfl (cc n4 (cc n6 (cc o1 (cc n8 (cc n3 (cc n2 (cc n5 (cc o0 cn))))))))) ?_
       refine lp rfl rfl (sc TyTC.cb24 rfl (HC.mono (lkeyed_c (⟨a7, b2, a4, b3, b4, a8, a6, b9⟩) _) ?_))
       rintro _ g1 ⟨rfl, i0⟩
       refine lv rfl rfl (vm rfl) ?_
       rcases bool_or (Ml.keyed ⟨a7, b2, a4, b3, b4, a8, a6, b9⟩) with c7 | c7
       ·replace H := H.1 c7
        refine ly (wanted_y rfl rfl rfl c7) rfl (HStep.of_val (v := (.pointer d6)) (vm rfl) ?_)
        refine ly (wanted_y rfl rfl rfl c7) rfl (HStep.of_val (v := (.int .i64 b1)) (vl TyTC.agg3 rfl (Ext.cell i0 j9)) ?_)
        replace H := H g1 i0
        refine ly (wanted_y rfl rfl rfl c7) rfl (sc TyTC.cb33 rfl (HC.mono H ?_))
        rintro _ o2 ⟨c8, rfl, H⟩
        refine ly (wanted_y rfl rfl rfl c7) rfl (HStep.of_val (v := (.bool (!c8))) (hv_not (b := c8) rfl) ?_)
        refine lv rfl rfl (v := (.bool (!c8))) (hv_pick_t rfl c7 rfl) ?_
        refine ln (qn ?_)
        exact ⟨_, ⟨H, trivial⟩, (hc rfl (hc rfl (hc rfl (hc rfl (hc rfl (hc rfl (hc rfl (hc rfl (hc rfl (hc rfl hn))))))))))⟩
       ·replace H := H.2 c7
        refine lo (wanted_n rfl rfl rfl c7) rfl ?_
        refine lo (wanted_n rfl rfl rfl c7) rfl ?_
        refine lo (wanted_n rfl rfl rfl c7) rfl ?_
        refine lo (wanted_n rfl rfl rfl c7) rfl ?_
        refine lv rfl rfl (v := (.bool false)) (hv_pick_f rfl c7 rfl) ?_
        refine ln ?_
        replace H := H g1 i0
        refine qn ?_
        exact ⟨_, ⟨H, trivial⟩, (hc rfl (hc rfl (hc rfl (hc rfl (hc rfl (hc rfl (hc rfl (hc rfl (hc rfl (hc rfl hn))))))))))⟩
      ·rintro ρ g2 ⟨j, ⟨n1, -⟩, hH⟩
       have H := k5 j g2 n1; clear l0 k5
       refine xh _ hH ?_
       refine xc (b := j) rfl (fun i5 => ?_) (fun i5 => ?_)
       ·replace H := H.1 i5
        refine xe (qe (bh (qn ?_)))
        exact ⟨⟨H, trivial⟩, (hc rfl (hc rfl (hc rfl (hc rfl (hc rfl (hc rfl (hc rfl hn)))))))⟩
       ·replace H := H.2 i5
        refine xi (qn (xs (xr ?_)))
        refine lv rfl rfl (vm rfl) ?_
        obtain ⟨e2, n9, H⟩ := H
        refine lv rfl rfl (vl TyTC.agg3 rfl n9) ?_
        refine lp rfl rfl (hn_buildSlice (n := 1) (vs := [(0, (.int .i64 e2))]) (cs := #[(.int .i64 e2)]) TyTC.u23 TyTC.sz3 TyTC.z3 rfl rfl (by kernel_rfl) ?_)
        intro nb i8 n7 l2
        replace H := H nb i8 n7 l2
        have u1 := ext_pushed_f4_sh l2
        refine lp rfl rfl (hs_append rfl rfl (HAppend.mono H ?_))
        rintro _ o3 ⟨ap, f9, f7, rfl, H⟩
        refine lv rfl rfl (va rfl) ?_
        refine ln (qn (xs (xr ?_)))
        refine lv rfl rfl (vm rfl) (lv rfl rfl (vm rfl) (lv rfl rfl (vm rfl) (lv rfl rfl (vr rfl rfl rfl) ?_)))
        refine lp rfl rfl (sc TyTC.cb34 rfl (HC.mono H ?_))
        rintro _ l7 ⟨d5, c6, c5, rfl, H⟩
        refine lv rfl rfl (va rfl) ?_
        refine ln (qn (xe (bp rfl (qe (qe (bp rfl (qe (bh (qn ?_)))))))))
        exact ⟨(d5, c6, c5, ap, f9, f7), ⟨⟨H.1, trivial⟩, H.2⟩, (hc rfl (hc rfl (hc rfl (hc rfl hn))))⟩
    ·rintro ρ i9 ⟨⟨p8, -⟩, hH⟩
     have H := k8 i9 p8; clear j7 k8
     refine xh _ hH ?_
     refine xr ?_
     refine lv rfl rfl (vr rfl rfl rfl) (lv rfl rfl (vm rfl) ?_)
     refine ln (qn ?_)
     exact ⟨(b5, b0, a9, d0, c3, c2, IntKind.i64.wrap (b7 + 1)), ⟨⟨H.1, trivial⟩, H.2⟩, (hc rfl (hc rfl (hc rfl (hc rfl (hc rfl (hc rfl (hc rfl hn)))))))⟩
   ·replace H := H.2 k0
    refine xe (qe (qe (bh (qn (xs (xr ?_))))))
    refine lv rfl rfl (va rfl) (lv rfl rfl (va rfl) ?_)
    refine ln (qn (xt (br (qr (br (qr ?_))))))
    refine scopeQ_ret ?_
    exact endQ_ret _ (res_two Tryd.results17 (rv_tmp rfl) (rv_tmp rfl)) H
  ·replace H := H.2 k2
   refine xe (qe (qe (bh (qn (xs (xr ?_))))))
   refine lv rfl rfl (vm rfl) (lv rfl rfl (va rfl) (lv rfl rfl (va rfl) ?_))
   refine ln (qn (xt ?_))
   refine scopeQ_ret ?_
   exact endQ_ret _ (res_two Tryd.results17 (rv_tmp rfl) (rv_tmp rfl)) H
theorem f10_sh (l : Option Addr) (a2 : Nat) (a4 : Nat) (h : Heap) (R : Value → Heap → Prop)
  (H : HC Tryd.prog 11 #[(.slice l a2 a4)] h (fun vv h1 => ∃ r : Int, vv = (.int .i64 r) ∧ (((r != 0) = true → R (.tuple #[(.slice none 0 0), (.int .i64 r)]) h1) ∧ ((r != 0) = false → (((decide ((a2 : Int) > 24)) = true → R (.tuple #[(.slice none 0 0), (.int .i64 250)]) h1) ∧ ((decide ((a2 : Int) > 24)) = false → (∃ (I3 : Option Addr → Nat → Nat → Int → Heap → Prop) (a9 : Option Addr → Nat → Nat → Int → Heap → Nat), I3 none 0 0 0 h1 ∧ (∀ (a3 : Option Addr) (a1 : Nat) (a0 : Nat) (v : Int) (h2 : Heap), I3 a3 a1 a0 v h2 → (((decide (v < (a2 : Int))) = true → (∀ nb h3, nb = Array.size h2 → h3 = Array.push h2 (.cells #[(.int .i64 v)] 3) → HAppend Tryd.prog 23 23 (.slice a3 a1 a0) (.slice (some ⟨nb, 0, none⟩) 1 1) h3 (fun vv h4 => ∃ ap : Option Addr, ∃ a7 a8 : Nat, vv = (.slice ap a7 a8) ∧ (I3 ap a7 a8 (IntKind.i64.wrap (v + 1)) h4 ∧ a9 ap a7 a8 (IntKind.i64.wrap (v + 1)) h4 < a9 a3 a1 a0 v h2)))) ∧ ((decide (v < (a2 : Int))) = false → HC Tryd.prog 17 #[(.slice l a2 a4), (.slice a3 a1 a0)] h2 (fun vv h5 => ∃ r0 : Option Addr, ∃ a5 a6 : Nat, ∃ r1 : Int, vv = (.tuple #[(.slice r0 a5 a6), (.int .i64 r1)]) ∧ R (.tuple #[(.slice r0 a5 a6), (.int .i64 r1)]) h5))))))))))) :
  HC Tryd.prog 10 #[(.slice l a2 a4)] h R := by
 refine hc_of (args := [(.slice l a2 a4)]) Tryd.func10 rfl Tryd.ntmps10 (Nat.le_of_ble_eq_true rfl) ?_
 refine xs (xr ?_)
 refine lv rfl rfl (va rfl) (lv rfl rfl (va rfl) ?_)
 refine ln (qn (xs (xs (xr ?_))))
 refine lv rfl rfl (vm rfl) ?_
 refine lp rfl rfl (sc TyTC.cb11 rfl (HC.mono H ?_))
 rintro _ h1 ⟨r, rfl, H⟩
 refine lv rfl rfl (va rfl) ?_
 refine ln (qn (xs (xr ?_)))
 refine lv rfl rfl (vm rfl) (lv rfl rfl (vr rfl rfl rfl) ?_)
 refine ln (qn ?_)
 refine xc (b := r != 0) rfl (fun b3 => ?_) (fun b3 => ?_)
 ·replace H := H.1 b3
  refine xs (xr ?_)
  refine lv rfl rfl (vm rfl) (lv rfl rfl (va rfl) (lv rfl rfl (va rfl) ?_))
  refine ln (qn (xt (qr ?_)))
  exact endQ_ret _ (res_two Tryd.results10 (rv_tmp rfl) (rv_tmp rfl)) H
 ·replace H := H.2 b3
  refine xi (qn (xs (xs (xr ?_))))
  refine lv rfl rfl (vm rfl) (lv rfl rfl (v := (.int .i64 (a2 : Int))) (hv_len (n := a2) TyTC.u22 rfl) (lv rfl rfl (vr rfl rfl rfl) ?_))
  refine ln (qn ?_)
  refine xc (b := decide ((a2 : Int) > 24)) rfl (fun b0 => ?_) (fun b0 => ?_)
  ·replace H := H.1 b0
   refine xs (xr ?_)
   refine lv rfl rfl (va rfl) (lv rfl rfl (va rfl) ?_)
   refine ln (qn (xt (qr ?_)))
   exact endQ_ret _ (res_two Tryd.results10 (rv_tmp rfl) (rv_tmp rfl)) H
  ·replace H := H.2 b0
   refine xi (qn (xs (xr ?_)))
   refine lv rfl rfl (va rfl) ?_
   refine ln (qn (xs (xs (xr ?_))))
   refine lv rfl rfl (vm rfl) (lv rfl rfl (v := (.int .i64 (a2 : Int))) (hv_len (n := a2) TyTC.u22 rfl) (lv rfl rfl (vm rfl) ?_))
   refine ln (qn (xb ?_))
   obtain ⟨I3, a9, b4, b5⟩ := H
   refine xl (σ := Option Addr × Nat × Nat × Int) (fun s => [(0, (.slice l a2 a4)), (5, (.slice s.1 s.2.1 s.2.2.1)), (16, (.int .i64 (a2 : Int))), (17, (.int .i64 s.2.2.2))]) (fun s h' => I3 s.1 s.2.1 s.2.2.1 s.2.2.2 h' ∧ True) (fun s h' => a9 s.1 s.2.1 s.2.2.1 s.2.2.2 h') (none, 0, 0, 0) ⟨b4, trivial⟩ (hc rfl (hc rfl (hc rfl (hc rfl hn)))) ?_
   rintro ⟨a3, a1, a0, v⟩ ρ h2 ⟨b6, -⟩
   have H := b5 a3 a1 a0 v h2 b6
   refine xs (xr ?_)
   refine lv rfl rfl (vr rfl rfl rfl) ?_
   refine ln (qn (xs ?_))
   refine xc (b := decide (v < (a2 : Int))) rfl (fun b2 => ?_) (fun b2 => ?_)
   ·replace H := H.1 b2
    refine xi (qn (xs (xb (xs (xr ?_)))))
    refine lv rfl rfl (vm rfl) (lv rfl rfl (va rfl) ?_)
    refine ln (qn (xr ?_))
    refine lv rfl rfl (vm rfl) (lv rfl rfl (vm rfl) ?_)
    refine lp rfl rfl (hn_buildSlice (n := 1) (vs := [(0, (.int .i64 v))]) (cs := #[(.int .i64 v)]) TyTC.u23 TyTC.sz3 TyTC.z3 rfl rfl (by kernel_rfl) ?_)
    intro nb h3 b7 b1
    replace H := H nb h3 b7 b1
    have b8 := ext_pushed_f4_sh b1
    refine lp rfl rfl (hs_append rfl rfl (HAppend.mono H ?_))
    rintro _ h4 ⟨ap, a7, a8, rfl, H⟩
    refine lv rfl rfl (va rfl) ?_
    refine ln (bn (qn (xr ?_)))
    refine lv rfl rfl (vr rfl rfl rfl) (lv rfl rfl (vm rfl) ?_)
    refine ln (qn ?_)
    exact ⟨(ap, a7, a8, IntKind.i64.wrap (v + 1)), ⟨⟨H.1, trivial⟩, H.2⟩, (hc rfl (hc rfl (hc rfl (hc rfl hn))))⟩
   ·replace H := H.2 b2
    refine xe (qe (qe (bh (qn (xs (xr ?_))))))
    refine lv rfl rfl (vm rfl) (lv rfl rfl (vm rfl) ?_)
    refine lp rfl rfl (sc TyTC.cb17 rfl (HC.mono H ?_))
    rintro _ h5 ⟨r0, a5, a6, r1, rfl, H⟩
    refine lv rfl rfl (vx rfl rfl) (lv rfl rfl (vx rfl rfl) (lv rfl rfl (va rfl) (lv rfl rfl (va rfl) ?_)))
    refine ln (qn (xt ?_))
    exact endQ_ret _ (res_two Tryd.results10 (rv_tmp rfl) (rv_tmp rfl)) H
theorem f5_sh  (h : Heap) (R : Value → Heap → Prop)
  (H : (∀ (b0 : Nat) (b2 : Nat) (h4 : Heap), Array.size h ≤ b0 → b0 < Array.size h4 → Array.size h ≤ b2 → b2 < Array.size h4 → Ext h h4 → (∀ nb h5, nb = Array.size h4 → h5 = Array.push h4 (.cells #[(.int .i64 1), (.string (ByteArray.mk #[107])), (.string (ByteArray.mk #[97])), (.int .i64 0), (.bool true), (.int .i64 0), (.int .i64 1), (.int .i64 2), (.int .i64 2), (.string (ByteArray.mk #[107])), (.string (ByteArray.mk #[97])), (.int .i64 0), (.bool false), (.int .i64 0), (.int .i64 0), (.int .i64 5)] 30) → HC Tryd.prog 10 #[(.slice (some ⟨nb, 0, none⟩) 2 2)] h5 (fun vv h6 => Kp [b0, b2] h5 h6 ∧ ∃ r0 : Option Addr, ∃ a7 a8 : Nat, ∃ r1 : Int, vv = (.tuple #[(.slice r0 a7 a8), (.int .i64 r1)]) ∧ (∀ h7, Fr (fun i => i = b0) h6 h7 → (∀ b3 h8, b3 = Array.size h7 → h8 = Array.push h7 (.cells #[(.int .i64 1), (.string (ByteArray.mk #[107])), (.string (ByteArray.mk #[97])), (.int .i64 0), (.bool true), (.int .i64 0), (.int .i64 1), (.int .i64 2), (.int .i64 2), (.string (ByteArray.mk #[107])), (.string (ByteArray.mk #[97])), (.int .i64 0), (.bool false), (.int .i64 0), (.int .i64 3), (.int .i64 5)] 30) → HC Tryd.prog 10 #[(.slice (some ⟨b3, 0, none⟩) 2 2)] h8 (fun vv h9 => ∃ b1 : Option Addr, ∃ a6 a4 : Nat, ∃ a3 : Int, vv = (.tuple #[(.slice b1 a6 a4), (.int .i64 a3)]) ∧ (∃ b5 : Bool → Heap → Prop, (((r1 == 0) = true → (∀ b4 b6, b4 = Array.size h9 → b6 = Array.push h9 (.cells #[(.int .i64 1), (.int .i64 0)] 3) → HC Tryd.prog 8 #[(.slice r0 a7 a8), (.slice (some ⟨b4, 0, none⟩) 2 2)] b6 (fun vv c3 => ∃ r : Bool, vv = (.bool r) ∧ ((r = true → (b5 (a3 == 251) c3)) ∧ (r = false → (b5 false c3)))))) ∧ ((r1 == 0) = false → (b5 false h9))) ∧ (∀ (j : Bool) (c1 : Heap), b5 j c1 → R (.bool j) c1))))))))) :
  HC Tryd.prog 5 #[] h R := by
 refine hc_of (args := []) Tryd.func5 rfl Tryd.ntmps5 (Nat.le_of_ble_eq_true rfl) ?_
 refine xs (xr ?_)
 refine lv rfl rfl (va rfl) ?_
 refine ln (qn (xs (xr ?_)))
 refine lv rfl rfl (v := (.agg #[(.int .i64 2), (.string (ByteArray.mk #[107])), (.string (ByteArray.mk #[97])), (.int .i64 0), (.bool false), (.int .i64 0), (.int .i64 0), (.int .i64 5)])) (vb (vs := [(0, (.int .i64 2)), (1, (.string (ByteArray.mk #[107]))), (2, (.string (ByteArray.mk #[97]))), (6, (.int .i64 0)), (7, (.int .i64 5))]) (cs := #[(.int .i64 2), (.string (ByteArray.mk #[107])), (.string (ByteArray.mk #[97])), (.int .i64 0), (.bool false), (.int .i64 0), (.int .i64 0), (.int .i64 5)]) TyTC.z30 TyTC.pl30 rfl (by kernel_rfl)) ?_
 refine lp rfl rfl (hn_alloc TyTC.z30 ?_)
 intro b0 h1 d6 e0
 have e7 := ext_pushed_f4_sh e0
 have d5 : Array.size h ≤ b0 := Nat.le_of_eq (Eq.symm d6)
 have d8 : h1[b0]? = some (.cells #[(.int .i64 0), (.string ByteArray.empty), (.string ByteArray.empty), (.int .i64 0), (.bool false), (.int .i64 0), (.int .i64 0), (.int .i64 0)] 30 (0, 0)) := by rw [e0]; exact push_new d6
 refine lp rfl rfl (hn_stores (vs := [(.int .i64 2), (.string (ByteArray.mk #[107])), (.string (ByteArray.mk #[97])), (.int .i64 0), (.bool false), (.int .i64 0), (.int .i64 0), (.int .i64 5)]) rfl rfl TyTC.sz30 rfl (HWs_row d8 (by simp)) ?_)
 intro h2 d7
 have a1 : h2[b0]? = some (.cells #[(.int .i64 2), (.string (ByteArray.mk #[107])), (.string (ByteArray.mk #[97])), (.int .i64 0), (.bool false), (.int .i64 0), (.int .i64 0), (.int .i64 5)] 30 (0, 0)) := row_hsets_eq d7 d8 (by simp [sets])
 have d4 := ext_hsets d7 e7 d5
 refine ln (qn (xs (xr ?_)))
 refine lv rfl rfl (v := (.agg #[(.int .i64 1), (.string (ByteArray.mk #[107])), (.string (ByteArray.mk #[97])), (.int .i64 0), (.bool true), (.int .i64 0), (.int .i64 1), (.int .i64 2)])) (vb (vs := [(0, (.int .i64 1)), (1, (.string (ByteArray.mk #[107]))), (2, (.string (ByteArray.mk #[97]))), (4, (.bool true)), (6, (.int .i64 1)), (7, (.int .i64 2))]) (cs := #[(.int .i64 1), (.string (ByteArray.mk #[107])), (.string (ByteArray.mk #[97])), (.int .i64 0), (.bool true), (.int .i64 0), (.int .i64 1), (.int .i64 2)]) TyTC.z30 TyTC.pl30 rfl (by kernel_rfl)) ?_
 refine lp rfl rfl (hn_alloc TyTC.z30 ?_)
 intro b2 h3 d3 d9
 have c2 := ext_pushed_f4_sh d9
 have d2 := Nat.ne_of_lt (Nat.lt_of_lt_of_eq (row_lt a1) (Eq.symm d3))
 have c9 : Array.size h ≤ b2 := Nat.le_trans (Ext.size d4) (Nat.le_of_eq (Eq.symm d3))
 have c8 : h3[b2]? = some (.cells #[(.int .i64 0), (.string ByteArray.empty), (.string ByteArray.empty), (.int .i64 0), (.bool false), (.int .i64 0), (.int .i64 0), (.int .i64 0)] 30 (0, 0)) := by rw [d9]; exact push_new d3
 replace a1 := Ext.row c2 a1
 have e1 := Ext.trans d4 c2
 refine lp rfl rfl (hn_stores (vs := [(.int .i64 1), (.string (ByteArray.mk #[107])), (.string (ByteArray.mk #[97])), (.int .i64 0), (.bool true), (.int .i64 0), (.int .i64 1), (.int .i64 2)]) rfl rfl TyTC.sz30 rfl (HWs_row c8 (by simp)) ?_)
 intro h4 c0
 replace a1 := row_hsets_ne c0 d2 a1
 have a0 : h4[b2]? = some (.cells #[(.int .i64 1), (.string (ByteArray.mk #[107])), (.string (ByteArray.mk #[97])), (.int .i64 0), (.bool true), (.int .i64 0), (.int .i64 1), (.int .i64 2)] 30 (0, 0)) := row_hsets_eq c0 c8 (by simp [sets])
 have e5 := ext_hsets c0 e1 c9
 refine ln (qn (xs (xr ?_)))
 refine lv rfl rfl (vL (vs := [(.int .i64 1), (.string (ByteArray.mk #[107])), (.string (ByteArray.mk #[97])), (.int .i64 0), (.bool true), (.int .i64 0), (.int .i64 1), (.int .i64 2)]) TyTC.agg30 TyTC.sz30 rfl (cc (rc a0 rfl) (cc (rc a0 rfl) (cc (rc a0 rfl) (cc (rc a0 rfl) (cc (rc a0 rfl) (cc (rc a0 rfl) (cc (rc a0 rfl) (cc (rc a0 rfl) cn))))))))) (lv rfl rfl (vL (vs := [(.int .i64 2), (.string (ByteArray.mk #[107])), (.string (ByteArray.mk #[97])), (.int .i64 0), (.bool false), (.int .i64 0), (.int .i64 0), (.int .i64 5)]) TyTC.agg30 TyTC.sz30 rfl (cc (rc a1 rfl) (cc (rc a1 rfl) (cc (rc a1 rfl) (cc (rc a1 rfl) (cc (rc a1 rfl) (cc (rc a1 rfl) (cc (rc a1 rfl) (cc (rc a1 rfl) cn))))))))) ?_)
 replace H := H b0 b2 h4 d5 (row_lt a1) c9 (row_lt a0) e5
 refine lp rfl rfl (hn_buildSlice (n := 2) (vs := [(0, (.agg #[(.int .i64 1), (.string (ByteArray.mk #[107])), (.string (ByteArray.mk #[97])), (.int .i64 0), (.bool true), (.int .i64 0), (.int .i64 1), (.int .i64 2)])), (1, (.agg #[(.int .i64 2), (.string (ByteArray.mk #[107])), (.string (ByteArray.mk #[97])), (.int .i64 0), (.bool false), (.int .i64 0), (.int .i64 0), (.int .i64 5)]))]) (cs := #[(.int .i64 1), (.string (ByteArray.mk #[107])), (.string (ByteArray.mk #[97])), (.int .i64 0), (.bool true), (.int .i64 0), (.int .i64 1), (.int .i64 2), (.int .i64 2), (.string (ByteArray.mk #[107])), (.string (ByteArray.mk #[97])), (.int .i64 0), (.bool false), (.int .i64 0), (.int .i64 0), (.int .i64 5)]) TyTC.u22 TyTC.sz30 TyTC.z30 rfl rfl (by kernel_rfl) ?_)
 intro nb h5 e2 c4
 replace H := H nb h5 e2 c4
 have c7 := ext_pushed_f4_sh c4
 replace a1 := Ext.row c7 a1
 replace a0 := Ext.row c7 a0
 refine lp rfl rfl (sc TyTC.cb10 rfl (HC.mono H ?_))
 rintro _ h6 ⟨d0, r0, a7, a8, r1, rfl, H⟩
 replace a1 := Kp.row d0 (by simp) a1
 replace a0 := Kp.row d0 (by simp) a0
 refine lv rfl rfl (vm rfl) (lv rfl rfl (vx rfl rfl) (lv rfl rfl (vx rfl rfl) (lv rfl rfl (va rfl) (lv rfl rfl (va rfl) ?_))))
 refine ln (qn (xs (xr ?_)))
 refine lv rfl rfl (v := (ptr b0 6)) (vf TyTC.fld30_6 (b := b0) (o := 0) rfl) ?_
 refine lp rfl rfl (hn_store (v := (.int .i64 3)) rfl rfl TyTC.sz3 rfl (HW_row a1 (by simp)) ?_)
 intro h7 b8
 replace a0 := row_hset_ne b8 (Ne.symm d2) a0
 have a2 : h7[b0]? = some (.cells #[(.int .i64 2), (.string (ByteArray.mk #[107])), (.string (ByteArray.mk #[97])), (.int .i64 0), (.bool false), (.int .i64 0), (.int .i64 3), (.int .i64 5)] 30 (0, 0)) := row_hset_eq b8 a1 rfl
 replace H := H h7 (fr_hset_of b8)
 refine ln (qn (xs (xr ?_)))
 refine lv rfl rfl (vL (vs := [(.int .i64 1), (.string (ByteArray.mk #[107])), (.string (ByteArray.mk #[97])), (.int .i64 0), (.bool true), (.int .i64 0), (.int .i64 1), (.int .i64 2)]) TyTC.agg30 TyTC.sz30 rfl (cc (rc a0 rfl) (cc (rc a0 rfl) (cc (rc a0 rfl) (cc (rc a0 rfl) (cc (rc a0 rfl) (cc (rc a0 rfl) (cc (rc a0 rfl) (cc (rc a0 rfl) cn))))))))) (lv rfl rfl (vL (vs := [(.int .i64 2), (.string (ByteArray.mk #[107])), (.string (ByteArray.mk #[97])), (.int .i64 0), (.bool false), (.int .i64 0), (.int .i64 3), (.int .i64 5)]) TyTC.agg30 TyTC.sz30 rfl (cc (rc a2 rfl) (cc (rc a2 rfl) (cc (rc a2 rfl) (cc (rc a2 rfl) (cc (rc a2 rfl) (cc (rc a2 rfl) (cc (rc a2 rfl) (cc (rc a2 rfl) cn))))))))) ?_)
 refine lp rfl rfl (hn_buildSlice (n := 2) (vs := [(0, (.agg #[(.int .i64 1), (.string (ByteArray.mk #[107])), (.string (ByteArray.mk #[97])), (.int .i64 0), (.bool true), (.int .i64 0), (.int .i64 1), (.int .i64 2)])), (1, (.agg #[(.int .i64 2), (.string (ByteArray.mk #[107])), (.string (ByteArray.mk #[97])), (.int .i64 0), (.bool false), (.int .i64 0), (.int .i64 3), (.int .i64 5)]))]) (cs := #[(.int .i64 1), (.string (ByteArray.mk #[107])), (.string (ByteArray.mk #[97])), (.int .i64 0), (.bool true), (.int .i64 0), (.int .i64 1), (.int .i64 2), (.int .i64 2), (.string (ByteArray.mk #[107])), (.string (ByteArray.mk #[97])), (.int .i64 0), (.bool false), (.int .i64 0), (.int .i64 3), (.int .i64 5)]) TyTC.u22 TyTC.sz30 TyTC.z30 rfl rfl (by kernel_rfl) ?_)
 intro b3 h8 e6 d1
 replace H := H b3 h8 e6 d1
 have c5 := ext_pushed_f4_sh d1
 replace a2 := Ext.row c5 a2
 replace a0 := Ext.row c5 a0
 refine lp rfl rfl (sc TyTC.cb10 rfl (HC.mono H ?_))
 rintro _ h9 ⟨b1, a6, a4, a3, rfl, H⟩
 refine lv rfl rfl (vm rfl) (lv rfl rfl (vx rfl rfl) (lv rfl rfl (vx rfl rfl) (lv rfl rfl (va rfl) (lv rfl rfl (va rfl) ?_))))
 refine ln (qn ?_)
 obtain ⟨b5, b9, b7⟩ := H
 refine xk (fun ρ h' => ∃ j : Bool, (b5 j h' ∧ True) ∧ Has ρ [(0, (.bool j))]) ?_ ?_
 ·have H := b9; clear b9 b7
  refine xr ?_
  refine lv rfl rfl (vm rfl) (lv rfl rfl (vr rfl rfl rfl) (lv rfl rfl (vm rfl) ?_))
  rcases bool_or (r1 == 0) with a5 | a5
  ·replace H := H.1 a5
   refine ly (wanted_y rfl rfl rfl a5) rfl (HStep.of_val (v := (.slice r0 a7 a8)) (vm rfl) ?_)
   refine ly (wanted_y rfl rfl rfl a5) rfl (hn_buildSlice (n := 2) (vs := [(0, (.int .i64 1)), (1, (.int .i64 0))]) (cs := #[(.int .i64 1), (.int .i64 0)]) TyTC.u23 TyTC.sz3 TyTC.z3 rfl rfl (by kernel_rfl) ?_)
   intro b4 b6 e3 c6
   replace H := H b4 b6 e3 c6
   have e8 := ext_pushed_f4_sh c6
   refine ly (wanted_y rfl rfl rfl a5) rfl (sc TyTC.cb8 rfl (HC.mono H ?_))
   rintro _ c3 ⟨r, rfl, H⟩
   refine lv rfl rfl (v := (.bool r)) (hv_pick_t rfl a5 rfl) (lv rfl rfl (vm rfl) ?_)
   rcases bool_or (r) with a9 | a9
   ·replace H := H.1 a9
    refine ly (wanted_y rfl rfl rfl a9) rfl (HStep.of_val (v := (.int .i64 a3)) (vm rfl) ?_)
    refine ly (wanted_y rfl rfl rfl a9) rfl (HStep.of_val (v := (.bool (a3 == 251))) (vr rfl rfl rfl) ?_)
    refine lv rfl rfl (v := (.bool (a3 == 251))) (hv_pick_t rfl a9 rfl) (lv rfl rfl (va rfl) ?_)
    refine ln (qn ?_)
    exact ⟨_, ⟨H, trivial⟩, (hc rfl hn)⟩
   ·replace H := H.2 a9
    refine lo (wanted_n rfl rfl rfl a9) rfl ?_
    refine lo (wanted_n rfl rfl rfl a9) rfl ?_
    refine lv rfl rfl (v := (.bool false)) (hv_pick_f rfl a9 rfl) (lv rfl rfl (va rfl) ?_)
    refine ln (qn ?_)
    exact ⟨_, ⟨H, trivial⟩, (hc rfl hn)⟩
  ·replace H := H.2 a5
   refine lo (wanted_n rfl rfl rfl a5) rfl ?_
   refine lo (wanted_n rfl rfl rfl a5) rfl ?_
   refine lo (wanted_n rfl rfl rfl a5) rfl ?_
   refine lv rfl rfl (v := (.bool false)) (hv_pick_f rfl a5 rfl) (lv rfl rfl (vm rfl) ?_)
   refine lo (wanted_n rfl rfl (c := false) rfl rfl) rfl ?_
   refine lo (wanted_n rfl rfl (c := false) rfl rfl) rfl ?_
   refine lv rfl rfl (v := (.bool false)) (hv_pick (t := false) rfl rfl) (lv rfl rfl (va rfl) ?_)
   refine ln (qn ?_)
   exact ⟨_, ⟨H, trivial⟩, (hc rfl hn)⟩
 ·rintro ρ c1 ⟨j, ⟨e4, -⟩, hH⟩
  have H := b7 j c1 e4; clear b9 b7
  refine xh _ hH ?_
  refine xt ?_
  exact endQ_ret _ (res_one Tryd.results5 (rv_tmp rfl)) H
theorem f3_sh (l : Option Addr) (a7 : Nat) (a9 : Nat) (a3 : Option Addr) (a0 : Nat) (a1 : Nat) (h : Heap) (R : Value → Heap → Prop)
  (H : (∀ nb h1, nb = Array.size h → h1 = Array.push h (.cells #[] 3) → HAppend Tryd.prog 23 23 (.slice (some ⟨nb, 0, none⟩) 0 0) (.slice a3 a0 a1) h1 (fun vv h2 => ∃ ap : Option Addr, ∃ a4 a5 : Nat, vv = (.slice ap a4 a5) ∧ (∃ A6 : Bool → Heap → Prop, HC Tryd.prog 5 #[] h2 (fun vv h4 => ∃ r : Bool, vv = (.bool r) ∧ ((r = true → HC Tryd.prog 6 #[(.slice l a7 a9), (.slice ap a4 a5)] h4 (fun vv h5 => ∃ a8 : Int, vv = (.int .i64 a8) ∧ HC Tryd.prog 7 #[(.slice l a7 a9), (.slice a3 a0 a1)] h5 (fun vv h6 => ∃ b0 : Int, vv = (.int .i64 b0) ∧ (((a8 == b0) = true → HC Tryd.prog 8 #[(.slice ap a4 a5), (.slice a3 a0 a1)] h6 (fun vv h7 => ∃ b1 : Bool, vv = (.bool b1) ∧ (A6 b1 h7))) ∧ ((a8 == b0) = false → (A6 false h6)))))) ∧ (r = false → (A6 false h4)))) ∧ (∀ (j : Bool) (h3 : Heap), A6 j h3 → R (.bool j) h3))))) :
  HC Tryd.prog 3 #[(.slice l a7 a9), (.slice a3 a0 a1)] h R := by
 refine hc_of (args := [(.slice l a7 a9), (.slice a3 a0 a1)]) Tryd.func3 rfl Tryd.ntmps3 (Nat.le_of_ble_eq_true rfl) ?_
 refine xs (xr ?_)
 refine lv rfl rfl (va rfl) ?_
 refine ln (qn (xs (xr ?_)))
 refine lp rfl rfl (hn_buildSlice (n := 0) (vs := []) (cs := #[]) TyTC.u23 TyTC.sz3 TyTC.z3 rfl rfl (by kernel_rfl) ?_)
 intro nb h1 b5 b4
 replace H := H nb h1 b5 b4
 have b7 := ext_pushed_f4_sh b4
 refine lv rfl rfl (vm rfl) ?_
 refine lp rfl rfl (hs_append rfl rfl (HAppend.mono H ?_))
 rintro _ h2 ⟨ap, a4, a5, rfl, H⟩
 refine lv rfl rfl (va rfl) ?_
 refine ln (qn ?_)
 obtain ⟨A6, b3, b2⟩ := H
 refine xk (fun ρ h' => ∃ j : Bool, (A6 j h' ∧ True) ∧ Has ρ [(4, (.bool j))]) ?_ ?_
 ·have H := b3; clear b3 b2
  refine xr ?_
  refine lp rfl rfl (sc TyTC.cb5 rfl (HC.mono H ?_))
  rintro _ h4 ⟨r, rfl, H⟩
  refine lv rfl rfl (vm rfl) ?_
  rcases bool_or (r) with a2 | a2
  ·replace H := H.1 a2
   refine ly (wanted_y rfl rfl rfl a2) rfl (HStep.of_val (v := (.slice l a7 a9)) (vm rfl) ?_)
   refine ly (wanted_y rfl rfl rfl a2) rfl (HStep.of_val (v := (.slice ap a4 a5)) (vm rfl) ?_)
   refine ly (wanted_y rfl rfl rfl a2) rfl (sc TyTC.cb6 rfl (HC.mono H ?_))
   rintro _ h5 ⟨a8, rfl, H⟩
   refine ly (wanted_y rfl rfl rfl a2) rfl (HStep.of_val (v := (.slice l a7 a9)) (vm rfl) ?_)
   refine ly (wanted_y rfl rfl rfl a2) rfl (HStep.of_val (v := (.slice a3 a0 a1)) (vm rfl) ?_)
   refine ly (wanted_y rfl rfl rfl a2) rfl (sc TyTC.cb7 rfl (HC.mono H ?_))
   rintro _ h6 ⟨b0, rfl, H⟩
   refine ly (wanted_y rfl rfl rfl a2) rfl (HStep.of_val (v := (.bool (a8 == b0))) (vr rfl rfl rfl) ?_)
   refine lv rfl rfl (v := (.bool (a8 == b0))) (hv_pick_t rfl a2 rfl) (lv rfl rfl (vm rfl) ?_)
   rcases bool_or (a8 == b0) with a6 | a6
   ·replace H := H.1 a6
    refine ly (wanted_y rfl rfl rfl a6) rfl (HStep.of_val (v := (.slice ap a4 a5)) (vm rfl) ?_)
    refine ly (wanted_y rfl rfl rfl a6) rfl (HStep.of_val (v := (.slice a3 a0 a1)) (vm rfl) ?_)
    refine ly (wanted_y rfl rfl rfl a6) rfl (sc TyTC.cb8 rfl (HC.mono H ?_))
    rintro _ h7 ⟨b1, rfl, H⟩
    refine lv rfl rfl (v := (.bool b1)) (hv_pick_t rfl a6 rfl) (lv rfl rfl (va rfl) ?_)
    refine ln (qn ?_)
    exact ⟨_, ⟨H, trivial⟩, (hc rfl hn)⟩
   ·replace H := H.2 a6
    refine lo (wanted_n rfl rfl rfl a6) rfl ?_
    refine lo (wanted_n rfl rfl rfl a6) rfl ?_
    refine lo (wanted_n rfl rfl rfl a6) rfl ?_
    refine lv rfl rfl (v := (.bool false)) (hv_pick_f rfl a6 rfl) (lv rfl rfl (va rfl) ?_)
    refine ln (qn ?_)
    exact ⟨_, ⟨H, trivial⟩, (hc rfl hn)⟩
  ·replace H := H.2 a2
   refine lo (wanted_n rfl rfl rfl a2) rfl ?_
   refine lo (wanted_n rfl rfl rfl a2) rfl ?_
   refine lo (wanted_n rfl rfl rfl a2) rfl ?_
   refine lo (wanted_n rfl rfl rfl a2) rfl ?_
   refine lo (wanted_n rfl rfl rfl a2) rfl ?_
   refine lo (wanted_n rfl rfl rfl a2) rfl ?_
   refine lo (wanted_n rfl rfl rfl a2) rfl ?_
   refine lv rfl rfl (v := (.bool false)) (hv_pick_f rfl a2 rfl) (lv rfl rfl (vm rfl) ?_)
   refine lo (wanted_n rfl rfl (c := false) rfl rfl) rfl ?_
   refine lo (wanted_n rfl rfl (c := false) rfl rfl) rfl ?_
   refine lo (wanted_n rfl rfl (c := false) rfl rfl) rfl ?_
   refine lv rfl rfl (v := (.bool false)) (hv_pick (t := false) rfl rfl) (lv rfl rfl (va rfl) ?_)
   refine ln (qn ?_)
   exact ⟨_, ⟨H, trivial⟩, (hc rfl hn)⟩
 ·rintro ρ h3 ⟨j, ⟨b6, -⟩, hH⟩
  have H := b2 j h3 b6; clear b3 b2
  refine xh _ hH ?_
  refine xt ?_
  exact endQ_ret _ (res_one Tryd.results3 (rv_tmp rfl)) H
theorem f4_sh (l : Option Addr) (b3 : Nat) (d1 : Nat) (h : Heap) (R : Value → Heap → Prop)
  (H : HC Tryd.prog 5 #[] h (fun vv h1 => ∃ r : Bool, vv = (.bool r) ∧ (((!r) = true → R (.bool false) h1) ∧ ((!r) = false → (∃ (I2 : Option Addr → Nat → Nat → Option Addr → Nat → Nat → Int → Heap → Prop) (e6 : Option Addr → Nat → Nat → Option Addr → Nat → Nat → Int → Heap → Nat), I2 none 0 0 none 0 0 0 h1 ∧ (∀ (b2 : Option Addr) (a3 : Nat) (a4 : Nat) (a6 : Option Addr) (a0 : Nat) (a1 : Nat) (i : Int) (h2 : Heap), I2 b2 a3 a4 a6 a0 a1 i h2 → ((((decide (i < (b3 : Int))) && (decide (i < 24))) = true → (∃ c3 c4 : Nat, l = some ⟨c3, c4, none⟩ ∧ (0 : Int) ≤ i ∧ i < (b3 : Int) ∧ (∃ a5 : Int, ∃ a9 a2 : ByteArray, ∃ a7 : Int, ∃ a8 : Bool, ∃ b9 b4 c2 : Int, hcell h2 c3 (c4 + (Int.toNat i) * 8) = some (.int .i64 a5) ∧ hcell h2 c3 ((c4 + (Int.toNat i) * 8) + 1) = some (.string a9) ∧ hcell h2 c3 ((c4 + (Int.toNat i) * 8) + 2) = some (.string a2) ∧ hcell h2 c3 ((c4 + (Int.toNat i) * 8) + 3) = some (.int .i64 a7) ∧ hcell h2 c3 ((c4 + (Int.toNat i) * 8) + 4) = some (.bool a8) ∧ hcell h2 c3 ((c4 + (Int.toNat i) * 8) + 5) = some (.int .i64 b9) ∧ hcell h2 c3 ((c4 + (Int.toNat i) * 8) + 6) = some (.int .i64 b4) ∧ hcell h2 c3 ((c4 + (Int.toNat i) * 8) + 7) = some (.int .i64 c2) ∧ (∀ (h7 : Heap), Ext h2 h7 → (∀ nb h8, nb = Array.size h7 → h8 = Array.push h7 (.cells #[(.int .i64 a5), (.string a9), (.string a2), (.int .i64 a7), (.bool a8), (.int .i64 0), (.int .i64 (IntKind.i64.wrap (2 * i))), (.int .i64 (IntKind.i64.wrap ((IntKind.i64.wrap (2 * i)) + 1)))] 30) → HAppend Tryd.prog 22 22 (.slice b2 a3 a4) (.slice (some ⟨nb, 0, none⟩) 1 1) h8 (fun vv h9 => ∃ ap : Option Addr, ∃ c8 c7 : Nat, vv = (.slice ap c8 c7) ∧ (∀ d4 d6, d4 = Array.size h9 → d6 = Array.push h9 (.cells #[(.int .i64 i)] 3) → HAppend Tryd.prog 23 23 (.slice a6 a0 a1) (.slice (some ⟨d4, 0, none⟩) 1 1) d6 (fun vv f6 => ∃ c6 : Option Addr, ∃ b8 c0 : Nat, vv = (.slice c6 b8 c0) ∧ (I2 ap c8 c7 c6 b8 c0 (IntKind.i64.wrap (i + 1)) f6 ∧ e6 ap c8 c7 c6 b8 c0 (IntKind.i64.wrap (i + 1)) f6 < e6 b2 a3 a4 a6 a0 a1 i h2))))))))) ∧ (((decide (i < (b3 : Int))) && (decide (i < 24))) = false → HC Tryd.prog 9 #[(.slice b2 a3 a4)] h2 (fun vv f3 => ∃ d0 : Int, vv = (.int .i64 d0) ∧ (((d0 != 0) = true → HC Tryd.prog 6 #[(.slice b2 a3 a4), (.slice a6 a0 a1)] f3 (fun vv g1 => ∃ b1 : Int, vv = (.int .i64 b1) ∧ R (.bool (b1 == 230)) g1)) ∧ ((d0 != 0) = false → HC Tryd.prog 10 #[(.slice b2 a3 a4)] f3 (fun vv g2 => ∃ r0 : Option Addr, ∃ b6 b7 : Nat, ∃ r1 : Int, vv = (.tuple #[(.slice r0 b6 b7), (.int .i64 r1)]) ∧ HC Tryd.prog 6 #[(.slice b2 a3 a4), (.slice a6 a0 a1)] g2 (fun vv e7 => ∃ b1 : Int, vv = (.int .i64 b1) ∧ (((r1 == 0) = true → (∃ d7 : Bool → Heap → Prop, HC Tryd.prog 8 #[(.slice r0 b6 b7), (.slice a6 a0 a1)] e7 (fun vv f7 => ∃ d3 : Bool, vv = (.bool d3) ∧ ((d3 = true → (d7 (b1 == 0) f7)) ∧ (d3 = false → (d7 false f7)))) ∧ (∀ (c9 : Bool) (e5 : Heap), d7 c9 e5 → R (.bool c9) e5))) ∧ ((r1 == 0) = false → R (.bool ((r1 == 251) && (b1 == 251))) e7))))))))))))))) :
  HC Tryd.prog 4 #[(.slice l b3 d1)] h R := by
 refine hc_of (args := [(.slice l b3 d1)]) Tryd.func4 rfl Tryd.ntmps4 (Nat.le_of_ble_eq_true rfl) ?_
 refine xs (xr ?_)
 refine lv rfl rfl (va rfl) ?_
 refine ln (qn (xs (xs (xr ?_))))
 refine lp rfl rfl (sc TyTC.cb5 rfl (HC.mono H ?_))
 rintro _ h1 ⟨r, rfl, H⟩
 refine lv rfl rfl (v := (.bool (!r))) (hv_not (b := r) rfl) ?_
 refine ln (qn ?_)
 refine xc (b := !r) rfl (fun g0 => ?_) (fun g0 => ?_)
 ·replace H := H.1 g0
  refine xs (xr ?_)
  refine lv rfl rfl (va rfl) ?_
  refine ln (qn (xt (qr ?_)))
  exact endQ_ret _ (res_one Tryd.results4 (rv_tmp rfl)) H
 ·replace H := H.2 g0
  refine xi (qn (xs (xr ?_)))
  refine lv rfl rfl (va rfl) ?_
  refine ln (qn (xs (xr ?_)))
  refine lv rfl rfl (va rfl) ?_
  refine ln (qn (xs (xs (xr ?_))))
  refine lv rfl rfl (va rfl) ?_
  refine ln (qn (xb ?_))
  obtain ⟨I2, e6, j4, j2⟩ := H
  refine xl (σ := Option Addr × Nat × Nat × Option Addr × Nat × Nat × Int) (fun s => [(0, (.slice l b3 d1)), (3, (.slice s.1 s.2.1 s.2.2.1)), (4, (.slice s.2.2.2.1 s.2.2.2.2.1 s.2.2.2.2.2.1)), (5, (.int .i64 s.2.2.2.2.2.2))]) (fun s h' => I2 s.1 s.2.1 s.2.2.1 s.2.2.2.1 s.2.2.2.2.1 s.2.2.2.2.2.1 s.2.2.2.2.2.2 h' ∧ True) (fun s h' => e6 s.1 s.2.1 s.2.2.1 s.2.2.2.1 s.2.2.2.2.1 s.2.2.2.2.2.1 s.2.2.2.2.2.2 h') (none, 0, 0, none, 0, 0, 0) ⟨j4, trivial⟩ (hc rfl (hc rfl (hc rfl (hc rfl hn)))) ?_
  rintro ⟨b2, a3, a4, a6, a0, a1, i⟩ ρ h2 ⟨j3, -⟩
  have H := j2 b2 a3 a4 a6 a0 a1 i h2 j3
  refine xs ?_
  refine xk (fun ρ h' => h2 = h' ∧ Has ρ [(0, (.slice l b3 d1)), (3, (.slice b2 a3 a4)), (4, (.slice a6 a0 a1)), (5, (.int .i64 i)), (19, (.bool ((decide (i < (b3 : Int))) && (decide (i < 24)))))]) ?_ ?_
  ·refine xr ?_
   refine lv rfl rfl (vm rfl) (lv rfl rfl (vm rfl) (lv rfl rfl (v := (.int .i64 (b3 : Int))) (hv_len (n := b3) TyTC.u22 rfl) (lv rfl rfl (vr rfl rfl rfl) (lv rfl rfl (vm rfl) ?_))))
   rcases bool_or (decide (i < (b3 : Int))) with c5 | c5
   ·refine ly (wanted_y rfl rfl rfl c5) rfl (HStep.of_val (v := (.int .i64 i)) (vm rfl) ?_)
    refine ly (wanted_y rfl rfl rfl c5) rfl (HStep.of_val (v := (.bool (decide (i < 24)))) (vr rfl rfl rfl) ?_)
    refine lv rfl rfl (v := (.bool (decide (i < 24)))) (hv_pick_t rfl c5 rfl) ?_
    refine ln (qn ?_)
    exact ⟨rfl, (hc rfl (hc rfl (hc rfl (hc rfl (hc (show ((.bool (decide (i < 24))) : Value) = (.bool ((decide (i < (b3 : Int))) && (decide (i < 24)))) from (by first | rfl | ((try rw [c5]); all_goals first | rfl | (simp only [Bool.true_or, Bool.or_true, Bool.false_or, Bool.or_false, Bool.true_and, Bool.and_true, Bool.false_and, Bool.and_false, Bool.not_true, Bool.not_false, Bool.cond_true, Bool.cond_false]; done)) | simp [c5])) hn)))))⟩
   ·refine lo (wanted_n rfl rfl rfl c5) rfl ?_
    refine lo (wanted_n rfl rfl rfl c5) rfl ?_
    refine lv rfl rfl (v := (.bool false)) (hv_pick_f rfl c5 rfl) ?_
    refine ln (qn ?_)
    exact ⟨rfl, (hc rfl (hc rfl (hc rfl (hc rfl (hc (show ((.bool false) : Value) = (.bool ((decide (i < (b3 : Int))) && (decide (i < 24)))) from (by first | rfl | ((try rw [c5]); all_goals first | rfl | (simp only [Bool.true_or, Bool.or_true, Bool.false_or, Bool.or_false, Bool.true_and, Bool.and_true, Bool.false_and, Bool.and_false, Bool.not_true, Bool.not_false, Bool.cond_true, Bool.cond_false]; done)) | simp [c5])) hn)))))⟩
  ·rintro ρ _ ⟨rfl, hH⟩
   refine xh _ hH ?_
   refine xc (b := ((decide (i < (b3 : Int))) && (decide (i < 24)))) rfl (fun d9 => ?_) (fun d9 => ?_)
   ·replace H := H.1 d9
    refine xi (qn (xs (xb (xs (xr ?_)))))
    refine lv rfl rfl (vm rfl) (lv rfl rfl (vm rfl) ?_)
    obtain ⟨c3, c4, j1, g8, i8, Hq⟩ := H
    subst j1
    have H := Hq; clear Hq
    refine lv rfl rfl (v := (ptr c3 (c4 + (Int.toNat i) * 8))) (vi TyTC.el22 rfl rfl g8 i8) ?_
    obtain ⟨a5, a9, a2, a7, a8, b9, b4, c2, i3, i4, g9, g5, g6, g4, i2, i7, H⟩ := H
    refine lv rfl rfl (vL (vs := [(.int .i64 a5), (.string a9), (.string a2), (.int .i64 a7), (.bool a8), (.int .i64 b9), (.int .i64 b4), (.int .i64 c2)]) TyTC.agg30 TyTC.sz30 rfl (cc i3 (cc i4 (cc g9 (cc g5 (cc g6 (cc g4 (cc i2 (cc i7 cn))))))))) ?_
    refine lp rfl rfl (hn_alloc TyTC.z30 ?_)
    intro m h3 e8 f4
    have j0 := ext_pushed_f4_sh f4
    have d5 : Array.size h2 ≤ m := Nat.le_of_eq (Eq.symm e8)
    have f2 : h3[m]? = some (.cells #[(.int .i64 0), (.string ByteArray.empty), (.string ByteArray.empty), (.int .i64 0), (.bool false), (.int .i64 0), (.int .i64 0), (.int .i64 0)] 30 (0, 0)) := by rw [f4]; exact push_new e8
    refine lp rfl rfl (hn_stores (vs := [(.int .i64 a5), (.string a9), (.string a2), (.int .i64 a7), (.bool a8), (.int .i64 b9), (.int .i64 b4), (.int .i64 c2)]) rfl rfl TyTC.sz30 rfl (HWs_row f2 (by simp)) ?_)
    intro h4 f5
    have e4 : h4[m]? = some (.cells #[(.int .i64 a5), (.string a9), (.string a2), (.int .i64 a7), (.bool a8), (.int .i64 b9), (.int .i64 b4), (.int .i64 c2)] 30 (0, 0)) := row_hsets_eq f5 f2 (by simp [sets])
    have g7 := ext_hsets f5 j0 d5
    refine ln (qn (xs (xr ?_)))
    refine lv rfl rfl (vm rfl) (lv rfl rfl (vr rfl rfl rfl) (lv rfl rfl (vm rfl) (lv rfl rfl (vr rfl rfl rfl) (lv rfl rfl (vr rfl rfl rfl) (lv rfl rfl (v := (ptr m 5)) (vf TyTC.fld30_5 (b := m) (o := 0) rfl) ?_)))))
    refine lp rfl rfl (hn_store (v := (.int .i64 0)) rfl rfl TyTC.sz3 rfl (HW_row e4 (by simp)) ?_)
    intro h5 f1
    have d8 : h5[m]? = some (.cells #[(.int .i64 a5), (.string a9), (.string a2), (.int .i64 a7), (.bool a8), (.int .i64 0), (.int .i64 b4), (.int .i64 c2)] 30 (0, 0)) := row_hset_eq f1 e4 rfl
    have i6 := ext_hset f1 g7 d5
    refine lv rfl rfl (v := (ptr m 6)) (vf TyTC.fld30_6 (b := m) (o := 0) rfl) ?_
    refine lp rfl rfl (hn_store (v := (.int .i64 (IntKind.i64.wrap (2 * i)))) rfl rfl TyTC.sz3 rfl (HW_row d8 (by simp)) ?_)
    intro h6 f0
    have d2 : h6[m]? = some (.cells #[(.int .i64 a5), (.string a9), (.string a2), (.int .i64 a7), (.bool a8), (.int .i64 0), (.int .i64 (IntKind.i64.wrap (2 * i))), (.int .i64 c2)] 30 (0, 0)) := row_hset_eq f0 d8 rfl
    have g3 := ext_hset f0 i6 d5
    refine lv rfl rfl (v := (ptr m 7)) (vf TyTC.fld30_7 (b := m) (o := 0) rfl) ?_
    refine lp rfl rfl (hn_store (v := (.int .i64 (IntKind.i64.wrap ((IntKind.i64.wrap (2 * i)) + 1)))) rfl rfl TyTC.sz3 rfl (HW_row d2 (by simp)) ?_)
    intro h7 f8
    have b0 : h7[m]? = some (.cells #[(.int .i64 a5), (.string a9), (.string a2), (.int .i64 a7), (.bool a8), (.int .i64 0), (.int .i64 (IntKind.i64.wrap (2 * i))), (.int .i64 (IntKind.i64.wrap ((IntKind.i64.wrap (2 * i)) + 1)))] 30 (0, 0)) := row_hset_eq f8 d2 rfl
    have i5 := ext_hset f8 g3 d5
    refine ln (qn (xs (xr ?_)))
    refine lv rfl rfl (vm rfl) (lv rfl rfl (vL (vs := [(.int .i64 a5), (.string a9), (.string a2), (.int .i64 a7), (.bool a8), (.int .i64 0), (.int .i64 (IntKind.i64.wrap (2 * i))), (.int .i64 (IntKind.i64.wrap ((IntKind.i64.wrap (2 * i)) + 1)))]) TyTC.agg30 TyTC.sz30 rfl (cc (rc b0 rfl) (cc (rc b0 rfl) (cc (rc b0 rfl) (cc (rc b0 rfl) (cc (rc b0 rfl) (cc (rc b0 rfl) (cc (rc b0 rfl) (cc (rc b0 rfl) cn))))))))) ?_)
    replace H := H h7 i5
    refine lp rfl rfl (hn_buildSlice (n := 1) (vs := [(0, (.agg #[(.int .i64 a5), (.string a9), (.string a2), (.int .i64 a7), (.bool a8), (.int .i64 0), (.int .i64 (IntKind.i64.wrap (2 * i))), (.int .i64 (IntKind.i64.wrap ((IntKind.i64.wrap (2 * i)) + 1)))]))]) (cs := #[(.int .i64 a5), (.string a9), (.string a2), (.int .i64 a7), (.bool a8), (.int .i64 0), (.int .i64 (IntKind.i64.wrap (2 * i))), (.int .i64 (IntKind.i64.wrap ((IntKind.i64.wrap (2 * i)) + 1)))]) TyTC.u22 TyTC.sz30 TyTC.z30 rfl rfl (by kernel_rfl) ?_)
    intro nb h8 i9 f9
    replace H := H nb h8 i9 f9
    have j6 := ext_pushed_f4_sh f9
    refine lp rfl rfl (hs_append rfl rfl (HAppend.mono H ?_))
    rintro _ h9 ⟨ap, c8, c7, rfl, H⟩
    refine lv rfl rfl (va rfl) ?_
    refine ln (qn (xr ?_))
    refine lv rfl rfl (vm rfl) (lv rfl rfl (vm rfl) ?_)
    refine lp rfl rfl (hn_buildSlice (n := 1) (vs := [(0, (.int .i64 i))]) (cs := #[(.int .i64 i)]) TyTC.u23 TyTC.sz3 TyTC.z3 rfl rfl (by kernel_rfl) ?_)
    intro d4 d6 i1 e9
    replace H := H d4 d6 i1 e9
    have j5 := ext_pushed_f4_sh e9
    refine lp rfl rfl (hs_append rfl rfl (HAppend.mono H ?_))
    rintro _ f6 ⟨c6, b8, c0, rfl, H⟩
    refine lv rfl rfl (va rfl) ?_
    refine ln (bn (qn (xr ?_)))
    refine lv rfl rfl (vm rfl) (lv rfl rfl (vr rfl rfl rfl) (lv rfl rfl (va rfl) ?_))
    refine ln (qn ?_)
    exact ⟨(ap, c8, c7, c6, b8, c0, IntKind.i64.wrap (i + 1)), ⟨⟨H.1, trivial⟩, H.2⟩, (hc rfl (hc rfl (hc rfl (hc rfl hn))))⟩
   ·replace H := H.2 d9
    refine xe (qe (qe (bh (qn (xs (xs (xr ?_)))))))
    refine lv rfl rfl (vm rfl) ?_
    refine lp rfl rfl (sc TyTC.cb9 rfl (HC.mono H ?_))
    rintro _ f3 ⟨d0, rfl, H⟩
    refine lv rfl rfl (vr rfl rfl rfl) ?_
    refine ln (qn ?_)
    refine xc (b := d0 != 0) rfl (fun e0 => ?_) (fun e0 => ?_)
    ·replace H := H.1 e0
     refine xs (xr ?_)
     refine lv rfl rfl (vm rfl) (lv rfl rfl (vm rfl) ?_)
     refine lp rfl rfl (sc TyTC.cb6 rfl (HC.mono H ?_))
     rintro _ g1 ⟨b1, rfl, H⟩
     refine lv rfl rfl (vr rfl rfl rfl) (lv rfl rfl (va rfl) ?_)
     refine ln (qn (xt (qr ?_)))
     exact endQ_ret _ (res_one Tryd.results4 (rv_tmp rfl)) H
    ·replace H := H.2 e0
     refine xi (qn (xs (xr ?_)))
     refine lv rfl rfl (vm rfl) ?_
     refine lp rfl rfl (sc TyTC.cb10 rfl (HC.mono H ?_))
     rintro _ g2 ⟨r0, b6, b7, r1, rfl, H⟩
     refine lv rfl rfl (vm rfl) (lv rfl rfl (vx rfl rfl) (lv rfl rfl (vx rfl rfl) (lv rfl rfl (va rfl) (lv rfl rfl (va rfl) ?_))))
     refine ln (qn (xs (xr ?_)))
     refine lv rfl rfl (vm rfl) (lv rfl rfl (vm rfl) ?_)
     refine lp rfl rfl (sc TyTC.cb6 rfl (HC.mono H ?_))
     rintro _ e7 ⟨b1, rfl, H⟩
     refine lv rfl rfl (va rfl) ?_
     refine ln (qn (xs (xs (xr ?_))))
     refine lv rfl rfl (vm rfl) (lv rfl rfl (vr rfl rfl rfl) ?_)
     refine ln (qn ?_)
     refine xc (b := r1 == 0) rfl (fun e3 => ?_) (fun e3 => ?_)
     ·replace H := H.1 e3
      obtain ⟨d7, e1, e2⟩ := H
      refine xk (fun ρ h' => ∃ c9 : Bool, (d7 c9 h' ∧ True) ∧ Has ρ [(2, (.bool c9))]) ?_ ?_
      ·have H := e1; clear e1 e2
       refine xr ?_
       refine lv rfl rfl (vm rfl) (lv rfl rfl (vm rfl) ?_)
       refine lp rfl rfl (sc TyTC.cb8 rfl (HC.mono H ?_))
       rintro _ f7 ⟨d3, rfl, H⟩
       refine lv rfl rfl (vm rfl) ?_
       rcases bool_or (d3) with c1 | c1
       ·replace H := H.1 c1
        refine ly (wanted_y rfl rfl rfl c1) rfl (HStep.of_val (v := (.int .i64 b1)) (vm rfl) ?_)
        refine ly (wanted_y rfl rfl rfl c1) rfl (HStep.of_val (v := (.bool (b1 == 0))) (vr rfl rfl rfl) ?_)
        refine lv rfl rfl (v := (.bool (b1 == 0))) (hv_pick_t rfl c1 rfl) (lv rfl rfl (va rfl) ?_)
        refine ln (qn ?_)
        exact ⟨_, ⟨H, trivial⟩, (hc rfl hn)⟩
       ·replace H := H.2 c1
        refine lo (wanted_n rfl rfl rfl c1) rfl ?_
        refine lo (wanted_n rfl rfl rfl c1) rfl ?_
        refine lv rfl rfl (v := (.bool false)) (hv_pick_f rfl c1 rfl) (lv rfl rfl (va rfl) ?_)
        refine ln (qn ?_)
        exact ⟨_, ⟨H, trivial⟩, (hc rfl hn)⟩
      ·rintro ρ e5 ⟨c9, ⟨i0, -⟩, hH⟩
       have H := e2 c9 e5 i0; clear e1 e2
       refine xh _ hH ?_
       refine xt (qr ?_)
       exact endQ_ret _ (res_one Tryd.results4 (rv_tmp rfl)) H
     ·replace H := H.2 e3
      refine xi (qn ?_)
      refine xk (fun ρ h' => e7 = h' ∧ Has ρ [(2, (.bool ((r1 == 251) && (b1 == 251))))]) ?_ ?_
      ·refine xr ?_
       refine lv rfl rfl (vm rfl) (lv rfl rfl (vr rfl rfl rfl) (lv rfl rfl (vm rfl) ?_))
       rcases bool_or (r1 == 251) with b5 | b5
       ·refine ly (wanted_y rfl rfl rfl b5) rfl (HStep.of_val (v := (.int .i64 b1)) (vm rfl) ?_)
        refine ly (wanted_y rfl rfl rfl b5) rfl (HStep.of_val (v := (.bool (b1 == 251))) (vr rfl rfl rfl) ?_)
        refine lv rfl rfl (v := (.bool (b1 == 251))) (hv_pick_t rfl b5 rfl) (lv rfl rfl (va rfl) ?_)
        refine ln (qn ?_)
        exact ⟨rfl, (hc (show ((.bool (b1 == 251)) : Value) = (.bool ((r1 == 251) && (b1 == 251))) from (by first | rfl | ((try rw [b5]); all_goals first | rfl | (simp only [Bool.true_or, Bool.or_true, Bool.false_or, Bool.or_false, Bool.true_and, Bool.and_true, Bool.false_and, Bool.and_false, Bool.not_true, Bool.not_false, Bool.cond_true, Bool.cond_false]; done)) | simp [b5])) hn)⟩
       ·refine lo (wanted_n rfl rfl rfl b5) rfl ?_
        refine lo (wanted_n rfl rfl rfl b5) rfl ?_
        refine lv rfl rfl (v := (.bool false)) (hv_pick_f rfl b5 rfl) (lv rfl rfl (va rfl) ?_)
        refine ln (qn ?_)
        exact ⟨rfl, (hc (show ((.bool false) : Value) = (.bool ((r1 == 251) && (b1 == 251))) from (by first | rfl | ((try rw [b5]); all_goals first | rfl | (simp only [Bool.true_or, Bool.or_true, Bool.false_or, Bool.or_false, Bool.true_and, Bool.and_true, Bool.false_and, Bool.and_false, Bool.not_true, Bool.not_false, Bool.cond_true, Bool.cond_false]; done)) | simp [b5])) hn)⟩
      ·rintro ρ _ ⟨rfl, hH⟩
       refine xh _ hH ?_
       refine xt ?_
       exact endQ_ret _ (res_one Tryd.results4 (rv_tmp rfl)) H
end Go.Proofs.YtfjcciaabkjkgaaDoor
namespace Go.Proofs.YtfjcciaabkjkgaaDoor
open Go Ml
def eN : Elt Nat := ⟨1, fun n => [.int .i64 n], fun _ => rfl, fun x v hv => by simp at hv; subst hv; rfl⟩
def eW : Elt Nat := ⟨1, fun n => [.int .u32 n], fun _ => rfl, fun x v hv => by simp at hv; subst hv; rfl⟩
def Sound (nm : Nat → List Mt → Str) (l : List Mv) (own : List Nat) (kv : List (Str × Value)) : Prop :=
  ∀ n, ∃ c : Int, (lk kv n).getD (.int .i64 0) = .int .i64 c ∧ (0 < c → ∀ left s, left < 4294967296 → nm left s = n → ¬ Cmp l (Rm own left) fun _ => s)
structure Sch (h : Heap) (p mb : Nat) (l : List Mv) (own W : List Nat) (la oa wa : Option Addr) (lc oc wc : Nat) : Prop where
  row : h[p]? = some (.cells #[.slice la l.length lc, .slice oa own.length oc, .slice wa W.length wc, .map (some mb)] 76 (0, 0))
  sl : Sl eMv h la lc l
  so : Sl eN h oa oc own
  sw : Sl eW h wa wc W
  np : p ≠ mb
  nl : ∀ b, blkA la b → b ≠ mb
  no : ∀ b, blkA oa b → b ≠ mb
  nw : ∀ b, blkA wa b → b ≠ mb
def Vain (nm : Nat → List Mt → Str) (h : Heap) (mb : Nat) (l : List Mv) (own : List Nat) : Prop := ∃ kv, MapL h mb Value.string kv ∧ Sound nm l own kv
section
variable {h : Heap} {p mb : Nat} {l : List Mv} {own W : List Nat} {la oa wa : Option Addr} {lc oc wc : Nat} {nm : Nat → List Mt → Str}
theorem Sch.fr (S : Sch h p mb l own W la oa wa lc oc wc) {h' : Heap} (f : Fr (fun b => b = mb) h h') : Sch h' p mb l own W la oa wa lc oc wc :=
  ⟨f.row S.row S.np, S.sl.fr f S.nl, S.so.fr f S.no, S.sw.fr f S.nw, S.np, S.nl, S.no, S.nw⟩
theorem Vain.ext (V : Vain nm h mb l own) {h' : Heap} (x : Ext h h') : Vain nm h' mb l own := let ⟨kv, m, s⟩ := V; ⟨kv, m.ext x, s⟩
def Good (l : List Mv) (own : List Nat) (left : Nat) (s : List Mt) (k i : Nat) : Prop :=
  left.testBit k = true ∧ (∀ j, Rm own left j → ¬ ah (mv l j) (mv l i)) ∧ next s (mv l i) ≠ [] ∧ Cmp l (Rm own (clr left k)) fun _ => next s (mv l i)
theorem min32 {k : Nat} (hk : k < 32) : min (Int.toNat (k : Int)) 32 = k := by rw [Int.toNat_natCast]; omega
set_option maxHeartbeats 4000000 in
theorem can_c {Tb : Heap → Prop} {Pm : List Mt → Prop} {key : Str} (hTb : ∀ h h', Fr (fun b => b = mb) h h' → Tb h → Tb h') (hPn : ∀ s i, Pm s → i ∈ own → Pm (next s (mv l i))) (hPl : ∀ s, Pm s → s.length ≤ 68719476736)
    (hnm : ∀ {a b s t}, a < 4294967296 → b < 4294967296 → nm a s = nm b t → a = b ∧ s = t)
    (hst : ∀ {h left s a c}, Tb h → left < 4294967296 → Pm s → Sl eMt h a c s → HC Tryd.prog 56 #[.int .u32 (left : Nat), .slice a s.length c] h fun v h' => v = .string (nm left s) ∧ Ext h h')
    (hd : own.Nodup) (hk : OfOne l own key) (hol : own.length ≤ 31) (hin : ∀ i ∈ own, i < l.length) (hll : l.length ≤ 4611686018427387904)
    (hWl : W.length = own.length) (hW : ∀ (k : Nat) i, own[k]? = some i → ∃ w, W[k]? = some w ∧ w < 4294967296 ∧ Wt l own i w) :
    ∀ (n left : Nat), left < n → ∀ {h : Heap} {s : List Mt} {a : Option Addr} {c : Nat}, Sch h p mb l own W la oa wa lc oc wc → Vain nm h mb l own → Tb h → left < 2 ^ own.length → Pm s → Sl eMt h a c s → (∀ b, blkA a b → b ≠ mb) →
      HC Tryd.prog 46 #[ptr p 0, .int .u32 (left : Nat), .slice a s.length c] h fun v h' => ∃ r : Bool, v = .bool r ∧ (r = true ↔ Cmp l (Rm own left) fun _ => s) ∧ Fr (fun b => b = mb) h h' ∧ Vain nm h' mb l own := by
  intro n
  induction n with
  | zero => intro left hlt; omega
  | succ n ih =>
    intro left hln h s a c S V T hl P sl ne
    have h2p : 2 ^ own.length ≤ 2 ^ 31 := Nat.pow_le_pow_right (by decide) hol
    have h32 : left < 4294967296 := by omega
    have hu : U32 (left : Int) := ⟨by omega, by omega⟩
    refine f46_sh _ _ _ _ _ _ _ _ ⟨fun e => ?_, fun e => ?_⟩
    · have : left = 0 := by have := eq_of_beq e; omega
      subst this
      exact ⟨true, rfl, ⟨fun _ => can_zero, fun _ => rfl⟩, Fr.refl _ _, V⟩
    have h0 : left ≠ 0 := fun q => by subst q; simp at e
    refine (hst T h32 P sl).mono ?_
    rintro _ h1 ⟨rfl, x1⟩
    obtain ⟨kv, mk, sk⟩ := V
    have S1 := S.fr (x1.fr _)
    obtain ⟨c0, e0, hc0⟩ := sk (nm left s)
    refine ⟨_, rfl, some mb, by rw [hcell_row S1.row]; rfl, mb, rfl, kv, mk.ext x1, c0, e0, fun g => ?_, fun g => ?_⟩
    · exact ⟨false, rfl, ⟨fun q => (by cases q), fun q => absurd q (hc0 (of_decide_eq_true g) left s h32 rfl)⟩, x1.fr _, kv, mk.ext x1, sk⟩
    refine ⟨oa, _, oc, by rw [hcell_row S1.row]; rfl, fun v h2 => ∃ k : Nat, v = k ∧ k ≤ own.length ∧ Fr (fun b => b = mb) h h2 ∧ Vain nm h2 mb l own ∧ ∀ j i, j < k → own[j]? = some i → ¬ Good l own left s j i, fun v _ => own.length - v.toNat,
      ⟨0, rfl, Nat.zero_le _, x1.fr _, ⟨kv, mk.ext x1, sk⟩, fun j i q => by omega⟩, ?_⟩
    rintro _ h2 ⟨k, rfl, hkl, f2, V2, hg⟩
    have S2 := S.fr f2
    refine ⟨fun hlt => ?_, fun hge => ?_⟩
    · have hkl := lt_of_dec hlt
      have hk32 : k < 32 := by omega
      have eo : own[k]? = some own[k] := List.getElem?_eq_getElem hkl
      have hio := hin own[k] (List.getElem_mem hkl)
      obtain ⟨w, ew, w32, hw⟩ := hW k own[k] eo
      have hbit : (iband .u32 (Int.fdiv (left : Int) (2 ^ k)) 1 == 0) = !(left.testBit k) := by have := shr_bit hu k; rw [Int.toNat_natCast] at this; exact this
      have hwand : (iband .u32 (w : Int) (left : Int) != 0) = (w &&& left != 0) := by
        rw [and32 ⟨by omega, by omega⟩ hu, Int.toNat_natCast, Int.toNat_natCast, Bool.eq_iff_iff]
        simp only [bne_iff_ne, ne_eq]
        omega
      rw [min32 hk32, hbit]
      have stay : ∀ h3, (Fr (fun b => b = mb) h h3 ∧ Vain nm h3 mb l own ∧ ¬ Good l own left s k own[k]) →
          (∃ k' : Nat, IntKind.i64.wrap ((k : Int) + 1) = k' ∧ k' ≤ own.length ∧ Fr (fun b => b = mb) h h3 ∧ Vain nm h3 mb l own ∧ ∀ j i, j < k' → own[j]? = some i → ¬ Good l own left s j i) ∧ own.length - (IntKind.i64.wrap ((k : Int) + 1)).toNat < own.length - (k : Int).toNat := by
        rintro h3 ⟨f3, V3, ng⟩
        rw [wadd k (by omega)]
        refine ⟨⟨k + 1, rfl, hkl, f3, V3, fun j i hj hji => ?_⟩, by simp only [Int.toNat_natCast]; omega⟩
        by_cases e : j = k
        · subst e
          rw [eo] at hji; cases hji
          exact ng
        · exact hg j i (by omega) hji
      refine ⟨fun h3 => Fr (fun b => b = mb) h h3 ∧ Vain nm h3 mb l own ∧ ¬ Good l own left s k own[k], ⟨!(left.testBit k) || (w &&& left != 0), ⟨by omega, fun g1 => by rw [g1]; rfl, fun g1 => ?_⟩, fun g1 => ?_, fun g1 => ?_⟩, stay⟩
      · obtain ⟨wb, wo, ewa, dw⟩ := S2.sw.at ew
        exact ⟨wa, _, wc, by rw [hcell_row S2.row]; rfl, wb, wo, ewa, by omega, by omega, w, dw.1, by rw [hwand, g1]; rfl⟩
      · refine ⟨f2, V2, fun q => ?_⟩
        rw [q.1, Bool.not_true, Bool.false_or] at g1
        have := (wt_none hw).2 q.2.1
        rw [this] at g1; cases g1
      · rw [Bool.or_eq_false_iff] at g1
        obtain ⟨g2, g3⟩ := g1
        have hb : left.testBit k = true := by simpa using g2
        have hm : ∀ j, Rm own left j → ¬ ah (mv l j) (mv l own[k]) := (wt_none hw).1 (by simpa using g3)
        obtain ⟨ob, oo, eoa, dO⟩ := S2.so.at eo
        obtain ⟨lb, lo, ela, dl⟩ := S2.sl.at (List.getElem?_eq_getElem hio)
        have emv : mv l own[k] = l[own[k]] := mv_at hio
        refine ⟨la, _, lc, by rw [hcell_row S2.row]; rfl, oa, _, oc, by rw [hcell_row S2.row]; rfl, ob, oo, eoa, by omega, by omega, _, dO.1, lb, lo, ela, by omega, by omega, _, _, _, _, _, _, _, _, dl.1, dl.2.1, dl.2.2.1, dl.2.2.2.1, dl.2.2.2.2.1, dl.2.2.2.2.2.1, dl.2.2.2.2.2.2.1, dl.2.2.2.2.2.2.2.1, (next_c (sl.fr f2 ne) (hPl s P) l[own[k]]).mono ?_⟩
        rintro _ h4 ⟨a4, c4, rfl, x4, s4, w4⟩
        rw [← emv] at s4 ⊢
        have f4 : Fr (fun b => b = mb) h h4 := f2.trans (x4.fr _) fun _ _ q => q
        refine ⟨a4, _, c4, rfl, fun r h5 => (r = true → Cmp l (Rm own left) fun _ => s) ∧ (r = false → ¬ Good l own left s k own[k]) ∧ Fr (fun b => b = mb) h h5 ∧ Vain nm h5 mb l own, ⟨fun g5 => ⟨by omega, ?_⟩, fun g5 => ⟨fun q => (by cases q), fun _ q => ?_, f4, V2.ext x4⟩⟩, ?_⟩
        · rw [andn32 hu hk32, Int.toNat_natCast]
          have hmb : mb < h2.size := by obtain ⟨kv2, m2, _⟩ := V2; exact m2.lt
          refine (ih (clr left k) (by have := clr_less h32 hb; omega) (S.fr f4) (V2.ext x4) (hTb _ _ f4 T) (clr_le h32 hl) (hPn s own[k] P (List.getElem_mem hkl)) s4 fun b hb2 => ?_).mono ?_
          · have := (w4.low hb2).1; omega
          · rintro _ h6 ⟨r, rfl, hr, f6, V6⟩
            have hne : next s (mv l own[k]) ≠ [] := fun q => by rw [q] at g5; simp at g5
            refine ⟨r, rfl, fun q => (can_iff hd hk hl h32 h0).2 ⟨k, own[k], eo, hb, hm, hne, hr.1 q⟩, fun q g => ?_, f4.trans f6 fun _ _ q => q, V6⟩
            rw [hr.2 g.2.2.2] at q; cases q
        · have hne := q.2.2.1
          cases hx : next s (mv l own[k]) with
          | nil => exact hne hx
          | cons y t => rw [hx] at g5; simp at g5
        · rintro r h5 ⟨q1, q2, f5, V5⟩
          refine ⟨fun g => ⟨true, rfl, ⟨fun _ => q1 g, fun _ => rfl⟩, f5, V5⟩, fun g => ⟨f5, V5, q2 g⟩⟩
    · have hkl : k = own.length := by have := ge_of_dec hge; omega
      subst hkl
      have hno : ¬ Cmp l (Rm own left) fun _ => s := fun q => by
        obtain ⟨k, i, e, g⟩ := (can_iff hd hk hl h32 h0).1 q
        exact hg k i (List.getElem?_eq_some_iff.1 e).1 e g
      obtain ⟨kv2, m2, sk2⟩ := V2
      obtain ⟨c2, e2, hc2⟩ := sk2 (nm left s)
      refine ⟨some mb, by rw [hcell_row S2.row]; rfl, mb, rfl, kv2, m2, c2, e2, kv2, m2, fun h7 o7 m7 => ⟨false, rfl, ⟨fun q => (by cases q), fun q => absurd q hno⟩, f2.trans o7.fr fun _ _ q => q, _, m7, fun nn => ?_⟩⟩
      rw [lk_kput]
      by_cases q : nn = nm left s
      · rw [if_pos q]
        refine ⟨_, rfl, fun _ left' s' hl' en => ?_⟩
        obtain ⟨k1, k2⟩ := hnm hl' h32 (en.trans q)
        rw [k1, k2]; exact hno
      · rw [if_neg q]; exact sk2 nn
end
end Go.Proofs.YtfjcciaabkjkgaaDoor
namespace Go.Proofs.YtfjcciaabkjkgaaDoor
open Go Ml
theorem sl_lt {α : Type} {E : Elt α} {h : Heap} {a : Option Addr} {c : Nat} {L : List α} (hk : 0 < E.k) (s : Sl E h a c L) (hp : 0 < L.length) {b : Nat} (hb : blkA a b) : b < h.size := by
  obtain ⟨b0, o, e, hc⟩ := s.addr hp
  rw [e, blkA_some] at hb
  subst hb
  have h1 := hc 0 _ (List.getElem?_eq_getElem hp)
  have hl : 0 < (E.enc L[0]).length := by rw [E.len]; exact hk
  have h2 := h1.get (j := 0) (v := (E.enc L[0])[0]) (List.getElem?_eq_getElem hl)
  refine Nat.lt_of_not_le fun q => ?_
  have hn : h[b]? = none := Array.getElem?_eq_none q
  unfold hcell at h2
  rw [hn] at h2
  cases h2
theorem own_typ {k : Nat} {T T' : TypeId} {N : Nat} {h : Heap} {a : Option Addr} {c b : Nat} {cs : Array Value} (w : Own k T N h a c) (r : h[b]? = some (.cells cs T' (0, 0))) (hT : T' ≠ T) : ¬ blkA a b := fun hb => by
  rcases w with ⟨e1, _⟩ | ⟨b', o', cs', e1, _, r1, _⟩
  · rw [e1] at hb; exact blkA_none hb
  · rw [e1, blkA_some] at hb; subst hb; rw [r1] at r; simp at r; exact hT r.2.symm
theorem own_map {κ : Type} {k : Nat} {T : TypeId} {N : Nat} {h : Heap} {a : Option Addr} {c mb : Nat} {enc : κ → Value} {kv : List (κ × Value)} (w : Own k T N h a c) (m : MapL h mb enc kv) : ¬ blkA a mb := fun hb => by
  rcases w with ⟨e1, _⟩ | ⟨b', o', cs', e1, _, r1, _⟩
  · rw [e1] at hb; exact blkA_none hb
  · rw [e1, blkA_some] at hb; subst hb
    obtain ⟨_, _, m1, _⟩ := m
    rw [r1] at m1; simp at m1
theorem shl32 {k : Nat} (hk : k < 32) : IntKind.u32.wrap (1 * 2 ^ k) = ((2 ^ k : Nat) : Int) ∧ U32 ((2 ^ k : Nat) : Int) := by
  have hp : (2 : Nat) ^ k < 2 ^ 32 := Nat.pow_lt_pow_right (by decide) hk
  have h2 : ((1 : Int) * 2 ^ k) = ((2 ^ k : Nat) : Int) := by simp
  have hu : U32 (((2 ^ k : Nat) : Int)) := ⟨Int.natCast_nonneg _, by generalize (2 : Nat) ^ k = z at hp; omega⟩
  rw [h2]
  exact ⟨w32 hu, hu⟩
theorem aW : AppT Tryd.prog 74 55 eW.k 4 := ⟨by kernel_rfl, by kernel_rfl, by kernel_rfl, ⟨.int .u32 0, [.int .u32 0], by unfold zeroB; kernel_rfl, rfl, rfl⟩, by decide⟩
set_option maxHeartbeats 4000000 in
theorem newSearch_c {h : Heap} {l : List Mv} {own : List Nat} {la oa : Option Addr} {lc oc : Nat} (sl : Sl eMv h la lc l) (so : Sl eN h oa oc own) (hne : 0 < own.length) (hol : own.length ≤ 31) (hin : ∀ i ∈ own, i < l.length) (hll : l.length ≤ 4611686018427387904) :
    HC Tryd.prog 28 #[.slice la l.length lc, .slice oa own.length oc] h fun v h' => Ext h h' ∧ ∃ p mb W wa wc, v = ptr p 0 ∧ h.size ≤ p ∧ p < h'.size ∧ h.size ≤ mb ∧ mb < h'.size ∧ Sch h' p mb l own W la oa wa lc oc wc ∧
      W.length = own.length ∧ (∀ (k : Nat) i, own[k]? = some i → ∃ w, W[k]? = some w ∧ w < 4294967296 ∧ Wt l own i w) ∧ MapL h' mb Value.string ([] : List (Str × Value)) ∧ ∀ b, blkA wa b → h.size ≤ b ∧ b < h'.size := by
  refine f28_sh _ _ _ _ _ _ _ _ fun mb h1 e1 x1 z1 m1 nb h2 e2 eh2 => ?_
  have x2 : Ext h1 h2 := by rw [eh2]; exact Ext.push _ _
  have r2 : h2[nb]? = some (.cells #[.slice la l.length lc, .slice oa own.length oc, .slice none 0 0, .map (some mb)] 76 (0, 0)) := by rw [eh2]; exact push_new e2
  clear eh2
  have s1 := x1.size
  have hnb : h.size ≤ nb := by omega
  have hmn : nb ≠ mb := by omega
  refine ⟨fun v h3 => ∃ (k : Nat) (W : List Nat) (wa : Option Addr) (wc : Nat), v = k ∧ k ≤ own.length ∧ W.length = k ∧ Ext h h3 ∧ h3[nb]? = some (.cells #[.slice la l.length lc, .slice oa own.length oc, .slice wa W.length wc, .map (some mb)] 76 (0, 0)) ∧
      Sl eW h3 wa wc W ∧ Own eW.k 55 h.size h3 wa wc ∧ MapL h3 mb Value.string ([] : List (Str × Value)) ∧ ∀ (j : Nat) i, j < k → own[j]? = some i → ∃ w, W[j]? = some w ∧ w < 4294967296 ∧ Wt l own i w,
    fun v _ => own.length - v.toNat, ⟨0, [], none, 0, rfl, Nat.zero_le _, rfl, x1.trans x2, r2, Sl.nil _ _, Own.nil _ _ _ _, m1.ext x2, fun j i q => by omega⟩, ?_⟩
  rintro _ h3 ⟨k, W, wa, wc, rfl, hk, hWk, x3, r3, sW, wW, m3, hW⟩
  refine ⟨fun hlt => ?_, fun hge => ?_⟩
  · have hkl := lt_of_dec hlt
    have eo : own[k]? = some own[k] := List.getElem?_eq_getElem hkl
    have hio := hin own[k] (List.getElem_mem hkl)
    obtain ⟨ob, oo, eoa, dO⟩ := (so.ext x3).at eo
    refine ⟨ob, oo, eoa, by omega, by omega, _, dO.1, fun ahead v => ∃ (j w : Nat), v = j ∧ j ≤ own.length ∧ ahead = w ∧ w < 4294967296 ∧ ∀ q, w.testBit q = true ↔ q < j ∧ ∃ i', own[q]? = some i' ∧ ah (mv l i') (mv l own[k]), fun _ v => own.length - v.toNat,
      ⟨0, 0, rfl, Nat.zero_le _, rfl, by decide, fun q => by rw [Nat.zero_testBit]; exact ⟨fun g => (by cases g), fun g => by omega⟩⟩, ?_⟩
    rintro _ _ ⟨j, w, rfl, hj, rfl, w32, hw⟩
    have huw : U32 (w : Int) := ⟨by omega, by omega⟩
    refine ⟨fun hlt2 => ?_, fun hge2 => ?_⟩
    · have hjl := lt_of_dec hlt2
      have hj32 : j < 32 := by omega
      have ej : own[j]? = some own[j] := List.getElem?_eq_getElem hjl
      have hij := hin own[j] (List.getElem_mem hjl)
      obtain ⟨ob2, oo2, eoa2, dO2⟩ := (so.ext x3).at ej
      rw [eoa] at eoa2; cases eoa2
      obtain ⟨lb, lo, ela, dl⟩ := (sl.ext x3).at (List.getElem?_eq_getElem hij)
      obtain ⟨lb2, lo2, ela2, dl2⟩ := (sl.ext x3).at (List.getElem?_eq_getElem hio)
      rw [ela] at ela2; cases ela2
      have e1 : mv l own[j] = l[own[j]] := mv_at hij
      have e2 : mv l own[k] = l[own[k]] := mv_at hio
      rw [min32 hj32]
      obtain ⟨sh1, sh2⟩ := shl32 hj32
      rw [sh1, or32 huw sh2]
      have hor : w ||| 2 ^ j < 4294967296 := by
        have := Nat.or_lt_two_pow (n := 32) (x := w) (y := 2 ^ j) (by simpa using w32) (Nat.pow_lt_pow_right (by decide) hj32)
        simpa using this
      refine ⟨if ah (mv l own[j]) (mv l own[k]) then ((w ||| 2 ^ j : Nat) : Int) else (w : Int), ⟨by omega, by omega, _, dO2.1, lb, lo, ela, by omega, by omega, _, _, _, _, _, _, _, _, dl.1, dl.2.1, dl.2.2.1, dl.2.2.2.1, dl.2.2.2.2.1, dl.2.2.2.2.2.1, dl.2.2.2.2.2.2.1, dl.2.2.2.2.2.2.2.1, by omega, by omega, _, _, _, _, _, _, _, _, dl2.1, dl2.2.1, dl2.2.2.1, dl2.2.2.2.1, dl2.2.2.2.2.1, dl2.2.2.2.2.2.1, dl2.2.2.2.2.2.2.1, dl2.2.2.2.2.2.2.2.1, fun g => ⟨by omega, ?_⟩, fun g => ?_⟩, ?_⟩
      · have g' : ah (mv l own[j]) (mv l own[k]) := by rw [e1, e2]; exact of_decide_eq_true g
        rw [if_pos g']; rfl
      · have g' : ¬ ah (mv l own[j]) (mv l own[k]) := by rw [e1, e2]; exact of_decide_eq_false g
        rw [if_neg g']
      · rw [wadd j (by omega)]
        refine ⟨⟨j + 1, if ah (mv l own[j]) (mv l own[k]) then w ||| 2 ^ j else w, rfl, hjl, by split <;> rfl, by split <;> assumption, fun q => ?_⟩, by simp only [Int.toNat_natCast]; omega⟩
        by_cases g : ah (mv l own[j]) (mv l own[k])
        · rw [if_pos g, Nat.testBit_or, Nat.testBit_two_pow]
          simp only [Bool.or_eq_true, decide_eq_true_eq]
          rw [hw q]
          constructor
          · rintro (⟨a, b⟩ | rfl)
            · exact ⟨by omega, b⟩
            · exact ⟨by omega, own[j], ej, g⟩
          · rintro ⟨a, b⟩
            by_cases e : j = q
            · exact .inr e
            · exact .inl ⟨by omega, b⟩
        · rw [if_neg g, hw q]
          constructor
          · rintro ⟨a, b⟩; exact ⟨by omega, b⟩
          · rintro ⟨a, i', e, b⟩
            refine ⟨?_, i', e, b⟩
            by_cases e' : j = q
            · subst e'; rw [ej] at e; cases e; exact absurd b g
            · omega
    · have hjl : j = own.length := by have := ge_of_dec hge2; omega
      subst hjl
      have hWt : Wt l own own[k] w := fun q => by
        rw [hw q]
        exact ⟨fun g => g.2, fun g => ⟨by obtain ⟨i', e, _⟩ := g; exact (List.getElem?_eq_some_iff.1 e).1, g⟩⟩
      refine ⟨wa, _, wc, by rw [hcell_row r3]; rfl, fun h4 x4 nb1 h7 en7 e7 => ?_⟩
      have r4 := x4.row r3
      refine app_one (x := w) aW en7 e7 rfl (x3.trans x4) (sW.ext x4) (wW.ext x4) rfl (by omega) fun a' c' h8 x8 f8 s8 w8 b8 => ⟨a', _, c', rfl, ?_⟩
      have r8 := f8.row r4 (own_typ (wW.ext x4) r4 (by decide))
      have m8 := (m3.ext x4).fr f8 (own_map (wW.ext x4) (m3.ext x4))
      refine ⟨HW_row r8 (by simp), fun h9 e9 => ?_⟩
      have f9 := fr_hset_of e9
      have n8 : ∀ b, blkA a' b → b ≠ nb := fun b hb q => own_typ w8 r8 (by decide) (by rw [← q]; exact hb)
      rw [wadd k (by omega)]
      refine ⟨⟨k + 1, W ++ [w], a', c', rfl, hkl, by simp [hWk], ext_of_fr f9 x8 hnb, by rw [e9, hset_row r8, List.length_append]; rfl, s8.fr f9 n8, w8.fr f9 n8, m8.fr f9 fun q => hmn q.symm, fun j i hj hji => ?_⟩, by simp only [Int.toNat_natCast]; omega⟩
      by_cases e : j = k
      · subst e
        rw [eo] at hji; cases hji
        exact ⟨w, by rw [List.getElem?_append_right (by omega), hWk]; simp, w32, hWt⟩
      · obtain ⟨w', k1, k2⟩ := hW j i (by omega) hji
        exact ⟨w', by rw [List.getElem?_append_left (by omega)]; exact k1, k2⟩
  · have hkl : k = own.length := by have := ge_of_dec hge; omega
    subst hkl
    have hl0 : 0 < l.length := by have := hin own[0] (List.getElem_mem hne); omega
    have s3 := x3.size
    refine ⟨x3, nb, mb, W, wa, wc, rfl, hnb, row_lt r3, by omega, m3.lt, ⟨r3, sl.ext x3, so.ext x3, sW, hmn, fun b hb => ?_, fun b hb => ?_, fun b hb q => own_map wW m3 (by rw [← q]; exact hb)⟩, hWk, fun k i e => hW k i (List.getElem?_eq_some_iff.1 e).1 e, m3, fun b hb => wW.low hb⟩
    · have := sl_lt (by decide) sl hl0 hb; omega
    · have := sl_lt (by decide) so hne hb; omega
end Go.Proofs.YtfjcciaabkjkgaaDoor
namespace Go.Proofs.YtfjcciaabkjkgaaDoor
open Go Ml
def Ml.chkL (L : List Mv) : Int := if ∀ x ∈ L, check x = 0 then 0 else 230
theorem check_two (m : Mv) : check m = 0 ∨ check m = 230 := by unfold check; split; exact .inr rfl; exact .inl rfl
theorem chk_no {L : List Mv} {x : Mv} (hx : x ∈ L) (h : check x ≠ 0) : check x = 230 ∧ chkL L = 230 :=
  ⟨(check_two x).resolve_left h, by unfold chkL; rw [if_neg fun q => h (q x hx)]⟩
theorem right_c {h : Heap} {a : Option Addr} {c : Nat} {L : List Mv} (s : Sl eMv h a c L) (hl : L.length ≤ 4611686018427387904) : HC Tryd.prog 11 #[.slice a L.length c] h fun v h' => v = .int .i64 (chkL L) ∧ Ext h h' := by
  refine f11_sh _ _ _ _ _ ⟨fun v => ∃ k : Nat, v = k ∧ k ≤ L.length ∧ ∀ x ∈ L.take k, check x = 0, fun v => L.length - v.toNat, ⟨0, rfl, Nat.zero_le _, fun x hx => by simp at hx⟩, ?_⟩
  rintro _ ⟨k, rfl, hk, hI⟩
  refine ⟨fun hlt => ?_, fun hge h1 x1 => ?_⟩
  · have hkl := lt_of_dec hlt
    obtain ⟨b, o, e, d⟩ := s.at (List.getElem?_eq_getElem hkl)
    refine ⟨b, o, e, by omega, by omega, _, _, _, _, _, _, _, _, d.1, d.2.1, d.2.2.1, d.2.2.2.1, d.2.2.2.2.1, d.2.2.2.2.2.1, d.2.2.2.2.2.2.1, d.2.2.2.2.2.2.2.1, fun g h4 x4 => ?_, fun g => ?_⟩
    · obtain ⟨k1, k2⟩ := chk_no (List.getElem_mem hkl) (show check L[k] ≠ 0 from by simpa using g)
      rw [k2, ← k1]; exact ⟨rfl, x4⟩
    · rw [wadd k (by omega)]
      refine ⟨⟨k + 1, rfl, hkl, fun x hx => ?_⟩, by simp only [Int.toNat_natCast]; omega⟩
      rw [List.take_add_one, List.getElem?_eq_getElem hkl] at hx
      rcases List.mem_append.1 hx with hx | hx
      · exact hI x hx
      · have : x = L[k] := by simpa using hx
        rw [this]; simpa using g
  · have hkl : k = L.length := by have := ge_of_dec hge; omega
    subst hkl
    rw [List.take_length] at hI
    unfold chkL
    rw [if_pos hI]; exact ⟨rfl, x1⟩
theorem rcheck_l {h : Heap} {a : Option Addr} {c : Nat} {L : List Mv} (s : Sl eMv h a c L) (hl : L.length ≤ 4611686018427387904) : HC Tryd.prog 9 #[.slice a L.length c] h fun v h' => v = .int .i64 (chkL L) ∧ Ext h h' := by
  refine f9_sh _ _ _ _ _ ⟨fun v => ∃ k : Nat, v = k ∧ k ≤ L.length ∧ ∀ x ∈ L.take k, check x = 0, fun v => L.length - v.toNat, ⟨0, rfl, Nat.zero_le _, fun x hx => by simp at hx⟩, ?_⟩
  rintro _ ⟨k, rfl, hk, hI⟩
  refine ⟨fun hlt => ?_, fun hge h1 x1 => ?_⟩
  · have hkl := lt_of_dec hlt
    obtain ⟨b, o, e, d⟩ := s.at (List.getElem?_eq_getElem hkl)
    refine ⟨b, o, e, by omega, by omega, _, _, _, _, _, _, _, _, d.1, d.2.1, d.2.2.1, d.2.2.2.1, d.2.2.2.2.1, d.2.2.2.2.2.1, d.2.2.2.2.2.2.1, d.2.2.2.2.2.2.2.1, fun g h4 x4 => ?_, fun g => ?_⟩
    · obtain ⟨k1, k2⟩ := chk_no (List.getElem_mem hkl) (show check L[k] ≠ 0 from by simpa using g)
      rw [k2]; exact ⟨rfl, x4⟩
    · rw [wadd k (by omega)]
      refine ⟨⟨k + 1, rfl, hkl, fun x hx => ?_⟩, by simp only [Int.toNat_natCast]; omega⟩
      rw [List.take_add_one, List.getElem?_eq_getElem hkl] at hx
      rcases List.mem_append.1 hx with hx | hx
      · exact hI x hx
      · have : x = L[k] := by simpa using hx
        rw [this]; simpa using g
  · have hkl : k = L.length := by have := ge_of_dec hge; omega
    subst hkl
    rw [List.take_length] at hI
    unfold chkL
    rw [if_pos hI]; exact ⟨rfl, x1⟩
theorem aN : AppT Tryd.prog 23 3 eN.k 8 := ⟨by kernel_rfl, by kernel_rfl, by kernel_rfl, ⟨.int .i64 0, [.int .i64 0], by unfold zeroB; kernel_rfl, rfl, rfl⟩, by decide⟩
theorem clone_n {h : Heap} {a : Option Addr} {c : Nat} {L : List Nat} (s : Sl eN h a c L) (hl : L.length ≤ 1099511627776) : HC Tryd.prog 26 #[.slice a L.length c] h fun v h' => New eN 3 h h' v L := by
  refine f26_sh _ _ _ _ _ ⟨fun g => ?_, fun g nb h1 e1 eh1 => ?_⟩
  · have ha : a = none := by simpa using g
    have hL : L = [] := by
      rcases Nat.eq_zero_or_pos L.length with q | q
      · exact List.eq_nil_of_length_eq_zero q
      · obtain ⟨b, o, e, _⟩ := s.addr q
        rw [ha] at e; cases e
    subst hL
    exact New.nil (Ext.refl _)
  · have x1 : Ext h h1 := by rw [eh1]; exact Ext.push _ _
    have r1 : h1[nb]? = some (.cells #[] 3 (0, 0)) := by rw [eh1]; exact push_new e1
    have s0 : Sl eN h1 (some ⟨nb, 0, none⟩) 0 [] := Sl.lit (L := []) (E := eN) r1
    have w0 : Own eN.k 3 h.size h1 (some ⟨nb, 0, none⟩) 0 := Own.lit (L := ([] : List Nat)) (E := eN) r1 (by omega)
    refine app_own (n := 0) aN x1 s0 w0 rfl (s.ext x1) rfl (by omega) fun a' c' h2 x2 _ s2 w2 _ => ⟨a', _, c', rfl, ?_⟩
    rw [List.nil_append] at s2
    rw [Nat.zero_add]
    exact ⟨a', c', rfl, x2, s2, w2⟩
theorem some_n {h : Heap} {a : Option Addr} {c : Nat} {L : List Nat} {f : Value} {Q : Nat → Bool} (s : Sl eN h a c L) (hl : L.length ≤ 4611686018427387904) (hf : ∀ h' x, Ext h h' → x ∈ L → HCV Tryd.prog f [.int .i64 (x : Nat)] h' fun v h2 => v = .bool (Q x) ∧ Ext h' h2) :
    HC Tryd.prog 31 #[.slice a L.length c, f] h fun v h' => v = .bool (L.any Q) ∧ Ext h h' := by
  refine f31_sh _ _ _ _ _ _ (f45_sh _ _ _ _ _ _ ⟨fun v h1 => ∃ k : Nat, v = k ∧ k ≤ L.length ∧ Ext h h1 ∧ ∀ x ∈ L.take k, Q x = false, fun v _ => L.length - v.toNat, ⟨0, rfl, Nat.zero_le _, Ext.refl _, fun x hx => by simp at hx⟩, ?_⟩)
  rintro _ h1 ⟨k, rfl, hk, x1, hI⟩
  refine ⟨fun hlt => ?_, fun hge => ?_⟩
  · have hkl := lt_of_dec hlt
    obtain ⟨b, o, e, d⟩ := (s.ext x1).at (List.getElem?_eq_getElem hkl)
    refine ⟨b, o, e, by omega, by omega, _, d.1, (hf h1 L[k] x1 (List.getElem_mem hkl)).mono ?_⟩
    rintro _ h2 ⟨rfl, x2⟩
    refine ⟨_, rfl, fun g => ⟨_, rfl, ?_, x1.trans x2⟩, fun g => ?_⟩
    · have : L.any Q = true := List.any_eq_true.2 ⟨L[k], List.getElem_mem hkl, g⟩
      rw [this]
      have hd : decide (((k : Nat) : Int) ≥ 0) = true := decide_eq_true (by omega)
      rw [hd]
    · rw [wadd k (by omega)]
      refine ⟨⟨k + 1, rfl, hkl, x1.trans x2, fun x hx => ?_⟩, by simp only [Int.toNat_natCast]; omega⟩
      rw [List.take_add_one, List.getElem?_eq_getElem hkl] at hx
      rcases List.mem_append.1 hx with hx | hx
      · exact hI x hx
      · have : x = L[k] := by simpa using hx
        rw [this]; exact g
  · have hkl : k = L.length := by have := ge_of_dec hge; omega
    subst hkl
    rw [List.take_length] at hI
    refine ⟨_, rfl, ?_, x1⟩
    have : L.any Q = false := by
      rw [Bool.eq_false_iff]
      intro q
      obtain ⟨x, hx, hq⟩ := List.any_eq_true.1 q
      rw [hI x hx] at hq; cases hq
    rw [this]
    rfl
end Go.Proofs.YtfjcciaabkjkgaaDoor
namespace Go.Proofs.YtfjcciaabkjkgaaDoor
open Go Ml
def eZ : Elt Int := ⟨1, fun n => [.int .i64 n], fun _ => rfl, fun x v hv => by simp at hv; subst hv; rfl⟩
def Ml.GoodO (l : List Mv) (P : List Nat) : Prop := (∀ i ∈ P, i < l.length) ∧ P.Nodup ∧ P.Pairwise fun i j => ¬ ah (mv l j) (mv l i)
def Ml.WitR (l : List Mv) (O : List Int) (r : Int) : Prop :=
  (chkL l ≠ 0 ∧ r = 230) ∨ (chkL l = 0 ∧ ((O.length ≠ l.length ∨ ¬ ∃ P : List Nat, O = P.map (fun (i : Nat) => (i : Int)) ∧ GoodO l P) ∧ r = 84 ∨
    O.length = l.length ∧ ∃ P : List Nat, O = P.map (fun (i : Nat) => (i : Int)) ∧ GoodO l P ∧ ((¬ Acc (P.map (mv l)) ∧ r = 251) ∨ (Acc (P.map (mv l)) ∧ r = 0))))
theorem map_inj : ∀ {P Q : List Nat}, P.map (fun (i : Nat) => (i : Int)) = Q.map (fun (i : Nat) => (i : Int)) → P = Q
  | [], [], _ => rfl
  | [], _ :: _, h => by cases h
  | _ :: _, [], h => by cases h
  | a :: P, b :: Q, h => by
    simp only [List.map_cons, List.cons.injEq] at h
    rw [map_inj h.2, show a = b by omega]
theorem Ml.WitR.unique {l : List Mv} {O : List Int} {r q : Int} (a : WitR l O r) (b : WitR l O q) : r = q := by
  rcases a with ⟨a1, rfl⟩ | ⟨a1, a2⟩ <;> rcases b with ⟨b1, rfl⟩ | ⟨b1, b2⟩
  · rfl
  · exact absurd b1 a1
  · exact absurd a1 b1
  · rcases a2 with ⟨a2, rfl⟩ | ⟨a2, P, a3, a4, a5⟩ <;> rcases b2 with ⟨b2, rfl⟩ | ⟨b2, Q, b3, b4, b5⟩
    · rfl
    · rcases a2 with a2 | a2
      · exact absurd b2 a2
      · exact absurd ⟨Q, b3, b4⟩ a2
    · rcases b2 with b2 | b2
      · exact absurd a2 b2
      · exact absurd ⟨P, a3, a4⟩ b2
    · have := map_inj (a3.symm.trans b3)
      subst this
      rcases a5 with ⟨a5, rfl⟩ | ⟨a5, rfl⟩ <;> rcases b5 with ⟨b5, rfl⟩ | ⟨b5, rfl⟩
      · rfl
      · exact absurd b5 a5
      · exact absurd a5 b5
      · rfl
theorem bad_step {l : List Mv} {O : List Int} {P : List Nat} {k : Nat} (hk : O.take k = P.map fun (i : Nat) => (i : Int)) {x : Int} (hx : O[k]? = some x) (hb : ∀ i : Nat, x = i → i < l.length → i ∉ P → ∃ y ∈ P, ah (mv l i) (mv l y)) :
    ¬ ∃ P : List Nat, O = P.map (fun (i : Nat) => (i : Int)) ∧ GoodO l P := by
  rintro ⟨Q, rfl, g1, g2, g3⟩
  rw [← List.map_take] at hk
  have hQ := map_inj hk
  rw [List.getElem?_map] at hx
  cases hq : Q[k]? with
  | none => rw [hq] at hx; cases hx
  | some i =>
    rw [hq] at hx
    simp only [Option.map_some, Option.some.injEq] at hx
    have hkl := (List.getElem?_eq_some_iff.1 hq).1
    have hik := (List.getElem?_eq_some_iff.1 hq).2
    have hdec : Q = P ++ i :: Q.drop (k + 1) := by
      rw [← hQ, ← hik, List.getElem_cons_drop, List.take_append_drop]
    rw [hdec] at g2 g3
    obtain ⟨p1, p2, p3⟩ := List.pairwise_append.1 g3
    obtain ⟨n1, n2, n3⟩ := List.nodup_append.1 g2
    obtain ⟨y, hy, a⟩ := hb i hx.symm (g1 i (List.mem_of_getElem? hq)) fun h => n3 i h i (by simp) rfl
    exact p3 y hy i (by simp) a
end Go.Proofs.YtfjcciaabkjkgaaDoor
namespace Go.Proofs.YtfjcciaabkjkgaaDoor
open Go Ml
theorem chk_val {l : List Mv} (h : chkL l ≠ 0) : chkL l = 230 := by unfold chkL at *; split at h; exact absurd rfl h; rename_i q; rw [if_neg q]
def Sn (h : Heap) (nb n : Nat) (P : List Nat) : Prop := ∃ cs : Array Value, h[nb]? = some (.cells cs 4 (0, 0)) ∧ cs.size = n ∧ ∀ i, i < n → cs[i]? = some (.bool (decide (i ∈ P)))
set_option maxHeartbeats 4000000 in
theorem witness_c {h : Heap} {la oa : Option Addr} {lc oc : Nat} {l : List Mv} {O : List Int} (sl : Sl eMv h la lc l) (so : Sl eZ h oa oc O) (hl : l.length ≤ 1048576) (hO : O.length ≤ 1048576) :
    HC Tryd.prog 6 #[.slice la l.length lc, .slice oa O.length oc] h fun v h' => Ext h h' ∧ ∃ r, v = .int .i64 r ∧ WitR l O r := by
  refine f6_sh _ _ _ _ _ _ _ _ ((right_c sl (by omega)).mono ?_)
  rintro _ h1 ⟨rfl, x1⟩
  refine ⟨_, rfl, fun g => ?_, fun g => ?_⟩
  · have g : chkL l ≠ 0 := by simpa using g
    exact ⟨x1, _, rfl, .inl ⟨g, chk_val g⟩⟩
  have h0 : chkL l = 0 := by simpa using g
  refine ⟨fun g2 => ⟨x1, 84, rfl, .inr ⟨h0, .inl ⟨.inl fun q => ?_, rfl⟩⟩⟩, fun g2 => ⟨by omega, by omega, by omega, fun nb h2 e2 eh2 => ?_⟩⟩
  · rw [q] at g2; simp at g2
  have hlen : O.length = l.length := by have : (O.length : Int) = l.length := by simpa using g2
                                        omega
  have bad : ∀ {h' : Heap}, Ext h h' → (¬ ∃ P : List Nat, O = P.map (fun (i : Nat) => (i : Int)) ∧ GoodO l P) → Ext h h' ∧ ∃ r, Value.int .i64 84 = .int .i64 r ∧ WitR l O r := fun x q => ⟨x, 84, rfl, .inr ⟨h0, .inl ⟨.inr q, rfl⟩⟩⟩
  have x2 : Ext h1 h2 := by rw [eh2]; exact Ext.push _ _
  have s1 := x1.size
  have hnb : h.size ≤ nb := by omega
  have z2 : Sn h2 nb l.length [] := by
    refine ⟨_, by rw [eh2]; exact push_new e2, ?_, fun i hi => ?_⟩
    · rw [List.size_toArray, zcells_length, Int.toNat_natCast]; simp
    · rw [List.getElem?_toArray, zcells_getElem _ _ _ (by rw [Int.toNat_natCast]; simpa using hi)]
      simp [Nat.mod_one]
  refine ⟨fun mo mn mc v h3 => ∃ (k : Nat) (P : List Nat), v = k ∧ k ≤ O.length ∧ O.take k = P.map (fun (i : Nat) => (i : Int)) ∧ GoodO l P ∧ mn = (P.map (mv l)).length ∧ Ext h h3 ∧ Sl eMv h3 mo mc (P.map (mv l)) ∧ Own eMv.k tMv h.size h3 mo mc ∧ Sn h3 nb l.length P,
    fun _ _ _ v _ => O.length - v.toNat, ⟨0, [], rfl, Nat.zero_le _, rfl, ⟨fun i hi => by simp at hi, List.nodup_nil, List.Pairwise.nil⟩, rfl, x1.trans x2, Sl.nil _ _, Own.nil _ _ _ _, z2⟩, ?_⟩
  rintro mo _ mc _ h3 ⟨k, P, rfl, hk, hP, gP, rfl, x3, s3, w3, cs, rn, hcs, hc⟩
  refine ⟨fun hlt => ?_, fun hge => ?_⟩
  · have hkl := lt_of_dec hlt
    have eO : O[k]? = some O[k] := List.getElem?_eq_getElem hkl
    obtain ⟨ob, oo, eo, d⟩ := (so.ext x3).at eO
    have hbad := bad_step (l := l) hP eO
    have hPl : P.length ≤ l.length := by have := congrArg List.length hP; rw [List.length_take, List.length_map] at this; omega
    generalize O[k] = x at *
    refine ⟨ob, oo, eo, by omega, by omega, x, d.1, (decide (x < 0) || (decide (x ≥ l.length) || decide (x.toNat ∈ P))), ⟨fun q => by rw [q]; rfl, fun q => ⟨fun q2 => by rw [q, q2]; rfl, fun q2 => ?_⟩⟩, fun q => ?_, fun q => ?_⟩
    · have p1 := of_decide_eq_false q
      have p2 := of_decide_eq_false q2
      refine ⟨by omega, by rw [Int.toNat_natCast]; omega, decide (x.toNat ∈ P), ?_, by rw [q, q2]; rfl⟩
      rw [hcell_row rn, Nat.zero_add, Nat.mul_one]
      exact hc _ (by omega)
    · refine bad x3 (hbad fun i e hi hn => ?_)
      subst e
      simp only [Bool.or_eq_true, decide_eq_true_eq, Int.toNat_natCast] at q
      rcases q with q | q | q
      · omega
      · omega
      · exact absurd q hn
    · simp only [Bool.or_eq_false_iff, decide_eq_false_iff_not] at q
      obtain ⟨q1, q2, q3⟩ := q
      obtain ⟨i, rfl⟩ : ∃ i : Nat, x = i := ⟨x.toNat, by omega⟩
      rw [Int.toNat_natCast] at q3
      have hil : i < l.length := by omega
      obtain ⟨lb, lo, ela, dl⟩ := sl.at (List.getElem?_eq_getElem hil)
      have emv : mv l i = l[i] := mv_at hil
      refine ⟨by omega, by rw [Int.toNat_natCast]; omega, HW_row rn (by rw [Int.toNat_natCast]; omega), fun h4 e4 => ?_⟩
      rw [Int.toNat_natCast, Nat.zero_add, Nat.mul_one] at e4
      have f4 := fr_hset_of e4
      have x4 : Ext h h4 := ext_of_fr f4 x3 hnb
      have nm : ∀ b, blkA mo b → b ≠ nb := fun b hb e => own_typ w3 rn (by decide) (by rw [← e]; exact hb)
      have s4 := s3.fr f4 nm
      have w4 := w3.fr f4 nm
      have z4 : Sn h4 nb l.length (P ++ [i]) := ⟨cs.setIfInBounds i (.bool true), by rw [e4, hset_row rn], by simpa using hcs, fun j hj => by
        by_cases e : j = i
        · subst e; rw [Array.getElem?_setIfInBounds_self_of_lt (by omega)]; simp
        · rw [Array.getElem?_setIfInBounds_ne (fun q => e q.symm), hc j hj]; simp [e]⟩
      have dl4 := (sl.ext x4).at (List.getElem?_eq_getElem hil)
      obtain ⟨lb, lo, ela, dl⟩ := dl4
      refine ⟨fun v1 => ∃ j : Nat, v1 = j ∧ j ≤ P.length ∧ ∀ y ∈ P.take j, ¬ ah (mv l i) (mv l y), fun v1 => P.length - v1.toNat, ⟨0, rfl, Nat.zero_le _, fun y hy => by simp at hy⟩, ?_⟩
      rintro _ ⟨j, rfl, hj, hI⟩
      rw [List.length_map]
      refine ⟨fun hlt2 => ?_, fun hge2 => ?_⟩
      · have hjl := lt_of_dec hlt2
        have em : (P.map (mv l))[j]? = some (mv l P[j]) := by rw [List.getElem?_map, List.getElem?_eq_getElem hjl]; rfl
        obtain ⟨mb, mo', emo, dm⟩ := s4.at em
        refine ⟨mb, mo', emo, by omega, by omega, _, _, _, _, _, _, _, _, dm.1, dm.2.1, dm.2.2.1, dm.2.2.2.1, dm.2.2.2.2.1, dm.2.2.2.2.2.1, dm.2.2.2.2.2.2.1, dm.2.2.2.2.2.2.2.1, lb, lo, ela, by omega, by omega, _, _, _, _, _, _, _, _, dl.1, dl.2.1, dl.2.2.1, dl.2.2.2.1, dl.2.2.2.2.1, dl.2.2.2.2.2.1, dl.2.2.2.2.2.2.1, dl.2.2.2.2.2.2.2.1, fun g8 h8 x8 => ?_, fun g8 => ?_⟩
        · have g8 : ah l[i] (mv l P[j]) := of_decide_eq_true g8
          exact bad (x4.trans x8) (hbad fun i' e _ _ => ⟨P[j], List.getElem_mem hjl, by rw [show i' = i by omega, emv]; exact g8⟩)
        · have g8 : ¬ ah l[i] (mv l P[j]) := of_decide_eq_false g8
          rw [wadd j (by omega)]
          refine ⟨⟨j + 1, rfl, hjl, fun y hy => ?_⟩, by simp only [Int.toNat_natCast]; omega⟩
          rw [List.take_add_one, List.getElem?_eq_getElem hjl] at hy
          rcases List.mem_append.1 hy with hy | hy
          · exact hI y hy
          · have : y = P[j] := by simpa using hy
            rw [this, emv]; exact g8
      · have hjl : j = P.length := by have := ge_of_dec hge2; omega
        subst hjl
        rw [List.take_length] at hI
        refine ⟨lb, lo, ela, by omega, by omega, _, _, _, _, _, _, _, _, dl.1, dl.2.1, dl.2.2.1, dl.2.2.2.1, dl.2.2.2.2.1, dl.2.2.2.2.2.1, dl.2.2.2.2.2.2.1, dl.2.2.2.2.2.2.2.1, fun h5 x5 nb1 h9 en9 e9 => ?_⟩
        refine app_one (x := l[i]) aMv en9 e9 rfl (x4.trans x5) (s4.ext x5) (w4.ext x5) (by rw [List.length_map]) (by omega) fun a' c' h10 x10 f10 s10 w10 b10 => ⟨a', _, c', rfl, ?_⟩
        have z10 : Sn h10 nb l.length (P ++ [i]) := by
          obtain ⟨cs4, r4, k1, k2⟩ := z4
          exact ⟨cs4, f10.row (x5.row r4) (own_typ (w4.ext x5) (x5.row r4) (by decide)), k1, k2⟩
        rw [wadd k (by omega)]
        refine ⟨⟨k + 1, P ++ [i], rfl, hkl, ?_, ⟨fun y hy => ?_, ?_, ?_⟩, by simp, x10, by rw [List.map_append, List.map_singleton, emv]; exact s10, w10, z10⟩, by simp only [Int.toNat_natCast]; omega⟩
        · rw [List.take_add_one, eO, hP, List.map_append]; rfl
        · rcases List.mem_append.1 hy with hy | hy
          · exact gP.1 y hy
          · rw [List.mem_singleton.1 hy]; exact hil
        · exact List.nodup_append.2 ⟨gP.2.1, List.nodup_cons.2 ⟨List.not_mem_nil, List.nodup_nil⟩, fun y hy z hz => by rw [List.mem_singleton.1 hz]; exact fun e => q3 (by rw [← e]; exact hy)⟩
        · exact List.pairwise_append.2 ⟨gP.2.2, List.pairwise_singleton _ _, fun y hy z hz => by rw [List.mem_singleton.1 hz]; exact hI y hy⟩
  · have hkl : k = O.length := by have := ge_of_dec hge; omega
    subst hkl
    rw [List.take_length] at hP
    have hPl : P.length = O.length := by rw [hP, List.length_map]
    refine (accepts_c s3 (by rw [List.length_map]; omega)).mono ?_
    rintro _ h11 ⟨x11, ok, n, rfl, hA⟩
    refine ⟨ok, n, rfl, fun q => ⟨x3.trans x11, 251, rfl, .inr ⟨h0, .inr ⟨hlen, P, hP, gP, .inl ⟨fun a => ?_, rfl⟩⟩⟩⟩, fun q => ⟨x3.trans x11, 0, rfl, .inr ⟨h0, .inr ⟨hlen, P, hP, gP, .inr ⟨hA.ok_iff.1 (by simpa using q), rfl⟩⟩⟩⟩⟩
    have := hA.ok_iff.2 a
    rw [this] at q; cases q
end Go.Proofs.YtfjcciaabkjkgaaDoor
namespace Go.Proofs.YtfjcciaabkjkgaaDoor
open Go Ml
set_option maxHeartbeats 4000000 in
theorem rwitness_c {h : Heap} {la oa : Option Addr} {lc oc : Nat} {l : List Mv} {O : List Int} (sl : Sl eMv h la lc l) (so : Sl eZ h oa oc O) (hl : l.length ≤ 1048576) (hO : O.length ≤ 1048576) :
    HC Tryd.prog 7 #[.slice la l.length lc, .slice oa O.length oc] h fun v h' => Ext h h' ∧ ∃ r, v = .int .i64 r ∧ WitR l O r := by
  refine f7_sh _ _ _ _ _ _ _ _ ((rcheck_l sl (by omega)).mono ?_)
  rintro _ h1 ⟨rfl, x1⟩
  refine ⟨_, rfl, fun g => ?_, fun g => ?_⟩
  · have g : chkL l ≠ 0 := by simpa using g
    exact ⟨x1, _, rfl, .inl ⟨g, chk_val g⟩⟩
  have h0 : chkL l = 0 := by simpa using g
  refine ⟨fun g2 => ⟨x1, 84, rfl, .inr ⟨h0, .inl ⟨.inl fun q => ?_, rfl⟩⟩⟩, fun g2 => ⟨by omega, by omega, by omega, fun nb h2 e2 eh2 => ?_⟩⟩
  · rw [q] at g2; simp at g2
  have hlen : O.length = l.length := by have : (O.length : Int) = l.length := by simpa using g2
                                        omega
  have bad : ∀ {h' : Heap}, Ext h h' → (¬ ∃ P : List Nat, O = P.map (fun (i : Nat) => (i : Int)) ∧ GoodO l P) → Ext h h' ∧ ∃ r, Value.int .i64 84 = .int .i64 r ∧ WitR l O r := fun x q => ⟨x, 84, rfl, .inr ⟨h0, .inl ⟨.inr q, rfl⟩⟩⟩
  have x2 : Ext h1 h2 := by rw [eh2]; exact Ext.push _ _
  have s1 := x1.size
  have hnb : h.size ≤ nb := by omega
  have z2 : Sn h2 nb l.length [] := by
    refine ⟨_, by rw [eh2]; exact push_new e2, ?_, fun i hi => ?_⟩
    · rw [List.size_toArray, zcells_length, Int.toNat_natCast]; simp
    · rw [List.getElem?_toArray, zcells_getElem _ _ _ (by rw [Int.toNat_natCast]; simpa using hi)]
      simp [Nat.mod_one]
  refine ⟨fun mo mn mc v h3 => ∃ (k : Nat) (P : List Nat), v = k ∧ k ≤ O.length ∧ O.take k = P.map (fun (i : Nat) => (i : Int)) ∧ GoodO l P ∧ mn = (P.map (mv l)).length ∧ Ext h h3 ∧ Sl eMv h3 mo mc (P.map (mv l)) ∧ Own eMv.k tMv h.size h3 mo mc ∧ Sn h3 nb l.length P,
    fun _ _ _ v _ => O.length - v.toNat, ⟨0, [], rfl, Nat.zero_le _, rfl, ⟨fun i hi => by simp at hi, List.nodup_nil, List.Pairwise.nil⟩, rfl, x1.trans x2, Sl.nil _ _, Own.nil _ _ _ _, z2⟩, ?_⟩
  rintro mo _ mc _ h3 ⟨k, P, rfl, hk, hP, gP, rfl, x3, s3, w3, cs, rn, hcs, hc⟩
  refine ⟨fun hlt => ?_, fun hge => ?_⟩
  · have hkl := lt_of_dec hlt
    have eO : O[k]? = some O[k] := List.getElem?_eq_getElem hkl
    obtain ⟨ob, oo, eo, d⟩ := (so.ext x3).at eO
    have hbad := bad_step (l := l) hP eO
    have hPl : P.length ≤ l.length := by have := congrArg List.length hP; rw [List.length_take, List.length_map] at this; omega
    generalize O[k] = x at *
    refine ⟨ob, oo, eo, by omega, by omega, x, d.1, (decide (x < 0) || (decide (x ≥ l.length) || decide (x.toNat ∈ P))), ⟨fun q => by rw [q]; rfl, fun q => ⟨fun q2 => by rw [q, q2]; rfl, fun q2 => ?_⟩⟩, fun q => ?_, fun q => ?_⟩
    · have p1 := of_decide_eq_false q
      have p2 := of_decide_eq_false q2
      refine ⟨by omega, by rw [Int.toNat_natCast]; omega, decide (x.toNat ∈ P), ?_, by rw [q, q2]; rfl⟩
      rw [hcell_row rn, Nat.zero_add, Nat.mul_one]
      exact hc _ (by omega)
    · refine bad x3 (hbad fun i e hi hn => ?_)
      subst e
      simp only [Bool.or_eq_true, decide_eq_true_eq, Int.toNat_natCast] at q
      rcases q with q | q | q
      · omega
      · omega
      · exact absurd q hn
    · simp only [Bool.or_eq_false_iff, decide_eq_false_iff_not] at q
      obtain ⟨q1, q2, q3⟩ := q
      obtain ⟨i, rfl⟩ : ∃ i : Nat, x = i := ⟨x.toNat, by omega⟩
      rw [Int.toNat_natCast] at q3
      have hil : i < l.length := by omega
      obtain ⟨lb, lo, ela, dl⟩ := sl.at (List.getElem?_eq_getElem hil)
      have emv : mv l i = l[i] := mv_at hil
      refine ⟨by omega, by rw [Int.toNat_natCast]; omega, HW_row rn (by rw [Int.toNat_natCast]; omega), fun h4 e4 => ?_⟩
      rw [Int.toNat_natCast, Nat.zero_add, Nat.mul_one] at e4
      have f4 := fr_hset_of e4
      have x4 : Ext h h4 := ext_of_fr f4 x3 hnb
      have nm : ∀ b, blkA mo b → b ≠ nb := fun b hb e => own_typ w3 rn (by decide) (by rw [← e]; exact hb)
      have s4 := s3.fr f4 nm
      have w4 := w3.fr f4 nm
      have z4 : Sn h4 nb l.length (P ++ [i]) := ⟨cs.setIfInBounds i (.bool true), by rw [e4, hset_row rn], by simpa using hcs, fun j hj => by
        by_cases e : j = i
        · subst e; rw [Array.getElem?_setIfInBounds_self_of_lt (by omega)]; simp
        · rw [Array.getElem?_setIfInBounds_ne (fun q => e q.symm), hc j hj]; simp [e]⟩
      have dl4 := (sl.ext x4).at (List.getElem?_eq_getElem hil)
      obtain ⟨lb, lo, ela, dl⟩ := dl4
      have hPk : P.length = k := by have := congrArg List.length hP; rw [List.length_take, List.length_map] at this; omega
      have hOj : ∀ (j : Nat) (hj : j < P.length), O[j]? = some ((P[j] : Nat) : Int) := fun j hj => by
        have h1 : (O.take k)[j]? = O[j]? := by rw [List.getElem?_take, if_pos (by omega)]
        rw [← h1, hP, List.getElem?_map, List.getElem?_eq_getElem hj]; rfl
      refine ⟨fun v1 => ∃ j : Nat, v1 = j ∧ j ≤ P.length ∧ ∀ y ∈ P.take j, ¬ ah (mv l i) (mv l y), fun v1 => P.length - v1.toNat, ⟨0, rfl, Nat.zero_le _, fun y hy => by simp at hy⟩, ?_⟩
      rintro _ ⟨j, rfl, hj, hI⟩
      refine ⟨fun hlt2 => ?_, fun hge2 => ?_⟩
      · have hjl : j < P.length := by have := lt_of_dec hlt2; omega
        have hPj := gP.1 P[j] (List.getElem_mem hjl)
        obtain ⟨ob2, oo2, eo2, d2⟩ := (so.ext x4).at (hOj j hjl)
        rw [eo] at eo2; cases eo2
        obtain ⟨lb2, lo2, ela2, dm⟩ := (sl.ext x4).at (List.getElem?_eq_getElem hPj)
        rw [ela] at ela2; cases ela2
        have ePj : mv l P[j] = l[P[j]] := mv_at hPj
        refine ⟨lb, lo, ela, by omega, by omega, _, _, _, _, _, _, _, _, dl.1, dl.2.1, dl.2.2.1, dl.2.2.2.1, dl.2.2.2.2.1, dl.2.2.2.2.2.1, dl.2.2.2.2.2.2.1, dl.2.2.2.2.2.2.2.1, by omega, by omega, _, d2.1, by omega, by omega, _, _, _, _, _, _, _, _, dm.1, dm.2.1, dm.2.2.1, dm.2.2.2.1, dm.2.2.2.2.1, dm.2.2.2.2.2.1, dm.2.2.2.2.2.2.1, dm.2.2.2.2.2.2.2.1, fun g8 h8 x8 => ?_, fun g8 => ?_⟩
        · have g8 : ah l[i] l[P[j]] := of_decide_eq_true g8
          exact bad (x4.trans x8) (hbad fun i' e _ _ => ⟨P[j], List.getElem_mem hjl, by rw [show i' = i by omega, emv, ePj]; exact g8⟩)
        · have g8 : ¬ ah l[i] l[P[j]] := of_decide_eq_false g8
          rw [wadd j (by omega)]
          refine ⟨⟨j + 1, rfl, hjl, fun y hy => ?_⟩, by simp only [Int.toNat_natCast]; omega⟩
          rw [List.take_add_one, List.getElem?_eq_getElem hjl] at hy
          rcases List.mem_append.1 hy with hy | hy
          · exact hI y hy
          · have : y = P[j] := by simpa using hy
            rw [this, emv, ePj]; exact g8
      · have hjl : j = P.length := by have := of_decide_eq_false hge2; omega
        subst hjl
        rw [List.take_length] at hI
        refine ⟨lb, lo, ela, by omega, by omega, _, _, _, _, _, _, _, _, dl.1, dl.2.1, dl.2.2.1, dl.2.2.2.1, dl.2.2.2.2.1, dl.2.2.2.2.2.1, dl.2.2.2.2.2.2.1, dl.2.2.2.2.2.2.2.1, fun h5 x5 nb1 h9 en9 e9 => ?_⟩
        refine app_one (x := l[i]) aMv en9 e9 rfl (x4.trans x5) (s4.ext x5) (w4.ext x5) rfl (by rw [List.length_map]; omega) fun a' c' h10 x10 f10 s10 w10 b10 => ⟨a', _, c', rfl, ?_⟩
        have z10 : Sn h10 nb l.length (P ++ [i]) := by
          obtain ⟨cs4, r4, k1, k2⟩ := z4
          exact ⟨cs4, f10.row (x5.row r4) (own_typ (w4.ext x5) (x5.row r4) (by decide)), k1, k2⟩
        rw [wadd k (by omega)]
        refine ⟨⟨k + 1, P ++ [i], rfl, hkl, ?_, ⟨fun y hy => ?_, ?_, ?_⟩, by simp, x10, by rw [List.map_append, List.map_singleton, emv]; exact s10, w10, z10⟩, by simp only [Int.toNat_natCast]; omega⟩
        · rw [List.take_add_one, eO, hP, List.map_append]; rfl
        · rcases List.mem_append.1 hy with hy | hy
          · exact gP.1 y hy
          · rw [List.mem_singleton.1 hy]; exact hil
        · exact List.nodup_append.2 ⟨gP.2.1, List.nodup_cons.2 ⟨List.not_mem_nil, List.nodup_nil⟩, fun y hy z hz => by rw [List.mem_singleton.1 hz]; exact fun e => q3 (by rw [← e]; exact hy)⟩
        · exact List.pairwise_append.2 ⟨gP.2.2, List.pairwise_singleton _ _, fun y hy z hz => by rw [List.mem_singleton.1 hz]; exact hI y hy⟩
  · have hkl : k = O.length := by have := ge_of_dec hge; omega
    subst hkl
    rw [List.take_length] at hP
    have hPl : P.length = O.length := by rw [hP, List.length_map]
    refine (raccepts_c s3 (by rw [List.length_map]; omega)).mono ?_
    rintro _ h11 ⟨x11, ok, n, rfl, hA⟩
    refine ⟨ok, n, rfl, fun q => ⟨x3.trans x11, 251, rfl, .inr ⟨h0, .inr ⟨hlen, P, hP, gP, .inl ⟨fun a => ?_, rfl⟩⟩⟩⟩, fun q => ⟨x3.trans x11, 0, rfl, .inr ⟨h0, .inr ⟨hlen, P, hP, gP, .inr ⟨hA.ok_iff.1 (by simpa using q), rfl⟩⟩⟩⟩⟩
    have := hA.ok_iff.2 a
    rw [this] at q; cases q
end Go.Proofs.YtfjcciaabkjkgaaDoor
namespace Go.Proofs.YtfjcciaabkjkgaaDoor
open Go Ml
theorem sameInts_c {h : Heap} {a b : Option Addr} {c d : Nat} {L M : List Int} (s : Sl eZ h a c L) (t : Sl eZ h b d M) (hl : L.length ≤ 4611686018427387904) :
    HC Tryd.prog 8 #[.slice a L.length c, .slice b M.length d] h fun v h' => v = .bool (decide (L = M)) ∧ h' = h := by
  refine f8_sh _ _ _ _ _ _ _ _ ⟨fun e => ⟨?_, rfl⟩, fun e => ⟨fun i => ∃ j : Nat, i = j ∧ j ≤ L.length ∧ L.take j = M.take j, fun i => L.length - i.toNat, ⟨0, rfl, Nat.zero_le _, rfl⟩, ?_⟩⟩
  · have : L ≠ M := fun h => by subst h; simp at e
    simp [this]
  · have hlm : L.length = M.length := by simp at e; omega
    rintro _ ⟨j, rfl, hj, ht⟩
    refine ⟨fun hlt => ?_, fun hge => ⟨?_, rfl⟩⟩
    · have hjl := lt_of_dec hlt
      have hjm : j < M.length := by omega
      obtain ⟨b1, o1, e1, c1⟩ := s.at (List.getElem?_eq_getElem hjl)
      obtain ⟨b2, o2, e2, c2⟩ := t.at (List.getElem?_eq_getElem hjm)
      refine ⟨b1, o1, e1, by omega, by omega, L[j], c1.1, b2, o2, e2, by omega, by omega, M[j], c2.1, fun g => ⟨?_, rfl⟩, fun g => ?_⟩
      · have hne : L[j] ≠ M[j] := by simpa using g
        have : L ≠ M := fun h => by subst h; exact hne rfl
        simp [this]
      · have he : L[j] = M[j] := by simpa using g
        rw [wadd j (by omega)]
        refine ⟨⟨j + 1, rfl, hjl, ?_⟩, by simp only [Int.toNat_natCast]; omega⟩
        rw [List.take_add_one, List.take_add_one, ht, List.getElem?_eq_getElem hjl, List.getElem?_eq_getElem hjm, he]
    · have hjl := ge_of_dec hge
      rw [List.take_of_length_le hjl, List.take_of_length_le (by omega)] at ht
      simp [ht]
theorem aZ : AppT Tryd.prog 23 3 eZ.k 8 := ⟨by kernel_rfl, by kernel_rfl, by kernel_rfl, ⟨.int .i64 0, [.int .i64 0], by unfold zeroB; kernel_rfl, rfl, rfl⟩, by decide⟩
theorem law_witnesses {h : Heap} (lives : ∀ h1, Ext h h1 → HC Tryd.prog 5 #[] h1 fun v h' => v = .bool true ∧ Ext h1 h') {la oa : Option Addr} {lc oc : Nat} {l : List Mv} {O : List Int} (sl : Sl eMv h la lc l) (so : Sl eZ h oa oc O) (hl : l.length ≤ 1048576) (hO : O.length ≤ 1048576) :
    HC Tryd.prog 3 #[.slice la l.length lc, .slice oa O.length oc] h fun v h' => v = .bool true ∧ Ext h h' := by
  refine f3_sh _ _ _ _ _ _ _ _ fun nb h1 e1 eh1 => ?_
  have x1 : Ext h h1 := by rw [eh1]; exact Ext.push _ _
  have r1 : h1[nb]? = some (.cells #[] 3 (0, 0)) := by rw [eh1]; exact push_new e1
  have s0 : Sl eZ h1 (some ⟨nb, 0, none⟩) 0 [] := Sl.lit (L := []) (E := eZ) r1
  have w0 : Own eZ.k 3 h.size h1 (some ⟨nb, 0, none⟩) 0 := Own.lit (L := ([] : List Int)) (E := eZ) r1 (by omega)
  refine app_own (n := 0) aZ x1 s0 w0 rfl (so.ext x1) rfl (by omega) fun a' c' h2 x2 _ s2 w2 _ => ⟨a', _, c', rfl, fun r hh => r = true ∧ Ext h hh, (lives h2 x2).mono ?_, fun j h3 q => ⟨by rw [q.1], q.2⟩⟩
  rw [List.nil_append] at s2
  rw [Nat.zero_add]
  rintro _ h4 ⟨rfl, x4⟩
  have x04 := x2.trans x4
  refine ⟨true, rfl, fun _ => (witness_c (sl.ext x04) (s2.ext x4) hl hO).mono ?_, fun g => by cases g⟩
  rintro _ h5 ⟨x5, r, rfl, hr⟩
  refine ⟨r, rfl, (rwitness_c (sl.ext (x04.trans x5)) (so.ext (x04.trans x5)) hl hO).mono ?_⟩
  rintro _ h6 ⟨x6, q, rfl, hq⟩
  have := hr.unique hq
  subst this
  refine ⟨r, rfl, fun _ => (sameInts_c (s2.ext (x4.trans (x5.trans x6))) (so.ext (x04.trans (x5.trans x6))) (by omega)).mono ?_, fun g => by simp at g⟩
  rintro _ h7 ⟨rfl, rfl⟩
  exact ⟨_, rfl, decide_eq_true rfl, x04.trans (x5.trans x6)⟩
end Go.Proofs.YtfjcciaabkjkgaaDoor
namespace Go.Proofs.YtfjcciaabkjkgaaDoor
open Go Ml
structure Nmr (N : Nat) (Tb : Heap → Prop) (Pm : List Mt → Prop) (nm : Nat → List Mt → Str) (l : List Mv) : Prop where
  fr : ∀ {S : Nat → Prop} {h h' : Heap}, Fr S h h' → (∀ b, S b → N ≤ b) → Tb h → Tb h'
  pn : ∀ s i, Pm s → i < l.length → Pm (next s (mv l i))
  pl : ∀ s, Pm s → s.length ≤ 68719476736
  ps : Pm Ml.start
  inj : ∀ {a b s t}, a < 4294967296 → b < 4294967296 → nm a s = nm b t → a = b ∧ s = t
  st : ∀ {h : Heap} {left : Nat} {s : List Mt} {a : Option Addr} {c : Nat}, Tb h → left < 4294967296 → Pm s → Sl eMt h a c s → HC Tryd.prog 56 #[.int .u32 (left : Nat), .slice a s.length c] h fun v h' => v = .string (nm left s) ∧ Ext h h'
  ll : l.length ≤ 4611686018427387904
theorem Nmr.ext {N : Nat} {Tb : Heap → Prop} {Pm : List Mt → Prop} {nm : Nat → List Mt → Str} {l : List Mv} (M : Nmr N Tb Pm nm l) {h h' : Heap} (x : Ext h h') (T : Tb h) : Tb h' := M.fr (x.fr fun _ => False) (fun _ q => q.elim) T
structure Srh (nm : Nat → List Mt → Str) (N lo B : Nat) (h : Heap) (p mb : Nat) (l : List Mv) (own : List Nat) (key : Str) : Prop where
  mem : ∃ W la oa wa lc oc wc, Sch h p mb l own W la oa wa lc oc wc ∧ W.length = own.length ∧ (∀ (k : Nat) i, own[k]? = some i → ∃ w, W[k]? = some w ∧ w < 4294967296 ∧ Wt l own i w) ∧
    (∀ b, blkA la b → b < N) ∧ (∀ b, blkA oa b → lo ≤ b ∧ b < B) ∧ ∀ b, blkA wa b → lo ≤ b ∧ b < B
  nd : own.Nodup
  one : OfOne l own key
  le : own.length ≤ 31
  lt : ∀ i ∈ own, i < l.length
  nlo : N ≤ lo
  pB : lo ≤ p ∧ p < B
  mB : lo ≤ mb ∧ mb < B
  vain : Vain nm h mb l own
section
variable {N lo B : Nat} {Tb : Heap → Prop} {Pm : List Mt → Prop} {nm : Nat → List Mt → Str} {l : List Mv} {own : List Nat} {key : Str} {h : Heap} {p mb : Nat}
theorem Srh.fr (S : Srh nm N lo B h p mb l own key) {h' : Heap} (f : Fr (fun b => b = mb) h h') (V : Vain nm h' mb l own) : Srh nm N lo B h' p mb l own key :=
  let ⟨W, la, oa, wa, lc, oc, wc, S1, k1, k2, k3⟩ := S.mem
  ⟨⟨W, la, oa, wa, lc, oc, wc, S1.fr f, k1, k2, k3⟩, S.nd, S.one, S.le, S.lt, S.nlo, S.pB, S.mB, V⟩
theorem Srh.away (S : Srh nm N lo B h p mb l own key) {h' : Heap} {X : Nat → Prop} (f : Fr X h h') (hX : ∀ b, X b → N ≤ b ∧ ¬ (lo ≤ b ∧ b < B)) : Srh nm N lo B h' p mb l own key := by
  obtain ⟨W, la, oa, wa, lc, oc, wc, S1, k1, k2, k3, k4, k5⟩ := S.mem
  obtain ⟨kv, mk, sk⟩ := S.vain
  refine ⟨⟨W, la, oa, wa, lc, oc, wc, ⟨f.row S1.row fun q => (hX _ q).2 S.pB, S1.sl.fr f fun b hb q => ?_, S1.so.fr f fun b hb q => (hX _ q).2 (k4 b hb), S1.sw.fr f fun b hb q => (hX _ q).2 (k5 b hb), S1.np, S1.nl, S1.no, S1.nw⟩, k1, k2, k3, k4, k5⟩, S.nd, S.one, S.le, S.lt, S.nlo, S.pB, S.mB, kv, mk.fr f fun q => (hX _ q).2 S.mB, sk⟩
  have := k3 b hb; have := (hX _ q).1; omega
theorem Srh.ext (S : Srh nm N lo B h p mb l own key) {h' : Heap} (x : Ext h h') : Srh nm N lo B h' p mb l own key := S.fr (x.fr _) (S.vain.ext x)
theorem Srh.mlt (S : Srh nm N lo B h p mb l own key) : mb < h.size := by obtain ⟨kv, m, _⟩ := S.vain; exact m.lt
theorem can_n (M : Nmr N Tb Pm nm l) (S : Srh nm N lo B h p mb l own key) (T : Tb h) {left : Nat} (hl : left < 2 ^ own.length) {s : List Mt} {a : Option Addr} {c : Nat} (P : Pm s) (sl : Sl eMt h a c s) (ne : ∀ b, blkA a b → b ≠ mb) :
    HC Tryd.prog 46 #[ptr p 0, .int .u32 (left : Nat), .slice a s.length c] h fun v h' => ∃ r : Bool, v = .bool r ∧ (r = true ↔ Cmp l (Rm own left) fun _ => s) ∧ Fr (fun b => b = mb) h h' ∧ Srh nm N lo B h' p mb l own key := by
  obtain ⟨W, la, oa, wa, lc, oc, wc, S1, k1, k2, _⟩ := S.mem
  have hlo : N ≤ mb := Nat.le_trans S.nlo S.mB.1
  refine (can_c (nm := nm) (Tb := Tb) (Pm := Pm) (key := key) (fun h h' f t => M.fr f (fun b q => by rw [q]; exact hlo) t) (fun s i q hi => M.pn s i q (S.lt i hi)) M.pl M.inj M.st S.nd S.one S.le S.lt M.ll k1 k2 (left + 1) left (Nat.lt_succ_self _) S1 S.vain T hl P sl ne).mono ?_
  rintro v h' ⟨r, hv, hr, f, V⟩
  exact ⟨r, hv, hr, f, S.fr f V⟩
theorem all_c (S : Srh nm N lo B h p mb l own key) : HC Tryd.prog 30 #[ptr p 0] h fun v h' => (∃ z : Nat, v = .int .u32 z ∧ z = 2 ^ own.length - 1) ∧ h' = h := by
  obtain ⟨W, la, oa, wa, lc, oc, wc, S1, k1, k2, _⟩ := S.mem
  have hle := S.le
  refine f30_sh _ _ _ _ ⟨oa, _, oc, by rw [hcell_row S1.row]; rfl, by omega, ⟨2 ^ own.length - 1, ?_, rfl⟩, rfl⟩
  have hp : (2 : Nat) ^ own.length < 2 ^ 32 := Nat.pow_lt_pow_right (by decide) (by omega)
  have hp1 : 0 < (2 : Nat) ^ own.length := Nat.two_pow_pos _
  rw [min32 (by omega), (shl32 (show own.length < 32 by omega)).1]
  congr 1
  have e : (((2 ^ own.length : Nat) : Int) - 1) = ((2 ^ own.length - 1 : Nat) : Int) := by
    generalize (2 : Nat) ^ own.length = z at hp hp1
    omega
  rw [e]
  refine w32 ⟨Int.natCast_nonneg _, ?_⟩
  generalize (2 : Nat) ^ own.length = z at hp hp1
  omega
theorem all_lt : 2 ^ own.length - 1 < 2 ^ own.length := by have := Nat.two_pow_pos own.length; omega
theorem shown_c (M : Nmr N Tb Pm nm l) (S : Srh nm N lo B h p mb l own key) (T : Tb h) : HC Tryd.prog 29 #[ptr p 0] h fun v h' => ∃ r : Bool, v = .bool r ∧ (r = true ↔ Cmp l (fun i => i ∈ own) stX) ∧ Fr (fun b => b = mb) h h' ∧ Srh nm N lo B h' p mb l own key := by
  refine f29_sh _ _ _ _ ((all_c S).mono ?_)
  rintro _ _ ⟨⟨z, rfl, hz⟩, rfl⟩
  refine ⟨_, rfl, (start_c _).mono ?_⟩
  rintro _ h2 ⟨a, c, rfl, x2, s2, w2⟩
  have hm := S.mlt
  refine ⟨a, _, c, rfl, (can_n M (S.ext x2) (M.ext x2 T) (left := z) (by rw [hz]; exact all_lt) M.ps s2 fun b hb => by have := (w2.low hb).1; omega).mono ?_⟩
  rintro _ h3 ⟨r, rfl, hr, f, S3⟩
  rw [hz, rm_all] at hr
  exact ⟨r, rfl, r, rfl, hr, (x2.fr _).trans f fun _ _ q => q, S3⟩
end
end Go.Proofs.YtfjcciaabkjkgaaDoor
