import Derived.Test.YtfjcciaabkjkgaaGreatDoorProg
import Derived.Test.YtfjcciaabkjkgaaGreatDoorPy1
import Derived.Test.YtfjcciaabkjkgaaGreatDoorPy3
import Derived.Test.YtfjcciaabkjkgaaGreatDoorPy4
namespace Go.Proofs.YtfjcciaabkjkgaaGreatDoor
open Go
open Go.Proofs.YtfjcciaabkjkgaaGreatDoor renaming hl_val → lv, hl_step → lp, hl_nil → ln, hl_yes → ly, hl_no → lo, hx_seq → xs, hx_region → xr, hx_cond → xc, hx_block → xb, hx_loopT → xl, hx_cut → xk, hx_has → xh, hx_skip → xi, hx_ret → xt, hx_exit → xe, seqQ_n → qn, seqQ_ret → qr, seqQ_exit → qe, blockQ_n → bn, blockQ_ret → br, blockQ_here → bh, blockQ_past → bp, hv_move → vm, hv_assign → va, hv_arith → vr, hv_load → vl, hv_loads → vL, hv_extract → vx, hv_field → vf, hv_build → vb, hv_index → vi, hp_pure → pp, hp_read → pr, has_cons → hc, has_nil → hn, hcells_cons → cc, hcells_nil → cn, rowcell → rc, hs_call → sc
set_option maxRecDepth 100000
set_option maxHeartbeats 4000000
theorem TyTC.agg22 : aggB Tryz.prog 22 = some false := by kernel_rfl
theorem TyTC.agg26 : aggB Tryz.prog 26 = some false := by kernel_rfl
theorem TyTC.agg3 : aggB Tryz.prog 3 = some false := by kernel_rfl
theorem TyTC.agg4 : aggB Tryz.prog 4 = some false := by kernel_rfl
theorem TyTC.agg40 : aggB Tryz.prog 40 = some true := by kernel_rfl
theorem TyTC.agg65 : aggB Tryz.prog 65 = some false := by kernel_rfl
theorem TyTC.agg67 : aggB Tryz.prog 67 = some false := by kernel_rfl
theorem TyTC.agg69 : aggB Tryz.prog 69 = some false := by kernel_rfl
theorem TyTC.agg89 : aggB Tryz.prog 89 = some false := by kernel_rfl
theorem TyTC.agg9 : aggB Tryz.prog 9 = some false := by kernel_rfl
theorem TyTC.agg90 : aggB Tryz.prog 90 = some false := by kernel_rfl
theorem TyTC.agg95 : aggB Tryz.prog 95 = some true := by kernel_rfl
theorem TyTC.cb102 : CallB Tryz.prog 102 := fun _ _ => Tryz.call102 _ _
theorem TyTC.cb103 : CallB Tryz.prog 103 := fun _ _ => Tryz.call103 _ _
theorem TyTC.cb104 : CallB Tryz.prog 104 := fun _ _ => Tryz.call104 _ _
theorem TyTC.cb12 : CallB Tryz.prog 12 := fun _ _ => Tryz.call12 _ _
theorem TyTC.cb13 : CallB Tryz.prog 13 := fun _ _ => Tryz.call13 _ _
theorem TyTC.cb24 : CallB Tryz.prog 24 := fun _ _ => Tryz.call24 _ _
theorem TyTC.cb26 : CallB Tryz.prog 26 := fun _ _ => Tryz.call26 _ _
theorem TyTC.cb29 : CallB Tryz.prog 29 := fun _ _ => Tryz.call29 _ _
theorem TyTC.cb39 : CallB Tryz.prog 39 := fun _ _ => Tryz.call39 _ _
theorem TyTC.cb40 : CallB Tryz.prog 40 := fun _ _ => Tryz.call40 _ _
theorem TyTC.cb41 : CallB Tryz.prog 41 := fun _ _ => Tryz.call41 _ _
theorem TyTC.cb43 : CallB Tryz.prog 43 := fun _ _ => Tryz.call43 _ _
theorem TyTC.cb44 : CallB Tryz.prog 44 := fun _ _ => Tryz.call44 _ _
theorem TyTC.cb45 : CallB Tryz.prog 45 := fun _ _ => Tryz.call45 _ _
theorem TyTC.cb46 : CallB Tryz.prog 46 := fun _ _ => Tryz.call46 _ _
theorem TyTC.cb47 : CallB Tryz.prog 47 := fun _ _ => Tryz.call47 _ _
theorem TyTC.cb49 : CallB Tryz.prog 49 := fun _ _ => Tryz.call49 _ _
theorem TyTC.cb50 : CallB Tryz.prog 50 := fun _ _ => Tryz.call50 _ _
theorem TyTC.cb54 : CallB Tryz.prog 54 := fun _ _ => Tryz.call54 _ _
theorem TyTC.cb60 : CallB Tryz.prog 60 := fun _ _ => Tryz.call60 _ _
theorem TyTC.cb62 : CallB Tryz.prog 62 := fun _ _ => Tryz.call62 _ _
theorem TyTC.cb84 : CallB Tryz.prog 84 := fun _ _ => Tryz.call84 _ _
theorem TyTC.el22 : elB Tryz.prog 22 = some 8 := by kernel_rfl
theorem TyTC.el26 : elB Tryz.prog 26 = some 1 := by kernel_rfl
theorem TyTC.el69 : elB Tryz.prog 69 = some 2 := by kernel_rfl
theorem TyTC.el90 : elB Tryz.prog 90 = some 1 := by kernel_rfl
theorem TyTC.fld40_1 : fldB Tryz.prog 40 1 = some 1 := by kernel_rfl
theorem TyTC.fld40_6 : fldB Tryz.prog 40 6 = some 6 := by kernel_rfl
theorem TyTC.fld72_0 : fldB Tryz.prog 72 0 = some 0 := by kernel_rfl
theorem TyTC.fld72_1 : fldB Tryz.prog 72 1 = some 1 := by kernel_rfl
theorem TyTC.fld72_2 : fldB Tryz.prog 72 2 = some 2 := by kernel_rfl
theorem TyTC.fld92_0 : fldB Tryz.prog 92 0 = some 0 := by kernel_rfl
theorem TyTC.fld92_1 : fldB Tryz.prog 92 1 = some 1 := by kernel_rfl
theorem TyTC.fld92_2 : fldB Tryz.prog 92 2 = some 2 := by kernel_rfl
theorem TyTC.fld92_3 : fldB Tryz.prog 92 3 = some 3 := by kernel_rfl
theorem TyTC.fld95_0 : fldB Tryz.prog 95 0 = some 0 := by kernel_rfl
theorem TyTC.fld95_1 : fldB Tryz.prog 95 1 = some 1 := by kernel_rfl
theorem TyTC.mixed : Tryz.prog.follows .mixedOrders = true := by kernel_rfl
theorem TyTC.pl40 : plB Tryz.prog 40 = some [(0, 1), (1, 1), (2, 1), (3, 1), (4, 1), (5, 1), (6, 1), (7, 1)] := by kernel_rfl
theorem TyTC.pl72 : plB Tryz.prog 72 = some [(0, 1), (1, 1), (2, 1)] := by kernel_rfl
theorem TyTC.pl92 : plB Tryz.prog 92 = some [(0, 1), (1, 1), (2, 1), (3, 1)] := by kernel_rfl
theorem TyTC.sz3 : szB Tryz.prog 3 = some 1 := by kernel_rfl
theorem TyTC.sz40 : szB Tryz.prog 40 = some 8 := by kernel_rfl
theorem TyTC.sz67 : szB Tryz.prog 67 = some 1 := by kernel_rfl
theorem TyTC.sz69 : szB Tryz.prog 69 = some 1 := by kernel_rfl
theorem TyTC.sz90 : szB Tryz.prog 90 = some 1 := by kernel_rfl
theorem TyTC.sz95 : szB Tryz.prog 95 = some 2 := by kernel_rfl
theorem TyTC.u125 : Tryz.prog.underlying 125 = some (.int .u64) := by kernel_rfl
theorem TyTC.u22 : Tryz.prog.underlying 22 = some (.slice 40) := by kernel_rfl
theorem TyTC.u26 : Tryz.prog.underlying 26 = some (.slice 3) := by kernel_rfl
theorem TyTC.u61 : Tryz.prog.underlying 61 = some (.map 9 62) := by kernel_rfl
theorem TyTC.u67 : Tryz.prog.underlying 67 = some (.int .u32) := by kernel_rfl
theorem TyTC.u69 : Tryz.prog.underlying 69 = some (.slice 95) := by kernel_rfl
theorem TyTC.u89 : Tryz.prog.underlying 89 = some (.map 9 3) := by kernel_rfl
theorem TyTC.u9 : Tryz.prog.underlying 9 = some (.string) := by kernel_rfl
theorem TyTC.u90 : Tryz.prog.underlying 90 = some (.slice 67) := by kernel_rfl
theorem TyTC.up62 : Tryz.prog.underlying 62 = some (.pointer 72) := by kernel_rfl
theorem TyTC.z3 : zeroB Tryz.prog 3 (.int .i64 0) := by unfold zeroB; kernel_rfl
theorem TyTC.z40 : zeroB Tryz.prog 40 (.agg #[(.int .i64 0), (.string ByteArray.empty), (.string ByteArray.empty), (.int .i64 0), (.bool false), (.int .i64 0), (.int .i64 0), (.int .i64 0)]) := by unfold zeroB; kernel_rfl
theorem TyTC.z62 : zeroB Tryz.prog 62 (.pointer none) := by unfold zeroB; kernel_rfl
theorem TyTC.z67 : zeroB Tryz.prog 67 (.int .u32 0) := by unfold zeroB; kernel_rfl
theorem TyTC.z72 : zeroB Tryz.prog 72 (.agg #[(.pointer none), (.int .u32 0), (.slice none 0 0)]) := by unfold zeroB; kernel_rfl
theorem TyTC.z92 : zeroB Tryz.prog 92 (.agg #[(.slice none 0 0), (.slice none 0 0), (.slice none 0 0), (.map none)]) := by unfold zeroB; kernel_rfl
theorem TyTC.z95 : zeroB Tryz.prog 95 (.agg #[(.bool false), (.string ByteArray.empty)]) := by unfold zeroB; kernel_rfl
theorem ext_pushed_f8_sh {h h1 : Heap} {o : Obj} (e : h1 = Array.push h o) : Ext h h1 := by rw [e]; exact Ext.push _ _
theorem f43_sh (l : Option Addr) (c6 : Nat) (c7 : Nat) (c9 : Option Addr) (a0 : Nat) (a1 : Nat) (h : Heap) (R : Value → Heap → Prop)
  (H : (∀ mb h1, mb = Array.size h → Ext h h1 → Array.size h1 = Array.size h + 1 → MapL h1 mb Value.string [] → (∀ nb h2, nb = Array.size h1 → h2 = Array.push h1 (.cells #[(.slice l c6 c7), (.slice c9 a0 a1), (.slice none 0 0), (.map (some mb))] 92) → (∃ (I8 : Int → Heap → Prop) (e0 : Int → Heap → Nat), I8 0 h2 ∧ (∀ (v : Int) (h3 : Heap), I8 v h3 → (((decide (v < (a0 : Int))) = true → (∃ b4 a8 : Nat, c9 = some ⟨b4, a8, none⟩ ∧ (0 : Int) ≤ v ∧ v < (a0 : Int) ∧ (∃ x : Int, hcell h3 b4 (a8 + (Int.toNat v) * 1) = some (.int .i64 x) ∧ (∃ (d4 : Int → Int → Prop) (d2 : Int → Int → Nat), d4 0 0 ∧ (∀ (b0 : Int) (a4 : Int), d4 b0 a4 → (((decide (a4 < (a0 : Int))) = true → (∃ c2 : Int, ((0 : Int) ≤ a4 ∧ a4 < (a0 : Int) ∧ (∃ b7 : Int, hcell h3 b4 (a8 + (Int.toNat a4) * 1) = some (.int .i64 b7) ∧ (∃ b5 b6 : Nat, l = some ⟨b5, b6, none⟩ ∧ (0 : Int) ≤ b7 ∧ b7 < (c6 : Int) ∧ (∃ b9 : Int, ∃ c4 b2 : ByteArray, ∃ c5 : Int, ∃ c3 : Bool, ∃ c1 c0 c8 : Int, hcell h3 b5 (b6 + (Int.toNat b7) * 8) = some (.int .i64 b9) ∧ hcell h3 b5 ((b6 + (Int.toNat b7) * 8) + 1) = some (.string c4) ∧ hcell h3 b5 ((b6 + (Int.toNat b7) * 8) + 2) = some (.string b2) ∧ hcell h3 b5 ((b6 + (Int.toNat b7) * 8) + 3) = some (.int .i64 c5) ∧ hcell h3 b5 ((b6 + (Int.toNat b7) * 8) + 4) = some (.bool c3) ∧ hcell h3 b5 ((b6 + (Int.toNat b7) * 8) + 5) = some (.int .i64 c1) ∧ hcell h3 b5 ((b6 + (Int.toNat b7) * 8) + 6) = some (.int .i64 c0) ∧ hcell h3 b5 ((b6 + (Int.toNat b7) * 8) + 7) = some (.int .i64 c8) ∧ ((0 : Int) ≤ x ∧ x < (c6 : Int) ∧ (∃ a7 : Int, ∃ b1 a2 : ByteArray, ∃ a9 : Int, ∃ b3 : Bool, ∃ a6 a5 b8 : Int, hcell h3 b5 (b6 + (Int.toNat x) * 8) = some (.int .i64 a7) ∧ hcell h3 b5 ((b6 + (Int.toNat x) * 8) + 1) = some (.string b1) ∧ hcell h3 b5 ((b6 + (Int.toNat x) * 8) + 2) = some (.string a2) ∧ hcell h3 b5 ((b6 + (Int.toNat x) * 8) + 3) = some (.int .i64 a9) ∧ hcell h3 b5 ((b6 + (Int.toNat x) * 8) + 4) = some (.bool b3) ∧ hcell h3 b5 ((b6 + (Int.toNat x) * 8) + 5) = some (.int .i64 a6) ∧ hcell h3 b5 ((b6 + (Int.toNat x) * 8) + 6) = some (.int .i64 a5) ∧ hcell h3 b5 ((b6 + (Int.toNat x) * 8) + 7) = some (.int .i64 b8) ∧ (((Ml.ahB ⟨b9, c4, b2, c5, c3, c1, c0, c8⟩ ⟨a7, b1, a2, a9, b3, a6, a5, b8⟩) = true → ((0 : Int) ≤ a4 ∧ (c2 = (ibor .u32 b0 (IntKind.u32.wrap (1 * 2 ^ min (Int.toNat a4) 32)))))) ∧ ((Ml.ahB ⟨b9, c4, b2, c5, c3, c1, c0, c8⟩ ⟨a7, b1, a2, a9, b3, a6, a5, b8⟩) = false → (c2 = b0))))))))) ∧ (d4 c2 (IntKind.i64.wrap (a4 + 1)) ∧ d2 c2 (IntKind.i64.wrap (a4 + 1)) < d2 b0 a4))) ∧ ((decide (a4 < (a0 : Int))) = false → (∃ b7 : Option Addr, ∃ e2 e1 : Nat, hcell h3 nb 2 = some (.slice b7 e2 e1) ∧ (∀ (h4 : Heap), Ext h3 h4 → (∀ d1 h7, d1 = Array.size h4 → h7 = Array.push h4 (.cells #[(.int .u32 b0)] 67) → HAppend Tryz.prog 90 90 (.slice b7 e2 e1) (.slice (some ⟨d1, 0, none⟩) 1 1) h7 (fun vv h8 => ∃ ap : Option Addr, ∃ d3 d0 : Nat, vv = (.slice ap d3 d0) ∧ (HW h8 nb 2 ∧ ∀ h9, h9 = hset h8 nb 2 (.slice ap d3 d0) → (I8 (IntKind.i64.wrap (v + 1)) h9 ∧ e0 (IntKind.i64.wrap (v + 1)) h9 < e0 v h3))))))))))))) ∧ ((decide (v < (a0 : Int))) = false → R (ptr nb 0) h3))))))) :
  HC Tryz.prog 43 #[(.slice l c6 c7), (.slice c9 a0 a1)] h R := by
 refine hc_of (args := [(.slice l c6 c7), (.slice c9 a0 a1)]) Tryz.func43 rfl Tryz.ntmps43 (Nat.le_of_ble_eq_true rfl) ?_
 refine xs (xr ?_)
 refine lv rfl rfl (va rfl) ?_
 refine ln (qn (xs (xr ?_)))
 refine lv rfl rfl (vm rfl) (lv rfl rfl (vm rfl) ?_)
 refine lp rfl rfl (hn_makeMap (enc := Value.string) ?_)
 intro mb h1 j6 k0 j7 j9
 replace H := H mb h1 j6 k0 j7 j9
 refine lv rfl rfl (v := (.agg #[(.slice l c6 c7), (.slice c9 a0 a1), (.slice none 0 0), (.map (some mb))])) (vb (vs := [(0, (.slice l c6 c7)), (1, (.slice c9 a0 a1)), (3, (.map (some mb)))]) (cs := #[(.slice l c6 c7), (.slice c9 a0 a1), (.slice none 0 0), (.map (some mb))]) TyTC.z92 TyTC.pl92 rfl (by kernel_rfl)) ?_
 refine lp rfl rfl (hn_box (v := (.agg #[(.slice l c6 c7), (.slice c9 a0 a1), (.slice none 0 0), (.map (some mb))])) rfl ?_)
 intro nb h2 j8 e7
 replace H := H nb h2 j8 e7
 have k2 := ext_pushed_f8_sh e7
 refine lv rfl rfl (va rfl) ?_
 refine ln (qn (xs (xs (xr ?_))))
 refine lv rfl rfl (vm rfl) (lv rfl rfl (v := (.int .i64 (a0 : Int))) (hv_len (n := a0) TyTC.u26 rfl) (lv rfl rfl (vm rfl) ?_))
 refine ln (qn (xb ?_))
 obtain ⟨I8, e0, i7, f4⟩ := H
 refine xl (σ := Int) (fun s => [(0, (.slice l c6 c7)), (1, (.slice c9 a0 a1)), (5, (ptr nb 0)), (16, (.slice c9 a0 a1)), (17, (.int .i64 (a0 : Int))), (18, (.int .i64 s))]) (fun s h' => I8 s h' ∧ True) (fun s h' => e0 s h') 0 ⟨i7, trivial⟩ (hc rfl (hc rfl (hc rfl (hc rfl (hc rfl (hc rfl hn)))))) ?_
 rintro v ρ h3 ⟨g1, -⟩
 have H := f4 v h3 g1
 refine xs (xr ?_)
 refine lv rfl rfl (vr rfl rfl rfl) ?_
 refine ln (qn (xs ?_))
 refine xc (b := decide (v < (a0 : Int))) rfl (fun d8 => ?_) (fun d8 => ?_)
 ·replace H := H.1 d8
  refine xi (qn (xs (xb (xs (xr ?_)))))
  obtain ⟨b4, a8, e6, e8, g2, Hq⟩ := H
  subst e6
  have H := Hq; clear Hq
  refine lv rfl rfl (v := (ptr b4 (a8 + (Int.toNat v) * 1))) (vi TyTC.el26 rfl rfl e8 g2) ?_
  obtain ⟨x, i1, H⟩ := H
  refine lv rfl rfl (vl TyTC.agg3 rfl i1) (lv rfl rfl (va rfl) ?_)
  refine ln (qn (xs (xr ?_)))
  refine lv rfl rfl (va rfl) ?_
  refine ln (qn (xs (xs (xr ?_))))
  refine lv rfl rfl (vm rfl) (lv rfl rfl (v := (.int .i64 (a0 : Int))) (hv_len (n := a0) TyTC.u26 rfl) (lv rfl rfl (vm rfl) ?_))
  refine ln (qn (xb ?_))
  obtain ⟨d4, d2, j4, g7⟩ := H
  refine xl (σ := Int × Int) (fun s => [(0, (.slice l c6 c7)), (1, (.slice (some ⟨b4, a8, none⟩) a0 a1)), (5, (ptr nb 0)), (7, (.int .i64 x)), (8, (.int .u32 s.1)), (16, (.slice (some ⟨b4, a8, none⟩) a0 a1)), (17, (.int .i64 (a0 : Int))), (18, (.int .i64 v)), (22, (.slice (some ⟨b4, a8, none⟩) a0 a1)), (23, (.int .i64 (a0 : Int))), (24, (.int .i64 s.2))]) (fun s h' => d4 s.1 s.2 ∧ Ext h3 h' ∧ True) (fun s _ => d2 s.1 s.2) (0, 0) ⟨j4, (Ext.refl _), trivial⟩ (hc rfl (hc rfl (hc rfl (hc rfl (hc rfl (hc rfl (hc rfl (hc rfl (hc rfl (hc rfl (hc rfl hn))))))))))) ?_
  rintro ⟨b0, a4⟩ ρ h4 ⟨g3, a3, -⟩
  have H := g7 b0 a4 g3
  refine xs (xr ?_)
  refine lv rfl rfl (vr rfl rfl rfl) ?_
  refine ln (qn (xs ?_))
  refine xc (b := decide (a4 < (a0 : Int))) rfl (fun d6 => ?_) (fun d6 => ?_)
  ·replace H := H.1 d6
   refine xi (qn ?_)
   obtain ⟨c2, d7, d9⟩ := H
   refine xk (fun ρ h' => (Ext h3 h' ∧ True) ∧ Has ρ [(0, (.slice l c6 c7)), (1, (.slice (some ⟨b4, a8, none⟩) a0 a1)), (5, (ptr nb 0)), (7, (.int .i64 x)), (8, (.int .u32 c2)), (16, (.slice (some ⟨b4, a8, none⟩) a0 a1)), (17, (.int .i64 (a0 : Int))), (18, (.int .i64 v)), (22, (.slice (some ⟨b4, a8, none⟩) a0 a1)), (23, (.int .i64 (a0 : Int))), (24, (.int .i64 a4))]) ?_ ?_
   ·have H := d7; clear d7 d9
    refine xb (xs (xr ?_))
    refine lv rfl rfl (vm rfl) ?_
    obtain ⟨g6, i4, H⟩ := H
    refine lv rfl rfl (v := (ptr b4 (a8 + (Int.toNat a4) * 1))) (vi TyTC.el26 rfl rfl g6 i4) ?_
    obtain ⟨b7, i2, H⟩ := H
    refine lv rfl rfl (vl TyTC.agg3 rfl (Ext.cell a3 i2)) (lv rfl rfl (va rfl) (lv rfl rfl (va rfl) ?_))
    refine ln (qn (xs ?_))
    refine hx_draw TyTC.mixed [.pure, .pure, .pure, .read, .pure, .pure, .pure, .read, .ext] [0, 1, 2, 3, 4, 5, 6, 7, 8] (by kernel_rfl) ?_
    refine pp (i := 0) rfl (wanted_0 rfl) rfl (.slice l c6 c7) (fun _ => vm rfl) ?_
    refine pp (i := 1) rfl (wanted_0 rfl) rfl (.int .i64 b7) (fun _ => vm rfl) ?_
    obtain ⟨b5, b6, e6, f2, i9, Hq⟩ := H
    subst e6
    have H := Hq; clear Hq
    refine pp (i := 2) rfl (wanted_0 rfl) rfl (ptr b5 (b6 + (Int.toNat b7) * 8)) (fun _ => vi TyTC.el22 rfl rfl f2 i9) ?_
    obtain ⟨b9, c4, b2, c5, c3, c1, c0, c8, g9, f3, i8, j5, g4, i3, f1, g0, H⟩ := H
    refine pr (i := 3) rfl (wanted_0 rfl) rfl (.agg #[(.int .i64 b9), (.string c4), (.string b2), (.int .i64 c5), (.bool c3), (.int .i64 c1), (.int .i64 c0), (.int .i64 c8)]) (fun _ he => vL (vs := [(.int .i64 b9), (.string c4), (.string b2), (.int .i64 c5), (.bool c3), (.int .i64 c1), (.int .i64 c0), (.int .i64 c8)]) TyTC.agg40 TyTC.sz40 rfl (cc (Ext.cell he (Ext.cell a3 g9)) (cc (Ext.cell he (Ext.cell a3 f3)) (cc (Ext.cell he (Ext.cell a3 i8)) (cc (Ext.cell he (Ext.cell a3 j5)) (cc (Ext.cell he (Ext.cell a3 g4)) (cc (Ext.cell he (Ext.cell a3 i3)) (cc (Ext.cell he (Ext.cell a3 f1)) (cc (Ext.cell he (Ext.cell a3 g0)) cn))))))))) ?_
    refine pp (i := 4) rfl (wanted_0 rfl) rfl (.slice (some ⟨b5, b6, none⟩) c6 c7) (fun _ => vm rfl) ?_
    refine pp (i := 5) rfl (wanted_0 rfl) rfl (.int .i64 x) (fun _ => vm rfl) ?_
    obtain ⟨f5, j3, H⟩ := H
    refine pp (i := 6) rfl (wanted_0 rfl) rfl (ptr b5 (b6 + (Int.toNat x) * 8)) (fun _ => vi TyTC.el22 rfl rfl f5 j3) ?_
    obtain ⟨a7, b1, a2, a9, b3, a6, a5, b8, f0, g8, f8, f6, i5, i6, j2, f9, H⟩ := H
    refine pr (i := 7) rfl (wanted_0 rfl) rfl (.agg #[(.int .i64 a7), (.string b1), (.string a2), (.int .i64 a9), (.bool b3), (.int .i64 a6), (.int .i64 a5), (.int .i64 b8)]) (fun _ he => vL (vs := [(.int .i64 a7), (.string b1), (.string a2), (.int .i64 a9), (.bool b3), (.int .i64 a6), (.int .i64 a5), (.int .i64 b8)]) TyTC.agg40 TyTC.sz40 rfl (cc (Ext.cell he (Ext.cell a3 f0)) (cc (Ext.cell he (Ext.cell a3 g8)) (cc (Ext.cell he (Ext.cell a3 f8)) (cc (Ext.cell he (Ext.cell a3 f6)) (cc (Ext.cell he (Ext.cell a3 i5)) (cc (Ext.cell he (Ext.cell a3 i6)) (cc (Ext.cell he (Ext.cell a3 j2)) (cc (Ext.cell he (Ext.cell a3 f9)) cn))))))))) ?_
    refine hp_ext (i := 8) rfl (wanted_0 rfl) rfl (sc TyTC.cb29 rfl (HC.mono (ahead_c (⟨b9, c4, b2, c5, c3, c1, c0, c8⟩) (⟨a7, b1, a2, a9, b3, a6, a5, b8⟩) _) ?_))
    rintro _ h6 ⟨rfl, e3⟩
    refine ⟨e3, ?_⟩
    have e4 := Ext.trans a3 e3
    refine hp_nil ?_
    refine qn ?_
    refine xc (b := Ml.ahB ⟨b9, c4, b2, c5, c3, c1, c0, c8⟩ ⟨a7, b1, a2, a9, b3, a6, a5, b8⟩) rfl (fun d5 => ?_) (fun d5 => ?_)
    ·replace H := H.1 d5
     refine xr ?_
     refine lv rfl rfl (vm rfl) (lv rfl rfl (vm rfl) ?_)
     obtain ⟨g5, H⟩ := H
     refine lv rfl rfl (v := (.int .u32 (IntKind.u32.wrap (1 * 2 ^ min (Int.toNat a4) 32)))) (hv_shift rfl rfl g5 rfl) (lv rfl rfl (v := (.int .u32 (ibor .u32 b0 (IntKind.u32.wrap (1 * 2 ^ min (Int.toNat a4) 32))))) (hv_bits rfl rfl rfl) (lv rfl rfl (va rfl) ?_))
     refine ln (bn (qn ?_))
     obtain rfl := H
     exact ⟨⟨e4, trivial⟩, (hc rfl (hc rfl (hc rfl (hc rfl (hc rfl (hc rfl (hc rfl (hc rfl (hc rfl (hc rfl (hc rfl hn)))))))))))⟩
    ·replace H := H.2 d5
     refine xi (bn (qn ?_))
     obtain rfl := H
     exact ⟨⟨e4, trivial⟩, (hc rfl (hc rfl (hc rfl (hc rfl (hc rfl (hc rfl (hc rfl (hc rfl (hc rfl (hc rfl (hc rfl hn)))))))))))⟩
   ·have H := d9; clear d7 d9
    rintro ρ h5 ⟨⟨j0, -⟩, hH⟩
    refine xh _ hH ?_
    refine xr ?_
    refine lv rfl rfl (vr rfl rfl rfl) (lv rfl rfl (vm rfl) ?_)
    refine ln (qn ?_)
    exact ⟨(c2, IntKind.i64.wrap (a4 + 1)), ⟨⟨H.1, j0, trivial⟩, H.2⟩, (hc rfl (hc rfl (hc rfl (hc rfl (hc rfl (hc rfl (hc rfl (hc rfl (hc rfl (hc rfl (hc rfl hn)))))))))))⟩
  ·replace H := H.2 d6
   refine xe (qe (qe (bh (qn (xr ?_)))))
   refine lv rfl rfl (vm rfl) (lv rfl rfl (vm rfl) (lv rfl rfl (v := (ptr nb 0)) (hv_nil rfl) (lv rfl rfl (v := (ptr nb 2)) (vf TyTC.fld92_2 (b := nb) (o := 0) rfl) ?_)))
   obtain ⟨b7, e2, e1, i0, H⟩ := H
   refine lv rfl rfl (vl TyTC.agg90 rfl (Ext.cell a3 i0)) (lv rfl rfl (vm rfl) ?_)
   replace H := H h4 a3
   refine lp rfl rfl (hn_buildSlice (n := 1) (vs := [(0, (.int .u32 b0))]) (cs := #[(.int .u32 b0)]) TyTC.u90 TyTC.sz67 TyTC.z67 rfl rfl (by kernel_rfl) ?_)
   intro d1 h7 f7 e5
   replace H := H d1 h7 f7 e5
   have k1 := ext_pushed_f8_sh e5
   refine lp rfl rfl (hs_append rfl rfl (HAppend.mono H ?_))
   rintro _ h8 ⟨ap, d3, d0, rfl, H⟩
   refine lv rfl rfl (v := (ptr nb 0)) (hv_nil rfl) (lv rfl rfl (v := (ptr nb 2)) (vf TyTC.fld92_2 (b := nb) (o := 0) rfl) ?_)
   obtain ⟨j1, H⟩ := H
   refine lp rfl rfl (hn_store (v := (.slice ap d3 d0)) rfl rfl TyTC.sz90 rfl j1 ?_)
   intro h9 e9
   replace H := H h9 e9
   refine ln (bn (qn (xr ?_)))
   refine lv rfl rfl (vr rfl rfl rfl) (lv rfl rfl (vm rfl) ?_)
   refine ln (qn ?_)
   exact ⟨IntKind.i64.wrap (v + 1), ⟨⟨H.1, trivial⟩, H.2⟩, (hc rfl (hc rfl (hc rfl (hc rfl (hc rfl (hc rfl hn))))))⟩
 ·replace H := H.2 d8
  refine xe (qe (qe (bh (qn (xs (xr ?_))))))
  refine lv rfl rfl (vm rfl) (lv rfl rfl (va rfl) ?_)
  refine ln (qn (xt ?_))
  exact endQ_ret _ (res_one Tryz.results43 (rv_tmp rfl)) H
theorem f84_sh (b1 : Int) (a8 : Option Addr) (a0 : Nat) (a6 : Nat) (h : Heap) (R : Value → Heap → Prop)
  (H : HC Tryz.prog 102 #[(.int .u64 (IntKind.u64.wrap b1)), (.int .i64 36)] h (fun vv h1 => ∃ r : ByteArray, vv = (.string r) ∧ (∃ (I1 : ByteArray → Int → Heap → Prop) (b3 : ByteArray → Int → Heap → Nat), I1 r 0 h1 ∧ (∀ (a5 : ByteArray) (v : Int) (h2 : Heap), I1 a5 v h2 → (((decide (v < (a0 : Int))) = true → (∃ a4 a3 : Nat, a8 = some ⟨a4, a3, none⟩ ∧ (0 : Int) ≤ v ∧ v < (a0 : Int) ∧ (∃ a2 : Bool, ∃ a1 : ByteArray, hcell h2 a4 (a3 + (Int.toNat v) * 2) = some (.bool a2) ∧ hcell h2 a4 ((a3 + (Int.toNat v) * 2) + 1) = some (.string a1) ∧ (∃ b2 : Heap → Heap → Prop, Fit b2 ∧ (∀ (m : Nat) (h4 : Heap), Array.size h2 ≤ m → m < Array.size h4 → Ext h2 h4 → ((∀ hx, b2 h4 hx → Kp [m] h4 hx) ∧ HC Tryz.prog 103 #[(.bool a2)] h4 (fun vv h7 => b2 h4 h7 ∧ Kp [m] h4 h7 ∧ ∃ a7 : ByteArray, vv = (.string a7) ∧ (ByteArray.size (ByteArray.mk #[32]) + ByteArray.size a7 ≤ 9223372036854775807 ∧ HC Tryz.prog 104 #[(.string a1)] h7 (fun vv h8 => ∃ a9 : ByteArray, vv = (.string a9) ∧ (ByteArray.size ((ByteArray.mk #[32]) ++ a7) + ByteArray.size a9 ≤ 9223372036854775807 ∧ (ByteArray.size a5 + ByteArray.size (((ByteArray.mk #[32]) ++ a7) ++ a9) ≤ 9223372036854775807 ∧ (I1 (a5 ++ (((ByteArray.mk #[32]) ++ a7) ++ a9)) (IntKind.i64.wrap (v + 1)) h8 ∧ b3 (a5 ++ (((ByteArray.mk #[32]) ++ a7) ++ a9)) (IntKind.i64.wrap (v + 1)) h8 < b3 a5 v h2)))))))))))) ∧ ((decide (v < (a0 : Int))) = false → R (.string a5) h2)))))) :
  HC Tryz.prog 84 #[(.int .u32 b1), (.slice a8 a0 a6)] h R := by
 refine hc_of (args := [(.int .u32 b1), (.slice a8 a0 a6)]) Tryz.func84 rfl Tryz.ntmps84 (Nat.le_of_ble_eq_true rfl) ?_
 refine xs (xr ?_)
 refine lv rfl rfl (va rfl) ?_
 refine ln (qn (xs (xr ?_)))
 refine lv rfl rfl (vm rfl) (lv rfl rfl (v := (.int .u64 (IntKind.u64.wrap b1))) (hv_convInt TyTC.u67 TyTC.u125 rfl) ?_)
 refine lp rfl rfl (sc TyTC.cb102 rfl (HC.mono H ?_))
 rintro _ h1 ⟨r, rfl, H⟩
 refine lv rfl rfl (va rfl) ?_
 refine ln (qn (xs (xs (xr ?_))))
 refine lv rfl rfl (vm rfl) (lv rfl rfl (v := (.int .i64 (a0 : Int))) (hv_len (n := a0) TyTC.u69 rfl) (lv rfl rfl (vm rfl) ?_))
 refine ln (qn (xb ?_))
 obtain ⟨I1, b3, d0, d5⟩ := H
 refine xl (σ := ByteArray × Int) (fun s => [(5, (.string s.1)), (11, (.slice a8 a0 a6)), (12, (.int .i64 (a0 : Int))), (13, (.int .i64 s.2))]) (fun s h' => I1 s.1 s.2 h' ∧ True) (fun s h' => b3 s.1 s.2 h') (r, 0) ⟨d0, trivial⟩ (hc rfl (hc rfl (hc rfl (hc rfl hn)))) ?_
 rintro ⟨a5, v⟩ ρ h2 ⟨d4, -⟩
 have H := d5 a5 v h2 d4
 refine xs (xr ?_)
 refine lv rfl rfl (vr rfl rfl rfl) ?_
 refine ln (qn (xs ?_))
 refine xc (b := decide (v < (a0 : Int))) rfl (fun b4 => ?_) (fun b4 => ?_)
 ·replace H := H.1 b4
  refine xi (qn (xs (xb (xs (xr ?_)))))
  obtain ⟨a4, a3, d1, d3, d6, Hq⟩ := H
  subst d1
  have H := Hq; clear Hq
  refine lv rfl rfl (v := (ptr a4 (a3 + (Int.toNat v) * 2))) (vi TyTC.el69 rfl rfl d3 d6) ?_
  obtain ⟨a2, a1, d2, c0, H⟩ := H
  refine lv rfl rfl (vL (vs := [(.bool a2), (.string a1)]) TyTC.agg95 TyTC.sz95 rfl (cc d2 (cc c0 cn))) ?_
  refine lp rfl rfl (hn_alloc TyTC.z95 ?_)
  intro m h3 b8 b7
  have c6 := ext_pushed_f8_sh b7
  have b9 : Array.size h2 ≤ m := Nat.le_of_eq (Eq.symm b8)
  have b5 : h3[m]? = some (.cells #[(.bool false), (.string ByteArray.empty)] 95 (0, 0)) := by rw [b7]; exact push_new b8
  refine lp rfl rfl (hn_stores (vs := [(.bool a2), (.string a1)]) rfl rfl TyTC.sz95 rfl (HWs_row b5 (by simp)) ?_)
  intro h4 b6
  have b0 : h4[m]? = some (.cells #[(.bool a2), (.string a1)] 95 (0, 0)) := row_hsets_eq b6 b5 rfl
  have c8 := ext_hsets b6 c6 b9
  refine ln (qn ?_)
  obtain ⟨b2, c1, H⟩ := H
  refine hx_drawT TyTC.mixed b2 c1 [.pure, .pure, .read, .tame, .pure, .pure, .stay, .wild, .pure, .pure, .pure] [0, 1, 2, 5, 6, 3, 4, 7, 8, 9, 10] (by kernel_rfl) ?_
  refine pp (i := 0) rfl (wanted_0 rfl) rfl (.string a5) (fun _ => vm rfl) ?_
  refine pp (i := 1) rfl (wanted_0 rfl) rfl (ptr m 0) (fun _ => vf TyTC.fld95_0 (b := m) (o := 0) rfl) ?_
  refine pr (i := 2) rfl (wanted_0 rfl) rfl (.bool a2) (fun _ he => vl TyTC.agg4 rfl (Ext.cell he (rc b0 rfl))) ?_
  refine pp (i := 5) rfl (wanted_0 rfl) rfl (ptr m 1) (fun _ => vf TyTC.fld95_1 (b := m) (o := 0) rfl) ?_
  replace H := H m h4 b9 (row_lt b0) c8
  obtain ⟨c3, H⟩ := H
  refine hp_stay (i := 6) rfl (wanted_0 rfl) rfl (.string a1) (fun _ he => vl TyTC.agg9 rfl ((fun hx he => rc (Kp.row (c3 hx he) (by simp) b0) rfl) _ he)) ?_
  refine hp_tame (i := 3) rfl (wanted_0 rfl) rfl (sc TyTC.cb103 rfl (HC.mono H ?_))
  rintro _ h7 ⟨c5, c9, a7, rfl, H⟩
  refine ⟨c5, ?_⟩
  replace b0 := Kp.row c9 (by simp) b0
  obtain ⟨c2, H⟩ := H
  refine pp (i := 4) rfl (wanted_0 rfl) rfl (.string ((ByteArray.mk #[32]) ++ a7)) (fun _ => hv_strAdd rfl rfl c2) ?_
  refine hp_wild (i := 7) rfl (wanted_0 rfl) rfl (sc TyTC.cb104 rfl (HC.mono H ?_))
  rintro _ h8 ⟨a9, rfl, H⟩
  obtain ⟨c7, H⟩ := H
  refine pp (i := 8) rfl (wanted_0 rfl) rfl (.string (((ByteArray.mk #[32]) ++ a7) ++ a9)) (fun _ => hv_strAdd rfl rfl c7) ?_
  obtain ⟨c4, H⟩ := H
  refine pp (i := 9) rfl (wanted_0 rfl) rfl (.string (a5 ++ (((ByteArray.mk #[32]) ++ a7) ++ a9))) (fun _ => hv_strAdd rfl rfl c4) ?_
  refine pp (i := 10) rfl (wanted_0 rfl) rfl (.string (a5 ++ (((ByteArray.mk #[32]) ++ a7) ++ a9))) (fun _ => va rfl) ?_
  refine hp_nil ?_
  refine bn (qn (xr ?_))
  refine lv rfl rfl (vr rfl rfl rfl) (lv rfl rfl (vm rfl) ?_)
  refine ln (qn ?_)
  exact ⟨(a5 ++ (((ByteArray.mk #[32]) ++ a7) ++ a9), IntKind.i64.wrap (v + 1)), ⟨⟨H.1, trivial⟩, H.2⟩, (hc rfl (hc rfl (hc rfl (hc rfl hn))))⟩
 ·replace H := H.2 b4
  refine xe (qe (qe (bh (qn (xs (xr ?_))))))
  refine lv rfl rfl (vm rfl) (lv rfl rfl (va rfl) ?_)
  refine ln (qn (xt ?_))
  exact endQ_ret _ (res_one Tryz.results84 (rv_tmp rfl)) H
theorem f60_sh (a1 : Nat) (a2 : Nat) (a0 : Int) (a7 : Option Addr) (a3 : Nat) (a4 : Nat) (h : Heap) (R : Value → Heap → Prop)
  (H : (((a0 == 0) = true → R (.bool true) h) ∧ ((a0 == 0) = false → HC Tryz.prog 84 #[(.int .u32 a0), (.slice a7 a3 a4)] h (fun vv h1 => ∃ r : ByteArray, vv = (.string r) ∧ (∃ x : Option Nat, hcell h1 a1 (a2 + 3) = some (.map x) ∧ (∃ f9 : Nat, x = some f9 ∧ ∃ kv : List (ByteArray × Value), MapL h1 f9 Value.string kv ∧ ∃ d4 : Int, (lk kv r).getD (.int .i64 0) = (.int .i64 d4) ∧ (((decide (d4 > 0)) = true → R (.bool false) h1) ∧ ((decide (d4 > 0)) = false → (∃ f7 : Option Addr, ∃ b7 f8 : Nat, hcell h1 a1 (a2 + 1) = some (.slice f7 b7 f8) ∧ (∃ (I7 : Int → Heap → Prop) (f5 : Int → Heap → Nat), I7 0 h1 ∧ (∀ (v : Int) (h2 : Heap), I7 v h2 → (((decide (v < (b7 : Int))) = true → (∃ e1 : Heap → Prop, (∃ j : Bool, ((0 : Int) ≤ v ∧ ((((iband .u32 (Int.fdiv a0 (2 ^ min (Int.toNat v) 32)) 1) == 0) = true → (j = true)) ∧ (((iband .u32 (Int.fdiv a0 (2 ^ min (Int.toNat v) 32)) 1) == 0) = false → (∃ c2 : Option Addr, ∃ c6 d6 : Nat, hcell h2 a1 (a2 + 2) = some (.slice c2 c6 d6) ∧ (∃ d1 c9 : Nat, c2 = some ⟨d1, c9, none⟩ ∧ (0 : Int) ≤ v ∧ v < (c6 : Int) ∧ (∃ b3 : Int, hcell h2 d1 (c9 + (Int.toNat v) * 1) = some (.int .u32 b3) ∧ (j = ((iband .u32 b3 a0) != 0)))))))) ∧ ((j = true → (e1 h2)) ∧ (j = false → (∃ f3 : Option Addr, ∃ d2 d9 : Nat, hcell h2 a1 a2 = some (.slice f3 d2 d9) ∧ (∃ f4 : Option Addr, ∃ c8 d7 : Nat, hcell h2 a1 (a2 + 1) = some (.slice f4 c8 d7) ∧ (∃ c7 d0 : Nat, f4 = some ⟨c7, d0, none⟩ ∧ (0 : Int) ≤ v ∧ v < (c8 : Int) ∧ (∃ b1 : Int, hcell h2 c7 (d0 + (Int.toNat v) * 1) = some (.int .i64 b1) ∧ (∃ a9 a8 : Nat, f3 = some ⟨a9, a8, none⟩ ∧ (0 : Int) ≤ b1 ∧ b1 < (d2 : Int) ∧ (∃ b4 : Int, ∃ c0 b0 : ByteArray, ∃ c1 : Int, ∃ b9 : Bool, ∃ b6 b5 c5 : Int, hcell h2 a9 (a8 + (Int.toNat b1) * 8) = some (.int .i64 b4) ∧ hcell h2 a9 ((a8 + (Int.toNat b1) * 8) + 1) = some (.string c0) ∧ hcell h2 a9 ((a8 + (Int.toNat b1) * 8) + 2) = some (.string b0) ∧ hcell h2 a9 ((a8 + (Int.toNat b1) * 8) + 3) = some (.int .i64 c1) ∧ hcell h2 a9 ((a8 + (Int.toNat b1) * 8) + 4) = some (.bool b9) ∧ hcell h2 a9 ((a8 + (Int.toNat b1) * 8) + 5) = some (.int .i64 b6) ∧ hcell h2 a9 ((a8 + (Int.toNat b1) * 8) + 6) = some (.int .i64 b5) ∧ hcell h2 a9 ((a8 + (Int.toNat b1) * 8) + 7) = some (.int .i64 c5) ∧ HC Tryz.prog 54 #[(.slice a7 a3 a4), (.agg #[(.int .i64 b4), (.string c0), (.string b0), (.int .i64 c1), (.bool b9), (.int .i64 b6), (.int .i64 b5), (.int .i64 c5)])] h2 (fun vv h4 => ∃ d5 : Option Addr, ∃ b2 d3 : Nat, vv = (.slice d5 b2 d3) ∧ (∃ e2 : Bool → Heap → Prop, (((decide ((b2 : Int) > 0)) = true → ((0 : Int) ≤ v ∧ HC Tryz.prog 60 #[(ptr a1 a2), (.int .u32 (ibandNot .u32 a0 (IntKind.u32.wrap (1 * 2 ^ min (Int.toNat v) 32)))), (.slice d5 b2 d3)] h4 (fun vv h6 => ∃ f2 : Bool, vv = (.bool f2) ∧ (e2 f2 h6)))) ∧ ((decide ((b2 : Int) > 0)) = false → (e2 false h4))) ∧ (∀ (c4 : Bool) (h5 : Heap), e2 c4 h5 → ((c4 = true → R (.bool true) h5) ∧ (c4 = false → (e1 h5))))))))))))))) ∧ (∀ (h3 : Heap), e1 h3 → (I7 (IntKind.i64.wrap (v + 1)) h3 ∧ f5 (IntKind.i64.wrap (v + 1)) h3 < f5 v h2)))) ∧ ((decide (v < (b7 : Int))) = false → (∃ c2 : Option Nat, hcell h2 a1 (a2 + 3) = some (.map c2) ∧ (∃ b8 : Nat, c2 = some b8 ∧ ∃ d8 : List (ByteArray × Value), MapL h2 b8 Value.string d8 ∧ ∃ b3 : Int, (lk d8 r).getD (.int .i64 0) = (.int .i64 b3) ∧ (∃ e0 : List (ByteArray × Value), MapL h2 b8 Value.string e0 ∧ ∀ h7, Only b8 h2 h7 → MapL h7 b8 Value.string (kput e0 r (.int .i64 (IntKind.i64.wrap (b3 + 1)))) → R (.bool false) h7)))))))))))))))) :
  HC Tryz.prog 60 #[(ptr a1 a2), (.int .u32 a0), (.slice a7 a3 a4)] h R := by
 refine hc_of (args := [(ptr a1 a2), (.int .u32 a0), (.slice a7 a3 a4)]) Tryz.func60 rfl Tryz.ntmps60 (Nat.le_of_ble_eq_true rfl) ?_
 refine xs (xr ?_)
 refine lv rfl rfl (va rfl) ?_
 refine ln (qn (xs (xs (xr ?_))))
 refine lv rfl rfl (vm rfl) (lv rfl rfl (vr rfl rfl rfl) ?_)
 refine ln (qn ?_)
 refine xc (b := a0 == 0) rfl (fun f6 => ?_) (fun f6 => ?_)
 ·replace H := H.1 f6
  refine xs (xr ?_)
  refine lv rfl rfl (va rfl) ?_
  refine ln (qn (xt (qr ?_)))
  exact endQ_ret _ (res_one Tryz.results60 (rv_tmp rfl)) H
 ·replace H := H.2 f6
  refine xi (qn (xs (xr ?_)))
  refine lv rfl rfl (vm rfl) (lv rfl rfl (vm rfl) ?_)
  refine lp rfl rfl (sc TyTC.cb84 rfl (HC.mono H ?_))
  rintro _ h1 ⟨r, rfl, H⟩
  refine lv rfl rfl (va rfl) ?_
  refine ln (qn (xs (xs (xr ?_))))
  refine lv rfl rfl (vm rfl) (lv rfl rfl (v := (ptr a1 a2)) (hv_nil rfl) (lv rfl rfl (v := (ptr a1 (a2 + 3))) (vf TyTC.fld92_3 (b := a1) (o := a2) rfl) ?_))
  obtain ⟨x, k5, H⟩ := H
  refine lv rfl rfl (vl TyTC.agg89 rfl k5) (lv rfl rfl (vm rfl) ?_)
  obtain ⟨f9, c3, Hq⟩ := H
  subst c3
  have H := Hq; clear Hq
  obtain ⟨kv, k2, d4, k3, H⟩ := H
  refine lv rfl rfl (v := (.int .i64 d4)) (hv_look (l := kv) (a := r) strK TyTC.u89 TyTC.u9 TyTC.z3 rfl rfl k2 k3) (lv rfl rfl (vr rfl rfl rfl) ?_)
  refine ln (qn ?_)
  refine xc (b := decide (d4 > 0)) rfl (fun g0 => ?_) (fun g0 => ?_)
  ·replace H := H.1 g0
   refine xs (xr ?_)
   refine lv rfl rfl (va rfl) ?_
   refine ln (qn (xt (qr ?_)))
   exact endQ_ret _ (res_one Tryz.results60 (rv_tmp rfl)) H
  ·replace H := H.2 g0
   refine xi (qn (xs (xs (xr ?_))))
   refine lv rfl rfl (vm rfl) (lv rfl rfl (v := (ptr a1 a2)) (hv_nil rfl) (lv rfl rfl (v := (ptr a1 (a2 + 1))) (vf TyTC.fld92_1 (b := a1) (o := a2) rfl) ?_))
   obtain ⟨f7, b7, f8, k6, H⟩ := H
   refine lv rfl rfl (vl TyTC.agg26 rfl k6) (lv rfl rfl (v := (.int .i64 (b7 : Int))) (hv_len (n := b7) TyTC.u26 rfl) (lv rfl rfl (vm rfl) ?_))
   refine ln (qn (xb ?_))
   obtain ⟨I7, f5, k4, g3⟩ := H
   refine xl (σ := Int) (fun s => [(0, (ptr a1 a2)), (1, (.int .u32 a0)), (2, (.slice a7 a3 a4)), (7, (.string r)), (26, (.int .i64 (b7 : Int))), (27, (.int .i64 s))]) (fun s h' => I7 s h' ∧ True) (fun s h' => f5 s h') 0 ⟨k4, trivial⟩ (hc rfl (hc rfl (hc rfl (hc rfl (hc rfl (hc rfl hn)))))) ?_
   rintro v ρ h2 ⟨j5, -⟩
   have H := g3 v h2 j5
   refine xs (xr ?_)
   refine lv rfl rfl (vr rfl rfl rfl) ?_
   refine ln (qn (xs ?_))
   refine xc (b := decide (v < (b7 : Int))) rfl (fun e4 => ?_) (fun e4 => ?_)
   ·replace H := H.1 e4
    refine xi (qn ?_)
    obtain ⟨e1, f1, e6⟩ := H
    refine xk (fun ρ h' => (e1 h' ∧ True) ∧ Has ρ [(0, (ptr a1 a2)), (1, (.int .u32 a0)), (2, (.slice a7 a3 a4)), (7, (.string r)), (26, (.int .i64 (b7 : Int))), (27, (.int .i64 v))]) ?_ ?_
    ·have H := f1; clear f1 e6
     refine xb (xs (xr ?_))
     refine lv rfl rfl (vm rfl) (lv rfl rfl (va rfl) ?_)
     refine ln (qn (xs ?_))
     obtain ⟨j, e8, e3⟩ := H
     refine xk (fun ρ h' => h2 = h' ∧ Has ρ [(0, (ptr a1 a2)), (1, (.int .u32 a0)), (2, (.slice a7 a3 a4)), (7, (.string r)), (8, (.int .i64 v)), (26, (.int .i64 (b7 : Int))), (27, (.int .i64 v)), (46, (.bool j))]) ?_ ?_
     ·have H := e8; clear e8 e3
      refine xr ?_
      refine lv rfl rfl (vm rfl) (lv rfl rfl (vm rfl) ?_)
      obtain ⟨j0, H⟩ := H
      refine lv rfl rfl (v := (.int .u32 (Int.fdiv a0 (2 ^ min (Int.toNat v) 32)))) (hv_shift rfl rfl j0 rfl) (lv rfl rfl (v := (.int .u32 (iband .u32 (Int.fdiv a0 (2 ^ min (Int.toNat v) 32)) 1))) (hv_bits rfl rfl rfl) (lv rfl rfl (vr rfl rfl rfl) (lv rfl rfl (vm rfl) ?_)))
      rcases bool_or ((iband .u32 (Int.fdiv a0 (2 ^ min (Int.toNat v) 32)) 1) == 0) with a5 | a5
      ·replace H := H.1 a5
       refine lo (wanted_n rfl rfl rfl a5) rfl ?_
       refine lo (wanted_n rfl rfl rfl a5) rfl ?_
       refine lo (wanted_n rfl rfl rfl a5) rfl ?_
       refine lo (wanted_n rfl rfl rfl a5) rfl ?_
       refine lo (wanted_n rfl rfl rfl a5) rfl ?_
       refine lo (wanted_n rfl rfl rfl a5) rfl ?_
       refine lo (wanted_n rfl rfl rfl a5) rfl ?_
       refine lo (wanted_n rfl rfl rfl a5) rfl ?_
       refine lo (wanted_n rfl rfl rfl a5) rfl ?_
       refine lo (wanted_n rfl rfl rfl a5) rfl ?_
       refine lv rfl rfl (v := (.bool true)) (hv_pick_t rfl a5 rfl) ?_
       refine ln (qn ?_)
       obtain rfl := H
       exact ⟨rfl, (hc rfl (hc rfl (hc rfl (hc rfl (hc rfl (hc rfl (hc rfl (hc rfl hn))))))))⟩
      ·replace H := H.2 a5
       refine ly (wanted_y rfl rfl rfl a5) rfl (HStep.of_val (v := (ptr a1 a2)) (vm rfl) ?_)
       refine ly (wanted_y rfl rfl rfl a5) rfl (HStep.of_val (v := (ptr a1 a2)) (hv_nil rfl) ?_)
       refine ly (wanted_y rfl rfl rfl a5) rfl (HStep.of_val (v := (ptr a1 (a2 + 2))) (vf TyTC.fld92_2 (b := a1) (o := a2) rfl) ?_)
       obtain ⟨c2, c6, d6, j2, H⟩ := H
       refine ly (wanted_y rfl rfl rfl a5) rfl (HStep.of_val (v := (.slice c2 c6 d6)) (vl TyTC.agg90 rfl j2) ?_)
       refine ly (wanted_y rfl rfl rfl a5) rfl (HStep.of_val (v := (.int .i64 v)) (vm rfl) ?_)
       obtain ⟨d1, c9, c3, k0, g4, Hq⟩ := H
       subst c3
       have H := Hq; clear Hq
       refine ly (wanted_y rfl rfl rfl a5) rfl (HStep.of_val (v := (ptr d1 (c9 + (Int.toNat v) * 1))) (vi TyTC.el90 rfl rfl k0 g4) ?_)
       obtain ⟨b3, j9, H⟩ := H
       refine ly (wanted_y rfl rfl rfl a5) rfl (HStep.of_val (v := (.int .u32 b3)) (vl TyTC.agg67 rfl j9) ?_)
       refine ly (wanted_y rfl rfl rfl a5) rfl (HStep.of_val (v := (.int .u32 a0)) (vm rfl) ?_)
       refine ly (wanted_y rfl rfl rfl a5) rfl (HStep.of_val (v := (.int .u32 (iband .u32 b3 a0))) (hv_bits rfl rfl rfl) ?_)
       refine ly (wanted_y rfl rfl rfl a5) rfl (HStep.of_val (v := (.bool ((iband .u32 b3 a0) != 0))) (vr rfl rfl rfl) ?_)
       refine lv rfl rfl (v := (.bool ((iband .u32 b3 a0) != 0))) (hv_pick_f rfl a5 rfl) ?_
       refine ln (qn ?_)
       obtain rfl := H
       exact ⟨rfl, (hc rfl (hc rfl (hc rfl (hc rfl (hc rfl (hc rfl (hc rfl (hc rfl hn))))))))⟩
     ·have H := e3; clear e8 e3
      rintro ρ _ ⟨rfl, hH⟩
      refine xh _ hH ?_
      refine xc (b := j) rfl (fun e5 => ?_) (fun e5 => ?_)
      ·replace H := H.1 e5
       refine xe (qe (bh (qn ?_)))
       exact ⟨⟨H, trivial⟩, (hc rfl (hc rfl (hc rfl (hc rfl (hc rfl (hc rfl hn))))))⟩
      ·replace H := H.2 e5
       refine xi (qn (xs ?_))
       refine hx_draw TyTC.mixed [.pure, .pure, .pure, .pure, .read, .pure, .pure, .pure, .read, .pure, .pure, .read, .pure, .read, .wild, .pure] [0, 1, 2, 3, 4, 5, 6, 7, 8, 9, 10, 11, 12, 13, 14, 15] (by kernel_rfl) ?_
       refine pp (i := 0) rfl (wanted_0 rfl) rfl (.slice a7 a3 a4) (fun _ => vm rfl) ?_
       refine pp (i := 1) rfl (wanted_0 rfl) rfl (ptr a1 a2) (fun _ => vm rfl) ?_
       refine pp (i := 2) rfl (wanted_0 rfl) rfl (ptr a1 a2) (fun _ => hv_nil rfl) ?_
       refine pp (i := 3) rfl (wanted_0 rfl) rfl (ptr a1 a2) (fun _ => vf TyTC.fld92_0 (b := a1) (o := a2) rfl) ?_
       obtain ⟨f3, d2, d9, g7, H⟩ := H
       refine pr (i := 4) rfl (wanted_0 rfl) rfl (.slice f3 d2 d9) (fun _ he => vl TyTC.agg22 rfl (Ext.cell he g7)) ?_
       refine pp (i := 5) rfl (wanted_0 rfl) rfl (ptr a1 a2) (fun _ => vm rfl) ?_
       refine pp (i := 6) rfl (wanted_0 rfl) rfl (ptr a1 a2) (fun _ => hv_nil rfl) ?_
       refine pp (i := 7) rfl (wanted_0 rfl) rfl (ptr a1 (a2 + 1)) (fun _ => vf TyTC.fld92_1 (b := a1) (o := a2) rfl) ?_
       obtain ⟨f4, c8, d7, g9, H⟩ := H
       refine pr (i := 8) rfl (wanted_0 rfl) rfl (.slice f4 c8 d7) (fun _ he => vl TyTC.agg26 rfl (Ext.cell he g9)) ?_
       refine pp (i := 9) rfl (wanted_0 rfl) rfl (.int .i64 v) (fun _ => vm rfl) ?_
       obtain ⟨c7, d0, c3, i9, i0, Hq⟩ := H
       subst c3
       have H := Hq; clear Hq
       refine pp (i := 10) rfl (wanted_0 rfl) rfl (ptr c7 (d0 + (Int.toNat v) * 1)) (fun _ => vi TyTC.el26 rfl rfl i9 i0) ?_
       obtain ⟨b1, i3, H⟩ := H
       refine pr (i := 11) rfl (wanted_0 rfl) rfl (.int .i64 b1) (fun _ he => vl TyTC.agg3 rfl (Ext.cell he i3)) ?_
       obtain ⟨a9, a8, c3, j7, j1, Hq⟩ := H
       subst c3
       have H := Hq; clear Hq
       refine pp (i := 12) rfl (wanted_0 rfl) rfl (ptr a9 (a8 + (Int.toNat b1) * 8)) (fun _ => vi TyTC.el22 rfl rfl j7 j1) ?_
       obtain ⟨b4, c0, b0, c1, b9, b6, b5, c5, g2, j4, k1, i2, i6, g1, g5, i1, H⟩ := H
       refine pr (i := 13) rfl (wanted_0 rfl) rfl (.agg #[(.int .i64 b4), (.string c0), (.string b0), (.int .i64 c1), (.bool b9), (.int .i64 b6), (.int .i64 b5), (.int .i64 c5)]) (fun _ he => vL (vs := [(.int .i64 b4), (.string c0), (.string b0), (.int .i64 c1), (.bool b9), (.int .i64 b6), (.int .i64 b5), (.int .i64 c5)]) TyTC.agg40 TyTC.sz40 rfl (cc (Ext.cell he g2) (cc (Ext.cell he j4) (cc (Ext.cell he k1) (cc (Ext.cell he i2) (cc (Ext.cell he i6) (cc (Ext.cell he g1) (cc (Ext.cell he g5) (cc (Ext.cell he i1) cn))))))))) ?_
       refine hp_wild (i := 14) rfl (wanted_0 rfl) rfl (sc TyTC.cb54 rfl (HC.mono H ?_))
       rintro _ h4 ⟨d5, b2, d3, rfl, H⟩
       refine pp (i := 15) rfl (wanted_0 rfl) rfl (.slice d5 b2 d3) (fun _ => va rfl) ?_
       refine hp_nil ?_
       refine qn ?_
       obtain ⟨e2, e9, e7⟩ := H
       refine xk (fun ρ h' => ∃ c4 : Bool, (e2 c4 h' ∧ True) ∧ Has ρ [(0, (ptr a1 a2)), (1, (.int .u32 a0)), (2, (.slice a7 a3 a4)), (7, (.string r)), (26, (.int .i64 (b7 : Int))), (27, (.int .i64 v)), (73, (.bool c4))]) ?_ ?_
       ·have H := e9; clear e9 e7
        refine xr ?_
        refine lv rfl rfl (vm rfl) (lv rfl rfl (v := (.int .i64 (b2 : Int))) (hv_len (n := b2) TyTC.u69 rfl) (lv rfl rfl (vr rfl rfl rfl) (lv rfl rfl (vm rfl) ?_)))
        rcases bool_or (decide ((b2 : Int) > 0)) with a6 | a6
        ·replace H := H.1 a6
         refine ly (wanted_y rfl rfl rfl a6) rfl (HStep.of_val (v := (ptr a1 a2)) (vm rfl) ?_)
         refine ly (wanted_y rfl rfl rfl a6) rfl (HStep.of_val (v := (.int .u32 a0)) (vm rfl) ?_)
         refine ly (wanted_y rfl rfl rfl a6) rfl (HStep.of_val (v := (.int .i64 v)) (vm rfl) ?_)
         obtain ⟨j3, H⟩ := H
         refine ly (wanted_y rfl rfl rfl a6) rfl (HStep.of_val (v := (.int .u32 (IntKind.u32.wrap (1 * 2 ^ min (Int.toNat v) 32)))) (hv_shift rfl rfl j3 rfl) ?_)
         refine ly (wanted_y rfl rfl rfl a6) rfl (HStep.of_val (v := (.int .u32 (ibandNot .u32 a0 (IntKind.u32.wrap (1 * 2 ^ min (Int.toNat v) 32))))) (hv_bits rfl rfl rfl) ?_)
         refine ly (wanted_y rfl rfl rfl a6) rfl (HStep.of_val (v := (.slice d5 b2 d3)) (vm rfl) ?_)
         refine ly (wanted_y rfl rfl rfl a6) rfl (sc TyTC.cb60 rfl (HC.mono H ?_))
         rintro _ h6 ⟨f2, rfl, H⟩
         refine lv rfl rfl (v := (.bool f2)) (hv_pick_t rfl a6 rfl) ?_
         refine ln (qn ?_)
         exact ⟨_, ⟨H, trivial⟩, (hc rfl (hc rfl (hc rfl (hc rfl (hc rfl (hc rfl (hc rfl hn)))))))⟩
        ·replace H := H.2 a6
         refine lo (wanted_n rfl rfl rfl a6) rfl ?_
         refine lo (wanted_n rfl rfl rfl a6) rfl ?_
         refine lo (wanted_n rfl rfl rfl a6) rfl ?_
         refine lo (wanted_n rfl rfl rfl a6) rfl ?_
         refine lo (wanted_n rfl rfl rfl a6) rfl ?_
         refine lo (wanted_n rfl rfl rfl a6) rfl ?_
         refine lo (wanted_n rfl rfl rfl a6) rfl ?_
         refine lv rfl rfl (v := (.bool false)) (hv_pick_f rfl a6 rfl) ?_
         refine ln (qn ?_)
         exact ⟨_, ⟨H, trivial⟩, (hc rfl (hc rfl (hc rfl (hc rfl (hc rfl (hc rfl (hc rfl hn)))))))⟩
       ·rintro ρ h5 ⟨c4, ⟨i4, -⟩, hH⟩
        have H := e7 c4 h5 i4; clear e9 e7
        refine xh _ hH ?_
        refine xc (b := c4) rfl (fun f0 => ?_) (fun f0 => ?_)
        ·replace H := H.1 f0
         refine xs (xr ?_)
         refine lv rfl rfl (va rfl) ?_
         refine ln (qn (xt (br (qr (qr (br (qr ?_)))))))
         exact endQ_ret _ (res_one Tryz.results60 (rv_tmp rfl)) H
        ·replace H := H.2 f0
         refine xi (bn (qn ?_))
         exact ⟨⟨H, trivial⟩, (hc rfl (hc rfl (hc rfl (hc rfl (hc rfl (hc rfl hn))))))⟩
    ·rintro ρ h3 ⟨⟨g8, -⟩, hH⟩
     have H := e6 h3 g8; clear f1 e6
     refine xh _ hH ?_
     refine xr ?_
     refine lv rfl rfl (vr rfl rfl rfl) (lv rfl rfl (vm rfl) ?_)
     refine ln (qn ?_)
     exact ⟨IntKind.i64.wrap (v + 1), ⟨⟨H.1, trivial⟩, H.2⟩, (hc rfl (hc rfl (hc rfl (hc rfl (hc rfl (hc rfl hn))))))⟩
   ·replace H := H.2 e4
    refine xe (qe (qe (bh (qn (xs (xr ?_))))))
    refine lv rfl rfl (vm rfl) (lv rfl rfl (v := (ptr a1 a2)) (hv_nil rfl) (lv rfl rfl (v := (ptr a1 (a2 + 3))) (vf TyTC.fld92_3 (b := a1) (o := a2) rfl) ?_))
    obtain ⟨c2, j8, H⟩ := H
    refine lv rfl rfl (vl TyTC.agg89 rfl j8) (lv rfl rfl (vm rfl) ?_)
    obtain ⟨b8, c3, Hq⟩ := H
    subst c3
    have H := Hq; clear Hq
    obtain ⟨d8, i5, b3, j6, H⟩ := H
    refine lv rfl rfl (v := (.int .i64 b3)) (hv_look (l := d8) (a := r) strK TyTC.u89 TyTC.u9 TyTC.z3 rfl rfl i5 j6) (lv rfl rfl (vr rfl rfl rfl) ?_)
    obtain ⟨e0, i8, H⟩ := H
    refine lp rfl rfl (hn_mapPut (l := e0) (a := r) strK TyTC.u89 TyTC.u9 rfl rfl rfl i8 ?_)
    intro h7 g6 i7
    replace H := H h7 g6 i7
    refine ln (qn (xs (xr ?_)))
    refine lv rfl rfl (va rfl) ?_
    refine ln (qn (xt ?_))
    exact endQ_ret _ (res_one Tryz.results60 (rv_tmp rfl)) H
theorem f45_sh (a2 : Nat) (a1 : Nat) (h : Heap) (R : Value → Heap → Prop)
  (H : (∃ x : Option Addr, ∃ a0 a3 : Nat, hcell h a2 (a1 + 1) = some (.slice x a0 a3) ∧ ((0 : Int) ≤ (a0 : Int) ∧ R (.int .u32 (IntKind.u32.wrap ((IntKind.u32.wrap (1 * 2 ^ min (Int.toNat (a0 : Int)) 32)) - 1))) h))) :
  HC Tryz.prog 45 #[(ptr a2 a1)] h R := by
 refine hc_of (args := [(ptr a2 a1)]) Tryz.func45 rfl Tryz.ntmps45 (Nat.le_of_ble_eq_true rfl) ?_
 refine xs (xr ?_)
 refine lv rfl rfl (va rfl) ?_
 refine ln (qn (xs (xr ?_)))
 refine lv rfl rfl (vm rfl) (lv rfl rfl (v := (ptr a2 a1)) (hv_nil rfl) (lv rfl rfl (v := (ptr a2 (a1 + 1))) (vf TyTC.fld92_1 (b := a2) (o := a1) rfl) ?_))
 obtain ⟨x, a0, a3, a5, H⟩ := H
 refine lv rfl rfl (vl TyTC.agg26 rfl a5) (lv rfl rfl (v := (.int .i64 (a0 : Int))) (hv_len (n := a0) TyTC.u26 rfl) ?_)
 obtain ⟨a4, H⟩ := H
 refine lv rfl rfl (v := (.int .u32 (IntKind.u32.wrap (1 * 2 ^ min (Int.toNat (a0 : Int)) 32)))) (hv_shift rfl rfl a4 rfl) (lv rfl rfl (vr rfl rfl rfl) (lv rfl rfl (va rfl) ?_))
 refine ln (qn (xt ?_))
 exact endQ_ret _ (res_one Tryz.results45 (rv_tmp rfl)) H
theorem f44_sh (a1 : Nat) (a0 : Nat) (h : Heap) (R : Value → Heap → Prop)
  (H : HC Tryz.prog 45 #[(ptr a1 a0)] h (fun vv h1 => ∃ r : Int, vv = (.int .u32 r) ∧ HC Tryz.prog 46 #[] h1 (fun vv h2 => ∃ a3 : Option Addr, ∃ a4 a2 : Nat, vv = (.slice a3 a4 a2) ∧ HC Tryz.prog 60 #[(ptr a1 a0), (.int .u32 r), (.slice a3 a4 a2)] h2 (fun vv h3 => ∃ a5 : Bool, vv = (.bool a5) ∧ R (.bool a5) h3)))) :
  HC Tryz.prog 44 #[(ptr a1 a0)] h R := by
 refine hc_of (args := [(ptr a1 a0)]) Tryz.func44 rfl Tryz.ntmps44 (Nat.le_of_ble_eq_true rfl) ?_
 refine xs (xr ?_)
 refine lv rfl rfl (va rfl) ?_
 refine ln (qn (xs (xr ?_)))
 refine lv rfl rfl (vm rfl) (lv rfl rfl (vm rfl) ?_)
 refine lp rfl rfl (sc TyTC.cb45 rfl (HC.mono H ?_))
 rintro _ h1 ⟨r, rfl, H⟩
 refine lp rfl rfl (sc TyTC.cb46 rfl (HC.mono H ?_))
 rintro _ h2 ⟨a3, a4, a2, rfl, H⟩
 refine lp rfl rfl (sc TyTC.cb60 rfl (HC.mono H ?_))
 rintro _ h3 ⟨a5, rfl, H⟩
 refine lv rfl rfl (va rfl) ?_
 refine ln (qn (xt ?_))
 exact endQ_ret _ (res_one Tryz.results44 (rv_tmp rfl)) H
theorem f49_sh (a1 : Nat) (a0 : Nat) (i : Int) (h : Heap) (R : Value → Heap → Prop)
  (H : (∃ x : Option Addr, hcell h a1 a0 = some (.pointer x) ∧ (∃ c4 c3 : Nat, x = some ⟨c4, c3, none⟩ ∧ (∃ c9 : Option Addr, ∃ d2 c8 : Nat, hcell h c4 (c3 + 1) = some (.slice c9 d2 c8) ∧ HC Tryz.prog 62 #[(.slice c9 d2 c8), (.int .i64 i)] h (fun vv h1 => ∃ r : Int, vv = (.int .i64 r) ∧ (∃ c7 : Option Addr, ∃ b9 b8 : Nat, hcell h1 a1 (a0 + 2) = some (.slice c7 b9 b8) ∧ (∃ d7 : Option Addr, hcell h1 a1 a0 = some (.pointer d7) ∧ (∃ b5 b4 : Nat, d7 = some ⟨b5, b4, none⟩ ∧ (∃ d6 : Option Addr, ∃ c1 c5 : Nat, hcell h1 b5 b4 = some (.slice d6 c1 c5) ∧ (∃ a3 a4 : Nat, d6 = some ⟨a3, a4, none⟩ ∧ (0 : Int) ≤ i ∧ i < (c1 : Int) ∧ (∃ a7 : Int, ∃ b6 a6 : ByteArray, ∃ b7 : Int, ∃ b3 : Bool, ∃ a9 a8 c0 : Int, hcell h1 a3 (a4 + (Int.toNat i) * 8) = some (.int .i64 a7) ∧ hcell h1 a3 ((a4 + (Int.toNat i) * 8) + 1) = some (.string b6) ∧ hcell h1 a3 ((a4 + (Int.toNat i) * 8) + 2) = some (.string a6) ∧ hcell h1 a3 ((a4 + (Int.toNat i) * 8) + 3) = some (.int .i64 b7) ∧ hcell h1 a3 ((a4 + (Int.toNat i) * 8) + 4) = some (.bool b3) ∧ hcell h1 a3 ((a4 + (Int.toNat i) * 8) + 5) = some (.int .i64 a9) ∧ hcell h1 a3 ((a4 + (Int.toNat i) * 8) + 6) = some (.int .i64 a8) ∧ hcell h1 a3 ((a4 + (Int.toNat i) * 8) + 7) = some (.int .i64 c0) ∧ HC Tryz.prog 54 #[(.slice c7 b9 b8), (.agg #[(.int .i64 a7), (.string b6), (.string a6), (.int .i64 b7), (.bool b3), (.int .i64 a9), (.int .i64 a8), (.int .i64 c0)])] h1 (fun vv h2 => ∃ b2 : Option Addr, ∃ a5 b1 : Nat, vv = (.slice b2 a5 b1) ∧ (∃ b0 : Int, hcell h2 a1 (a0 + 1) = some (.int .u32 b0) ∧ ((0 : Int) ≤ r ∧ (∃ c6 : Bool → Heap → Prop, ((((a5 : Int) == 0) = true → (c6 true h2)) ∧ (((a5 : Int) == 0) = false → (∃ d0 : Option Addr, hcell h2 a1 a0 = some (.pointer d0) ∧ HC Tryz.prog 60 #[(.pointer d0), (.int .u32 (ibandNot .u32 b0 (IntKind.u32.wrap (1 * 2 ^ min (Int.toNat r) 32)))), (.slice b2 a5 b1)] h2 (fun vv h4 => ∃ c2 : Bool, vv = (.bool c2) ∧ (c6 (!c2) h4))))) ∧ (∀ (j : Bool) (h3 : Heap), c6 j h3 → ((j = true → R (.bool false) h3) ∧ (j = false → (HW h3 a1 (a0 + 1) ∧ ∀ h5, h5 = hset h3 a1 (a0 + 1) (.int .u32 (ibandNot .u32 b0 (IntKind.u32.wrap (1 * 2 ^ min (Int.toNat r) 32)))) → (HW h5 a1 (a0 + 2) ∧ ∀ h6, h6 = hset h5 a1 (a0 + 2) (.slice b2 a5 b1) → R (.bool true) h6)))))))))))))))))))) :
  HC Tryz.prog 49 #[(ptr a1 a0), (.int .i64 i)] h R := by
 refine hc_of (args := [(ptr a1 a0), (.int .i64 i)]) Tryz.func49 rfl Tryz.ntmps49 (Nat.le_of_ble_eq_true rfl) ?_
 refine xs (xr ?_)
 refine lv rfl rfl (va rfl) ?_
 refine ln (qn (xs (xr ?_)))
 refine lv rfl rfl (vm rfl) (lv rfl rfl (v := (ptr a1 a0)) (hv_nil rfl) (lv rfl rfl (v := (ptr a1 a0)) (vf TyTC.fld72_0 (b := a1) (o := a0) rfl) ?_))
 obtain ⟨x, g0, H⟩ := H
 refine lv rfl rfl (vl TyTC.agg65 rfl g0) ?_
 obtain ⟨c4, c3, d1, Hq⟩ := H
 subst d1
 have H := Hq; clear Hq
 refine lv rfl rfl (v := (ptr c4 c3)) (hv_nil rfl) (lv rfl rfl (v := (ptr c4 (c3 + 1))) (vf TyTC.fld92_1 (b := c4) (o := c3) rfl) ?_)
 obtain ⟨c9, d2, c8, f8, H⟩ := H
 refine lv rfl rfl (vl TyTC.agg26 rfl f8) (lv rfl rfl (vm rfl) ?_)
 refine lp rfl rfl (sc TyTC.cb62 rfl (HC.mono H ?_))
 rintro _ h1 ⟨r, rfl, H⟩
 refine lv rfl rfl (va rfl) ?_
 refine ln (qn (xs ?_))
 refine hx_draw TyTC.mixed [.pure, .pure, .pure, .read, .pure, .pure, .pure, .read, .pure, .pure, .read, .pure, .pure, .read, .wild, .pure] [0, 1, 2, 3, 4, 5, 6, 7, 8, 9, 10, 11, 12, 13, 14, 15] (by kernel_rfl) ?_
 refine pp (i := 0) rfl (wanted_0 rfl) rfl (ptr a1 a0) (fun _ => vm rfl) ?_
 refine pp (i := 1) rfl (wanted_0 rfl) rfl (ptr a1 a0) (fun _ => hv_nil rfl) ?_
 refine pp (i := 2) rfl (wanted_0 rfl) rfl (ptr a1 (a0 + 2)) (fun _ => vf TyTC.fld72_2 (b := a1) (o := a0) rfl) ?_
 obtain ⟨c7, b9, b8, f3, H⟩ := H
 refine pr (i := 3) rfl (wanted_0 rfl) rfl (.slice c7 b9 b8) (fun _ he => vl TyTC.agg69 rfl (Ext.cell he f3)) ?_
 refine pp (i := 4) rfl (wanted_0 rfl) rfl (ptr a1 a0) (fun _ => vm rfl) ?_
 refine pp (i := 5) rfl (wanted_0 rfl) rfl (ptr a1 a0) (fun _ => hv_nil rfl) ?_
 refine pp (i := 6) rfl (wanted_0 rfl) rfl (ptr a1 a0) (fun _ => vf TyTC.fld72_0 (b := a1) (o := a0) rfl) ?_
 obtain ⟨d7, f7, H⟩ := H
 refine pr (i := 7) rfl (wanted_0 rfl) rfl (.pointer d7) (fun _ he => vl TyTC.agg65 rfl (Ext.cell he f7)) ?_
 obtain ⟨b5, b4, d1, Hq⟩ := H
 subst d1
 have H := Hq; clear Hq
 refine pp (i := 8) rfl (wanted_0 rfl) rfl (ptr b5 b4) (fun _ => hv_nil rfl) ?_
 refine pp (i := 9) rfl (wanted_0 rfl) rfl (ptr b5 b4) (fun _ => vf TyTC.fld92_0 (b := b5) (o := b4) rfl) ?_
 obtain ⟨d6, c1, c5, f5, H⟩ := H
 refine pr (i := 10) rfl (wanted_0 rfl) rfl (.slice d6 c1 c5) (fun _ he => vl TyTC.agg22 rfl (Ext.cell he f5)) ?_
 refine pp (i := 11) rfl (wanted_0 rfl) rfl (.int .i64 i) (fun _ => vm rfl) ?_
 obtain ⟨a3, a4, d1, f6, f4, Hq⟩ := H
 subst d1
 have H := Hq; clear Hq
 refine pp (i := 12) rfl (wanted_0 rfl) rfl (ptr a3 (a4 + (Int.toNat i) * 8)) (fun _ => vi TyTC.el22 rfl rfl f6 f4) ?_
 obtain ⟨a7, b6, a6, b7, b3, a9, a8, c0, f2, f9, d8, e1, e6, f0, e7, e8, H⟩ := H
 refine pr (i := 13) rfl (wanted_0 rfl) rfl (.agg #[(.int .i64 a7), (.string b6), (.string a6), (.int .i64 b7), (.bool b3), (.int .i64 a9), (.int .i64 a8), (.int .i64 c0)]) (fun _ he => vL (vs := [(.int .i64 a7), (.string b6), (.string a6), (.int .i64 b7), (.bool b3), (.int .i64 a9), (.int .i64 a8), (.int .i64 c0)]) TyTC.agg40 TyTC.sz40 rfl (cc (Ext.cell he f2) (cc (Ext.cell he f9) (cc (Ext.cell he d8) (cc (Ext.cell he e1) (cc (Ext.cell he e6) (cc (Ext.cell he f0) (cc (Ext.cell he e7) (cc (Ext.cell he e8) cn))))))))) ?_
 refine hp_wild (i := 14) rfl (wanted_0 rfl) rfl (sc TyTC.cb54 rfl (HC.mono H ?_))
 rintro _ h2 ⟨b2, a5, b1, rfl, H⟩
 refine pp (i := 15) rfl (wanted_0 rfl) rfl (.slice b2 a5 b1) (fun _ => va rfl) ?_
 refine hp_nil ?_
 refine qn (xs ?_)
 refine hx_draw TyTC.mixed [.pure, .pure, .pure, .read, .pure, .pure, .pure, .pure] [0, 1, 2, 3, 4, 5, 6, 7] (by kernel_rfl) ?_
 refine pp (i := 0) rfl (wanted_0 rfl) rfl (ptr a1 a0) (fun _ => vm rfl) ?_
 refine pp (i := 1) rfl (wanted_0 rfl) rfl (ptr a1 a0) (fun _ => hv_nil rfl) ?_
 refine pp (i := 2) rfl (wanted_0 rfl) rfl (ptr a1 (a0 + 1)) (fun _ => vf TyTC.fld72_1 (b := a1) (o := a0) rfl) ?_
 obtain ⟨b0, e3, H⟩ := H
 refine pr (i := 3) rfl (wanted_0 rfl) rfl (.int .u32 b0) (fun _ he => vl TyTC.agg67 rfl (Ext.cell he e3)) ?_
 refine pp (i := 4) rfl (wanted_0 rfl) rfl (.int .i64 r) (fun _ => vm rfl) ?_
 obtain ⟨e0, H⟩ := H
 refine pp (i := 5) rfl (wanted_0 rfl) rfl (.int .u32 (IntKind.u32.wrap (1 * 2 ^ min (Int.toNat r) 32))) (fun _ => hv_shift rfl rfl e0 rfl) ?_
 refine pp (i := 6) rfl (wanted_0 rfl) rfl (.int .u32 (ibandNot .u32 b0 (IntKind.u32.wrap (1 * 2 ^ min (Int.toNat r) 32)))) (fun _ => hv_bits rfl rfl rfl) ?_
 refine pp (i := 7) rfl (wanted_0 rfl) rfl (.int .u32 (ibandNot .u32 b0 (IntKind.u32.wrap (1 * 2 ^ min (Int.toNat r) 32)))) (fun _ => va rfl) ?_
 refine hp_nil ?_
 refine qn (xs ?_)
 obtain ⟨c6, d5, d3⟩ := H
 refine xk (fun ρ h' => ∃ j : Bool, (c6 j h' ∧ True) ∧ Has ρ [(0, (ptr a1 a0)), (6, (.slice b2 a5 b1)), (7, (.int .u32 (ibandNot .u32 b0 (IntKind.u32.wrap (1 * 2 ^ min (Int.toNat r) 32))))), (51, (.bool j))]) ?_ ?_
 ·have H := d5; clear d5 d3
  refine xr ?_
  refine lv rfl rfl (vm rfl) (lv rfl rfl (v := (.int .i64 (a5 : Int))) (hv_len (n := a5) TyTC.u69 rfl) (lv rfl rfl (vr rfl rfl rfl) (lv rfl rfl (vm rfl) ?_)))
  rcases bool_or ((a5 : Int) == 0) with a2 | a2
  ·replace H := H.1 a2
   refine lo (wanted_n rfl rfl rfl a2) rfl ?_
   refine lo (wanted_n rfl rfl rfl a2) rfl ?_
   refine lo (wanted_n rfl rfl rfl a2) rfl ?_
   refine lo (wanted_n rfl rfl rfl a2) rfl ?_
   refine lo (wanted_n rfl rfl rfl a2) rfl ?_
   refine lo (wanted_n rfl rfl rfl a2) rfl ?_
   refine lo (wanted_n rfl rfl rfl a2) rfl ?_
   refine lo (wanted_n rfl rfl rfl a2) rfl ?_
   refine lv rfl rfl (v := (.bool true)) (hv_pick_t rfl a2 rfl) ?_
   refine ln (qn ?_)
   exact ⟨_, ⟨H, trivial⟩, (hc rfl (hc rfl (hc rfl (hc rfl hn))))⟩
  ·replace H := H.2 a2
   refine ly (wanted_y rfl rfl rfl a2) rfl (HStep.of_val (v := (ptr a1 a0)) (vm rfl) ?_)
   refine ly (wanted_y rfl rfl rfl a2) rfl (HStep.of_val (v := (ptr a1 a0)) (hv_nil rfl) ?_)
   refine ly (wanted_y rfl rfl rfl a2) rfl (HStep.of_val (v := (ptr a1 a0)) (vf TyTC.fld72_0 (b := a1) (o := a0) rfl) ?_)
   obtain ⟨d0, f1, H⟩ := H
   refine ly (wanted_y rfl rfl rfl a2) rfl (HStep.of_val (v := (.pointer d0)) (vl TyTC.agg65 rfl f1) ?_)
   refine ly (wanted_y rfl rfl rfl a2) rfl (HStep.of_val (v := (.int .u32 (ibandNot .u32 b0 (IntKind.u32.wrap (1 * 2 ^ min (Int.toNat r) 32))))) (vm rfl) ?_)
   refine ly (wanted_y rfl rfl rfl a2) rfl (HStep.of_val (v := (.slice b2 a5 b1)) (vm rfl) ?_)
   refine ly (wanted_y rfl rfl rfl a2) rfl (sc TyTC.cb60 rfl (HC.mono H ?_))
   rintro _ h4 ⟨c2, rfl, H⟩
   refine ly (wanted_y rfl rfl rfl a2) rfl (HStep.of_val (v := (.bool (!c2))) (hv_not (b := c2) rfl) ?_)
   refine lv rfl rfl (v := (.bool (!c2))) (hv_pick_f rfl a2 rfl) ?_
   refine ln (qn ?_)
   exact ⟨_, ⟨H, trivial⟩, (hc rfl (hc rfl (hc rfl (hc rfl hn))))⟩
 ·rintro ρ h3 ⟨j, ⟨e2, -⟩, hH⟩
  have H := d3 j h3 e2; clear d5 d3
  refine xh _ hH ?_
  refine xc (b := j) rfl (fun d4 => ?_) (fun d4 => ?_)
  ·replace H := H.1 d4
   refine xs (xr ?_)
   refine lv rfl rfl (va rfl) ?_
   refine ln (qn (xt (qr ?_)))
   exact endQ_ret _ (res_one Tryz.results49 (rv_tmp rfl)) H
  ·replace H := H.2 d4
   refine xi (qn (xs (xr ?_)))
   refine lv rfl rfl (vm rfl) (lv rfl rfl (vm rfl) (lv rfl rfl (vm rfl) (lv rfl rfl (vm rfl) (lv rfl rfl (v := (ptr a1 a0)) (hv_nil rfl) (lv rfl rfl (v := (ptr a1 (a0 + 1))) (vf TyTC.fld72_1 (b := a1) (o := a0) rfl) ?_)))))
   obtain ⟨e9, H⟩ := H
   refine lp rfl rfl (hn_store (v := (.int .u32 (ibandNot .u32 b0 (IntKind.u32.wrap (1 * 2 ^ min (Int.toNat r) 32))))) rfl rfl TyTC.sz67 rfl e9 ?_)
   intro h5 e4
   replace H := H h5 e4
   refine lv rfl rfl (v := (ptr a1 a0)) (hv_nil rfl) (lv rfl rfl (v := (ptr a1 (a0 + 2))) (vf TyTC.fld72_2 (b := a1) (o := a0) rfl) ?_)
   obtain ⟨e5, H⟩ := H
   refine lp rfl rfl (hn_store (v := (.slice b2 a5 b1)) rfl rfl TyTC.sz69 rfl e5 ?_)
   intro h6 d9
   replace H := H h6 d9
   refine ln (qn (xs (xr ?_)))
   refine lv rfl rfl (va rfl) ?_
   refine ln (qn (xt ?_))
   exact endQ_ret _ (res_one Tryz.results49 (rv_tmp rfl)) H
theorem f26_sh (l : Option Addr) (l2 : Nat) (l5 : Nat) (c1 : Option Addr) (a0 : Nat) (a5 : Nat) (h : Heap) (R : Value → Heap → Prop)
  (H : (∀ c9 h1, c9 = Array.size h → h1 = Array.push h (.cells #[(.slice l l2 l5)] 22) → (∀ mb h2, mb = Array.size h1 → Ext h1 h2 → Array.size h2 = Array.size h1 + 1 → MapL h2 mb Value.string [] → (∃ (I8 : Int → Heap → Prop) (l1 : Int → Heap → Nat), I8 0 h2 ∧ (∀ (v : Int) (h3 : Heap), I8 v h3 → (((decide (v < (a0 : Int))) = true → (∃ i9 : Heap → Prop, (∃ b6 b7 : Nat, c1 = some ⟨b6, b7, none⟩ ∧ (0 : Int) ≤ v ∧ v < (a0 : Int) ∧ (∃ x : Int, hcell h3 b6 (b7 + (Int.toNat v) * 1) = some (.int .i64 x) ∧ (∀ i h5, i = Array.size h3 → h5 = Array.push h3 (.cells #[(.int .i64 0)] 3) → (HW h5 i 0 ∧ ∀ h6, h6 = hset h5 i 0 (.int .i64 x) → (∃ j : Bool, (∃ f0 : Option Addr, ∃ e3 f6 : Nat, hcell h6 c9 0 = some (.slice f0 e3 f6) ∧ (∃ b1 : Int, hcell h6 i 0 = some (.int .i64 b1) ∧ (∃ a2 a3 : Nat, f0 = some ⟨a2, a3, none⟩ ∧ (0 : Int) ≤ b1 ∧ b1 < (e3 : Int) ∧ (∃ a7 : Int, ∃ b2 a4 : ByteArray, ∃ b3 : Int, ∃ b4 : Bool, ∃ a6 a8 c0 : Int, hcell h6 a2 (a3 + (Int.toNat b1) * 8) = some (.int .i64 a7) ∧ hcell h6 a2 ((a3 + (Int.toNat b1) * 8) + 1) = some (.string b2) ∧ hcell h6 a2 ((a3 + (Int.toNat b1) * 8) + 2) = some (.string a4) ∧ hcell h6 a2 ((a3 + (Int.toNat b1) * 8) + 3) = some (.int .i64 b3) ∧ hcell h6 a2 ((a3 + (Int.toNat b1) * 8) + 4) = some (.bool b4) ∧ hcell h6 a2 ((a3 + (Int.toNat b1) * 8) + 5) = some (.int .i64 a6) ∧ hcell h6 a2 ((a3 + (Int.toNat b1) * 8) + 6) = some (.int .i64 a8) ∧ hcell h6 a2 ((a3 + (Int.toNat b1) * 8) + 7) = some (.int .i64 c0) ∧ (((Ml.keyed ⟨a7, b2, a4, b3, b4, a6, a8, c0⟩) = true → (∃ kv : List (ByteArray × Value), MapL h6 mb Value.string kv ∧ ∃ d9 : Option Addr, (lk kv b2).getD (.pointer none) = (.pointer d9) ∧ (j = d9.isNone))) ∧ ((Ml.keyed ⟨a7, b2, a4, b3, b4, a6, a8, c0⟩) = false → (j = false))))))) ∧ ((j = true → (∀ (h7 : Heap), Ext h6 h7 → HC Tryz.prog 41 #[(.slice (some ⟨b6, b7, none⟩) a0 a5)] h7 (fun vv h9 => ∃ r : Option Addr, ∃ e8 e7 : Nat, vv = (.slice r e8 e7) ∧ HC Tryz.prog 40 #[(.slice r e8 e7), (.func (.func 42) #[] #[(ptr c9 0), (ptr i 0)])] h9 (fun vv m0 => ∃ e0 : Option Addr, ∃ c6 c7 : Nat, vv = (.slice e0 c6 c7) ∧ (∃ d6 : Option Addr, ∃ f5 f4 : Nat, hcell m0 c9 0 = some (.slice d6 f5 f4) ∧ HC Tryz.prog 43 #[(.slice d6 f5 f4), (.slice e0 c6 c7)] m0 (fun vv o5 => ∃ c8 : Option Addr, vv = (.pointer c8) ∧ HC Tryz.prog 44 #[(.pointer c8)] o5 (fun vv g4 => ∃ d5 : Bool, vv = (.bool d5) ∧ (((!d5) = true → R (.tuple #[(.slice none 0 0), (.int .i64 251)]) g4) ∧ ((!d5) = false → (∃ g2 : Heap → Heap → Prop, Fit g2 ∧ (∃ e2 : Option Addr, ∃ g3 i1 : Nat, (∀ hx, g2 g4 hx → hcell hx c9 0 = some (.slice e2 g3 i1)) ∧ (∃ f1 : Int, (∀ hx, g2 g4 hx → hcell hx i 0 = some (.int .i64 f1)) ∧ (∃ e6 e5 : Nat, e2 = some ⟨e6, e5, none⟩ ∧ (0 : Int) ≤ f1 ∧ f1 < (g3 : Int) ∧ (∃ j0 : ByteArray, (∀ hx, g2 g4 hx → hcell hx e6 ((e5 + (Int.toNat f1) * 8) + 1) = some (.string j0)) ∧ HC Tryz.prog 45 #[(.pointer c8)] g4 (fun vv l6 => g2 g4 l6 ∧ ∃ g6 : Int, vv = (.int .u32 g6) ∧ HC Tryz.prog 46 #[] l6 (fun vv j2 => g2 l6 j2 ∧ ∃ g5 : Option Addr, ∃ d8 d7 : Nat, vv = (.slice g5 d8 d7) ∧ (∀ nb g9, nb = Array.size j2 → g9 = Array.push j2 (.cells #[(.pointer c8), (.int .u32 g6), (.slice g5 d8 d7)] 72) → (∃ i3 : List (ByteArray × Value), MapL g9 mb Value.string i3 ∧ ∀ j3, Only mb g9 j3 → MapL j3 mb Value.string (kput i3 j0 (ptr nb 0)) → (i9 j3))))))))))))))))))) ∧ (j = false → (∀ (h7 : Heap), Ext h6 h7 → (i9 h7))))))))) ∧ (∀ (h4 : Heap), i9 h4 → (I8 (IntKind.i64.wrap (v + 1)) h4 ∧ l1 (IntKind.i64.wrap (v + 1)) h4 < l1 v h3)))) ∧ ((decide (v < (a0 : Int))) = false → HC Tryz.prog 41 #[(.slice c1 a0 a5)] h3 (fun vv o3 => ∃ r : Option Addr, ∃ e8 e7 : Nat, vv = (.slice r e8 e7) ∧ (∃ (j1 : Option Addr → Nat → Nat → Option Addr → Nat → Nat → Heap → Prop) (i5 : Option Addr → Nat → Nat → Option Addr → Nat → Nat → Heap → Nat), j1 r e8 e7 none 0 0 o3 ∧ (∀ (d4 : Option Addr) (a1 : Nat) (c4 : Nat) (e9 : Option Addr) (d3 : Nat) (d2 : Nat) (g7 : Heap), j1 d4 a1 c4 e9 d3 d2 g7 → (((decide ((a1 : Int) > 0)) = true → (∃ (i6 : Option Addr → Nat → Nat → Option Addr → Nat → Nat → Int → Heap → Prop) (i0 : Option Addr → Nat → Nat → Option Addr → Nat → Nat → Int → Heap → Nat), i6 d4 a1 c4 e9 d3 d2 0 g7 ∧ (∀ (b5 : Option Addr) (a9 : Nat) (b0 : Nat) (d0 : Option Addr) (c3 : Nat) (c2 : Nat) (b8 : Int) (f3 : Heap), i6 b5 a9 b0 d0 c3 c2 b8 f3 → (((decide (b8 < (a1 : Int))) = true → (∃ j5 : Heap → Prop, (∃ e1 e4 : Nat, d4 = some ⟨e1, e4, none⟩ ∧ (0 : Int) ≤ b8 ∧ b8 < (a1 : Int) ∧ (∃ x : Int, hcell f3 e1 (e4 + (Int.toNat b8) * 1) = some (.int .i64 x) ∧ (∀ i g8, i = Array.size f3 → g8 = Array.push f3 (.cells #[(.int .i64 0)] 3) → (HW g8 i 0 ∧ ∀ l4, l4 = hset g8 i 0 (.int .i64 x) → HC Tryz.prog 47 #[(.slice b5 a9 b0), (.func (.func 48) #[] #[(ptr c9 0), (ptr i 0)])] l4 (fun vv d1 => ∃ e0 : Bool, vv = (.bool e0) ∧ ((e0 = true → (j5 d1)) ∧ (e0 = false → (∃ f0 : Option Addr, ∃ e3 f6 : Nat, hcell d1 c9 0 = some (.slice f0 e3 f6) ∧ (∃ b1 : Int, hcell d1 i 0 = some (.int .i64 b1) ∧ (∃ a2 a3 : Nat, f0 = some ⟨a2, a3, none⟩ ∧ (0 : Int) ≤ b1 ∧ b1 < (e3 : Int) ∧ (∃ d9 : ByteArray, hcell d1 a2 ((a3 + (Int.toNat b1) * 8) + 1) = some (.string d9) ∧ (∃ kv : List (ByteArray × Value), MapL d1 mb Value.string kv ∧ ∃ d6 : Option Addr, (lk kv d9).getD (.pointer none) = (.pointer d6) ∧ (∃ i8 : Bool → Heap → Prop, (∃ a7 : Int, ∃ b2 a4 : ByteArray, ∃ b3 : Int, ∃ b4 : Bool, ∃ a6 a8 c0 : Int, hcell d1 a2 (a3 + (Int.toNat b1) * 8) = some (.int .i64 a7) ∧ hcell d1 a2 ((a3 + (Int.toNat b1) * 8) + 1) = some (.string b2) ∧ hcell d1 a2 ((a3 + (Int.toNat b1) * 8) + 2) = some (.string a4) ∧ hcell d1 a2 ((a3 + (Int.toNat b1) * 8) + 3) = some (.int .i64 b3) ∧ hcell d1 a2 ((a3 + (Int.toNat b1) * 8) + 4) = some (.bool b4) ∧ hcell d1 a2 ((a3 + (Int.toNat b1) * 8) + 5) = some (.int .i64 a6) ∧ hcell d1 a2 ((a3 + (Int.toNat b1) * 8) + 6) = some (.int .i64 a8) ∧ hcell d1 a2 ((a3 + (Int.toNat b1) * 8) + 7) = some (.int .i64 c0) ∧ (((Ml.keyed ⟨a7, b2, a4, b3, b4, a6, a8, c0⟩) = true → (∀ (g1 : Heap), Ext d1 g1 → HC Tryz.prog 49 #[(.pointer d6), (.int .i64 b1)] g1 (fun vv o6 => ∃ c8 : Bool, vv = (.bool c8) ∧ (i8 (!c8) o6)))) ∧ ((Ml.keyed ⟨a7, b2, a4, b3, b4, a6, a8, c0⟩) = false → (∀ (g1 : Heap), Ext d1 g1 → (i8 false g1))))) ∧ (∀ (j : Bool) (g0 : Heap), i8 j g0 → ((j = true → (j5 g0)) ∧ (j = false → (∃ e2 : Int, hcell g0 i 0 = some (.int .i64 e2) ∧ (∀ nb j4, nb = Array.size g0 → j4 = Array.push g0 (.cells #[(.int .i64 e2)] 3) → HAppend Tryz.prog 26 26 (.slice d0 c3 c2) (.slice (some ⟨nb, 0, none⟩) 1 1) j4 (fun vv o2 => ∃ ap : Option Addr, ∃ f9 f8 : Nat, vv = (.slice ap f9 f8) ∧ HC Tryz.prog 50 #[(.slice b5 a9 b0), (.int .i64 b8), (.int .i64 (IntKind.i64.wrap (b8 + 1)))] o2 (fun vv l8 => ∃ d5 : Option Addr, ∃ c6 c7 : Nat, vv = (.slice d5 c6 c7) ∧ (j1 d5 c6 c7 ap f9 f8 l8 ∧ i5 d5 c6 c7 ap f9 f8 l8 < i5 d4 a1 c4 e9 d3 d2 g7))))))))))))))))))))) ∧ (∀ (i7 : Heap), j5 i7 → (i6 b5 a9 b0 d0 c3 c2 (IntKind.i64.wrap (b8 + 1)) i7 ∧ i0 b5 a9 b0 d0 c3 c2 (IntKind.i64.wrap (b8 + 1)) i7 < i0 b5 a9 b0 d0 c3 c2 b8 f3)))) ∧ ((decide (b8 < (a1 : Int))) = false → R (.tuple #[(.slice none 0 0), (.int .i64 251)]) f3))))) ∧ ((decide ((a1 : Int) > 0)) = false → R (.tuple #[(.slice e9 d3 d2), (.int .i64 0)]) g7)))))))))))) :
  HC Tryz.prog 26 #[(.slice l l2 l5), (.slice c1 a0 a5)] h R := by
 refine hc_of (args := [(.slice l l2 l5), (.slice c1 a0 a5)]) Tryz.func26 rfl Tryz.ntmps26 (Nat.le_of_ble_eq_true rfl) ?_
 refine xs (xr ?_)
 refine lp rfl rfl (hn_box (v := (.slice l l2 l5)) rfl ?_)
 intro c9 h1 u0 o4
 replace H := H c9 h1 u0 o4
 have u4 := ext_pushed_f8_sh o4
 refine lv rfl rfl (va rfl) (lv rfl rfl (va rfl) ?_)
 refine ln (qn ?_)
 refine hx_scope ?_
 refine xs (xr ?_)
 refine lp rfl rfl (hn_makeMap (enc := Value.string) ?_)
 intro mb h2 t9 t8 t7 t6
 replace H := H mb h2 t9 t8 t7 t6
 refine lv rfl rfl (va rfl) ?_
 refine ln (qn (xs (xs (xr ?_))))
 refine lv rfl rfl (vm rfl) (lv rfl rfl (v := (.int .i64 (a0 : Int))) (hv_len (n := a0) TyTC.u26 rfl) (lv rfl rfl (vm rfl) ?_))
 refine ln (qn (xb ?_))
 obtain ⟨I8, l1, q4, r6⟩ := H
 refine xl (σ := Int) (fun s => [(1, (.slice c1 a0 a5)), (2, (ptr c9 0)), (6, (.map (some mb))), (17, (.slice c1 a0 a5)), (18, (.int .i64 (a0 : Int))), (19, (.int .i64 s))]) (fun s h' => I8 s h' ∧ True) (fun s h' => l1 s h') 0 ⟨q4, trivial⟩ (hc rfl (hc rfl (hc rfl (hc rfl (hc rfl (hc rfl hn)))))) ?_
 rintro v ρ h3 ⟨s2, -⟩
 have H := r6 v h3 s2
 refine xs (xr ?_)
 refine lv rfl rfl (vr rfl rfl rfl) ?_
 refine ln (qn (xs ?_))
 refine xc (b := decide (v < (a0 : Int))) rfl (fun k2 => ?_) (fun k2 => ?_)
 ·replace H := H.1 k2
  refine xi (qn ?_)
  obtain ⟨i9, k0, j9⟩ := H
  refine xk (fun ρ h' => (i9 h' ∧ True) ∧ Has ρ [(1, (.slice c1 a0 a5)), (2, (ptr c9 0)), (6, (.map (some mb))), (17, (.slice c1 a0 a5)), (18, (.int .i64 (a0 : Int))), (19, (.int .i64 v))]) ?_ ?_
  ·have H := k0; clear k0 j9
   refine xb (xs (xr ?_))
   obtain ⟨b6, b7, f2, p1, s7, Hq⟩ := H
   subst f2
   have H := Hq; clear Hq
   refine lv rfl rfl (v := (ptr b6 (b7 + (Int.toNat v) * 1))) (vi TyTC.el26 rfl rfl p1 s7) ?_
   obtain ⟨x, q5, H⟩ := H
   refine lv rfl rfl (vl TyTC.agg3 rfl q5) ?_
   refine lp rfl rfl (hn_alloc TyTC.z3 ?_)
   intro i h5 q0 m8
   replace H := H i h5 q0 m8
   have u3 := ext_pushed_f8_sh m8
   obtain ⟨q8, H⟩ := H
   refine lp rfl rfl (hn_store (v := (.int .i64 x)) rfl rfl TyTC.sz3 rfl q8 ?_)
   intro h6 p7
   replace H := H h6 p7
   refine ln (qn ?_)
   obtain ⟨j, j8, k7⟩ := H
   refine xk (fun ρ h' => (Ext h6 h' ∧ True) ∧ Has ρ [(1, (.slice (some ⟨b6, b7, none⟩) a0 a5)), (2, (ptr c9 0)), (6, (.map (some mb))), (8, (ptr i 0)), (17, (.slice (some ⟨b6, b7, none⟩) a0 a5)), (18, (.int .i64 (a0 : Int))), (19, (.int .i64 v)), (37, (.bool j))]) ?_ ?_
   ·have H := j8; clear j8 k7
    refine xr ?_
    obtain ⟨f0, e3, f6, m2, H⟩ := H
    refine lv rfl rfl (vl TyTC.agg22 rfl m2) ?_
    obtain ⟨b1, l9, H⟩ := H
    refine lv rfl rfl (vl TyTC.agg3 rfl l9) ?_
    obtain ⟨a2, a3, f2, m6, n0, Hq⟩ := H
    subst f2
    have H := Hq; clear Hq
    refine lv rfl rfl (v := (ptr a2 (a3 + (Int.toNat b1) * 8))) (vi TyTC.el22 rfl rfl m6 n0) ?_
    obtain ⟨a7, b2, a4, b3, b4, a6, a8, c0, r4, m4, t2, p4, s8, r3, r8, p3, H⟩ := H
    refine lv rfl rfl (vL (vs := [(.int .i64 a7), (.string b2), (.string a4), (.int .i64 b3), (.bool b4), (.int .i64 a6), (.int .i64 a8), (.int .i64 c0)]) TyTC.agg40 TyTC.sz40 rfl (cc r4 (cc m4 (cc t2 (cc p4 (cc s8 (cc r3 (cc r8 (cc p3 cn))))))))) ?_
    refine lp rfl rfl (sc TyTC.cb39 rfl (HC.mono (lkeyed_c (⟨a7, b2, a4, b3, b4, a6, a8, c0⟩) _) ?_))
    rintro _ h8 ⟨rfl, f7⟩
    refine lv rfl rfl (vm rfl) ?_
    rcases bool_or (Ml.keyed ⟨a7, b2, a4, b3, b4, a6, a8, c0⟩) with b9 | b9
    ·replace H := H.1 b9
     refine ly (wanted_y rfl rfl rfl b9) rfl (HStep.of_val (v := (.map (some mb))) (vm rfl) ?_)
     refine ly (wanted_y rfl rfl rfl b9) rfl (HStep.of_val (v := (.slice (some ⟨a2, a3, none⟩) e3 f6)) (vl TyTC.agg22 rfl (Ext.cell f7 m2)) ?_)
     refine ly (wanted_y rfl rfl rfl b9) rfl (HStep.of_val (v := (.int .i64 b1)) (vl TyTC.agg3 rfl (Ext.cell f7 l9)) ?_)
     refine ly (wanted_y rfl rfl rfl b9) rfl (HStep.of_val (v := (ptr a2 (a3 + (Int.toNat b1) * 8))) (vi TyTC.el22 rfl rfl m6 n0) ?_)
     refine ly (wanted_y rfl rfl rfl b9) rfl (HStep.of_val (v := (ptr a2 ((a3 + (Int.toNat b1) * 8) + 1))) (vf TyTC.fld40_1 (b := a2) (o := a3 + (Int.toNat b1) * 8) rfl) ?_)
     refine ly (wanted_y rfl rfl rfl b9) rfl (HStep.of_val (v := (.string b2)) (vl TyTC.agg9 rfl (Ext.cell f7 m4)) ?_)
     obtain ⟨kv, q7, d9, p9, H⟩ := H
     refine ly (wanted_y rfl rfl rfl b9) rfl (HStep.of_val (v := (.pointer d9)) (hv_look (l := kv) (a := b2) strK TyTC.u61 TyTC.u9 TyTC.z62 rfl rfl (MapL.ext f7 q7) p9) ?_)
     refine ly (wanted_y rfl rfl rfl b9) rfl (HStep.of_val (v := (.bool d9.isNone)) (hv_ptrNil TyTC.up62 rfl rfl) ?_)
     refine lv rfl rfl (v := (.bool d9.isNone)) (hv_pick_t rfl b9 rfl) ?_
     refine ln (qn ?_)
     obtain rfl := H
     exact ⟨⟨f7, trivial⟩, (hc rfl (hc rfl (hc rfl (hc rfl (hc rfl (hc rfl (hc rfl (hc rfl hn))))))))⟩
    ·replace H := H.2 b9
     refine lo (wanted_n rfl rfl rfl b9) rfl ?_
     refine lo (wanted_n rfl rfl rfl b9) rfl ?_
     refine lo (wanted_n rfl rfl rfl b9) rfl ?_
     refine lo (wanted_n rfl rfl rfl b9) rfl ?_
     refine lo (wanted_n rfl rfl rfl b9) rfl ?_
     refine lo (wanted_n rfl rfl rfl b9) rfl ?_
     refine lo (wanted_n rfl rfl rfl b9) rfl ?_
     refine lo (wanted_n rfl rfl rfl b9) rfl ?_
     refine lv rfl rfl (v := (.bool false)) (hv_pick_f rfl b9 rfl) ?_
     refine ln (qn ?_)
     obtain rfl := H
     exact ⟨⟨f7, trivial⟩, (hc rfl (hc rfl (hc rfl (hc rfl (hc rfl (hc rfl (hc rfl (hc rfl hn))))))))⟩
   ·have H := k7; clear j8 k7
    rintro ρ h7 ⟨⟨m9, -⟩, hH⟩
    refine xh _ hH ?_
    refine xc (b := j) rfl (fun k8 => ?_) (fun k8 => ?_)
    ·replace H := H.1 k8
     refine xs (xr ?_)
     refine lv rfl rfl (vm rfl) ?_
     replace H := H h7 m9
     refine lp rfl rfl (sc TyTC.cb41 rfl (HC.mono H ?_))
     rintro _ h9 ⟨r, e8, e7, rfl, H⟩
     refine lv rfl rfl (v := (.func (.func 42) #[] #[(ptr c9 0), (ptr i 0)])) (hv_makeFunc (fv := []) (cv := [(ptr c9 0), (ptr i 0)]) rfl rfl) ?_
     refine lp rfl rfl (sc TyTC.cb40 rfl (HC.mono H ?_))
     rintro _ m0 ⟨e0, c6, c7, rfl, H⟩
     refine lv rfl rfl (va rfl) ?_
     refine ln (qn (xs (xr ?_)))
     obtain ⟨d6, f5, f4, t1, H⟩ := H
     refine lv rfl rfl (vl TyTC.agg22 rfl t1) (lv rfl rfl (vm rfl) ?_)
     refine lp rfl rfl (sc TyTC.cb43 rfl (HC.mono H ?_))
     rintro _ o5 ⟨c8, rfl, H⟩
     refine lv rfl rfl (va rfl) ?_
     refine ln (qn (xs (xs (xr ?_))))
     refine lv rfl rfl (vm rfl) ?_
     refine lp rfl rfl (sc TyTC.cb44 rfl (HC.mono H ?_))
     rintro _ g4 ⟨d5, rfl, H⟩
     refine lv rfl rfl (v := (.bool (!d5))) (hv_not (b := d5) rfl) ?_
     refine ln (qn ?_)
     refine xc (b := !d5) rfl (fun k5 => ?_) (fun k5 => ?_)
     ·replace H := H.1 k5
      refine xs (xr ?_)
      refine lv rfl rfl (va rfl) (lv rfl rfl (va rfl) ?_)
      refine ln (qn (xt (qr (br (qr (qr (br (qr ?_))))))))
      refine scopeQ_ret ?_
      exact endQ_ret _ (res_two Tryz.results26 (rv_tmp rfl) (rv_tmp rfl)) H
     ·replace H := H.2 k5
      refine xi (qn ?_)
      obtain ⟨g2, t4, H⟩ := H
      refine hx_drawT TyTC.mixed g2 t4 [.pure, .stay, .stay, .pure, .pure, .stay, .pure, .pure, .tame, .tame, .pure, .ext, .wild] [0, 1, 2, 3, 4, 5, 6, 7, 8, 9, 10, 11, 12] (by kernel_rfl) ?_
      refine pp (i := 0) rfl (wanted_0 rfl) rfl (.map (some mb)) (fun _ => vm rfl) ?_
      obtain ⟨e2, g3, i1, p8, H⟩ := H
      refine hp_stay (i := 1) rfl (wanted_0 rfl) rfl (.slice e2 g3 i1) (fun _ he => vl TyTC.agg22 rfl (p8 _ he)) ?_
      obtain ⟨f1, p5, H⟩ := H
      refine hp_stay (i := 2) rfl (wanted_0 rfl) rfl (.int .i64 f1) (fun _ he => vl TyTC.agg3 rfl (p5 _ he)) ?_
      obtain ⟨e6, e5, f2, r1, q2, Hq⟩ := H
      subst f2
      have H := Hq; clear Hq
      refine pp (i := 3) rfl (wanted_0 rfl) rfl (ptr e6 (e5 + (Int.toNat f1) * 8)) (fun _ => vi TyTC.el22 rfl rfl r1 q2) ?_
      refine pp (i := 4) rfl (wanted_0 rfl) rfl (ptr e6 ((e5 + (Int.toNat f1) * 8) + 1)) (fun _ => vf TyTC.fld40_1 (b := e6) (o := e5 + (Int.toNat f1) * 8) rfl) ?_
      obtain ⟨j0, s4, H⟩ := H
      refine hp_stay (i := 5) rfl (wanted_0 rfl) rfl (.string j0) (fun _ he => vl TyTC.agg9 rfl (s4 _ he)) ?_
      refine pp (i := 6) rfl (wanted_0 rfl) rfl (.pointer c8) (fun _ => vm rfl) ?_
      refine pp (i := 7) rfl (wanted_0 rfl) rfl (.pointer c8) (fun _ => vm rfl) ?_
      refine hp_tame (i := 8) rfl (wanted_0 rfl) rfl (sc TyTC.cb45 rfl (HC.mono H ?_))
      rintro _ l6 ⟨p6, g6, rfl, H⟩
      refine ⟨p6, ?_⟩
      refine hp_tame (i := 9) rfl (wanted_0 rfl) rfl (sc TyTC.cb46 rfl (HC.mono H ?_))
      rintro _ j2 ⟨q3, g5, d8, d7, rfl, H⟩
      refine ⟨q3, ?_⟩
      refine pp (i := 10) rfl (wanted_0 rfl) rfl (.agg #[(.pointer c8), (.int .u32 g6), (.slice g5 d8 d7)]) (fun _ => vb (vs := [(0, (.pointer c8)), (1, (.int .u32 g6)), (2, (.slice g5 d8 d7))]) (cs := #[(.pointer c8), (.int .u32 g6), (.slice g5 d8 d7)]) TyTC.z72 TyTC.pl72 rfl (by kernel_rfl)) ?_
      refine hp_ext (i := 11) rfl (wanted_0 rfl) rfl (hn_box (v := (.agg #[(.pointer c8), (.int .u32 g6), (.slice g5 d8 d7)])) rfl ?_)
      intro nb g9 r0 m5
      replace H := H nb g9 r0 m5
      have s3 := ext_pushed_f8_sh m5
      refine ⟨s3, ?_⟩
      obtain ⟨i3, q1, H⟩ := H
      refine hp_wild (i := 12) rfl (wanted_0 rfl) rfl (hn_mapPut (l := i3) (a := j0) strK TyTC.u61 TyTC.u9 rfl rfl rfl q1 ?_)
      intro j3 r7 s5
      replace H := H j3 r7 s5
      refine hp_nil ?_
      refine bn (qn ?_)
      exact ⟨⟨H, trivial⟩, (hc rfl (hc rfl (hc rfl (hc rfl (hc rfl (hc rfl hn))))))⟩
    ·replace H := H.2 k8
     refine xi (bn ?_)
     replace H := H h7 m9
     refine qn ?_
     exact ⟨⟨H, trivial⟩, (hc rfl (hc rfl (hc rfl (hc rfl (hc rfl (hc rfl hn))))))⟩
  ·rintro ρ h4 ⟨⟨o8, -⟩, hH⟩
   have H := j9 h4 o8; clear k0 j9
   refine xh _ hH ?_
   refine xr ?_
   refine lv rfl rfl (vr rfl rfl rfl) (lv rfl rfl (vm rfl) ?_)
   refine ln (qn ?_)
   exact ⟨IntKind.i64.wrap (v + 1), ⟨⟨H.1, trivial⟩, H.2⟩, (hc rfl (hc rfl (hc rfl (hc rfl (hc rfl (hc rfl hn))))))⟩
 ·replace H := H.2 k2
  refine xe (qe (qe (bh (qn (xs (xr ?_))))))
  refine lv rfl rfl (vm rfl) ?_
  refine lp rfl rfl (sc TyTC.cb41 rfl (HC.mono H ?_))
  rintro _ o3 ⟨r, e8, e7, rfl, H⟩
  refine lv rfl rfl (va rfl) ?_
  refine ln (qn (xs (xr ?_)))
  refine lv rfl rfl (va rfl) ?_
  refine ln (qn (xs (hx_label (qn (xs (xb ?_))))))
  obtain ⟨j1, i5, r2, r9⟩ := H
  refine xl (σ := Option Addr × Nat × Nat × Option Addr × Nat × Nat) (fun s => [(2, (ptr c9 0)), (6, (.map (some mb))), (11, (.slice s.1 s.2.1 s.2.2.1)), (12, (.slice s.2.2.2.1 s.2.2.2.2.1 s.2.2.2.2.2))]) (fun s h' => j1 s.1 s.2.1 s.2.2.1 s.2.2.2.1 s.2.2.2.2.1 s.2.2.2.2.2 h' ∧ True) (fun s h' => i5 s.1 s.2.1 s.2.2.1 s.2.2.2.1 s.2.2.2.2.1 s.2.2.2.2.2 h') (r, e8, e7, none, 0, 0) ⟨r2, trivial⟩ (hc rfl (hc rfl (hc rfl (hc rfl hn)))) ?_
  rintro ⟨d4, a1, c4, e9, d3, d2⟩ ρ g7 ⟨p0, -⟩
  have H := r9 d4 a1 c4 e9 d3 d2 g7 p0
  refine xs (xs (xr ?_))
  refine lv rfl rfl (vm rfl) (lv rfl rfl (v := (.int .i64 (a1 : Int))) (hv_len (n := a1) TyTC.u26 rfl) (lv rfl rfl (vr rfl rfl rfl) ?_))
  refine ln (qn ?_)
  refine xc (b := decide ((a1 : Int) > 0)) rfl (fun k1 => ?_) (fun k1 => ?_)
  ·replace H := H.1 k1
   refine xi (qn (xb (xs (xs (xr ?_)))))
   refine lv rfl rfl (vm rfl) (lv rfl rfl (v := (.int .i64 (a1 : Int))) (hv_len (n := a1) TyTC.u26 rfl) (lv rfl rfl (vm rfl) ?_))
   refine ln (qn (xb ?_))
   obtain ⟨i6, i0, s1, s0⟩ := H
   refine xl (σ := Option Addr × Nat × Nat × Option Addr × Nat × Nat × Int) (fun s => [(2, (ptr c9 0)), (6, (.map (some mb))), (11, (.slice s.1 s.2.1 s.2.2.1)), (12, (.slice s.2.2.2.1 s.2.2.2.2.1 s.2.2.2.2.2.1)), (66, (.slice d4 a1 c4)), (67, (.int .i64 (a1 : Int))), (68, (.int .i64 s.2.2.2.2.2.2))]) (fun s h' => i6 s.1 s.2.1 s.2.2.1 s.2.2.2.1 s.2.2.2.2.1 s.2.2.2.2.2.1 s.2.2.2.2.2.2 h' ∧ True) (fun s h' => i0 s.1 s.2.1 s.2.2.1 s.2.2.2.1 s.2.2.2.2.1 s.2.2.2.2.2.1 s.2.2.2.2.2.2 h') (d4, a1, c4, e9, d3, d2, 0) ⟨s1, trivial⟩ (hc rfl (hc rfl (hc rfl (hc rfl (hc rfl (hc rfl (hc rfl hn))))))) ?_
   rintro ⟨b5, a9, b0, d0, c3, c2, b8⟩ ρ f3 ⟨q6, -⟩
   have H := s0 b5 a9 b0 d0 c3 c2 b8 f3 q6
   refine xs (xr ?_)
   refine lv rfl rfl (vr rfl rfl rfl) ?_
   refine ln (qn (xs ?_))
   refine xc (b := decide (b8 < (a1 : Int))) rfl (fun k9 => ?_) (fun k9 => ?_)
   ·replace H := H.1 k9
    refine xi (qn ?_)
    obtain ⟨j5, k6, k3⟩ := H
    refine xk (fun ρ h' => (j5 h' ∧ True) ∧ Has ρ [(2, (ptr c9 0)), (6, (.map (some mb))), (11, (.slice b5 a9 b0)), (12, (.slice d0 c3 c2)), (66, (.slice d4 a1 c4)), (67, (.int .i64 (a1 : Int))), (68, (.int .i64 b8))]) ?_ ?_
    ·have H := k6; clear k6 k3
     refine xb (xs (xr ?_))
     refine lv rfl rfl (vm rfl) ?_
     obtain ⟨e1, e4, f2, o9, o7, Hq⟩ := H
     subst f2
     have H := Hq; clear Hq
     refine lv rfl rfl (v := (ptr e1 (e4 + (Int.toNat b8) * 1))) (vi TyTC.el26 rfl rfl o9 o7) ?_
     obtain ⟨x, s6, H⟩ := H
     refine lv rfl rfl (vl TyTC.agg3 rfl s6) ?_
     refine lp rfl rfl (hn_alloc TyTC.z3 ?_)
     intro i g8 t3 m1
     replace H := H i g8 t3 m1
     have u2 := ext_pushed_f8_sh m1
     refine lv rfl rfl (va rfl) ?_
     obtain ⟨t0, H⟩ := H
     refine lp rfl rfl (hn_store (v := (.int .i64 x)) rfl rfl TyTC.sz3 rfl t0 ?_)
     intro l4 q9
     replace H := H l4 q9
     refine ln (qn (xs (xs (xr ?_))))
     refine lv rfl rfl (vm rfl) (lv rfl rfl (v := (.func (.func 48) #[] #[(ptr c9 0), (ptr i 0)])) (hv_makeFunc (fv := []) (cv := [(ptr c9 0), (ptr i 0)]) rfl rfl) ?_)
     refine lp rfl rfl (sc TyTC.cb47 rfl (HC.mono H ?_))
     rintro _ d1 ⟨e0, rfl, H⟩
     refine ln (qn ?_)
     refine xc (b := e0) rfl (fun k4 => ?_) (fun k4 => ?_)
     ·replace H := H.1 k4
      refine xe (qe (bh (qn ?_)))
      exact ⟨⟨H, trivial⟩, (hc rfl (hc rfl (hc rfl (hc rfl (hc rfl (hc rfl (hc rfl hn)))))))⟩
     ·replace H := H.2 k4
      refine xi (qn (xs (xs (xr ?_))))
      refine lv rfl rfl (vm rfl) ?_
      obtain ⟨f0, e3, f6, m3, H⟩ := H
      refine lv rfl rfl (vl TyTC.agg22 rfl m3) ?_
      obtain ⟨b1, l0, H⟩ := H
      refine lv rfl rfl (vl TyTC.agg3 rfl l0) ?_
      obtain ⟨a2, a3, f2, l7, m7, Hq⟩ := H
      subst f2
      have H := Hq; clear Hq
      refine lv rfl rfl (v := (ptr a2 (a3 + (Int.toNat b1) * 8))) (vi TyTC.el22 rfl rfl l7 m7) (lv rfl rfl (v := (ptr a2 ((a3 + (Int.toNat b1) * 8) + 1))) (vf TyTC.fld40_1 (b := a2) (o := a3 + (Int.toNat b1) * 8) rfl) ?_)
      obtain ⟨d9, r5, H⟩ := H
      refine lv rfl rfl (vl TyTC.agg9 rfl r5) ?_
      obtain ⟨kv, s9, d6, t5, H⟩ := H
      refine lv rfl rfl (v := (.pointer d6)) (hv_look (l := kv) (a := d9) strK TyTC.u61 TyTC.u9 TyTC.z62 rfl rfl s9 t5) (lv rfl rfl (va rfl) ?_)
      refine ln (qn ?_)
      obtain ⟨i8, j7, j6⟩ := H
      refine xk (fun ρ h' => ∃ j : Bool, (i8 j h' ∧ True) ∧ Has ρ [(2, (ptr c9 0)), (6, (.map (some mb))), (11, (.slice b5 a9 b0)), (12, (.slice d0 c3 c2)), (13, (.int .i64 b8)), (14, (ptr i 0)), (66, (.slice (some ⟨e1, e4, none⟩) a1 c4)), (67, (.int .i64 (a1 : Int))), (68, (.int .i64 b8)), (93, (.bool j))]) ?_ ?_
      ·have H := j7; clear j7 j6
       refine xr ?_
       refine lv rfl rfl (vl TyTC.agg22 rfl m3) (lv rfl rfl (vl TyTC.agg3 rfl l0) (lv rfl rfl (v := (ptr a2 (a3 + (Int.toNat b1) * 8))) (vi TyTC.el22 rfl rfl l7 m7) ?_))
       obtain ⟨a7, b2, a4, b3, b4, a6, a8, c0, n6, n2, o0, n1, n5, o1, n7, n3, H⟩ := H
       refine lv rfl rfl (vL (vs := [(.int .i64 a7), (.string b2), (.string a4), (.int .i64 b3), (.bool b4), (.int .i64 a6), (.int .i64 a8), (.int .i64 c0)]) TyTC.agg40 TyTC.sz40 rfl (cc n6 (cc n2 (cc o0 (cc n1 (cc n5 (cc o1 (cc n7 (cc n3 cn))))))))) ?_
       refine lp rfl rfl (sc TyTC.cb39 rfl (HC.mono (lkeyed_c (⟨a7, b2, a4, b3, b4, a6, a8, c0⟩) _) ?_))
       rintro _ g1 ⟨rfl, i2⟩
       refine lv rfl rfl (vm rfl) ?_
       rcases bool_or (Ml.keyed ⟨a7, b2, a4, b3, b4, a6, a8, c0⟩) with c5 | c5
       ·replace H := H.1 c5
        refine ly (wanted_y rfl rfl rfl c5) rfl (HStep.of_val (v := (.pointer d6)) (vm rfl) ?_)
        refine ly (wanted_y rfl rfl rfl c5) rfl (HStep.of_val (v := (.int .i64 b1)) (vl TyTC.agg3 rfl (Ext.cell i2 l0)) ?_)
        replace H := H g1 i2
        refine ly (wanted_y rfl rfl rfl c5) rfl (sc TyTC.cb49 rfl (HC.mono H ?_))
        rintro _ o6 ⟨c8, rfl, H⟩
        refine ly (wanted_y rfl rfl rfl c5) rfl (HStep.of_val (v := (.bool (!c8))) (hv_not (b := c8) rfl) ?_)
        refine lv rfl rfl (v := (.bool (!c8))) (hv_pick_t rfl c5 rfl) ?_
        refine ln (qn ?_)
        exact ⟨_, ⟨H, trivial⟩, (hc rfl (hc rfl (hc rfl (hc rfl (hc rfl (hc rfl (hc rfl (hc rfl (hc rfl (hc rfl hn))))))))))⟩
       ·replace H := H.2 c5
        refine lo (wanted_n rfl rfl rfl c5) rfl ?_
        refine lo (wanted_n rfl rfl rfl c5) rfl ?_
        refine lo (wanted_n rfl rfl rfl c5) rfl ?_
        refine lo (wanted_n rfl rfl rfl c5) rfl ?_
        refine lv rfl rfl (v := (.bool false)) (hv_pick_f rfl c5 rfl) ?_
        refine ln ?_
        replace H := H g1 i2
        refine qn ?_
        exact ⟨_, ⟨H, trivial⟩, (hc rfl (hc rfl (hc rfl (hc rfl (hc rfl (hc rfl (hc rfl (hc rfl (hc rfl (hc rfl hn))))))))))⟩
      ·rintro ρ g0 ⟨j, ⟨n8, -⟩, hH⟩
       have H := j6 j g0 n8; clear j7 j6
       refine xh _ hH ?_
       refine xc (b := j) rfl (fun i4 => ?_) (fun i4 => ?_)
       ·replace H := H.1 i4
        refine xe (qe (bh (qn ?_)))
        exact ⟨⟨H, trivial⟩, (hc rfl (hc rfl (hc rfl (hc rfl (hc rfl (hc rfl (hc rfl hn)))))))⟩
       ·replace H := H.2 i4
        refine xi (qn (xs (xr ?_)))
        refine lv rfl rfl (vm rfl) ?_
        obtain ⟨e2, n9, H⟩ := H
        refine lv rfl rfl (vl TyTC.agg3 rfl n9) ?_
        refine lp rfl rfl (hn_buildSlice (n := 1) (vs := [(0, (.int .i64 e2))]) (cs := #[(.int .i64 e2)]) TyTC.u26 TyTC.sz3 TyTC.z3 rfl rfl (by kernel_rfl) ?_)
        intro nb j4 n4 l3
        replace H := H nb j4 n4 l3
        have u1 := ext_pushed_f8_sh l3
        refine lp rfl rfl (hs_append rfl rfl (HAppend.mono H ?_))
        rintro _ o2 ⟨ap, f9, f8, rfl, H⟩
        refine lv rfl rfl (va rfl) ?_
        refine ln (qn (xs (xr ?_)))
        refine lv rfl rfl (vm rfl) (lv rfl rfl (vm rfl) (lv rfl rfl (vm rfl) (lv rfl rfl (vr rfl rfl rfl) ?_)))
        refine lp rfl rfl (sc TyTC.cb50 rfl (HC.mono H ?_))
        rintro _ l8 ⟨d5, c6, c7, rfl, H⟩
        refine lv rfl rfl (va rfl) ?_
        refine ln (qn (xe (bp rfl (qe (qe (bp rfl (qe (bh (qn ?_)))))))))
        exact ⟨(d5, c6, c7, ap, f9, f8), ⟨⟨H.1, trivial⟩, H.2⟩, (hc rfl (hc rfl (hc rfl (hc rfl hn))))⟩
    ·rintro ρ i7 ⟨⟨p2, -⟩, hH⟩
     have H := k3 i7 p2; clear k6 k3
     refine xh _ hH ?_
     refine xr ?_
     refine lv rfl rfl (vr rfl rfl rfl) (lv rfl rfl (vm rfl) ?_)
     refine ln (qn ?_)
     exact ⟨(b5, a9, b0, d0, c3, c2, IntKind.i64.wrap (b8 + 1)), ⟨⟨H.1, trivial⟩, H.2⟩, (hc rfl (hc rfl (hc rfl (hc rfl (hc rfl (hc rfl (hc rfl hn)))))))⟩
   ·replace H := H.2 k9
    refine xe (qe (qe (bh (qn (xs (xr ?_))))))
    refine lv rfl rfl (va rfl) (lv rfl rfl (va rfl) ?_)
    refine ln (qn (xt (br (qr (br (qr ?_))))))
    refine scopeQ_ret ?_
    exact endQ_ret _ (res_two Tryz.results26 (rv_tmp rfl) (rv_tmp rfl)) H
  ·replace H := H.2 k1
   refine xe (qe (qe (bh (qn (xs (xr ?_))))))
   refine lv rfl rfl (vm rfl) (lv rfl rfl (va rfl) (lv rfl rfl (va rfl) ?_))
   refine ln (qn (xt ?_))
   refine scopeQ_ret ?_
   exact endQ_ret _ (res_two Tryz.results26 (rv_tmp rfl) (rv_tmp rfl)) H
theorem f13_sh (l : Option Addr) (a2 : Nat) (a4 : Nat) (h : Heap) (R : Value → Heap → Prop)
  (H : HC Tryz.prog 24 #[(.slice l a2 a4)] h (fun vv h1 => ∃ r : Int, vv = (.int .i64 r) ∧ (((r != 0) = true → R (.tuple #[(.slice none 0 0), (.int .i64 r)]) h1) ∧ ((r != 0) = false → (((decide ((a2 : Int) > 24)) = true → R (.tuple #[(.slice none 0 0), (.int .i64 250)]) h1) ∧ ((decide ((a2 : Int) > 24)) = false → (∃ (I3 : Option Addr → Nat → Nat → Int → Heap → Prop) (a9 : Option Addr → Nat → Nat → Int → Heap → Nat), I3 none 0 0 0 h1 ∧ (∀ (a3 : Option Addr) (a0 : Nat) (a1 : Nat) (v : Int) (h2 : Heap), I3 a3 a0 a1 v h2 → (((decide (v < (a2 : Int))) = true → (∀ nb h3, nb = Array.size h2 → h3 = Array.push h2 (.cells #[(.int .i64 v)] 3) → HAppend Tryz.prog 26 26 (.slice a3 a0 a1) (.slice (some ⟨nb, 0, none⟩) 1 1) h3 (fun vv h4 => ∃ ap : Option Addr, ∃ a8 a7 : Nat, vv = (.slice ap a8 a7) ∧ (I3 ap a8 a7 (IntKind.i64.wrap (v + 1)) h4 ∧ a9 ap a8 a7 (IntKind.i64.wrap (v + 1)) h4 < a9 a3 a0 a1 v h2)))) ∧ ((decide (v < (a2 : Int))) = false → HC Tryz.prog 26 #[(.slice l a2 a4), (.slice a3 a0 a1)] h2 (fun vv h5 => ∃ r0 : Option Addr, ∃ a6 a5 : Nat, ∃ r1 : Int, vv = (.tuple #[(.slice r0 a6 a5), (.int .i64 r1)]) ∧ R (.tuple #[(.slice r0 a6 a5), (.int .i64 r1)]) h5))))))))))) :
  HC Tryz.prog 13 #[(.slice l a2 a4)] h R := by
 refine hc_of (args := [(.slice l a2 a4)]) Tryz.func13 rfl Tryz.ntmps13 (Nat.le_of_ble_eq_true rfl) ?_
 refine xs (xr ?_)
 refine lv rfl rfl (va rfl) (lv rfl rfl (va rfl) ?_)
 refine ln (qn (xs (xs (xr ?_))))
 refine lv rfl rfl (vm rfl) ?_
 refine lp rfl rfl (sc TyTC.cb24 rfl (HC.mono H ?_))
 rintro _ h1 ⟨r, rfl, H⟩
 refine lv rfl rfl (va rfl) ?_
 refine ln (qn (xs (xr ?_)))
 refine lv rfl rfl (vm rfl) (lv rfl rfl (vr rfl rfl rfl) ?_)
 refine ln (qn ?_)
 refine xc (b := r != 0) rfl (fun b0 => ?_) (fun b0 => ?_)
 ·replace H := H.1 b0
  refine xs (xr ?_)
  refine lv rfl rfl (vm rfl) (lv rfl rfl (va rfl) (lv rfl rfl (va rfl) ?_))
  refine ln (qn (xt (qr ?_)))
  exact endQ_ret _ (res_two Tryz.results13 (rv_tmp rfl) (rv_tmp rfl)) H
 ·replace H := H.2 b0
  refine xi (qn (xs (xs (xr ?_))))
  refine lv rfl rfl (vm rfl) (lv rfl rfl (v := (.int .i64 (a2 : Int))) (hv_len (n := a2) TyTC.u22 rfl) (lv rfl rfl (vr rfl rfl rfl) ?_))
  refine ln (qn ?_)
  refine xc (b := decide ((a2 : Int) > 24)) rfl (fun b2 => ?_) (fun b2 => ?_)
  ·replace H := H.1 b2
   refine xs (xr ?_)
   refine lv rfl rfl (va rfl) (lv rfl rfl (va rfl) ?_)
   refine ln (qn (xt (qr ?_)))
   exact endQ_ret _ (res_two Tryz.results13 (rv_tmp rfl) (rv_tmp rfl)) H
  ·replace H := H.2 b2
   refine xi (qn (xs (xr ?_)))
   refine lv rfl rfl (va rfl) ?_
   refine ln (qn (xs (xs (xr ?_))))
   refine lv rfl rfl (vm rfl) (lv rfl rfl (v := (.int .i64 (a2 : Int))) (hv_len (n := a2) TyTC.u22 rfl) (lv rfl rfl (vm rfl) ?_))
   refine ln (qn (xb ?_))
   obtain ⟨I3, a9, b4, b7⟩ := H
   refine xl (σ := Option Addr × Nat × Nat × Int) (fun s => [(0, (.slice l a2 a4)), (5, (.slice s.1 s.2.1 s.2.2.1)), (16, (.int .i64 (a2 : Int))), (17, (.int .i64 s.2.2.2))]) (fun s h' => I3 s.1 s.2.1 s.2.2.1 s.2.2.2 h' ∧ True) (fun s h' => a9 s.1 s.2.1 s.2.2.1 s.2.2.2 h') (none, 0, 0, 0) ⟨b4, trivial⟩ (hc rfl (hc rfl (hc rfl (hc rfl hn)))) ?_
   rintro ⟨a3, a0, a1, v⟩ ρ h2 ⟨b6, -⟩
   have H := b7 a3 a0 a1 v h2 b6
   refine xs (xr ?_)
   refine lv rfl rfl (vr rfl rfl rfl) ?_
   refine ln (qn (xs ?_))
   refine xc (b := decide (v < (a2 : Int))) rfl (fun b1 => ?_) (fun b1 => ?_)
   ·replace H := H.1 b1
    refine xi (qn (xs (xb (xs (xr ?_)))))
    refine lv rfl rfl (vm rfl) (lv rfl rfl (va rfl) ?_)
    refine ln (qn (xr ?_))
    refine lv rfl rfl (vm rfl) (lv rfl rfl (vm rfl) ?_)
    refine lp rfl rfl (hn_buildSlice (n := 1) (vs := [(0, (.int .i64 v))]) (cs := #[(.int .i64 v)]) TyTC.u26 TyTC.sz3 TyTC.z3 rfl rfl (by kernel_rfl) ?_)
    intro nb h3 b5 b3
    replace H := H nb h3 b5 b3
    have b8 := ext_pushed_f8_sh b3
    refine lp rfl rfl (hs_append rfl rfl (HAppend.mono H ?_))
    rintro _ h4 ⟨ap, a8, a7, rfl, H⟩
    refine lv rfl rfl (va rfl) ?_
    refine ln (bn (qn (xr ?_)))
    refine lv rfl rfl (vr rfl rfl rfl) (lv rfl rfl (vm rfl) ?_)
    refine ln (qn ?_)
    exact ⟨(ap, a8, a7, IntKind.i64.wrap (v + 1)), ⟨⟨H.1, trivial⟩, H.2⟩, (hc rfl (hc rfl (hc rfl (hc rfl hn))))⟩
   ·replace H := H.2 b1
    refine xe (qe (qe (bh (qn (xs (xr ?_))))))
    refine lv rfl rfl (vm rfl) (lv rfl rfl (vm rfl) ?_)
    refine lp rfl rfl (sc TyTC.cb26 rfl (HC.mono H ?_))
    rintro _ h5 ⟨r0, a6, a5, r1, rfl, H⟩
    refine lv rfl rfl (vx rfl rfl) (lv rfl rfl (vx rfl rfl) (lv rfl rfl (va rfl) (lv rfl rfl (va rfl) ?_)))
    refine ln (qn (xt ?_))
    exact endQ_ret _ (res_two Tryz.results13 (rv_tmp rfl) (rv_tmp rfl)) H
theorem f8_sh  (h : Heap) (R : Value → Heap → Prop)
  (H : (∀ (b0 : Nat) (b2 : Nat) (h4 : Heap), Array.size h ≤ b0 → b0 < Array.size h4 → Array.size h ≤ b2 → b2 < Array.size h4 → Ext h h4 → (∀ nb h5, nb = Array.size h4 → h5 = Array.push h4 (.cells #[(.int .i64 1), (.string (ByteArray.mk #[107])), (.string (ByteArray.mk #[97])), (.int .i64 0), (.bool true), (.int .i64 0), (.int .i64 1), (.int .i64 2), (.int .i64 2), (.string (ByteArray.mk #[107])), (.string (ByteArray.mk #[97])), (.int .i64 0), (.bool false), (.int .i64 0), (.int .i64 0), (.int .i64 5)] 40) → HC Tryz.prog 13 #[(.slice (some ⟨nb, 0, none⟩) 2 2)] h5 (fun vv h6 => Kp [b0, b2] h5 h6 ∧ ∃ r0 : Option Addr, ∃ a8 a7 : Nat, ∃ r1 : Int, vv = (.tuple #[(.slice r0 a8 a7), (.int .i64 r1)]) ∧ (∀ h7, Fr (fun i => i = b0) h6 h7 → (∀ b3 h8, b3 = Array.size h7 → h8 = Array.push h7 (.cells #[(.int .i64 1), (.string (ByteArray.mk #[107])), (.string (ByteArray.mk #[97])), (.int .i64 0), (.bool true), (.int .i64 0), (.int .i64 1), (.int .i64 2), (.int .i64 2), (.string (ByteArray.mk #[107])), (.string (ByteArray.mk #[97])), (.int .i64 0), (.bool false), (.int .i64 0), (.int .i64 3), (.int .i64 5)] 40) → HC Tryz.prog 13 #[(.slice (some ⟨b3, 0, none⟩) 2 2)] h8 (fun vv h9 => ∃ b1 : Option Addr, ∃ a6 a5 : Nat, ∃ a3 : Int, vv = (.tuple #[(.slice b1 a6 a5), (.int .i64 a3)]) ∧ (∃ b5 : Bool → Heap → Prop, (((r1 == 0) = true → (∀ b4 b6, b4 = Array.size h9 → b6 = Array.push h9 (.cells #[(.int .i64 1), (.int .i64 0)] 3) → HC Tryz.prog 12 #[(.slice r0 a8 a7), (.slice (some ⟨b4, 0, none⟩) 2 2)] b6 (fun vv c6 => ∃ r : Bool, vv = (.bool r) ∧ ((r = true → (b5 (a3 == 251) c6)) ∧ (r = false → (b5 false c6)))))) ∧ ((r1 == 0) = false → (b5 false h9))) ∧ (∀ (j : Bool) (c1 : Heap), b5 j c1 → R (.bool j) c1))))))))) :
  HC Tryz.prog 8 #[] h R := by
 refine hc_of (args := []) Tryz.func8 rfl Tryz.ntmps8 (Nat.le_of_ble_eq_true rfl) ?_
 refine xs (xr ?_)
 refine lv rfl rfl (va rfl) ?_
 refine ln (qn (xs (xr ?_)))
 refine lv rfl rfl (v := (.agg #[(.int .i64 2), (.string (ByteArray.mk #[107])), (.string (ByteArray.mk #[97])), (.int .i64 0), (.bool false), (.int .i64 0), (.int .i64 0), (.int .i64 5)])) (vb (vs := [(0, (.int .i64 2)), (1, (.string (ByteArray.mk #[107]))), (2, (.string (ByteArray.mk #[97]))), (6, (.int .i64 0)), (7, (.int .i64 5))]) (cs := #[(.int .i64 2), (.string (ByteArray.mk #[107])), (.string (ByteArray.mk #[97])), (.int .i64 0), (.bool false), (.int .i64 0), (.int .i64 0), (.int .i64 5)]) TyTC.z40 TyTC.pl40 rfl (by kernel_rfl)) ?_
 refine lp rfl rfl (hn_alloc TyTC.z40 ?_)
 intro b0 h1 d8 d9
 have e7 := ext_pushed_f8_sh d9
 have d7 : Array.size h ≤ b0 := Nat.le_of_eq (Eq.symm d8)
 have e0 : h1[b0]? = some (.cells #[(.int .i64 0), (.string ByteArray.empty), (.string ByteArray.empty), (.int .i64 0), (.bool false), (.int .i64 0), (.int .i64 0), (.int .i64 0)] 40 (0, 0)) := by rw [d9]; exact push_new d8
 refine lp rfl rfl (hn_stores (vs := [(.int .i64 2), (.string (ByteArray.mk #[107])), (.string (ByteArray.mk #[97])), (.int .i64 0), (.bool false), (.int .i64 0), (.int .i64 0), (.int .i64 5)]) rfl rfl TyTC.sz40 rfl (HWs_row e0 (by simp)) ?_)
 intro h2 d5
 have a1 : h2[b0]? = some (.cells #[(.int .i64 2), (.string (ByteArray.mk #[107])), (.string (ByteArray.mk #[97])), (.int .i64 0), (.bool false), (.int .i64 0), (.int .i64 0), (.int .i64 5)] 40 (0, 0)) := row_hsets_eq d5 e0 (by simp [sets])
 have d6 := ext_hsets d5 e7 d7
 refine ln (qn (xs (xr ?_)))
 refine lv rfl rfl (v := (.agg #[(.int .i64 1), (.string (ByteArray.mk #[107])), (.string (ByteArray.mk #[97])), (.int .i64 0), (.bool true), (.int .i64 0), (.int .i64 1), (.int .i64 2)])) (vb (vs := [(0, (.int .i64 1)), (1, (.string (ByteArray.mk #[107]))), (2, (.string (ByteArray.mk #[97]))), (4, (.bool true)), (6, (.int .i64 1)), (7, (.int .i64 2))]) (cs := #[(.int .i64 1), (.string (ByteArray.mk #[107])), (.string (ByteArray.mk #[97])), (.int .i64 0), (.bool true), (.int .i64 0), (.int .i64 1), (.int .i64 2)]) TyTC.z40 TyTC.pl40 rfl (by kernel_rfl)) ?_
 refine lp rfl rfl (hn_alloc TyTC.z40 ?_)
 intro b2 h3 d3 d4
 have d1 := ext_pushed_f8_sh d4
 have c5 := Nat.ne_of_lt (Nat.lt_of_lt_of_eq (row_lt a1) (Eq.symm d3))
 have c9 : Array.size h ≤ b2 := Nat.le_trans (Ext.size d6) (Nat.le_of_eq (Eq.symm d3))
 have c2 : h3[b2]? = some (.cells #[(.int .i64 0), (.string ByteArray.empty), (.string ByteArray.empty), (.int .i64 0), (.bool false), (.int .i64 0), (.int .i64 0), (.int .i64 0)] 40 (0, 0)) := by rw [d4]; exact push_new d3
 replace a1 := Ext.row d1 a1
 have e6 := Ext.trans d6 d1
 refine lp rfl rfl (hn_stores (vs := [(.int .i64 1), (.string (ByteArray.mk #[107])), (.string (ByteArray.mk #[97])), (.int .i64 0), (.bool true), (.int .i64 0), (.int .i64 1), (.int .i64 2)]) rfl rfl TyTC.sz40 rfl (HWs_row c2 (by simp)) ?_)
 intro h4 c0
 replace a1 := row_hsets_ne c0 c5 a1
 have a0 : h4[b2]? = some (.cells #[(.int .i64 1), (.string (ByteArray.mk #[107])), (.string (ByteArray.mk #[97])), (.int .i64 0), (.bool true), (.int .i64 0), (.int .i64 1), (.int .i64 2)] 40 (0, 0)) := row_hsets_eq c0 c2 (by simp [sets])
 have e2 := ext_hsets c0 e6 c9
 refine ln (qn (xs (xr ?_)))
 refine lv rfl rfl (vL (vs := [(.int .i64 1), (.string (ByteArray.mk #[107])), (.string (ByteArray.mk #[97])), (.int .i64 0), (.bool true), (.int .i64 0), (.int .i64 1), (.int .i64 2)]) TyTC.agg40 TyTC.sz40 rfl (cc (rc a0 rfl) (cc (rc a0 rfl) (cc (rc a0 rfl) (cc (rc a0 rfl) (cc (rc a0 rfl) (cc (rc a0 rfl) (cc (rc a0 rfl) (cc (rc a0 rfl) cn))))))))) (lv rfl rfl (vL (vs := [(.int .i64 2), (.string (ByteArray.mk #[107])), (.string (ByteArray.mk #[97])), (.int .i64 0), (.bool false), (.int .i64 0), (.int .i64 0), (.int .i64 5)]) TyTC.agg40 TyTC.sz40 rfl (cc (rc a1 rfl) (cc (rc a1 rfl) (cc (rc a1 rfl) (cc (rc a1 rfl) (cc (rc a1 rfl) (cc (rc a1 rfl) (cc (rc a1 rfl) (cc (rc a1 rfl) cn))))))))) ?_)
 replace H := H b0 b2 h4 d7 (row_lt a1) c9 (row_lt a0) e2
 refine lp rfl rfl (hn_buildSlice (n := 2) (vs := [(0, (.agg #[(.int .i64 1), (.string (ByteArray.mk #[107])), (.string (ByteArray.mk #[97])), (.int .i64 0), (.bool true), (.int .i64 0), (.int .i64 1), (.int .i64 2)])), (1, (.agg #[(.int .i64 2), (.string (ByteArray.mk #[107])), (.string (ByteArray.mk #[97])), (.int .i64 0), (.bool false), (.int .i64 0), (.int .i64 0), (.int .i64 5)]))]) (cs := #[(.int .i64 1), (.string (ByteArray.mk #[107])), (.string (ByteArray.mk #[97])), (.int .i64 0), (.bool true), (.int .i64 0), (.int .i64 1), (.int .i64 2), (.int .i64 2), (.string (ByteArray.mk #[107])), (.string (ByteArray.mk #[97])), (.int .i64 0), (.bool false), (.int .i64 0), (.int .i64 0), (.int .i64 5)]) TyTC.u22 TyTC.sz40 TyTC.z40 rfl rfl (by kernel_rfl) ?_)
 intro nb h5 e4 d0
 replace H := H nb h5 e4 d0
 have c4 := ext_pushed_f8_sh d0
 replace a1 := Ext.row c4 a1
 replace a0 := Ext.row c4 a0
 refine lp rfl rfl (sc TyTC.cb13 rfl (HC.mono H ?_))
 rintro _ h6 ⟨c7, r0, a8, a7, r1, rfl, H⟩
 replace a1 := Kp.row c7 (by simp) a1
 replace a0 := Kp.row c7 (by simp) a0
 refine lv rfl rfl (vm rfl) (lv rfl rfl (vx rfl rfl) (lv rfl rfl (vx rfl rfl) (lv rfl rfl (va rfl) (lv rfl rfl (va rfl) ?_))))
 refine ln (qn (xs (xr ?_)))
 refine lv rfl rfl (v := (ptr b0 6)) (vf TyTC.fld40_6 (b := b0) (o := 0) rfl) ?_
 refine lp rfl rfl (hn_store (v := (.int .i64 3)) rfl rfl TyTC.sz3 rfl (HW_row a1 (by simp)) ?_)
 intro h7 b7
 replace a0 := row_hset_ne b7 (Ne.symm c5) a0
 have a2 : h7[b0]? = some (.cells #[(.int .i64 2), (.string (ByteArray.mk #[107])), (.string (ByteArray.mk #[97])), (.int .i64 0), (.bool false), (.int .i64 0), (.int .i64 3), (.int .i64 5)] 40 (0, 0)) := row_hset_eq b7 a1 rfl
 replace H := H h7 (fr_hset_of b7)
 refine ln (qn (xs (xr ?_)))
 refine lv rfl rfl (vL (vs := [(.int .i64 1), (.string (ByteArray.mk #[107])), (.string (ByteArray.mk #[97])), (.int .i64 0), (.bool true), (.int .i64 0), (.int .i64 1), (.int .i64 2)]) TyTC.agg40 TyTC.sz40 rfl (cc (rc a0 rfl) (cc (rc a0 rfl) (cc (rc a0 rfl) (cc (rc a0 rfl) (cc (rc a0 rfl) (cc (rc a0 rfl) (cc (rc a0 rfl) (cc (rc a0 rfl) cn))))))))) (lv rfl rfl (vL (vs := [(.int .i64 2), (.string (ByteArray.mk #[107])), (.string (ByteArray.mk #[97])), (.int .i64 0), (.bool false), (.int .i64 0), (.int .i64 3), (.int .i64 5)]) TyTC.agg40 TyTC.sz40 rfl (cc (rc a2 rfl) (cc (rc a2 rfl) (cc (rc a2 rfl) (cc (rc a2 rfl) (cc (rc a2 rfl) (cc (rc a2 rfl) (cc (rc a2 rfl) (cc (rc a2 rfl) cn))))))))) ?_)
 refine lp rfl rfl (hn_buildSlice (n := 2) (vs := [(0, (.agg #[(.int .i64 1), (.string (ByteArray.mk #[107])), (.string (ByteArray.mk #[97])), (.int .i64 0), (.bool true), (.int .i64 0), (.int .i64 1), (.int .i64 2)])), (1, (.agg #[(.int .i64 2), (.string (ByteArray.mk #[107])), (.string (ByteArray.mk #[97])), (.int .i64 0), (.bool false), (.int .i64 0), (.int .i64 3), (.int .i64 5)]))]) (cs := #[(.int .i64 1), (.string (ByteArray.mk #[107])), (.string (ByteArray.mk #[97])), (.int .i64 0), (.bool true), (.int .i64 0), (.int .i64 1), (.int .i64 2), (.int .i64 2), (.string (ByteArray.mk #[107])), (.string (ByteArray.mk #[97])), (.int .i64 0), (.bool false), (.int .i64 0), (.int .i64 3), (.int .i64 5)]) TyTC.u22 TyTC.sz40 TyTC.z40 rfl rfl (by kernel_rfl) ?_)
 intro b3 h8 e3 d2
 replace H := H b3 h8 e3 d2
 have c3 := ext_pushed_f8_sh d2
 replace a2 := Ext.row c3 a2
 replace a0 := Ext.row c3 a0
 refine lp rfl rfl (sc TyTC.cb13 rfl (HC.mono H ?_))
 rintro _ h9 ⟨b1, a6, a5, a3, rfl, H⟩
 refine lv rfl rfl (vm rfl) (lv rfl rfl (vx rfl rfl) (lv rfl rfl (vx rfl rfl) (lv rfl rfl (va rfl) (lv rfl rfl (va rfl) ?_))))
 refine ln (qn ?_)
 obtain ⟨b5, b9, b8⟩ := H
 refine xk (fun ρ h' => ∃ j : Bool, (b5 j h' ∧ True) ∧ Has ρ [(0, (.bool j))]) ?_ ?_
 ·have H := b9; clear b9 b8
  refine xr ?_
  refine lv rfl rfl (vm rfl) (lv rfl rfl (vr rfl rfl rfl) (lv rfl rfl (vm rfl) ?_))
  rcases bool_or (r1 == 0) with a4 | a4
  ·replace H := H.1 a4
   refine ly (wanted_y rfl rfl rfl a4) rfl (HStep.of_val (v := (.slice r0 a8 a7)) (vm rfl) ?_)
   refine ly (wanted_y rfl rfl rfl a4) rfl (hn_buildSlice (n := 2) (vs := [(0, (.int .i64 1)), (1, (.int .i64 0))]) (cs := #[(.int .i64 1), (.int .i64 0)]) TyTC.u26 TyTC.sz3 TyTC.z3 rfl rfl (by kernel_rfl) ?_)
   intro b4 b6 e5 c8
   replace H := H b4 b6 e5 c8
   have e8 := ext_pushed_f8_sh c8
   refine ly (wanted_y rfl rfl rfl a4) rfl (sc TyTC.cb12 rfl (HC.mono H ?_))
   rintro _ c6 ⟨r, rfl, H⟩
   refine lv rfl rfl (v := (.bool r)) (hv_pick_t rfl a4 rfl) (lv rfl rfl (vm rfl) ?_)
   rcases bool_or (r) with a9 | a9
   ·replace H := H.1 a9
    refine ly (wanted_y rfl rfl rfl a9) rfl (HStep.of_val (v := (.int .i64 a3)) (vm rfl) ?_)
    refine ly (wanted_y rfl rfl rfl a9) rfl (HStep.of_val (v := (.bool (a3 == 251))) (vr rfl rfl rfl) ?_)
    refine lv rfl rfl (v := (.bool (a3 == 251))) (hv_pick_t rfl a9 rfl) (lv rfl rfl (va rfl) ?_)
    refine ln (qn ?_)
    exact ⟨_, ⟨H, trivial⟩, (hc rfl hn)⟩
   ·replace H := H.2 a9
    refine lo (wanted_n rfl rfl rfl a9) rfl ?_
    refine lo (wanted_n rfl rfl rfl a9) rfl ?_
    refine lv rfl rfl (v := (.bool false)) (hv_pick_f rfl a9 rfl) (lv rfl rfl (va rfl) ?_)
    refine ln (qn ?_)
    exact ⟨_, ⟨H, trivial⟩, (hc rfl hn)⟩
  ·replace H := H.2 a4
   refine lo (wanted_n rfl rfl rfl a4) rfl ?_
   refine lo (wanted_n rfl rfl rfl a4) rfl ?_
   refine lo (wanted_n rfl rfl rfl a4) rfl ?_
   refine lv rfl rfl (v := (.bool false)) (hv_pick_f rfl a4 rfl) (lv rfl rfl (vm rfl) ?_)
   refine lo (wanted_n rfl rfl (c := false) rfl rfl) rfl ?_
   refine lo (wanted_n rfl rfl (c := false) rfl rfl) rfl ?_
   refine lv rfl rfl (v := (.bool false)) (hv_pick (t := false) rfl rfl) (lv rfl rfl (va rfl) ?_)
   refine ln (qn ?_)
   exact ⟨_, ⟨H, trivial⟩, (hc rfl hn)⟩
 ·rintro ρ c1 ⟨j, ⟨e1, -⟩, hH⟩
  have H := b8 j c1 e1; clear b9 b8
  refine xh _ hH ?_
  refine xt ?_
  exact endQ_ret _ (res_one Tryz.results8 (rv_tmp rfl)) H
end Go.Proofs.YtfjcciaabkjkgaaGreatDoor
namespace Go.Proofs.YtfjcciaabkjkgaaGreatDoor
open Go Ml
def eN : Elt Nat := ⟨1, fun n => [.int .i64 n], fun _ => rfl, fun x v hv => by simp at hv; subst hv; rfl⟩
def eW : Elt Nat := ⟨1, fun n => [.int .u32 n], fun _ => rfl, fun x v hv => by simp at hv; subst hv; rfl⟩
def Sound (nm : Nat → List Mt → Str) (l : List Mv) (own : List Nat) (kv : List (Str × Value)) : Prop :=
  ∀ n, ∃ c : Int, (lk kv n).getD (.int .i64 0) = .int .i64 c ∧ (0 < c → ∀ left s, left < 4294967296 → nm left s = n → ¬ Cmp l (Rm own left) fun _ => s)
structure Sch (h : Heap) (p mb : Nat) (l : List Mv) (own W : List Nat) (la oa wa : Option Addr) (lc oc wc : Nat) : Prop where
  row : h[p]? = some (.cells #[.slice la l.length lc, .slice oa own.length oc, .slice wa W.length wc, .map (some mb)] 92 (0, 0))
  sl : Sl eMv h la lc l
  so : Sl eN h oa oc own
  sw : Sl eW h wa wc W
  np : p ≠ mb
  nl : ∀ b, blkA la b → b ≠ mb
  no : ∀ b, blkA oa b → b ≠ mb
  nw : ∀ b, blkA wa b → b ≠ mb
def Vain (nm : Nat → List Mt → Str) (h : Heap) (mb : Nat) (l : List Mv) (own : List Nat) : Prop := ∃ kv, MapL h mb Value.string kv ∧ Sound nm l own kv
section
variable {h : Heap} {p mb : Nat} {l : List Mv} {own W : List Nat} {la oa wa : Option Addr} {lc oc wc : Nat} {nm : Nat → List Mt → Str}
theorem Sch.fr (S : Sch h p mb l own W la oa wa lc oc wc) {h' : Heap} (f : Fr (fun b => b = mb) h h') : Sch h' p mb l own W la oa wa lc oc wc :=
  ⟨f.row S.row S.np, S.sl.fr f S.nl, S.so.fr f S.no, S.sw.fr f S.nw, S.np, S.nl, S.no, S.nw⟩
theorem Vain.ext (V : Vain nm h mb l own) {h' : Heap} (x : Ext h h') : Vain nm h' mb l own := let ⟨kv, m, s⟩ := V; ⟨kv, m.ext x, s⟩
def Good (l : List Mv) (own : List Nat) (left : Nat) (s : List Mt) (k i : Nat) : Prop :=
  left.testBit k = true ∧ (∀ j, Rm own left j → ¬ ah (mv l j) (mv l i)) ∧ next s (mv l i) ≠ [] ∧ Cmp l (Rm own (clr left k)) fun _ => next s (mv l i)
theorem min32 {k : Nat} (hk : k < 32) : min (Int.toNat (k : Int)) 32 = k := by rw [Int.toNat_natCast]; omega
set_option maxHeartbeats 4000000 in
theorem can_c {Tb : Heap → Prop} {Pm : List Mt → Prop} {key : Str} (hTb : ∀ h h', Fr (fun b => b = mb) h h' → Tb h → Tb h') (hPn : ∀ s i, Pm s → i ∈ own → Pm (next s (mv l i))) (hPl : ∀ s, Pm s → s.length ≤ 68719476736)
    (hnm : ∀ {a b s t}, a < 4294967296 → b < 4294967296 → nm a s = nm b t → a = b ∧ s = t)
    (hst : ∀ {h left s a c}, Tb h → left < 4294967296 → Pm s → Sl eMt h a c s → HC Tryz.prog 84 #[.int .u32 (left : Nat), .slice a s.length c] h fun v h' => v = .string (nm left s) ∧ Ext h h')
    (hd : own.Nodup) (hk : OfOne l own key) (hol : own.length ≤ 31) (hin : ∀ i ∈ own, i < l.length) (hll : l.length ≤ 4611686018427387904)
    (hWl : W.length = own.length) (hW : ∀ (k : Nat) i, own[k]? = some i → ∃ w, W[k]? = some w ∧ w < 4294967296 ∧ Wt l own i w) :
    ∀ (n left : Nat), left < n → ∀ {h : Heap} {s : List Mt} {a : Option Addr} {c : Nat}, Sch h p mb l own W la oa wa lc oc wc → Vain nm h mb l own → Tb h → left < 2 ^ own.length → Pm s → Sl eMt h a c s → (∀ b, blkA a b → b ≠ mb) →
      HC Tryz.prog 60 #[ptr p 0, .int .u32 (left : Nat), .slice a s.length c] h fun v h' => ∃ r : Bool, v = .bool r ∧ (r = true ↔ Cmp l (Rm own left) fun _ => s) ∧ Fr (fun b => b = mb) h h' ∧ Vain nm h' mb l own := by
  intro n
  induction n with
  | zero => intro left hlt; omega
  | succ n ih =>
    intro left hln h s a c S V T hl P sl ne
    have h2p : 2 ^ own.length ≤ 2 ^ 31 := Nat.pow_le_pow_right (by decide) hol
    have h32 : left < 4294967296 := by omega
    have hu : U32 (left : Int) := ⟨by omega, by omega⟩
    refine f60_sh _ _ _ _ _ _ _ _ ⟨fun e => ?_, fun e => ?_⟩
    · have : left = 0 := by have := eq_of_beq e; omega
      subst this
      exact ⟨true, rfl, ⟨fun _ => can_zero, fun _ => rfl⟩, Fr.refl _ _, V⟩
    have h0 : left ≠ 0 := fun q => by subst q; simp at e
    refine (hst T h32 P sl).mono ?_
    rintro _ h1 ⟨rfl, x1⟩
    obtain ⟨kv, mk, sk⟩ := V
    have S1 := S.fr (x1.fr _)
    obtain ⟨c0, e0, hc0⟩ := sk (nm left s)
    refine ⟨_, rfl, some mb, by rw [hcell_row S1.row]; rfl, mb, rfl, kv, mk.ext x1, c0, e0, fun g => ?_, fun g => ?_⟩
    · exact ⟨false, rfl, ⟨fun q => (by cases q), fun q => absurd q (hc0 (of_decide_eq_true g) left s h32 rfl)⟩, x1.fr _, kv, mk.ext x1, sk⟩
    refine ⟨oa, _, oc, by rw [hcell_row S1.row]; rfl, fun v h2 => ∃ k : Nat, v = k ∧ k ≤ own.length ∧ Fr (fun b => b = mb) h h2 ∧ Vain nm h2 mb l own ∧ ∀ j i, j < k → own[j]? = some i → ¬ Good l own left s j i, fun v _ => own.length - v.toNat,
      ⟨0, rfl, Nat.zero_le _, x1.fr _, ⟨kv, mk.ext x1, sk⟩, fun j i q => by omega⟩, ?_⟩
    rintro _ h2 ⟨k, rfl, hkl, f2, V2, hg⟩
    have S2 := S.fr f2
    refine ⟨fun hlt => ?_, fun hge => ?_⟩
    · have hkl := lt_of_dec hlt
      have hk32 : k < 32 := by omega
      have eo : own[k]? = some own[k] := List.getElem?_eq_getElem hkl
      have hio := hin own[k] (List.getElem_mem hkl)
      obtain ⟨w, ew, w32, hw⟩ := hW k own[k] eo
      have hbit : (iband .u32 (Int.fdiv (left : Int) (2 ^ k)) 1 == 0) = !(left.testBit k) := by have := shr_bit hu k; rw [Int.toNat_natCast] at this; exact this
      have hwand : (iband .u32 (w : Int) (left : Int) != 0) = (w &&& left != 0) := by
        rw [and32 ⟨by omega, by omega⟩ hu, Int.toNat_natCast, Int.toNat_natCast, Bool.eq_iff_iff]
        simp only [bne_iff_ne, ne_eq]
        omega
      rw [min32 hk32, hbit]
      have stay : ∀ h3, (Fr (fun b => b = mb) h h3 ∧ Vain nm h3 mb l own ∧ ¬ Good l own left s k own[k]) →
          (∃ k' : Nat, IntKind.i64.wrap ((k : Int) + 1) = k' ∧ k' ≤ own.length ∧ Fr (fun b => b = mb) h h3 ∧ Vain nm h3 mb l own ∧ ∀ j i, j < k' → own[j]? = some i → ¬ Good l own left s j i) ∧ own.length - (IntKind.i64.wrap ((k : Int) + 1)).toNat < own.length - (k : Int).toNat := by
        rintro h3 ⟨f3, V3, ng⟩
        rw [wadd k (by omega)]
        refine ⟨⟨k + 1, rfl, hkl, f3, V3, fun j i hj hji => ?_⟩, by simp only [Int.toNat_natCast]; omega⟩
        by_cases e : j = k
        · subst e
          rw [eo] at hji; cases hji
          exact ng
        · exact hg j i (by omega) hji
      refine ⟨fun h3 => Fr (fun b => b = mb) h h3 ∧ Vain nm h3 mb l own ∧ ¬ Good l own left s k own[k], ⟨!(left.testBit k) || (w &&& left != 0), ⟨by omega, fun g1 => by rw [g1]; rfl, fun g1 => ?_⟩, fun g1 => ?_, fun g1 => ?_⟩, stay⟩
      · obtain ⟨wb, wo, ewa, dw⟩ := S2.sw.at ew
        exact ⟨wa, _, wc, by rw [hcell_row S2.row]; rfl, wb, wo, ewa, by omega, by omega, w, dw.1, by rw [hwand, g1]; rfl⟩
      · refine ⟨f2, V2, fun q => ?_⟩
        rw [q.1, Bool.not_true, Bool.false_or] at g1
        have := (wt_none hw).2 q.2.1
        rw [this] at g1; cases g1
      · rw [Bool.or_eq_false_iff] at g1
        obtain ⟨g2, g3⟩ := g1
        have hb : left.testBit k = true := by simpa using g2
        have hm : ∀ j, Rm own left j → ¬ ah (mv l j) (mv l own[k]) := (wt_none hw).1 (by simpa using g3)
        obtain ⟨ob, oo, eoa, dO⟩ := S2.so.at eo
        obtain ⟨lb, lo, ela, dl⟩ := S2.sl.at (List.getElem?_eq_getElem hio)
        have emv : mv l own[k] = l[own[k]] := mv_at hio
        refine ⟨la, _, lc, by rw [hcell_row S2.row]; rfl, oa, _, oc, by rw [hcell_row S2.row]; rfl, ob, oo, eoa, by omega, by omega, _, dO.1, lb, lo, ela, by omega, by omega, _, _, _, _, _, _, _, _, dl.1, dl.2.1, dl.2.2.1, dl.2.2.2.1, dl.2.2.2.2.1, dl.2.2.2.2.2.1, dl.2.2.2.2.2.2.1, dl.2.2.2.2.2.2.2.1, (next_c (sl.fr f2 ne) (hPl s P) l[own[k]]).mono ?_⟩
        rintro _ h4 ⟨a4, c4, rfl, x4, s4, w4⟩
        rw [← emv] at s4 ⊢
        have f4 : Fr (fun b => b = mb) h h4 := f2.trans (x4.fr _) fun _ _ q => q
        refine ⟨a4, _, c4, rfl, fun r h5 => (r = true → Cmp l (Rm own left) fun _ => s) ∧ (r = false → ¬ Good l own left s k own[k]) ∧ Fr (fun b => b = mb) h h5 ∧ Vain nm h5 mb l own, ⟨fun g5 => ⟨by omega, ?_⟩, fun g5 => ⟨fun q => (by cases q), fun _ q => ?_, f4, V2.ext x4⟩⟩, ?_⟩
        · rw [andn32 hu hk32, Int.toNat_natCast]
          have hmb : mb < h2.size := by obtain ⟨kv2, m2, _⟩ := V2; exact m2.lt
          refine (ih (clr left k) (by have := clr_less h32 hb; omega) (S.fr f4) (V2.ext x4) (hTb _ _ f4 T) (clr_le h32 hl) (hPn s own[k] P (List.getElem_mem hkl)) s4 fun b hb2 => ?_).mono ?_
          · have := (w4.low hb2).1; omega
          · rintro _ h6 ⟨r, rfl, hr, f6, V6⟩
            have hne : next s (mv l own[k]) ≠ [] := fun q => by rw [q] at g5; simp at g5
            refine ⟨r, rfl, fun q => (can_iff hd hk hl h32 h0).2 ⟨k, own[k], eo, hb, hm, hne, hr.1 q⟩, fun q g => ?_, f4.trans f6 fun _ _ q => q, V6⟩
            rw [hr.2 g.2.2.2] at q; cases q
        · have hne := q.2.2.1
          cases hx : next s (mv l own[k]) with
          | nil => exact hne hx
          | cons y t => rw [hx] at g5; simp at g5
        · rintro r h5 ⟨q1, q2, f5, V5⟩
          refine ⟨fun g => ⟨true, rfl, ⟨fun _ => q1 g, fun _ => rfl⟩, f5, V5⟩, fun g => ⟨f5, V5, q2 g⟩⟩
    · have hkl : k = own.length := by have := ge_of_dec hge; omega
      subst hkl
      have hno : ¬ Cmp l (Rm own left) fun _ => s := fun q => by
        obtain ⟨k, i, e, g⟩ := (can_iff hd hk hl h32 h0).1 q
        exact hg k i (List.getElem?_eq_some_iff.1 e).1 e g
      obtain ⟨kv2, m2, sk2⟩ := V2
      obtain ⟨c2, e2, hc2⟩ := sk2 (nm left s)
      refine ⟨some mb, by rw [hcell_row S2.row]; rfl, mb, rfl, kv2, m2, c2, e2, kv2, m2, fun h7 o7 m7 => ⟨false, rfl, ⟨fun q => (by cases q), fun q => absurd q hno⟩, f2.trans o7.fr fun _ _ q => q, _, m7, fun nn => ?_⟩⟩
      rw [lk_kput]
      by_cases q : nn = nm left s
      · rw [if_pos q]
        refine ⟨_, rfl, fun _ left' s' hl' en => ?_⟩
        obtain ⟨k1, k2⟩ := hnm hl' h32 (en.trans q)
        rw [k1, k2]; exact hno
      · rw [if_neg q]; exact sk2 nn
end
end Go.Proofs.YtfjcciaabkjkgaaGreatDoor
namespace Go.Proofs.YtfjcciaabkjkgaaGreatDoor
open Go Ml
theorem sl_lt {α : Type} {E : Elt α} {h : Heap} {a : Option Addr} {c : Nat} {L : List α} (hk : 0 < E.k) (s : Sl E h a c L) (hp : 0 < L.length) {b : Nat} (hb : blkA a b) : b < h.size := by
  obtain ⟨b0, o, e, hc⟩ := s.addr hp
  rw [e, blkA_some] at hb
  subst hb
  have h1 := hc 0 _ (List.getElem?_eq_getElem hp)
  have hl : 0 < (E.enc L[0]).length := by rw [E.len]; exact hk
  have h2 := h1.get (j := 0) (v := (E.enc L[0])[0]) (List.getElem?_eq_getElem hl)
  refine Nat.lt_of_not_le fun q => ?_
  have hn : h[b]? = none := Array.getElem?_eq_none q
  unfold hcell at h2
  rw [hn] at h2
  cases h2
theorem own_typ {k : Nat} {T T' : TypeId} {N : Nat} {h : Heap} {a : Option Addr} {c b : Nat} {cs : Array Value} (w : Own k T N h a c) (r : h[b]? = some (.cells cs T' (0, 0))) (hT : T' ≠ T) : ¬ blkA a b := fun hb => by
  rcases w with ⟨e1, _⟩ | ⟨b', o', cs', e1, _, r1, _⟩
  · rw [e1] at hb; exact blkA_none hb
  · rw [e1, blkA_some] at hb; subst hb; rw [r1] at r; simp at r; exact hT r.2.symm
theorem own_map {κ : Type} {k : Nat} {T : TypeId} {N : Nat} {h : Heap} {a : Option Addr} {c mb : Nat} {enc : κ → Value} {kv : List (κ × Value)} (w : Own k T N h a c) (m : MapL h mb enc kv) : ¬ blkA a mb := fun hb => by
  rcases w with ⟨e1, _⟩ | ⟨b', o', cs', e1, _, r1, _⟩
  · rw [e1] at hb; exact blkA_none hb
  · rw [e1, blkA_some] at hb; subst hb
    obtain ⟨_, _, m1, _⟩ := m
    rw [r1] at m1; simp at m1
theorem shl32 {k : Nat} (hk : k < 32) : IntKind.u32.wrap (1 * 2 ^ k) = ((2 ^ k : Nat) : Int) ∧ U32 ((2 ^ k : Nat) : Int) := by
  have hp : (2 : Nat) ^ k < 2 ^ 32 := Nat.pow_lt_pow_right (by decide) hk
  have h2 : ((1 : Int) * 2 ^ k) = ((2 ^ k : Nat) : Int) := by simp
  have hu : U32 (((2 ^ k : Nat) : Int)) := ⟨Int.natCast_nonneg _, by generalize (2 : Nat) ^ k = z at hp; omega⟩
  rw [h2]
  exact ⟨w32 hu, hu⟩
theorem aW : AppT Tryz.prog 90 67 eW.k 4 := ⟨by kernel_rfl, by kernel_rfl, by kernel_rfl, ⟨.int .u32 0, [.int .u32 0], by unfold zeroB; kernel_rfl, rfl, rfl⟩, by decide⟩
set_option maxHeartbeats 4000000 in
theorem newSearch_c {h : Heap} {l : List Mv} {own : List Nat} {la oa : Option Addr} {lc oc : Nat} (sl : Sl eMv h la lc l) (so : Sl eN h oa oc own) (hne : 0 < own.length) (hol : own.length ≤ 31) (hin : ∀ i ∈ own, i < l.length) (hll : l.length ≤ 4611686018427387904) :
    HC Tryz.prog 43 #[.slice la l.length lc, .slice oa own.length oc] h fun v h' => Ext h h' ∧ ∃ p mb W wa wc, v = ptr p 0 ∧ h.size ≤ p ∧ p < h'.size ∧ h.size ≤ mb ∧ mb < h'.size ∧ Sch h' p mb l own W la oa wa lc oc wc ∧
      W.length = own.length ∧ (∀ (k : Nat) i, own[k]? = some i → ∃ w, W[k]? = some w ∧ w < 4294967296 ∧ Wt l own i w) ∧ MapL h' mb Value.string ([] : List (Str × Value)) ∧ ∀ b, blkA wa b → h.size ≤ b ∧ b < h'.size := by
  refine f43_sh _ _ _ _ _ _ _ _ fun mb h1 e1 x1 z1 m1 nb h2 e2 eh2 => ?_
  have x2 : Ext h1 h2 := by rw [eh2]; exact Ext.push _ _
  have r2 : h2[nb]? = some (.cells #[.slice la l.length lc, .slice oa own.length oc, .slice none 0 0, .map (some mb)] 92 (0, 0)) := by rw [eh2]; exact push_new e2
  clear eh2
  have s1 := x1.size
  have hnb : h.size ≤ nb := by omega
  have hmn : nb ≠ mb := by omega
  refine ⟨fun v h3 => ∃ (k : Nat) (W : List Nat) (wa : Option Addr) (wc : Nat), v = k ∧ k ≤ own.length ∧ W.length = k ∧ Ext h h3 ∧ h3[nb]? = some (.cells #[.slice la l.length lc, .slice oa own.length oc, .slice wa W.length wc, .map (some mb)] 92 (0, 0)) ∧
      Sl eW h3 wa wc W ∧ Own eW.k 67 h.size h3 wa wc ∧ MapL h3 mb Value.string ([] : List (Str × Value)) ∧ ∀ (j : Nat) i, j < k → own[j]? = some i → ∃ w, W[j]? = some w ∧ w < 4294967296 ∧ Wt l own i w,
    fun v _ => own.length - v.toNat, ⟨0, [], none, 0, rfl, Nat.zero_le _, rfl, x1.trans x2, r2, Sl.nil _ _, Own.nil _ _ _ _, m1.ext x2, fun j i q => by omega⟩, ?_⟩
  rintro _ h3 ⟨k, W, wa, wc, rfl, hk, hWk, x3, r3, sW, wW, m3, hW⟩
  refine ⟨fun hlt => ?_, fun hge => ?_⟩
  · have hkl := lt_of_dec hlt
    have eo : own[k]? = some own[k] := List.getElem?_eq_getElem hkl
    have hio := hin own[k] (List.getElem_mem hkl)
    obtain ⟨ob, oo, eoa, dO⟩ := (so.ext x3).at eo
    refine ⟨ob, oo, eoa, by omega, by omega, _, dO.1, fun ahead v => ∃ (j w : Nat), v = j ∧ j ≤ own.length ∧ ahead = w ∧ w < 4294967296 ∧ ∀ q, w.testBit q = true ↔ q < j ∧ ∃ i', own[q]? = some i' ∧ ah (mv l i') (mv l own[k]), fun _ v => own.length - v.toNat,
      ⟨0, 0, rfl, Nat.zero_le _, rfl, by decide, fun q => by rw [Nat.zero_testBit]; exact ⟨fun g => (by cases g), fun g => by omega⟩⟩, ?_⟩
    rintro _ _ ⟨j, w, rfl, hj, rfl, w32, hw⟩
    have huw : U32 (w : Int) := ⟨by omega, by omega⟩
    refine ⟨fun hlt2 => ?_, fun hge2 => ?_⟩
    · have hjl := lt_of_dec hlt2
      have hj32 : j < 32 := by omega
      have ej : own[j]? = some own[j] := List.getElem?_eq_getElem hjl
      have hij := hin own[j] (List.getElem_mem hjl)
      obtain ⟨ob2, oo2, eoa2, dO2⟩ := (so.ext x3).at ej
      rw [eoa] at eoa2; cases eoa2
      obtain ⟨lb, lo, ela, dl⟩ := (sl.ext x3).at (List.getElem?_eq_getElem hij)
      obtain ⟨lb2, lo2, ela2, dl2⟩ := (sl.ext x3).at (List.getElem?_eq_getElem hio)
      rw [ela] at ela2; cases ela2
      have e1 : mv l own[j] = l[own[j]] := mv_at hij
      have e2 : mv l own[k] = l[own[k]] := mv_at hio
      rw [min32 hj32]
      obtain ⟨sh1, sh2⟩ := shl32 hj32
      rw [sh1, or32 huw sh2]
      have hor : w ||| 2 ^ j < 4294967296 := by
        have := Nat.or_lt_two_pow (n := 32) (x := w) (y := 2 ^ j) (by simpa using w32) (Nat.pow_lt_pow_right (by decide) hj32)
        simpa using this
      refine ⟨if ah (mv l own[j]) (mv l own[k]) then ((w ||| 2 ^ j : Nat) : Int) else (w : Int), ⟨by omega, by omega, _, dO2.1, lb, lo, ela, by omega, by omega, _, _, _, _, _, _, _, _, dl.1, dl.2.1, dl.2.2.1, dl.2.2.2.1, dl.2.2.2.2.1, dl.2.2.2.2.2.1, dl.2.2.2.2.2.2.1, dl.2.2.2.2.2.2.2.1, by omega, by omega, _, _, _, _, _, _, _, _, dl2.1, dl2.2.1, dl2.2.2.1, dl2.2.2.2.1, dl2.2.2.2.2.1, dl2.2.2.2.2.2.1, dl2.2.2.2.2.2.2.1, dl2.2.2.2.2.2.2.2.1, fun g => ⟨by omega, ?_⟩, fun g => ?_⟩, ?_⟩
      · have g' : ah (mv l own[j]) (mv l own[k]) := by rw [e1, e2]; exact of_decide_eq_true g
        rw [if_pos g']; rfl
      · have g' : ¬ ah (mv l own[j]) (mv l own[k]) := by rw [e1, e2]; exact of_decide_eq_false g
        rw [if_neg g']
      · rw [wadd j (by omega)]
        refine ⟨⟨j + 1, if ah (mv l own[j]) (mv l own[k]) then w ||| 2 ^ j else w, rfl, hjl, by split <;> rfl, by split <;> assumption, fun q => ?_⟩, by simp only [Int.toNat_natCast]; omega⟩
        by_cases g : ah (mv l own[j]) (mv l own[k])
        · rw [if_pos g, Nat.testBit_or, Nat.testBit_two_pow]
          simp only [Bool.or_eq_true, decide_eq_true_eq]
          rw [hw q]
          constructor
          · rintro (⟨a, b⟩ | rfl)
            · exact ⟨by omega, b⟩
            · exact ⟨by omega, own[j], ej, g⟩
          · rintro ⟨a, b⟩
            by_cases e : j = q
            · exact .inr e
            · exact .inl ⟨by omega, b⟩
        · rw [if_neg g, hw q]
          constructor
          · rintro ⟨a, b⟩; exact ⟨by omega, b⟩
          · rintro ⟨a, i', e, b⟩
            refine ⟨?_, i', e, b⟩
            by_cases e' : j = q
            · subst e'; rw [ej] at e; cases e; exact absurd b g
            · omega
    · have hjl : j = own.length := by have := ge_of_dec hge2; omega
      subst hjl
      have hWt : Wt l own own[k] w := fun q => by
        rw [hw q]
        exact ⟨fun g => g.2, fun g => ⟨by obtain ⟨i', e, _⟩ := g; exact (List.getElem?_eq_some_iff.1 e).1, g⟩⟩
      refine ⟨wa, _, wc, by rw [hcell_row r3]; rfl, fun h4 x4 nb1 h7 en7 e7 => ?_⟩
      have r4 := x4.row r3
      refine app_one (x := w) aW en7 e7 rfl (x3.trans x4) (sW.ext x4) (wW.ext x4) rfl (by omega) fun a' c' h8 x8 f8 s8 w8 b8 => ⟨a', _, c', rfl, ?_⟩
      have r8 := f8.row r4 (own_typ (wW.ext x4) r4 (by decide))
      have m8 := (m3.ext x4).fr f8 (own_map (wW.ext x4) (m3.ext x4))
      refine ⟨HW_row r8 (by simp), fun h9 e9 => ?_⟩
      have f9 := fr_hset_of e9
      have n8 : ∀ b, blkA a' b → b ≠ nb := fun b hb q => own_typ w8 r8 (by decide) (by rw [← q]; exact hb)
      rw [wadd k (by omega)]
      refine ⟨⟨k + 1, W ++ [w], a', c', rfl, hkl, by simp [hWk], ext_of_fr f9 x8 hnb, by rw [e9, hset_row r8, List.length_append]; rfl, s8.fr f9 n8, w8.fr f9 n8, m8.fr f9 fun q => hmn q.symm, fun j i hj hji => ?_⟩, by simp only [Int.toNat_natCast]; omega⟩
      by_cases e : j = k
      · subst e
        rw [eo] at hji; cases hji
        exact ⟨w, by rw [List.getElem?_append_right (by omega), hWk]; simp, w32, hWt⟩
      · obtain ⟨w', k1, k2⟩ := hW j i (by omega) hji
        exact ⟨w', by rw [List.getElem?_append_left (by omega)]; exact k1, k2⟩
  · have hkl : k = own.length := by have := ge_of_dec hge; omega
    subst hkl
    have hl0 : 0 < l.length := by have := hin own[0] (List.getElem_mem hne); omega
    have s3 := x3.size
    refine ⟨x3, nb, mb, W, wa, wc, rfl, hnb, row_lt r3, by omega, m3.lt, ⟨r3, sl.ext x3, so.ext x3, sW, hmn, fun b hb => ?_, fun b hb => ?_, fun b hb q => own_map wW m3 (by rw [← q]; exact hb)⟩, hWk, fun k i e => hW k i (List.getElem?_eq_some_iff.1 e).1 e, m3, fun b hb => wW.low hb⟩
    · have := sl_lt (by decide) sl hl0 hb; omega
    · have := sl_lt (by decide) so hne hb; omega
end Go.Proofs.YtfjcciaabkjkgaaGreatDoor
namespace Go.Proofs.YtfjcciaabkjkgaaGreatDoor
open Go Ml
def Ml.chkL (L : List Mv) : Int := if ∀ x ∈ L, check x = 0 then 0 else 230
theorem check_two (m : Mv) : check m = 0 ∨ check m = 230 := by unfold check; split; exact .inr rfl; exact .inl rfl
theorem chk_no {L : List Mv} {x : Mv} (hx : x ∈ L) (h : check x ≠ 0) : check x = 230 ∧ chkL L = 230 :=
  ⟨(check_two x).resolve_left h, by unfold chkL; rw [if_neg fun q => h (q x hx)]⟩
theorem right_c {h : Heap} {a : Option Addr} {c : Nat} {L : List Mv} (s : Sl eMv h a c L) (hl : L.length ≤ 4611686018427387904) : HC Tryz.prog 24 #[.slice a L.length c] h fun v h' => v = .int .i64 (chkL L) ∧ Ext h h' := by
  refine f24_sh _ _ _ _ _ ⟨fun v => ∃ k : Nat, v = k ∧ k ≤ L.length ∧ ∀ x ∈ L.take k, check x = 0, fun v => L.length - v.toNat, ⟨0, rfl, Nat.zero_le _, fun x hx => by simp at hx⟩, ?_⟩
  rintro _ ⟨k, rfl, hk, hI⟩
  refine ⟨fun hlt => ?_, fun hge h1 x1 => ?_⟩
  · have hkl := lt_of_dec hlt
    obtain ⟨b, o, e, d⟩ := s.at (List.getElem?_eq_getElem hkl)
    refine ⟨b, o, e, by omega, by omega, _, _, _, _, _, _, _, _, d.1, d.2.1, d.2.2.1, d.2.2.2.1, d.2.2.2.2.1, d.2.2.2.2.2.1, d.2.2.2.2.2.2.1, d.2.2.2.2.2.2.2.1, fun g h4 x4 => ?_, fun g => ?_⟩
    · obtain ⟨k1, k2⟩ := chk_no (List.getElem_mem hkl) (show check L[k] ≠ 0 from by simpa using g)
      rw [k2, ← k1]; exact ⟨rfl, x4⟩
    · rw [wadd k (by omega)]
      refine ⟨⟨k + 1, rfl, hkl, fun x hx => ?_⟩, by simp only [Int.toNat_natCast]; omega⟩
      rw [List.take_add_one, List.getElem?_eq_getElem hkl] at hx
      rcases List.mem_append.1 hx with hx | hx
      · exact hI x hx
      · have : x = L[k] := by simpa using hx
        rw [this]; simpa using g
  · have hkl : k = L.length := by have := ge_of_dec hge; omega
    subst hkl
    rw [List.take_length] at hI
    unfold chkL
    rw [if_pos hI]; exact ⟨rfl, x1⟩
theorem rcheck_l {h : Heap} {a : Option Addr} {c : Nat} {L : List Mv} (s : Sl eMv h a c L) (hl : L.length ≤ 4611686018427387904) : HC Tryz.prog 17 #[.slice a L.length c] h fun v h' => v = .int .i64 (chkL L) ∧ Ext h h' := by
  refine f17_sh _ _ _ _ _ ⟨fun v => ∃ k : Nat, v = k ∧ k ≤ L.length ∧ ∀ x ∈ L.take k, check x = 0, fun v => L.length - v.toNat, ⟨0, rfl, Nat.zero_le _, fun x hx => by simp at hx⟩, ?_⟩
  rintro _ ⟨k, rfl, hk, hI⟩
  refine ⟨fun hlt => ?_, fun hge h1 x1 => ?_⟩
  · have hkl := lt_of_dec hlt
    obtain ⟨b, o, e, d⟩ := s.at (List.getElem?_eq_getElem hkl)
    refine ⟨b, o, e, by omega, by omega, _, _, _, _, _, _, _, _, d.1, d.2.1, d.2.2.1, d.2.2.2.1, d.2.2.2.2.1, d.2.2.2.2.2.1, d.2.2.2.2.2.2.1, d.2.2.2.2.2.2.2.1, fun g h4 x4 => ?_, fun g => ?_⟩
    · obtain ⟨k1, k2⟩ := chk_no (List.getElem_mem hkl) (show check L[k] ≠ 0 from by simpa using g)
      rw [k2]; exact ⟨rfl, x4⟩
    · rw [wadd k (by omega)]
      refine ⟨⟨k + 1, rfl, hkl, fun x hx => ?_⟩, by simp only [Int.toNat_natCast]; omega⟩
      rw [List.take_add_one, List.getElem?_eq_getElem hkl] at hx
      rcases List.mem_append.1 hx with hx | hx
      · exact hI x hx
      · have : x = L[k] := by simpa using hx
        rw [this]; simpa using g
  · have hkl : k = L.length := by have := ge_of_dec hge; omega
    subst hkl
    rw [List.take_length] at hI
    unfold chkL
    rw [if_pos hI]; exact ⟨rfl, x1⟩
theorem aN : AppT Tryz.prog 26 3 eN.k 8 := ⟨by kernel_rfl, by kernel_rfl, by kernel_rfl, ⟨.int .i64 0, [.int .i64 0], by unfold zeroB; kernel_rfl, rfl, rfl⟩, by decide⟩
theorem clone_n {h : Heap} {a : Option Addr} {c : Nat} {L : List Nat} (s : Sl eN h a c L) (hl : L.length ≤ 1099511627776) : HC Tryz.prog 41 #[.slice a L.length c] h fun v h' => New eN 3 h h' v L := by
  refine f41_sh _ _ _ _ _ ⟨fun g => ?_, fun g nb h1 e1 eh1 => ?_⟩
  · have ha : a = none := by simpa using g
    have hL : L = [] := by
      rcases Nat.eq_zero_or_pos L.length with q | q
      · exact List.eq_nil_of_length_eq_zero q
      · obtain ⟨b, o, e, _⟩ := s.addr q
        rw [ha] at e; cases e
    subst hL
    exact New.nil (Ext.refl _)
  · have x1 : Ext h h1 := by rw [eh1]; exact Ext.push _ _
    have r1 : h1[nb]? = some (.cells #[] 3 (0, 0)) := by rw [eh1]; exact push_new e1
    have s0 : Sl eN h1 (some ⟨nb, 0, none⟩) 0 [] := Sl.lit (L := []) (E := eN) r1
    have w0 : Own eN.k 3 h.size h1 (some ⟨nb, 0, none⟩) 0 := Own.lit (L := ([] : List Nat)) (E := eN) r1 (by omega)
    refine app_own (n := 0) aN x1 s0 w0 rfl (s.ext x1) rfl (by omega) fun a' c' h2 x2 _ s2 w2 _ => ⟨a', _, c', rfl, ?_⟩
    rw [List.nil_append] at s2
    rw [Nat.zero_add]
    exact ⟨a', c', rfl, x2, s2, w2⟩
theorem some_n {h : Heap} {a : Option Addr} {c : Nat} {L : List Nat} {f : Value} {Q : Nat → Bool} (s : Sl eN h a c L) (hl : L.length ≤ 4611686018427387904) (hf : ∀ h' x, Ext h h' → x ∈ L → HCV Tryz.prog f [.int .i64 (x : Nat)] h' fun v h2 => v = .bool (Q x) ∧ Ext h' h2) :
    HC Tryz.prog 47 #[.slice a L.length c, f] h fun v h' => v = .bool (L.any Q) ∧ Ext h h' := by
  refine f47_sh _ _ _ _ _ _ (f35_sh _ _ _ _ _ _ ⟨fun v h1 => ∃ k : Nat, v = k ∧ k ≤ L.length ∧ Ext h h1 ∧ ∀ x ∈ L.take k, Q x = false, fun v _ => L.length - v.toNat, ⟨0, rfl, Nat.zero_le _, Ext.refl _, fun x hx => by simp at hx⟩, ?_⟩)
  rintro _ h1 ⟨k, rfl, hk, x1, hI⟩
  refine ⟨fun hlt => ?_, fun hge => ?_⟩
  · have hkl := lt_of_dec hlt
    obtain ⟨b, o, e, d⟩ := (s.ext x1).at (List.getElem?_eq_getElem hkl)
    refine ⟨b, o, e, by omega, by omega, _, d.1, (hf h1 L[k] x1 (List.getElem_mem hkl)).mono ?_⟩
    rintro _ h2 ⟨rfl, x2⟩
    refine ⟨_, rfl, fun g => ⟨_, rfl, ?_, x1.trans x2⟩, fun g => ?_⟩
    · have : L.any Q = true := List.any_eq_true.2 ⟨L[k], List.getElem_mem hkl, g⟩
      rw [this]
      have hd : decide (((k : Nat) : Int) ≥ 0) = true := decide_eq_true (by omega)
      rw [hd]
    · rw [wadd k (by omega)]
      refine ⟨⟨k + 1, rfl, hkl, x1.trans x2, fun x hx => ?_⟩, by simp only [Int.toNat_natCast]; omega⟩
      rw [List.take_add_one, List.getElem?_eq_getElem hkl] at hx
      rcases List.mem_append.1 hx with hx | hx
      · exact hI x hx
      · have : x = L[k] := by simpa using hx
        rw [this]; exact g
  · have hkl : k = L.length := by have := ge_of_dec hge; omega
    subst hkl
    rw [List.take_length] at hI
    refine ⟨_, rfl, ?_, x1⟩
    have : L.any Q = false := by
      rw [Bool.eq_false_iff]
      intro q
      obtain ⟨x, hx, hq⟩ := List.any_eq_true.1 q
      rw [hI x hx] at hq; cases hq
    rw [this]
    rfl
end Go.Proofs.YtfjcciaabkjkgaaGreatDoor
namespace Go.Proofs.YtfjcciaabkjkgaaGreatDoor
open Go Ml
def eZ : Elt Int := ⟨1, fun n => [.int .i64 n], fun _ => rfl, fun x v hv => by simp at hv; subst hv; rfl⟩
end Go.Proofs.YtfjcciaabkjkgaaGreatDoor
namespace Go.Proofs.YtfjcciaabkjkgaaGreatDoor
open Go Ml
theorem chk_val {l : List Mv} (h : chkL l ≠ 0) : chkL l = 230 := by unfold chkL at *; split at h; exact absurd rfl h; rename_i q; rw [if_neg q]
end Go.Proofs.YtfjcciaabkjkgaaGreatDoor
namespace Go.Proofs.YtfjcciaabkjkgaaGreatDoor
open Go Ml
theorem sameInts_c {h : Heap} {a b : Option Addr} {c d : Nat} {L M : List Int} (s : Sl eZ h a c L) (t : Sl eZ h b d M) (hl : L.length ≤ 4611686018427387904) :
    HC Tryz.prog 12 #[.slice a L.length c, .slice b M.length d] h fun v h' => v = .bool (decide (L = M)) ∧ h' = h := by
  refine f12_sh _ _ _ _ _ _ _ _ ⟨fun e => ⟨?_, rfl⟩, fun e => ⟨fun i => ∃ j : Nat, i = j ∧ j ≤ L.length ∧ L.take j = M.take j, fun i => L.length - i.toNat, ⟨0, rfl, Nat.zero_le _, rfl⟩, ?_⟩⟩
  · have : L ≠ M := fun h => by subst h; simp at e
    simp [this]
  · have hlm : L.length = M.length := by simp at e; omega
    rintro _ ⟨j, rfl, hj, ht⟩
    refine ⟨fun hlt => ?_, fun hge => ⟨?_, rfl⟩⟩
    · have hjl := lt_of_dec hlt
      have hjm : j < M.length := by omega
      obtain ⟨b1, o1, e1, c1⟩ := s.at (List.getElem?_eq_getElem hjl)
      obtain ⟨b2, o2, e2, c2⟩ := t.at (List.getElem?_eq_getElem hjm)
      refine ⟨b1, o1, e1, by omega, by omega, L[j], c1.1, b2, o2, e2, by omega, by omega, M[j], c2.1, fun g => ⟨?_, rfl⟩, fun g => ?_⟩
      · have hne : L[j] ≠ M[j] := by simpa using g
        have : L ≠ M := fun h => by subst h; exact hne rfl
        simp [this]
      · have he : L[j] = M[j] := by simpa using g
        rw [wadd j (by omega)]
        refine ⟨⟨j + 1, rfl, hjl, ?_⟩, by simp only [Int.toNat_natCast]; omega⟩
        rw [List.take_add_one, List.take_add_one, ht, List.getElem?_eq_getElem hjl, List.getElem?_eq_getElem hjm, he]
    · have hjl := ge_of_dec hge
      rw [List.take_of_length_le hjl, List.take_of_length_le (by omega)] at ht
      simp [ht]
theorem aZ : AppT Tryz.prog 26 3 eZ.k 8 := ⟨by kernel_rfl, by kernel_rfl, by kernel_rfl, ⟨.int .i64 0, [.int .i64 0], by unfold zeroB; kernel_rfl, rfl, rfl⟩, by decide⟩
end Go.Proofs.YtfjcciaabkjkgaaGreatDoor
namespace Go.Proofs.YtfjcciaabkjkgaaGreatDoor
open Go Ml
structure Nmr (N : Nat) (Tb : Heap → Prop) (Pm : List Mt → Prop) (nm : Nat → List Mt → Str) (l : List Mv) : Prop where
  fr : ∀ {S : Nat → Prop} {h h' : Heap}, Fr S h h' → (∀ b, S b → N ≤ b) → Tb h → Tb h'
  pn : ∀ s i, Pm s → i < l.length → Pm (next s (mv l i))
  pl : ∀ s, Pm s → s.length ≤ 68719476736
  ps : Pm Ml.start
  inj : ∀ {a b s t}, a < 4294967296 → b < 4294967296 → nm a s = nm b t → a = b ∧ s = t
  st : ∀ {h : Heap} {left : Nat} {s : List Mt} {a : Option Addr} {c : Nat}, Tb h → left < 4294967296 → Pm s → Sl eMt h a c s → HC Tryz.prog 84 #[.int .u32 (left : Nat), .slice a s.length c] h fun v h' => v = .string (nm left s) ∧ Ext h h'
  ll : l.length ≤ 4611686018427387904
theorem Nmr.ext {N : Nat} {Tb : Heap → Prop} {Pm : List Mt → Prop} {nm : Nat → List Mt → Str} {l : List Mv} (M : Nmr N Tb Pm nm l) {h h' : Heap} (x : Ext h h') (T : Tb h) : Tb h' := M.fr (x.fr fun _ => False) (fun _ q => q.elim) T
structure Srh (nm : Nat → List Mt → Str) (N lo B : Nat) (h : Heap) (p mb : Nat) (l : List Mv) (own : List Nat) (key : Str) : Prop where
  mem : ∃ W la oa wa lc oc wc, Sch h p mb l own W la oa wa lc oc wc ∧ W.length = own.length ∧ (∀ (k : Nat) i, own[k]? = some i → ∃ w, W[k]? = some w ∧ w < 4294967296 ∧ Wt l own i w) ∧
    (∀ b, blkA la b → b < N) ∧ (∀ b, blkA oa b → lo ≤ b ∧ b < B) ∧ ∀ b, blkA wa b → lo ≤ b ∧ b < B
  nd : own.Nodup
  one : OfOne l own key
  le : own.length ≤ 31
  lt : ∀ i ∈ own, i < l.length
  nlo : N ≤ lo
  pB : lo ≤ p ∧ p < B
  mB : lo ≤ mb ∧ mb < B
  vain : Vain nm h mb l own
section
variable {N lo B : Nat} {Tb : Heap → Prop} {Pm : List Mt → Prop} {nm : Nat → List Mt → Str} {l : List Mv} {own : List Nat} {key : Str} {h : Heap} {p mb : Nat}
theorem Srh.fr (S : Srh nm N lo B h p mb l own key) {h' : Heap} (f : Fr (fun b => b = mb) h h') (V : Vain nm h' mb l own) : Srh nm N lo B h' p mb l own key :=
  let ⟨W, la, oa, wa, lc, oc, wc, S1, k1, k2, k3⟩ := S.mem
  ⟨⟨W, la, oa, wa, lc, oc, wc, S1.fr f, k1, k2, k3⟩, S.nd, S.one, S.le, S.lt, S.nlo, S.pB, S.mB, V⟩
theorem Srh.away (S : Srh nm N lo B h p mb l own key) {h' : Heap} {X : Nat → Prop} (f : Fr X h h') (hX : ∀ b, X b → N ≤ b ∧ ¬ (lo ≤ b ∧ b < B)) : Srh nm N lo B h' p mb l own key := by
  obtain ⟨W, la, oa, wa, lc, oc, wc, S1, k1, k2, k3, k4, k5⟩ := S.mem
  obtain ⟨kv, mk, sk⟩ := S.vain
  refine ⟨⟨W, la, oa, wa, lc, oc, wc, ⟨f.row S1.row fun q => (hX _ q).2 S.pB, S1.sl.fr f fun b hb q => ?_, S1.so.fr f fun b hb q => (hX _ q).2 (k4 b hb), S1.sw.fr f fun b hb q => (hX _ q).2 (k5 b hb), S1.np, S1.nl, S1.no, S1.nw⟩, k1, k2, k3, k4, k5⟩, S.nd, S.one, S.le, S.lt, S.nlo, S.pB, S.mB, kv, mk.fr f fun q => (hX _ q).2 S.mB, sk⟩
  have := k3 b hb; have := (hX _ q).1; omega
theorem Srh.ext (S : Srh nm N lo B h p mb l own key) {h' : Heap} (x : Ext h h') : Srh nm N lo B h' p mb l own key := S.fr (x.fr _) (S.vain.ext x)
theorem Srh.mlt (S : Srh nm N lo B h p mb l own key) : mb < h.size := by obtain ⟨kv, m, _⟩ := S.vain; exact m.lt
theorem can_n (M : Nmr N Tb Pm nm l) (S : Srh nm N lo B h p mb l own key) (T : Tb h) {left : Nat} (hl : left < 2 ^ own.length) {s : List Mt} {a : Option Addr} {c : Nat} (P : Pm s) (sl : Sl eMt h a c s) (ne : ∀ b, blkA a b → b ≠ mb) :
    HC Tryz.prog 60 #[ptr p 0, .int .u32 (left : Nat), .slice a s.length c] h fun v h' => ∃ r : Bool, v = .bool r ∧ (r = true ↔ Cmp l (Rm own left) fun _ => s) ∧ Fr (fun b => b = mb) h h' ∧ Srh nm N lo B h' p mb l own key := by
  obtain ⟨W, la, oa, wa, lc, oc, wc, S1, k1, k2, _⟩ := S.mem
  have hlo : N ≤ mb := Nat.le_trans S.nlo S.mB.1
  refine (can_c (nm := nm) (Tb := Tb) (Pm := Pm) (key := key) (fun h h' f t => M.fr f (fun b q => by rw [q]; exact hlo) t) (fun s i q hi => M.pn s i q (S.lt i hi)) M.pl M.inj M.st S.nd S.one S.le S.lt M.ll k1 k2 (left + 1) left (Nat.lt_succ_self _) S1 S.vain T hl P sl ne).mono ?_
  rintro v h' ⟨r, hv, hr, f, V⟩
  exact ⟨r, hv, hr, f, S.fr f V⟩
theorem all_c (S : Srh nm N lo B h p mb l own key) : HC Tryz.prog 45 #[ptr p 0] h fun v h' => (∃ z : Nat, v = .int .u32 z ∧ z = 2 ^ own.length - 1) ∧ h' = h := by
  obtain ⟨W, la, oa, wa, lc, oc, wc, S1, k1, k2, _⟩ := S.mem
  have hle := S.le
  refine f45_sh _ _ _ _ ⟨oa, _, oc, by rw [hcell_row S1.row]; rfl, by omega, ⟨2 ^ own.length - 1, ?_, rfl⟩, rfl⟩
  have hp : (2 : Nat) ^ own.length < 2 ^ 32 := Nat.pow_lt_pow_right (by decide) (by omega)
  have hp1 : 0 < (2 : Nat) ^ own.length := Nat.two_pow_pos _
  rw [min32 (by omega), (shl32 (show own.length < 32 by omega)).1]
  congr 1
  have e : (((2 ^ own.length : Nat) : Int) - 1) = ((2 ^ own.length - 1 : Nat) : Int) := by
    generalize (2 : Nat) ^ own.length = z at hp hp1
    omega
  rw [e]
  refine w32 ⟨Int.natCast_nonneg _, ?_⟩
  generalize (2 : Nat) ^ own.length = z at hp hp1
  omega
theorem all_lt : 2 ^ own.length - 1 < 2 ^ own.length := by have := Nat.two_pow_pos own.length; omega
theorem shown_c (M : Nmr N Tb Pm nm l) (S : Srh nm N lo B h p mb l own key) (T : Tb h) : HC Tryz.prog 44 #[ptr p 0] h fun v h' => ∃ r : Bool, v = .bool r ∧ (r = true ↔ Cmp l (fun i => i ∈ own) stX) ∧ Fr (fun b => b = mb) h h' ∧ Srh nm N lo B h' p mb l own key := by
  refine f44_sh _ _ _ _ ((all_c S).mono ?_)
  rintro _ _ ⟨⟨z, rfl, hz⟩, rfl⟩
  refine ⟨_, rfl, (start_c _).mono ?_⟩
  rintro _ h2 ⟨a, c, rfl, x2, s2, w2⟩
  have hm := S.mlt
  refine ⟨a, _, c, rfl, (can_n M (S.ext x2) (M.ext x2 T) (left := z) (by rw [hz]; exact all_lt) M.ps s2 fun b hb => by have := (w2.low hb).1; omega).mono ?_⟩
  rintro _ h3 ⟨r, rfl, hr, f, S3⟩
  rw [hz, rm_all] at hr
  exact ⟨r, rfl, r, rfl, hr, (x2.fr _).trans f fun _ _ q => q, S3⟩
end
end Go.Proofs.YtfjcciaabkjkgaaGreatDoor
namespace Go.Proofs.YtfjcciaabkjkgaaGreatDoor
open Go Ml
theorem index_c {h : Heap} {own : List Nat} {oa : Option Addr} {oc : Nat} (so : Sl eN h oa oc own) (hl : own.length ≤ 31) (hd : own.Nodup) {k i : Nat} (e : own[k]? = some i) :
    HC Tryz.prog 62 #[.slice oa own.length oc, .int .i64 (i : Nat)] h fun v h' => v = .int .i64 (k : Nat) ∧ h' = h := by
  have hkl := (List.getElem?_eq_some_iff.1 e).1
  refine f62_sh _ _ _ _ _ _ ⟨fun v => ∃ j : Nat, v = j ∧ j ≤ k, fun v => own.length - v.toNat, ⟨0, rfl, Nat.zero_le _⟩, ?_⟩
  rintro _ ⟨j, rfl, hj⟩
  refine ⟨fun hlt => ?_, fun hge => ?_⟩
  · have hjl := lt_of_dec hlt
    obtain ⟨ob, oo, eo, d⟩ := so.at (List.getElem?_eq_getElem hjl)
    refine ⟨ob, oo, eo, by omega, by omega, _, d.1, fun g => ?_, fun g => ?_⟩
    · have : j = k := by
        have h1 := eq_of_beq g
        refine nodup_at hd (x := i) ?_ e
        rw [List.getElem?_eq_getElem hjl]
        congr 1; omega
      subst this
      exact ⟨rfl, rfl⟩
    · rw [wadd j (by omega)]
      refine ⟨⟨j + 1, rfl, ?_⟩, by simp only [Int.toNat_natCast]; omega⟩
      rcases Nat.lt_or_ge j k with q | q
      · exact q
      · have : j = k := by omega
        subst this
        rw [List.getElem?_eq_getElem hjl] at e
        have e := Option.some.inj e
        rw [e] at g
        simp at g
  · have := ge_of_dec hge; omega
structure Stg (Pm : List Mt → Prop) (nm : Nat → List Mt → Str) (N lo B : Nat) (h : Heap) (t p mb : Nat) (l : List Mv) (own : List Nat) (key : Str) (left : Nat) (s : List Mt) : Prop where
  srh : Srh nm N lo B h p mb l own key
  row : ∃ a c, h[t]? = some (.cells #[.pointer (some ⟨p, 0, none⟩), .int .u32 (left : Nat), .slice a s.length c] 72 (0, 0)) ∧ Sl eMt h a c s ∧ Own eMt.k tMt N h a c
  lt : left < 2 ^ own.length
  pm : Pm s
  bt : B ≤ t
section
variable {N lo B : Nat} {Tb : Heap → Prop} {Pm : List Mt → Prop} {nm : Nat → List Mt → Str} {l : List Mv} {own : List Nat} {key : Str} {h : Heap} {t p mb left : Nat} {s : List Mt}
set_option maxHeartbeats 4000000 in
theorem takes_c (M : Nmr N Tb Pm nm l) (S : Stg Pm nm N lo B h t p mb l own key left s) (T : Tb h) (hN : N ≤ h.size) {k i : Nat} (ek : own[k]? = some i) :
    HC Tryz.prog 49 #[ptr t 0, .int .i64 (i : Nat)] h fun v h' => ∃ r : Bool, v = .bool r ∧ (r = true ↔ next s (mv l i) ≠ [] ∧ Cmp l (Rm own (clr left k)) fun _ => next s (mv l i)) ∧ Fr (fun b => b = mb ∨ b = t) h h' ∧
      (r = false → Stg Pm nm N lo B h' t p mb l own key left s) ∧ (r = true → Stg Pm nm N lo B h' t p mb l own key (clr left k) (next s (mv l i))) := by
  obtain ⟨W, la, oa, wa, lc, oc, wc, S1, k1, k2, _⟩ := S.srh.mem
  obtain ⟨a, c, rt, sa, wa'⟩ := S.row
  have hkl := (List.getElem?_eq_some_iff.1 ek).1
  have hio : i ∈ own := List.mem_of_getElem? ek
  have hil := S.srh.lt i hio
  have hle := S.srh.le
  have hk32 : k < 32 := by omega
  have emv : mv l i = l[i] := mv_at hil
  have hmb := S.srh.mlt
  have ht := row_lt rt
  have hll := S.lt
  have h2p : 2 ^ own.length ≤ 2 ^ 31 := Nat.pow_le_pow_right (by decide) hle
  have h32 : left < 4294967296 := by omega
  have hu : U32 (left : Int) := ⟨by omega, by omega⟩
  obtain ⟨kv, mk, _⟩ := S.srh.vain
  refine f49_sh _ _ _ _ _ ⟨some ⟨p, 0, none⟩, by rw [hcell_row rt]; rfl, p, 0, rfl, oa, _, oc, by rw [hcell_row S1.row]; rfl, (index_c S1.so hle S.srh.nd ek).mono ?_⟩
  rintro _ h1 ⟨rfl, e1⟩
  have e1 := e1.symm
  subst e1
  obtain ⟨lb, lq, ela, dl⟩ := S1.sl.at (List.getElem?_eq_getElem hil)
  refine ⟨_, rfl, a, _, c, by rw [hcell_row rt]; rfl, some ⟨p, 0, none⟩, by rw [hcell_row rt]; rfl, p, 0, rfl, la, _, lc, by rw [hcell_row S1.row]; rfl, lb, lq, ela, by omega, by omega, _, _, _, _, _, _, _, _, dl.1, dl.2.1, dl.2.2.1, dl.2.2.2.1, dl.2.2.2.2.1, dl.2.2.2.2.2.1, dl.2.2.2.2.2.2.1, dl.2.2.2.2.2.2.2.1, (next_c sa (M.pl s S.pm) l[i]).mono ?_⟩
  rintro _ h2 ⟨a2, c2, rfl, x2, s2, w2⟩
  rw [← emv] at s2 ⊢
  have rt2 := x2.row rt
  have S2 := S.srh.ext x2
  have hn2 : ∀ b, blkA a2 b → b ≠ mb ∧ b ≠ t := fun b hb => by have := (w2.low hb).1; omega
  have hc : ibandNot .u32 (left : Int) (IntKind.u32.wrap (1 * 2 ^ k)) = ((clr left k : Nat) : Int) := by rw [andn32 hu hk32, Int.toNat_natCast]
  have hbt := S.bt
  have htm : t ≠ mb := by have := S.srh.mB; omega
  rw [min32 hk32]
  refine ⟨a2, _, c2, rfl, left, by rw [hcell_row rt2]; rfl, by omega, fun j h3 => (j = false ↔ next s (mv l i) ≠ [] ∧ Cmp l (Rm own (clr left k)) fun _ => next s (mv l i)) ∧ Fr (fun b => b = mb) h2 h3 ∧ Srh nm N lo B h3 p mb l own key, ⟨fun g => ?_, fun g => ?_⟩, ?_⟩
  · refine ⟨⟨fun q => (by cases q), fun q => ?_⟩, Fr.refl _ _, S2⟩
    have : next s (mv l i) = [] := List.length_eq_zero_iff.1 (by have := eq_of_beq g; omega)
    exact absurd this q.1
  · have hne : next s (mv l i) ≠ [] := fun q => by rw [q] at g; simp at g
    refine ⟨some ⟨p, 0, none⟩, by rw [hcell_row rt2]; rfl, ?_⟩
    rw [hc]
    refine (can_n M S2 (M.ext x2 T) (clr_le h32 hll) (M.pn s i S.pm hil) s2 fun b hb => (hn2 b hb).1).mono ?_
    rintro _ h4 ⟨r, rfl, hr, f4, S4⟩
    refine ⟨r, rfl, ⟨fun q => ⟨hne, hr.1 (by simpa using q)⟩, fun q => ?_⟩, f4, S4⟩
    have := hr.2 q.2
    rw [this]; rfl
  · rintro j h3 ⟨hj, f3, S3⟩
    have f03 : Fr (fun b => b = mb) h h3 := (x2.fr _).trans f3 fun _ _ q => q
    have rt3 := f3.row rt2 htm
    have na : ∀ b, blkA a b → b ≠ mb := fun b hb q => own_map wa' mk (by rw [← q]; exact hb)
    refine ⟨fun e => ⟨false, rfl, ⟨fun q => (by cases q), fun q => ?_⟩, f03.mono fun _ _ q => .inl q, fun _ => ⟨S3, ⟨a, c, rt3, sa.fr f03 na, wa'.fr f03 na⟩, S.lt, S.pm, S.bt⟩, fun q => (by cases q)⟩, fun e => ?_⟩
    · have := hj.2 q; rw [e] at this; cases this
    refine ⟨HW_row rt3 (by simp), fun h5 e5 => ?_⟩
    rw [hc] at e5
    have rt5 : h5[t]? = some (.cells #[.pointer (some ⟨p, 0, none⟩), .int .u32 (clr left k : Nat), .slice a s.length c] 72 (0, 0)) := by rw [e5, hset_row rt3]; rfl
    refine ⟨HW_row rt5 (by simp), fun h6 e6 => ?_⟩
    have rt6 : h6[t]? = some (.cells #[.pointer (some ⟨p, 0, none⟩), .int .u32 (clr left k : Nat), .slice a2 (next s (mv l i)).length c2] 72 (0, 0)) := by rw [e6, hset_row rt5]; rfl
    have f36 : Fr (fun b => b = t) h3 h6 := (fr_hset_of e5).trans (fr_hset_of e6) fun _ _ q => q
    refine ⟨true, rfl, ⟨fun _ => hj.1 e, fun _ => rfl⟩, (f03.mono fun _ _ q => .inl q).trans f36 fun _ _ q => .inr q, fun q => (by cases q), fun _ => ⟨?_, ⟨a2, c2, rt6, (s2.fr f3 fun b hb => (hn2 b hb).1).fr f36 fun b hb => (hn2 b hb).2, ((w2.down hN).fr f3 fun b hb => (hn2 b hb).1).fr f36 fun b hb => (hn2 b hb).2⟩, clr_le h32 hll, M.pn s i S.pm hil, S.bt⟩⟩
    exact S3.away f36 fun b q => by rw [q]; have := S.srh.nlo; have := S.srh.mB; exact ⟨by omega, by omega⟩
theorem srh_new {la oa : Option Addr} {lc oc : Nat} (sl : Sl eMv h la lc l) (hla : ∀ b, blkA la b → b < N) (so : Sl eN h oa oc own) (hoa : ∀ b, blkA oa b → lo ≤ b) (hN : N ≤ lo) (hlo : lo ≤ h.size) (hne : 0 < own.length) (hol : own.length ≤ 31) (hin : ∀ i ∈ own, i < l.length) (hll : l.length ≤ 4611686018427387904) (hd : own.Nodup) (ho : OfOne l own key) :
    HC Tryz.prog 43 #[.slice la l.length lc, .slice oa own.length oc] h fun v h' => Ext h h' ∧ ∃ p mb, v = ptr p 0 ∧ Srh nm N lo h'.size h' p mb l own key := by
  refine (newSearch_c sl so hne hol hin hll).mono ?_
  rintro v h' ⟨x1, p, mb, W, wa, wc, hv, p1, p2, m1, m2, S, k1, k2, mk, hw⟩
  have s1 := x1.size
  refine ⟨x1, p, mb, hv, ⟨W, la, oa, wa, lc, oc, wc, S, k1, k2, hla, fun b hb => ⟨hoa b hb, ?_⟩, fun b hb => ⟨by have := (hw b hb).1; omega, (hw b hb).2⟩⟩, hd, ho, hol, hin, hN, ⟨by omega, p2⟩, ⟨by omega, m2⟩, [], mk, fun n => ⟨0, rfl, fun q => by omega⟩⟩
  have := sl_lt (by decide) so hne hb; omega
end
end Go.Proofs.YtfjcciaabkjkgaaGreatDoor
namespace Go.Proofs.YtfjcciaabkjkgaaGreatDoor
open Go Ml
section
variable {N : Nat} {h : Heap} {a : Option Addr} {c : Nat} {M : List Nat} {f : Value} {Q : Nat → Bool}
def keepQ (Q : Nat → Bool) (M : List Nat) : List Nat := M.filter fun x => !Q x
theorem keep_take {t : Nat} (ht : t < M.length) : keepQ Q (M.take (t + 1)) = keepQ Q (M.take t) ++ if Q M[t] then [] else [M[t]] := by
  unfold keepQ
  rw [List.take_add_one, List.getElem?_eq_getElem ht, List.filter_append]
  congr 1
  cases h : Q M[t] <;> simp [h]
theorem idx_n (s : Sl eN h a c M) (hl : M.length ≤ 1099511627776) (hf : ∀ h' x, Fr (blkA a) h h' → x ∈ M → HCV Tryz.prog f [.int .i64 (x : Nat)] h' fun v h2 => v = .bool (Q x) ∧ Ext h' h2) :
    HC Tryz.prog 35 #[.slice a M.length c, f] h fun v h' => Ext h h' ∧ ((v = .int .i64 (-1) ∧ keepQ Q M = M) ∨ ∃ k, v = .int .i64 (k : Nat) ∧ k < M.length ∧ keepQ Q (M.take (k + 1)) = M.take k) := by
  refine f35_sh _ _ _ _ _ _ ⟨fun i h1 => ∃ k : Nat, i = k ∧ k ≤ M.length ∧ Ext h h1 ∧ keepQ Q (M.take k) = M.take k, fun i _ => M.length - i.toNat, ⟨0, rfl, Nat.zero_le _, Ext.refl _, rfl⟩, ?_⟩
  rintro _ h1 ⟨k, rfl, hk, x1, hI⟩
  refine ⟨fun hlt => ?_, fun hge => ?_⟩
  · have hkl := lt_of_dec hlt
    obtain ⟨b, o, e, d⟩ := (s.ext x1).at (List.getElem?_eq_getElem hkl)
    refine ⟨b, o, e, by omega, by omega, _, d.1, (hf h1 M[k] (x1.fr _) (List.getElem_mem hkl)).mono ?_⟩
    rintro _ h2 ⟨rfl, x2⟩
    refine ⟨_, rfl, fun q => ⟨x1.trans x2, .inr ⟨k, rfl, hkl, ?_⟩⟩, fun q => ?_⟩
    · rw [keep_take hkl, q, hI]; simp
    · rw [wadd k (by omega)]
      refine ⟨⟨k + 1, rfl, hkl, x1.trans x2, ?_⟩, by simp only [Int.toNat_natCast]; omega⟩
      rw [keep_take hkl, q, hI, List.take_add_one, List.getElem?_eq_getElem hkl]; rfl
  · have hkl : k = M.length := by have := ge_of_dec hge; omega
    rw [hkl, List.take_length] at hI
    exact ⟨x1, .inl ⟨rfl, hI⟩⟩
set_option maxHeartbeats 4000000 in
theorem del_n (s : Sl eN h a c M) (w : Own eN.k 3 N h a c) (hl : M.length ≤ 1099511627776) (hf : ∀ h' x, Fr (blkA a) h h' → x ∈ M → HCV Tryz.prog f [.int .i64 (x : Nat)] h' fun v h2 => v = .bool (Q x) ∧ Ext h' h2) :
    HC Tryz.prog 40 #[.slice a M.length c, f] h fun v h' => Fr (blkA a) h h' ∧ ∃ a' c', v = .slice a' (keepQ Q M).length c' ∧ Sl eN h' a' c' (keepQ Q M) ∧ Own eN.k 3 N h' a' c' ∧ ∀ b, blkA a' b → blkA a b := by
  have hle := s.le
  refine f40_sh _ _ _ _ _ _ ((idx_n s hl hf).mono ?_)
  rintro _ h1 ⟨x1, ⟨rfl, hI⟩ | ⟨k, rfl, hk, hI⟩⟩
  · refine ⟨_, rfl, fun _ => ?_, fun q => by simp at q⟩
    rw [hI]
    exact ⟨x1.fr _, a, c, rfl, s.ext x1, w.ext x1, fun _ h => h⟩
  obtain ⟨b, o, rfl, hc⟩ := s.addr (by omega)
  refine ⟨_, rfl, fun q => ?_, fun _ => ?_⟩
  · have := eq_of_beq q; omega
  refine ⟨fun i j h2 => ∃ (u t : Nat) (M' : List Nat), i = u ∧ j = t ∧ u < t ∧ t ≤ M.length ∧ M'.length = M.length ∧ M'.take u = keepQ Q (M.take t) ∧ (∀ q, t ≤ q → M'[q]? = M[q]?) ∧ Sl eN h2 (some ⟨b, o, none⟩) c M' ∧ Own eN.k 3 N h2 (some ⟨b, o, none⟩) c ∧ Fr (blkA (some ⟨b, o, none⟩)) h h2,
    fun _ j _ => M.length - j.toNat, ⟨k, k + 1, M, rfl, wadd k (by omega), by omega, by omega, rfl, hI.symm, fun _ _ => rfl, s.ext x1, w.ext x1, x1.fr _⟩, ?_⟩
  rintro _ _ h2 ⟨u, t, M', rfl, rfl, hut, ht, hM, htk, hsame, s2, w2, f2⟩
  refine ⟨fun hlt => ?_, fun hge => ?_⟩
  · have htl := lt_of_dec hlt
    have hx : M'[t]? = some M[t] := by rw [hsame t (Nat.le_refl _)]; exact List.getElem?_eq_getElem htl
    obtain ⟨b', o', e, d⟩ := s2.at hx
    cases e
    refine ⟨fun i h3 => ∃ (u' : Nat) (M'' : List Nat), i = u' ∧ u' < t + 1 ∧ M''.length = M.length ∧ M''.take u' = keepQ Q (M.take (t + 1)) ∧ (∀ q, t + 1 ≤ q → M''[q]? = M[q]?) ∧ Sl eN h3 (some ⟨b, o, none⟩) c M'' ∧ Own eN.k 3 N h3 (some ⟨b, o, none⟩) c ∧ Fr (blkA (some ⟨b, o, none⟩)) h h3,
      ⟨b, o, rfl, by omega, by omega, _, d.1, (hf h2 M[t] f2 (List.getElem_mem htl)).mono ?_⟩, ?_⟩
    · rintro _ h6 ⟨rfl, x6⟩
      refine ⟨_, rfl, fun q => ?_, fun q => ?_⟩
      · have he : Q M[t] = false := by simpa using q
        obtain ⟨hw, s3, w3⟩ := (s2.ext x6).put (w2.ext x6) (i := u) (by omega) M[t]
        refine ⟨by omega, by omega, hw 0 (by decide), ?_⟩
        rintro h7 e7
        have eh : h7 = hsets h6 b (o + u * eN.k) (eN.enc M[t]) := e7
        rw [← eh] at s3 w3
        rw [wadd u (by omega)]
        refine ⟨u + 1, M'.set u M[t], rfl, by omega, by simpa using hM, ?_, fun q hq => ?_, s3, w3, ?_⟩
        · rw [keep_take htl, he, ← htk, List.take_add_one, List.getElem?_set_self (by omega), List.take_set_of_le (Nat.le_refl _)]
          rfl
        · rw [List.getElem?_set_ne (by omega)]; exact hsame q (by omega)
        · rw [eh]
          exact (f2.trans (x6.fr _) fun _ _ h => h).trans (fr_hsets (fun b' => b' = b) (fun _ => rfl)) (fun i _ hi => by rw [blkA_some]; exact hi)
      · have he : Q M[t] = true := by simpa using q
        refine ⟨u, M', rfl, by omega, hM, ?_, fun q hq => hsame q (by omega), s2.ext x6, w2.ext x6, f2.trans (x6.fr _) fun _ _ h => h⟩
        rw [keep_take htl, he, htk]; simp
    · rintro _ h3 ⟨u', M'', rfl, hu', hM'', htk', hsame', s3, w3, f3⟩
      rw [wadd t (by omega)]
      exact ⟨⟨u', t + 1, M'', rfl, rfl, hu', htl, hM'', htk', hsame', s3, w3, f3⟩, by simp only [Int.toNat_natCast]; omega⟩
  · have htl : t = M.length := by have := ge_of_dec hge; omega
    rw [htl, List.take_length] at htk
    have hulen : u = (keepQ Q M).length := by
      have := congrArg List.length htk
      rw [List.length_take] at this; omega
    obtain ⟨cs, hrow, hcs, _⟩ := w2.row
    refine ⟨by omega, by omega, by omega, fun sl1 es1 => ?_⟩
    obtain ⟨o3, eo3, ho3⟩ := slA_some (b := b) (o := o) (l := u) (sz := 1) (m := c)
    have es1' : sl1 = some ⟨b, o3, none⟩ := es1.trans eo3
    have ho3' : M.length - u ≠ 0 → o3 = o + u * 1 := fun hn => ho3 (by omega)
    refine ⟨fun hn => ⟨b, o3, es1', ?_⟩, fun h4 q1 q2 => ?_⟩
    · rw [ho3' (by simpa using hn)]
      have k2 : eN.k = 1 := rfl
      rw [k2] at hcs
      refine HWs_row hrow ?_
      simp; omega
    · refine ⟨by omega, by omega, by omega, fun sl2 es2 => ?_⟩
      have final : Fr (blkA (some ⟨b, o, none⟩)) h h4 ∧ Sl eN h4 (some ⟨b, o, none⟩) c (keepQ Q M) ∧ Own eN.k 3 N h4 (some ⟨b, o, none⟩) c := by
        by_cases hn : M.length - u = 0
        · rw [q1 (by simpa using hn)]
          have : M'.take u = M' := List.take_of_length_le (by omega)
          rw [← htk, this]
          exact ⟨f2, s2, w2⟩
        · rw [q2 b o3 (by simpa using hn) es1']
          refine ⟨f2.trans (fr_hsets (fun b' => b' = b) (fun _ => rfl)) (fun i _ hi => by rw [blkA_some]; exact hi), ?_, Own.hsets w2 _ _ _⟩
          rw [← htk]
          exact s2.before (by rw [ho3' hn]; exact Nat.le_refl _) _
      obtain ⟨g1, g2, g3⟩ := final
      have es2' : sl2 = some ⟨b, o, none⟩ := by
        rw [es2]; unfold slA; split <;> simp [add_lit]
      refine ⟨g1, sl2, c, ?_, by rw [es2']; exact g2, by rw [es2']; exact g3, fun b' hb' => by rw [es2'] at hb'; exact hb'⟩
      rw [← hulen]; simp
end
end Go.Proofs.YtfjcciaabkjkgaaGreatDoor
namespace Go.Proofs.YtfjcciaabkjkgaaGreatDoor
open Go Ml
section
variable {N : Nat} {h : Heap} {a : Option Addr} {c : Nat} {L : List Nat}
theorem flat_n (L : List Nat) : L.flatMap eN.enc = L.map fun (n : Nat) => Value.int .i64 n := by
  induction L with
  | nil => rfl
  | cons x L ih => rw [List.flatMap_cons, List.map_cons, ih]; rfl
set_option maxHeartbeats 4000000 in
theorem delete_n {k : Nat} (s : Sl eN h a c L) (w : Own eN.k 3 N h a c) (hl : L.length ≤ 1048576) (hk : k < L.length) :
    HC Tryz.prog 50 #[.slice a L.length c, .int .i64 (k : Nat), .int .i64 ((k + 1 : Nat) : Int)] h fun v h' =>
      ∃ a' c', v = .slice a' (L.take k ++ L.drop (k + 1)).length c' ∧ Fr (blkA a) h h' ∧ Sl eN h' a' c' (L.take k ++ L.drop (k + 1)) ∧ Own eN.k 3 N h' a' c' ∧ ∀ b, blkA a' b → blkA a b := by
  have hle := s.le
  refine f50_sh _ _ _ _ _ _ _ ⟨by omega, by omega, by omega, by omega, fun sl _ => ⟨fun g => ?_, fun _ => ⟨by omega, by omega, by omega, fun s1 e1 => ⟨by omega, by omega, by omega, fun s2 e2 => ?_⟩⟩⟩⟩
  · have := eq_of_beq g; omega
  obtain ⟨b, o, rfl, hc⟩ := s.addr (by omega)
  obtain ⟨cs, hrow, hcs, _⟩ := w.row
  have t2 := s.cut (l := k + 1) (r := L.length) (by omega) (Nat.le_refl _)
  have q1 : s1 = slA (some ⟨b, o, none⟩) 0 eN.k c := e1
  have q2 : s2 = slA (some ⟨b, o, none⟩) (k + 1) eN.k c := e2
  rw [← q2, List.take_length] at t2
  have n2 : Int.toNat ((L.length : Nat) : Int) - Int.toNat ((k + 1 : Nat) : Int) = (L.drop (k + 1)).length := by rw [Int.toNat_natCast, Int.toNat_natCast, List.length_drop]
  have n1 : Int.toNat ((k : Nat) : Int) - Int.toNat 0 = k := by rw [Int.toNat_natCast]; rfl
  rw [n2, n1]
  have ho : (slA (some ⟨b, o, none⟩) 0 eN.k c) = some ⟨b, o, none⟩ := by
    unfold slA; split <;> simp [add_lit]
  rw [ho] at q1
  subst q1
  have k1 : eN.k = 1 := rfl
  rw [k1] at hcs
  have hld : (L.drop (k + 1)).length = L.length - (k + 1) := List.length_drop
  have hlen : ((L.drop (k + 1)).flatMap eN.enc).length = L.length - (k + 1) := by rw [flat_len, hld]; exact Nat.mul_one _
  refine happ_room (size := 1) (n := k) aN.hu aN.hz t2.src (by show k + _ ≤ c - 0; omega) (flat_one eN _) (fun j hj => HW_row hrow (by omega)) ?_
  have hrow1 := hsets_row ((L.drop (k + 1)).flatMap eN.enc) (o := o + k * 1) hrow
  generalize eh1 : hsets h b (o + k * 1) ((L.drop (k + 1)).flatMap eN.enc) = h1 at *
  have f1 : Fr (fun b' => b' = b) h h1 := by rw [← eh1]; exact fr_hsets _ fun _ => rfl
  have hL' : (L.take k ++ L.drop (k + 1)).length = L.length - 1 := by rw [List.length_append, List.length_take, hld]; omega
  have s1' : Sl eN h1 (some ⟨b, o, none⟩) c (L.take k ++ L.drop (k + 1)) := Sl.of_row hrow1 (by omega) fun j v hv => by
    rw [sets_get _ _ _ _ (by omega), hlen]
    rw [flat_n, List.getElem?_map, List.getElem?_append, List.length_take, Nat.min_eq_left (by omega)] at hv
    by_cases hj : j < k
    · rw [if_neg (by omega)]
      rw [if_pos hj, List.getElem?_take, if_pos hj, List.getElem?_eq_getElem (by omega)] at hv
      have h0 := (hc j L[j] (List.getElem?_eq_getElem (by omega))).1
      rw [hcell_row hrow] at h0
      rw [k1, Nat.mul_one] at h0
      rw [h0, ← hv]; rfl
    · rw [if_neg hj] at hv
      have hjl : j - k < L.length - (k + 1) := by
        refine Nat.lt_of_not_le fun q => ?_
        rw [List.getElem?_eq_none (by omega)] at hv
        cases hv
      rw [if_pos (by omega), flat_n, List.getElem?_map, show o + j - (o + k * 1) = j - k by omega]
      exact hv
  have w1' : Own eN.k 3 N h1 (some ⟨b, o, none⟩) c := by rw [← eh1]; exact Own.hsets w _ _ _
  refine ⟨_, _, _, rfl, by omega, by omega, by show (L.length : Int) ≤ ((c - 0 : Nat) : Int); omega, fun s3 e3 => ?_⟩
  obtain ⟨o3, eo3, ho3⟩ := slA_some (b := b) (o := o) (l := L.length - 1) (sz := 1) (m := c)
  have e3' : s3 = some ⟨b, o3, none⟩ := by
    rw [e3, ← eo3]
    congr 1
    rw [hld, Int.toNat_natCast]; omega
  have hn1 : Int.toNat ((L.length : Nat) : Int) - Int.toNat ((k + (L.drop (k + 1)).length : Nat) : Int) = 1 := by rw [hld, Int.toNat_natCast, Int.toNat_natCast]; omega
  have eo : o3 = o + (L.length - 1) * 1 := ho3 (by omega)
  refine ⟨fun _ => ⟨b, o3, e3', ?_⟩, fun h2 _ q2 => ?_⟩
  · rw [hn1, eo]
    exact HWs_row hrow1 (by rw [sets_size]; omega)
  · rw [hn1] at q2
    have e2 := q2 b o3 (by decide) e3'
    rw [e2, eo]
    refine ⟨some ⟨b, o, none⟩, c, ?_, (f1.trans (fr_hsets (fun b' => b' = b) fun _ => rfl) fun _ _ s => s).mono fun b' _ e => blkA_some.2 e, ?_, Own.hsets w1' _ _ _, fun b' g => g⟩
    · rw [hL', hld]
      show Value.slice _ _ (c - 0) = _
      congr 1; omega
    · have := s1'.before (j := L.length - 1) (p := o + (L.length - 1) * 1) (Nat.le_refl _) (zcells [(.int .i64 0)] 1)
      rw [List.take_of_length_le (by omega)] at this; exact this
end
end Go.Proofs.YtfjcciaabkjkgaaGreatDoor
namespace Go.Proofs.YtfjcciaabkjkgaaGreatDoor
open Go Ml
section
variable {h : Heap} {la : Option Addr} {lc lb ib : Nat} {l : List Mv} {i x : Nat}
def Ml.notOf (l : List Mv) (i x : Nat) : Bool := !(keyed (mv l x) && decide ((mv l x).key = (mv l i).key))
theorem notOf_c (s : Sl eMv h la lc l) (hl : hcell h lb 0 = some (.slice la l.length lc)) (hi : hcell h ib 0 = some (.int .i64 (i : Nat))) (hx : x < l.length) (hil : i < l.length) :
    HC Tryz.prog 42 #[.int .i64 (x : Nat), ptr lb 0, ptr ib 0] h fun v h' => v = .bool (notOf l i x) ∧ Ext h h' := by
  obtain ⟨b, o, e, d⟩ := s.at (List.getElem?_eq_getElem hx)
  obtain ⟨b2, o2, e2, d2⟩ := s.at (List.getElem?_eq_getElem hil)
  rw [e] at e2; cases e2
  refine f42_sh _ _ _ _ _ _ _ ⟨notOf l i x, ⟨la, _, lc, hl, b, o, e, by omega, by omega, _, _, _, _, _, _, _, _, d.1, d.2.1, d.2.2.1, d.2.2.2.1, d.2.2.2.2.1, d.2.2.2.2.2.1, d.2.2.2.2.2.2.1, d.2.2.2.2.2.2.2.1, fun g => ?_, fun g => ⟨_, hi, by omega, by omega, _, d2.2.1, ?_⟩⟩, fun h1 x1 => ⟨rfl, x1⟩⟩
  · have g : keyed l[x] = false := by simpa using g
    unfold notOf
    rw [mv_at hx, g]; rfl
  · have g : keyed l[x] = true := by simpa using g
    unfold notOf
    rw [mv_at hx, mv_at hil, g, Bool.true_and]
theorem aheadOf_c (s : Sl eMv h la lc l) (hl : hcell h lb 0 = some (.slice la l.length lc)) (hi : hcell h ib 0 = some (.int .i64 (i : Nat))) (hx : x < l.length) (hil : i < l.length) :
    HC Tryz.prog 48 #[.int .i64 (x : Nat), ptr lb 0, ptr ib 0] h fun v h' => v = .bool (ahB (mv l x) (mv l i)) ∧ Ext h h' := by
  obtain ⟨b, o, e, d⟩ := s.at (List.getElem?_eq_getElem hx)
  obtain ⟨b2, o2, e2, d2⟩ := s.at (List.getElem?_eq_getElem hil)
  rw [e] at e2; cases e2
  refine f48_sh _ _ _ _ _ _ _ ⟨la, _, lc, hl, b, o, e, by omega, by omega, _, _, _, _, _, _, _, _, d.1, d.2.1, d.2.2.1, d.2.2.2.1, d.2.2.2.2.1, d.2.2.2.2.2.1, d.2.2.2.2.2.2.1, d.2.2.2.2.2.2.2.1, _, hi, by omega, by omega, _, _, _, _, _, _, _, _, d2.1, d2.2.1, d2.2.2.1, d2.2.2.2.1, d2.2.2.2.2.1, d2.2.2.2.2.2.1, d2.2.2.2.2.2.2.1, d2.2.2.2.2.2.2.2.1, fun h1 x1 => ⟨?_, x1⟩⟩
  rw [mv_at hx, mv_at hil]
theorem cbL1 : CallB Tryz.prog 42 := fun _ _ => Tryz.call42 _ _
theorem cbL2 : CallB Tryz.prog 48 := fun _ _ => Tryz.call48 _ _
theorem notOf_v (s : Sl eMv h la lc l) (hl : hcell h lb 0 = some (.slice la l.length lc)) (hi : hcell h ib 0 = some (.int .i64 (i : Nat))) (hx : x < l.length) (hil : i < l.length) :
    HCV Tryz.prog (.func (.func 42) #[] #[ptr lb 0, ptr ib 0]) [.int .i64 (x : Nat)] h fun v h' => v = .bool (notOf l i x) ∧ Ext h h' :=
  .inl ⟨_, [], [ptr lb 0, ptr ib 0], rfl, cbL1, notOf_c s hl hi hx hil⟩
theorem aheadOf_v (s : Sl eMv h la lc l) (hl : hcell h lb 0 = some (.slice la l.length lc)) (hi : hcell h ib 0 = some (.int .i64 (i : Nat))) (hx : x < l.length) (hil : i < l.length) :
    HCV Tryz.prog (.func (.func 48) #[] #[ptr lb 0, ptr ib 0]) [.int .i64 (x : Nat)] h fun v h' => v = .bool (ahB (mv l x) (mv l i)) ∧ Ext h h' :=
  .inl ⟨_, [], [ptr lb 0, ptr ib 0], rfl, cbL2, aheadOf_c s hl hi hx hil⟩
end
end Go.Proofs.YtfjcciaabkjkgaaGreatDoor
namespace Go.Proofs.YtfjcciaabkjkgaaGreatDoor
open Go Ml
def Ml.LeastR (l : List Mv) (N A : List Nat) (r : Int) : Prop := (r = 0 ∧ Gr l (fun i => i ∈ N) stX A) ∨ (r = 251 ∧ A = [] ∧ ¬ Cmp l (fun i => i ∈ N) stX)
def Ml.FindR (l : List Mv) (A : List Nat) (r : Int) : Prop :=
  (chkL l ≠ 0 ∧ A = [] ∧ r = 230) ∨ (chkL l = 0 ∧ 24 < l.length ∧ A = [] ∧ r = 250) ∨ (chkL l = 0 ∧ l.length ≤ 24 ∧ LeastR l (List.range l.length) A r)
def LeastC (Tb : Heap → Prop) (l : List Mv) : Prop := ∀ {h : Heap} {la na : Option Addr} {lc nc : Nat} {N : List Nat}, Tb h → (∀ x ∈ l, check x = 0) → Sl eMv h la lc l → Sl eN h na nc N → N.Pairwise (· < ·) → (∀ i ∈ N, i < l.length) → N.length ≤ 24 →
  HC Tryz.prog 26 #[.slice la l.length lc, .slice na N.length nc] h fun v h' => Ext h h' ∧ ∃ A r aa ac, v = .tuple #[.slice aa (List.length A) ac, .int .i64 r] ∧ Sl eN h' aa ac A ∧ LeastR l N A r ∧ ∀ b, blkA aa b → h.size ≤ b
theorem find_c {Tb : Heap → Prop} {l : List Mv} (hx : ∀ {h h'}, Ext h h' → Tb h → Tb h') (least : LeastC Tb l) {h : Heap} {la : Option Addr} {lc : Nat} (tb : Tb h) (sl : Sl eMv h la lc l) (hl : l.length ≤ 4611686018427387904) :
    HC Tryz.prog 13 #[.slice la l.length lc] h fun v h' => Ext h h' ∧ ∃ A r aa ac, v = .tuple #[.slice aa (List.length A) ac, .int .i64 r] ∧ Sl eN h' aa ac A ∧ FindR l A r ∧ ∀ b, blkA aa b → h.size ≤ b := by
  refine f13_sh _ _ _ _ _ ((right_c sl hl).mono ?_)
  rintro _ h1 ⟨rfl, x1⟩
  refine ⟨_, rfl, fun g => ?_, fun g => ?_⟩
  · have g : chkL l ≠ 0 := by simpa using g
    exact ⟨x1, [], _, none, 0, rfl, Sl.nil _ _, .inl ⟨g, rfl, chk_val g⟩, fun b hb => (blkA_none hb).elim⟩
  have h0 : chkL l = 0 := by simpa using g
  have hc : ∀ x ∈ l, check x = 0 := by
    unfold chkL at h0
    split at h0
    · assumption
    · exact absurd h0 (by decide)
  refine ⟨fun g2 => ⟨x1, [], _, none, 0, rfl, Sl.nil _ _, .inr (.inl ⟨h0, by have := of_decide_eq_true g2; omega, rfl, rfl⟩), fun b hb => (blkA_none hb).elim⟩, fun g2 => ?_⟩
  have h24 : l.length ≤ 24 := by have := of_decide_eq_false g2; omega
  refine ⟨fun na nn nc v h2 => ∃ k : Nat, v = k ∧ k ≤ l.length ∧ nn = (List.range k).length ∧ Ext h h2 ∧ Sl eN h2 na nc (List.range k) ∧ Own eN.k 3 h.size h2 na nc, fun _ _ _ v _ => l.length - v.toNat, ⟨0, rfl, Nat.zero_le _, rfl, x1, Sl.nil _ _, Own.nil _ _ _ _⟩, ?_⟩
  rintro na _ nc _ h2 ⟨k, rfl, hk, rfl, x2, s2, w2⟩
  refine ⟨fun hlt nb h3 en3 e3 => ?_, fun hge => ?_⟩
  · have hkl := lt_of_dec hlt
    refine app_one (x := k) aN en3 e3 rfl x2 s2 w2 rfl (by rw [List.length_range]; omega) fun a' c' h4 x4 _ s4 w4 _ => ⟨a', _, c', rfl, ?_⟩
    rw [wadd k (by omega)]
    rw [← List.range_succ] at s4
    exact ⟨⟨k + 1, rfl, hkl, by simp, x4, s4, w4⟩, by simp only [Int.toNat_natCast]; omega⟩
  · have hkl : k = l.length := by have := ge_of_dec hge; omega
    subst hkl
    refine (least (hx x2 tb) hc (sl.ext x2) s2 List.pairwise_lt_range (fun i hi => List.mem_range.1 hi) (by rw [List.length_range]; exact h24)).mono ?_
    rintro _ h5 ⟨x5, A, r, aa, ac, rfl, sA, hA, hb⟩
    have s2' := x2.size
    exact ⟨aa, _, ac, r, rfl, x2.trans x5, A, r, aa, ac, rfl, sA, .inr (.inr ⟨h0, h24, hA⟩), fun b q => Nat.le_trans s2' (hb b q)⟩
end Go.Proofs.YtfjcciaabkjkgaaGreatDoor
namespace Go.Proofs.YtfjcciaabkjkgaaGreatDoor
open Go Ml
theorem rng2 : (fun i => i ∈ List.range 2) = fun i => i < 2 := by funext i; simp
theorem lives_of {Tb1 Tb2 : Heap → Prop} (hx1 : ∀ {h h'}, Ext h h' → Tb1 h → Tb1 h') (hx2 : ∀ {h h'}, Ext h h' → Tb2 h → Tb2 h') (c1 : LeastC Tb1 [hitX, putX 0]) (c2 : LeastC Tb2 [hitX, putX 3]) {h : Heap} (t1 : Tb1 h) (t2 : Tb2 h) :
    HC Tryz.prog 8 #[] h fun v h' => v = .bool true ∧ Ext h h' := by
  refine f8_sh _ _ fun put hit h4 lo1 lt1 lo2 lt2 x4 nb h5 e5 eh5 => ?_
  have x5 : Ext h4 h5 := by rw [eh5]; exact Ext.push _ _
  have r5 : h5[nb]? = some (.cells (([hitX, putX 0] : List Mv).flatMap eMv.enc).toArray 40 (0, 0)) := by rw [eh5]; exact push_new e5
  have s5 : Sl eMv h5 (some ⟨nb, 0, none⟩) 2 [hitX, putX 0] := Sl.lit r5
  have x05 := x4.trans x5
  refine (find_c hx1 c1 (hx1 x05 t1) s5 (by decide)).mono ?_
  rintro _ h6 ⟨x6, A, r, aa, ac, rfl, sA, hA, hb⟩
  have hAr : A = [1, 0] ∧ r = 0 := by
    rcases hA with ⟨q, _⟩ | ⟨_, q, _⟩ | ⟨_, _, ⟨q, g⟩ | ⟨_, _, q⟩⟩
    · exact absurd (show chkL [hitX, putX 0] = 0 by unfold chkL; decide +kernel) q
    · exact absurd q (by decide)
    · rw [show ([hitX, putX 0] : List Mv).length = 2 from rfl, rng2] at g
      exact ⟨g.unique lives_yes, q⟩
    · rw [show ([hitX, putX 0] : List Mv).length = 2 from rfl, rng2] at q
      exact absurd lives_yes.cmp q
  obtain ⟨rfl, rfl⟩ := hAr
  have s5' := x5.size
  refine ⟨x6.kp _, aa, _, ac, _, rfl, fun h7 f7 nb1 h8 e8 eh8 => ?_⟩
  have sA7 := sA.fr f7 fun b q e => by have := hb b q; omega
  have x7 : Ext h h7 := ext_of_fr f7 (x05.trans x6) lo1
  have x8 : Ext h7 h8 := by rw [eh8]; exact Ext.push _ _
  have r8 : h8[nb1]? = some (.cells (([hitX, putX 3] : List Mv).flatMap eMv.enc).toArray 40 (0, 0)) := by rw [eh8]; exact push_new e8
  have s8 : Sl eMv h8 (some ⟨nb1, 0, none⟩) 2 [hitX, putX 3] := Sl.lit r8
  refine (find_c hx2 c2 (hx2 (x7.trans x8) t2) s8 (by decide)).mono ?_
  rintro _ h9 ⟨x9, B, q, ba, bc, rfl, sB, hB, _⟩
  have hq : q = 251 := by
    rcases hB with ⟨g, _⟩ | ⟨_, g, _⟩ | ⟨_, _, ⟨_, g⟩ | ⟨g, _, _⟩⟩
    · exact absurd (show chkL [hitX, putX 3] = 0 by unfold chkL; decide +kernel) g
    · exact absurd g (by decide)
    · rw [show ([hitX, putX 3] : List Mv).length = 2 from rfl, rng2] at g
      exact absurd g.cmp lives_no
    · exact g
  subst hq
  have x09 := x7.trans (x8.trans x9)
  refine ⟨ba, _, bc, _, rfl, fun j hh => j = true ∧ Ext h hh, ⟨fun _ nb2 h11 e11 eh11 => ?_, fun g => by simp at g⟩, fun j h10 q => ⟨by rw [q.1], q.2⟩⟩
  have x11 : Ext h9 h11 := by rw [eh11]; exact Ext.push _ _
  have r11 : h11[nb2]? = some (.cells (([1, 0] : List Int).flatMap eZ.enc).toArray 3 (0, 0)) := by rw [eh11]; exact push_new e11
  have s11 : Sl eZ h11 (some ⟨nb2, 0, none⟩) 2 [1, 0] := Sl.lit r11
  have sZ : Sl eZ h11 aa ac [1, 0] := by
    have := sA7.ext (x8.trans (x9.trans x11))
    refine ⟨this.le, this.ex.imp id fun ⟨b, o, e, hc⟩ => ⟨b, o, e, fun i x hx => ?_⟩⟩
    match i with
    | 0 => simp at hx; subst hx; exact hc 0 1 rfl
    | 1 => simp at hx; subst hx; exact hc 1 0 rfl
    | i + 2 => simp at hx
  refine (sameInts_c sZ s11 (by decide)).mono ?_
  rintro _ h12 ⟨rfl, rfl⟩
  exact ⟨_, rfl, fun _ => ⟨rfl, x09.trans x11⟩, fun g => by simp at g⟩
end Go.Proofs.YtfjcciaabkjkgaaGreatDoor
namespace Go.Proofs.YtfjcciaabkjkgaaGreatDoor
open Go Ml
theorem own_ne {k : Nat} {T T' : TypeId} {N : Nat} {h : Heap} {a : Option Addr} {c p : Nat} {cs : Array Value} {fr : Nat × Nat} (w : Own k T N h a c) (hr : h[p]? = some (.cells cs T' fr)) (hT : T' ≠ T) : ¬ blkA a p := fun hb => by
  rcases w with ⟨e, _⟩ | ⟨b', o', cs', e, _, r1, _⟩
  · rw [e] at hb; exact blkA_none hb
  · rw [e, blkA_some] at hb; subst hb; rw [hr] at r1; simp at r1; exact hT r1.2.1
section
variable {Tb : Heap → Prop} {Pm : List Mt → Prop} {nm : Nat → List Mt → Str} {N lo B : Nat} {h h' : Heap} {l : List Mv} {t p mb m left : Nat} {own Nn : List Nat} {key : Str} {s : List Mt}
theorem stg_ne (S : Stg Pm nm N lo B h t p m l own key left s) {b : Nat} (hb : (∃ cs, h[b]? = some (.cells cs 72 (0, 0))) ∨ ∃ kv, MapL h b Value.string kv) : ∀ {a : Option Addr} {c : Nat}, h[t]? = some (.cells #[.pointer (some ⟨p, 0, none⟩), .int .u32 (left : Nat), .slice a s.length c] 72 (0, 0)) → Own eMt.k tMt N h a c → ¬ blkA a b := by
  intro a c _ w
  rcases hb with ⟨cs, r⟩ | ⟨kv, mk⟩
  · exact own_typ w r (by decide)
  · exact own_map w mk
theorem Stg.away (S : Stg Pm nm N lo B h t p m l own key left s) {X : Nat → Prop} (f : Fr X h h') (hX : ∀ b, X b → N ≤ b ∧ ¬ (lo ≤ b ∧ b < B) ∧ b ≠ t ∧ ((∃ cs, h[b]? = some (.cells cs 72 (0, 0))) ∨ ∃ kv, MapL h b Value.string kv)) : Stg Pm nm N lo B h' t p m l own key left s := by
  obtain ⟨a, c, r, sl, w⟩ := S.row
  have hn : ∀ b, blkA a b → ¬ X b := fun b hb q => stg_ne S (hX b q).2.2.2 r w hb
  exact ⟨S.srh.away f fun b q => ⟨(hX b q).1, (hX b q).2.1⟩, ⟨a, c, f.row r fun q => (hX _ q).2.2.1 rfl, sl.fr f hn, w.fr f hn⟩, S.lt, S.pm, S.bt⟩
theorem Stg.ext (S : Stg Pm nm N lo B h t p m l own key left s) (x : Ext h h') : Stg Pm nm N lo B h' t p m l own key left s :=
  S.away (x.fr fun _ => False) fun _ q => q.elim
theorem Stg.trow (S : Stg Pm nm N lo B h t p m l own key left s) : ∃ cs, h[t]? = some (.cells cs 72 (0, 0)) := let ⟨_, _, r, _⟩ := S.row; ⟨_, r⟩
def Ml.ownK (l : List Mv) (Nn : List Nat) (key : Str) : List Nat := Nn.filter fun x => keyed (mv l x) && decide ((mv l x).key = key)
theorem ownK_mem {Nn : List Nat} {key : Str} : (fun i => i ∈ ownK l Nn key) = ofK l (fun i => i ∈ Nn) key := ofK_mem.symm
theorem ownK_keep {Nn : List Nat} {i : Nat} : keepQ (notOf l i) Nn = ownK l Nn (mv l i).key := by
  unfold keepQ ownK notOf
  congr 1
  funext x
  rw [Bool.not_not]
structure SgR where
  t : Nat
  p : Nat
  m : Nat
  lo : Nat
  B : Nat
  left : Nat
structure Sgs (Pm : List Mt → Prop) (nm : Nat → List Mt → Str) (N : Nat) (h : Heap) (mb : Nat) (l : List Mv) (Nn : List Nat) (σ : Str → SgR) (K : Str → Prop) (st : Fam) : Prop where
  stg : ∀ key, K key → Stg Pm nm N (σ key).lo (σ key).B h (σ key).t (σ key).p (σ key).m l (ownK l Nn key) key (σ key).left (st key) ∧ mb < (σ key).lo
  dis : ∀ a b, K a → K b → a ≠ b → (σ a).t < (σ b).lo ∨ (σ b).t < (σ a).lo
  map : ∃ kv, MapL h mb Value.string kv ∧ ∀ key, (K key → lk kv key = some (ptr (σ key).t 0)) ∧ (¬ K key → lk kv key = none)
  nmb : N ≤ mb
variable {σ : Str → SgR} {K : Str → Prop} {st : Fam}
theorem Sgs.ext (S : Sgs Pm nm N h mb l Nn σ K st) (x : Ext h h') : Sgs Pm nm N h' mb l Nn σ K st :=
  ⟨fun k hk => ⟨(S.stg k hk).1.ext x, (S.stg k hk).2⟩, S.dis, let ⟨kv, m, e⟩ := S.map; ⟨kv, m.ext x, e⟩, S.nmb⟩
theorem Sgs.nil (m : MapL h mb Value.string ([] : List (Str × Value))) (hN : N ≤ mb) (hK : ∀ key, ¬ K key) : Sgs Pm nm N h mb l Nn σ K st :=
  ⟨fun _ q => absurd q (hK _), fun _ _ q => absurd q (hK _), ⟨[], m, fun _ => ⟨fun q => absurd q (hK _), fun _ => rfl⟩⟩, hN⟩
theorem Sgs.off {T : TypeId} {k : Nat} {a : Option Addr} {c N' : Nat} (S : Sgs Pm nm N h mb l Nn σ K st) (f : Fr (blkA a) h h') (w : Own k T N' h a c) (hT : T ≠ tMt) (hm : mb < N') (hN : ∀ key, K key → (σ key).t < N') : Sgs Pm nm N h' mb l Nn σ K st := by
  refine ⟨fun key hk => ?_, S.dis, ?_, S.nmb⟩
  · obtain ⟨G, q⟩ := S.stg key hk
    obtain ⟨a', c', r, sl, w'⟩ := G.row
    have b1 := hN key hk; have b2 := G.bt; have b3 := G.srh.nlo; have b4 := G.srh.pB
    have hn : ∀ b, blkA a' b → ¬ blkA a b := fun b hb hb2 => by
      rcases w' with ⟨e1, _⟩ | ⟨b', o', cs', e1, _, r1, _⟩
      · rw [e1] at hb; exact blkA_none hb
      · rw [e1, blkA_some] at hb; subst hb
        exact own_typ w r1 (fun e => hT e.symm) hb2
    exact ⟨⟨G.srh.away f fun b hb => by have := (w.low hb).1; exact ⟨by omega, by omega⟩, ⟨a', c', f.row r fun hb => by have := (w.low hb).1; omega, sl.fr f hn, w'.fr f hn⟩, G.lt, G.pm, G.bt⟩, q⟩
  · obtain ⟨kv, m, e⟩ := S.map
    exact ⟨kv, m.fr f fun hb => by have := (w.low hb).1; omega, e⟩
theorem Sgs.add (S : Sgs Pm nm N h mb l Nn σ K st) {g : SgR} (hg : Stg Pm nm N g.lo g.B h g.t g.p g.m l (ownK l Nn key) key g.left (st key)) (hlo : ∀ k, K k → (σ k).t < g.lo) (hm : mb < g.lo) (hK : ¬ K key) {kv : List (Str × Value)} (hkv : ∀ k, (K k → lk kv k = some (ptr (σ k).t 0)) ∧ (¬ K k → lk kv k = none))
    (o : Only mb h h') (mk : MapL h mb Value.string kv) (mk' : MapL h' mb Value.string (kput kv key (ptr g.t 0))) : Sgs Pm nm N h' mb l Nn (fun k => if k = key then g else σ k) (fun k => K k ∨ k = key) st := by
  have aw : ∀ {k : Str} {q : SgR}, Stg Pm nm N q.lo q.B h q.t q.p q.m l (ownK l Nn k) k q.left (st k) → mb < q.lo → Stg Pm nm N q.lo q.B h' q.t q.p q.m l (ownK l Nn k) k q.left (st k) := fun {k q} G hq => by
    have := G.srh.pB; have := G.bt
    exact G.away o.fr fun b e => by subst e; exact ⟨S.nmb, by omega, by omega, .inr ⟨kv, mk⟩⟩
  refine ⟨fun k hk => ?_, fun a b ha hb hne => ?_, ⟨_, mk', fun k => ?_⟩, S.nmb⟩
  · by_cases e : k = key
    · subst e; simp only [if_pos]; exact ⟨aw hg hm, hm⟩
    · simp only [if_neg e]
      obtain ⟨G, q⟩ := S.stg k (hk.resolve_right e)
      exact ⟨aw G q, q⟩
  · by_cases ea : a = key
    · by_cases eb : b = key
      · exact absurd (ea.trans eb.symm) hne
      · simp only [if_pos ea, if_neg eb]; exact .inr (hlo b (hb.resolve_right eb))
    · by_cases eb : b = key
      · simp only [if_neg ea, if_pos eb]; exact .inl (hlo a (ha.resolve_right ea))
      · simp only [if_neg ea, if_neg eb]; exact S.dis a b (ha.resolve_right ea) (hb.resolve_right eb) hne
  · rw [lk_kput]
    by_cases e : k = key
    · simp only [if_pos e]; exact ⟨fun _ => by first | rfl | trivial, fun q => absurd (.inr e) q⟩
    · simp only [if_neg e]
      exact ⟨fun q => (hkv k).1 (q.resolve_right e), fun q => (hkv k).2 fun r => q (.inl r)⟩
theorem Sgs.step (S : Sgs Pm nm N h mb l Nn σ K st) (hK : K key) {left' : Nat} {s' : List Mt} (f : Fr (fun b => b = (σ key).m ∨ b = (σ key).t) h h')
    (hg : Stg Pm nm N (σ key).lo (σ key).B h' (σ key).t (σ key).p (σ key).m l (ownK l Nn key) key left' s') {st' : Fam} (h1 : st' key = s') (h2 : ∀ k, k ≠ key → st' k = st k) :
    Sgs Pm nm N h' mb l Nn (fun k => if k = key then { σ key with left := left' } else σ k) K st' := by
  obtain ⟨G0, q0⟩ := S.stg key hK
  have b1 := G0.srh.mB; have b2 := G0.bt; have b3 := G0.srh.pB; have b4 := G0.srh.nlo
  refine ⟨fun k hk => ?_, fun a b ha hb hne => ?_, ?_, S.nmb⟩
  · by_cases e : k = key
    · subst e; simp only [if_pos]; rw [h1]; exact ⟨hg, q0⟩
    · simp only [if_neg e]
      obtain ⟨G, q⟩ := S.stg k hk
      rw [h2 k e]
      have d := S.dis k key hk hK e
      have c1 := G.srh.mB; have c2 := G.bt; have c3 := G.srh.pB
      refine ⟨G.away f fun b hb => ?_, q⟩
      rcases hb with rfl | rfl
      · obtain ⟨kv, mk, _⟩ := G0.srh.vain
        exact ⟨by omega, by omega, by omega, .inr ⟨kv, mk⟩⟩
      · exact ⟨by omega, by omega, by omega, .inl G0.trow⟩
  · have := S.dis a b ha hb hne
    by_cases ea : a = key <;> by_cases eb : b = key <;> simp only [ea, eb, if_pos, if_neg, if_true, if_false] at * <;> assumption
  · obtain ⟨kv, mk, e⟩ := S.map
    refine ⟨kv, mk.fr f fun q => by omega, fun k => ?_⟩
    by_cases ek : k = key
    · subst ek; simp only [if_pos]; exact e k
    · simp only [if_neg ek]; exact e k
theorem app_on {α : Type} {E : Elt α} {T : TypeId} {P : Program} {t : TypeId} {by_ : Nat} (A : AppT P t T E.k by_) {h1 : Heap} {nb n c : Nat} {a : Option Addr} {L : List α} {cs : Array Value} {x : α} (eb : nb = h.size) (eh : h1 = h.push (.cells cs T)) (ec : (E.enc x).toArray = cs)
    (s : Sl E h a c L) (w : Own E.k T N h a c) (hN : N ≤ h.size) (hn : n = L.length) (hsz : (n + 1) * by_ ≤ 140737488355328) {K : Value → Heap → Prop}
    (hk : ∀ a' c' h', Fr (blkA a) h h' → Sl E h' a' c' (L ++ [x]) → Own E.k T N h' a' c' → K (.slice a' (n + 1) c') h') :
    HAppend P t t (.slice a n c) (.slice (some ⟨nb, 0, none⟩) 1 1) h1 K := by
  have xe : Ext h h1 := by rw [eh]; exact Ext.push _ _
  have hrow : h1[nb]? = some (.cells ([x].flatMap E.enc).toArray T (0, 0)) := by rw [eh, ← ec]; simp only [List.flatMap_cons, List.flatMap_nil, List.append_nil]; exact push_new eb
  subst hn
  exact app_sl A (s.ext xe) (w.ext xe) (Sl.lit (L := [x]) hrow) (Nat.le_trans hN xe.size) hsz fun a' c' h' f s' w' _ => hk a' c' h' ((xe.fr (blkA a)).trans f (fun _ _ q => q)) s' w'
theorem ext_fr {h0 : Heap} {X : Nat → Prop} (x : Ext h0 h) (f : Fr X h h') (hX : ∀ b, X b → h0.size ≤ b) : Ext h0 h' :=
  ⟨Nat.le_trans x.size f.size, fun i hi => (f.block i (Nat.lt_of_lt_of_le hi x.size) fun q => by have := hX i q; omega).trans (x.block i hi)⟩
end
end Go.Proofs.YtfjcciaabkjkgaaGreatDoor
