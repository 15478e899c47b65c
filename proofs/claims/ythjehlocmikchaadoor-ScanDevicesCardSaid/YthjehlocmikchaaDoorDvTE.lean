import Derived.Test.YthjehlocmikchaaDoorDvDeq
import Derived.Test.YthjehlocmikchaaDoorDvDrw
import Derived.Test.YthjehlocmikchaaDoorDvRng
import Derived.Test.YthjehlocmikchaaDoorDvTBb
import Derived.Test.YthjehlocmikchaaDoorProg
namespace Go.Proofs.YthjehlocmikchaaDoor
open Go
open Go.Proofs.YthjehlocmikchaaDoor renaming hl_val → lv, hl_step → lp, hl_nil → ln, hl_yes → ly, hl_no → lo, hx_seq → xs, hx_region → xr, hx_cond → xc, hx_block → xb, hx_loopT → xl, hx_cut → xk, hx_has → xh, hx_skip → xi, hx_ret → xt, hx_exit → xe, seqQ_n → qn, seqQ_ret → qr, seqQ_exit → qe, blockQ_n → bn, blockQ_ret → br, blockQ_here → bh, blockQ_past → bp, hv_move → vm, hv_assign → va, hv_arith → vr, hv_load → vl, hv_loads → vL, hv_extract → vx, hv_field → vf, hv_index → vi, hp_pure → pp, hp_read → pr, hp_no → pn, has_cons → hc, has_nil → hn, hcells_cons → cc, hcells_nil → cn, hs_call → sc
set_option maxRecDepth 100000
set_option maxHeartbeats 4000000
theorem TyTE.agg24 : aggB Tryd.prog 24 = some true := by kernel_rfl
theorem TyTE.agg25 : aggB Tryd.prog 25 = some false := by kernel_rfl
theorem TyTE.agg3 : aggB Tryd.prog 3 = some false := by kernel_rfl
theorem TyTE.agg36 : aggB Tryd.prog 36 = some true := by kernel_rfl
theorem TyTE.agg4 : aggB Tryd.prog 4 = some false := by kernel_rfl
theorem TyTE.agg65 : aggB Tryd.prog 65 = some false := by kernel_rfl
theorem TyTE.cb10 : CallB Tryd.prog 10 := fun _ _ => Tryd.call10 _ _
theorem TyTE.cb11 : CallB Tryd.prog 11 := fun _ _ => Tryd.call11 _ _
theorem TyTE.cb14 : CallB Tryd.prog 14 := fun _ _ => Tryd.call14 _ _
theorem TyTE.cb15 : CallB Tryd.prog 15 := fun _ _ => Tryd.call15 _ _
theorem TyTE.cb23 : CallB Tryd.prog 23 := fun _ _ => Tryd.call23 _ _
theorem TyTE.cb24 : CallB Tryd.prog 24 := fun _ _ => Tryd.call24 _ _
theorem TyTE.el65 : elB Tryd.prog 65 = some 9 := by kernel_rfl
theorem TyTE.fld27_0 : fldB Tryd.prog 27 0 = some 0 := by kernel_rfl
theorem TyTE.fld27_1 : fldB Tryd.prog 27 1 = some 4 := by kernel_rfl
theorem TyTE.mixed : Tryd.prog.follows .mixedOrders = true := by kernel_rfl
theorem TyTE.sz24 : szB Tryd.prog 24 = some 4 := by kernel_rfl
theorem TyTE.sz3 : szB Tryd.prog 3 = some 1 := by kernel_rfl
theorem TyTE.sz36 : szB Tryd.prog 36 = some 9 := by kernel_rfl
theorem TyTE.sz4 : szB Tryd.prog 4 = some 1 := by kernel_rfl
theorem TyTE.sz65 : szB Tryd.prog 65 = some 1 := by kernel_rfl
theorem TyTE.u65 : Tryd.prog.underlying 65 = some (.slice 36) := by kernel_rfl
theorem TyTE.z3 : zeroB Tryd.prog 3 (.int .i64 0) := by unfold zeroB; kernel_rfl
theorem TyTE.z36 : zeroB Tryd.prog 36 (.agg #[(.int .i64 0), (.bool false), (.int .u64 0), (.int .u64 0), (.int .i64 0), (.slice none 0 0), (.int .i64 0), (.int .i64 0), (.bool false)]) := by unfold zeroB; kernel_rfl
theorem TyTE.z4 : zeroB Tryd.prog 4 (.bool false) := by unfold zeroB; kernel_rfl
theorem TyTE.z65 : zeroB Tryd.prog 65 (.slice none 0 0) := by unfold zeroB; kernel_rfl
theorem ext_pushed_f7_shy {h h1 : Heap} {o : Obj} (e : h1 = Array.push h o) : Ext h h1 := by rw [e]; exact Ext.push _ _
theorem f7_shy (g6 : Int) (f7 : Int) (e8 : Int) (f5 : Int) (i4 : Option Addr) (g1 : Nat) (f9 : Nat) (l3 : Int) (h : Heap) (R : Value → Heap → Prop)
  (H : (∀ b h1, b = Array.size h → h1 = Array.push h (.cells #[(.int .i64 g6), (.int .i64 f7), (.int .i64 e8), (.int .i64 f5), (.slice i4 g1 f9)] 27) → (∀ e0 h2, e0 = Array.size h1 → h2 = Array.push h1 (.cells #[(.int .i64 l3)] 3) → (∀ nb h3, nb = Array.size h2 → h3 = Array.push h2 (.cells #[(.bool false)] 4) → HC Tryd.prog 10 #[] h3 (fun vv h4 => Ext h3 h4 ∧ ∃ r : Bool, vv = (.bool r) ∧ (((!r) = true → (HW h4 nb 0 ∧ ∀ h5, h5 = hset h4 nb 0 (.bool false) → (∃ i1 : Bool, hcell h5 nb 0 = some (.bool i1) ∧ (∀ h6, Shut' (Array.size h) h5 h6 → R (.bool i1) h6)))) ∧ ((!r) = false → (∃ g5 f1 d2 f2 : Int, hcell h4 b 0 = some (.int .i64 g5) ∧ hcell h4 b 1 = some (.int .i64 f1) ∧ hcell h4 b 2 = some (.int .i64 d2) ∧ hcell h4 b 3 = some (.int .i64 f2) ∧ (∃ x : Option Addr, ∃ m5 n0 : Nat, hcell h4 b 4 = some (.slice x m5 n0) ∧ HC Tryd.prog 23 #[(.agg #[(.int .i64 g5), (.int .i64 f1), (.int .i64 d2), (.int .i64 f2)]), (.slice x m5 n0)] h4 (fun vv h7 => ∃ o2 : Option Addr, ∃ o3 o6 : Nat, vv = (.slice o2 o3 o6) ∧ (∀ g2 h8, g2 = Array.size h7 → h8 = Array.push h7 (.cells #[(.slice none 0 0)] 65) → (HW h8 g2 0 ∧ ∀ h9, h9 = hset h8 g2 0 (.slice o2 o3 o6) → (∃ m6 : Option Addr, ∃ i8 i7 : Nat, hcell h9 b 4 = some (.slice m6 i8 i7) ∧ HC Tryd.prog 11 #[(.slice m6 i8 i7)] h9 (fun vv j7 => Ext h9 j7 ∧ ∃ g9 : Option Addr, ∃ c9 c8 : Nat, vv = (.slice g9 c9 c8) ∧ (∃ e5 d5 b7 d3 : Int, hcell j7 b 0 = some (.int .i64 e5) ∧ hcell j7 b 1 = some (.int .i64 d5) ∧ hcell j7 b 2 = some (.int .i64 b7) ∧ hcell j7 b 3 = some (.int .i64 d3) ∧ HC Tryd.prog 24 #[(.agg #[(.int .i64 e5), (.int .i64 d5), (.int .i64 b7), (.int .i64 d3)]), (.slice g9 c9 c8)] j7 (fun vv o8 => ∃ j4 : Value, vv = j4 ∧ (∀ g7 k4, g7 = Array.size o8 → k4 = Array.push o8 (.cells #[(.int .i64 0)] 3) → (HW k4 g7 0 ∧ ∀ o7, o7 = hset k4 g7 0 (.int .i64 0) → (∃ (m3 : Nat → Nat → Heap → Prop) (l9 : Nat → Nat → Heap → Nat), m3 g7 0 o7 ∧ (∀ (a8 : Nat) (a9 : Nat) (g4 : Heap), m3 a8 a9 g4 → (∃ j9 : Int, hcell g4 a8 a9 = some (.int .i64 j9) ∧ (((decide (j9 < 2)) = true → (∀ i k7, i = Array.size g4 → k7 = Array.push g4 (.cells #[(.int .i64 0)] 3) → (HW k7 i 0 ∧ ∀ k9, k9 = hset k7 i 0 (.int .i64 0) → (∃ m7 : Heap → Prop, (∀ (d7 : LoopState → Option Code → Heap → Prop) (l : Nat) (k8 : Heap) (y : Value), Value.cells y = #[y] → (∀ s p h h', d7 s p h → h'[l]? = h[l]? → d7 s p h') → l = Array.size k9 + 1 → Ext k9 k8 → Array.size k8 = Array.size k9 + 2 → d7 .ready none k8 → (∀ (f4 : Int) (i9 : Bool) (c7 : Int) (b5 : Int) (c2 : Int) (f0 : Option Addr) (d8 : Nat) (e1 : Nat) (f6 : Int) (e9 : Int) (f8 : Bool) (k2 : Heap) (n1 : Value → Heap → Prop), d7 .ready none k2 → (∀ sv k5, sv = Array.size k2 → k5 = Array.push k2 (.cells #[(.int .i64 0), (.bool false), (.int .u64 0), (.int .u64 0), (.int .i64 0), (.slice none 0 0), (.int .i64 0), (.int .i64 0), (.bool false)] 36) → (HWs k5 sv 0 9 ∧ ∀ m9, m9 = hsets k5 sv 0 [(.int .i64 f4), (.bool i9), (.int .u64 c7), (.int .u64 b5), (.int .i64 c2), (.slice f0 d8 e1), (.int .i64 f6), (.int .i64 e9), (.bool f8)] → (d7 .ready none m9 ∧ ∀ b3, Only l m9 b3 → d7 .busy none b3 → (∃ m4 : Bool → Heap → Prop, (∃ b1 : Int, hcell b3 i 0 = some (.int .i64 b1) ∧ (∃ n3 : Option Addr, ∃ a4 e6 : Nat, hcell b3 g2 0 = some (.slice n3 a4 e6) ∧ (((decide (b1 ≥ (a4 : Int))) = true → (m4 true b3)) ∧ ((decide (b1 ≥ (a4 : Int))) = false → (∃ e3 : Int, ∃ i3 : Bool, ∃ b2 a2 a6 : Int, ∃ d4 : Option Addr, ∃ b8 c1 : Nat, ∃ e2 d1 : Int, ∃ e4 : Bool, hcell b3 sv 0 = some (.int .i64 e3) ∧ hcell b3 sv 1 = some (.bool i3) ∧ hcell b3 sv 2 = some (.int .u64 b2) ∧ hcell b3 sv 3 = some (.int .u64 a2) ∧ hcell b3 sv 4 = some (.int .i64 a6) ∧ hcell b3 sv 5 = some (.slice d4 b8 c1) ∧ hcell b3 sv 6 = some (.int .i64 e2) ∧ hcell b3 sv 7 = some (.int .i64 d1) ∧ hcell b3 sv 8 = some (.bool e4) ∧ (∃ c6 d0 : Nat, n3 = some ⟨c6, d0, none⟩ ∧ (0 : Int) ≤ b1 ∧ b1 < (a4 : Int) ∧ (∃ c3 : Int, ∃ f3 : Bool, ∃ a3 a0 a1 : Int, ∃ c0 : Option Addr, ∃ a5 a7 : Nat, ∃ c4 b9 : Int, ∃ c5 : Bool, hcell b3 c6 (d0 + (Int.toNat b1) * 9) = some (.int .i64 c3) ∧ hcell b3 c6 ((d0 + (Int.toNat b1) * 9) + 1) = some (.bool f3) ∧ hcell b3 c6 ((d0 + (Int.toNat b1) * 9) + 2) = some (.int .u64 a3) ∧ hcell b3 c6 ((d0 + (Int.toNat b1) * 9) + 3) = some (.int .u64 a0) ∧ hcell b3 c6 ((d0 + (Int.toNat b1) * 9) + 4) = some (.int .i64 a1) ∧ hcell b3 c6 ((d0 + (Int.toNat b1) * 9) + 5) = some (.slice c0 a5 a7) ∧ hcell b3 c6 ((d0 + (Int.toNat b1) * 9) + 6) = some (.int .i64 c4) ∧ hcell b3 c6 ((d0 + (Int.toNat b1) * 9) + 7) = some (.int .i64 b9) ∧ hcell b3 c6 ((d0 + (Int.toNat b1) * 9) + 8) = some (.bool c5) ∧ HC Tryd.prog 14 #[(.agg #[(.int .i64 e3), (.bool i3), (.int .u64 b2), (.int .u64 a2), (.int .i64 a6), (.slice d4 b8 c1), (.int .i64 e2), (.int .i64 d1), (.bool e4)]), (.agg #[(.int .i64 c3), (.bool f3), (.int .u64 a3), (.int .u64 a0), (.int .i64 a1), (.slice c0 a5 a7), (.int .i64 c4), (.int .i64 b9), (.bool c5)])] b3 (fun vv t2 => ∃ g8 : Bool, vv = (.bool g8) ∧ (m4 (!g8) t2))))))))) ∧ (∀ (j : Bool) (j3 : Heap), m4 j j3 → ((j = true → (HW j3 nb 0 ∧ ∀ m2, m2 = hset j3 nb 0 (.bool false) → (d7 .busy none m2 ∧ ∀ o9, Only l m2 o9 → d7 .done (some .ret) o9 → n1 (.bool false) o9))) ∧ (j = false → (∃ l0 : Int, hcell j3 i 0 = some (.int .i64 l0) ∧ (HW j3 i 0 ∧ ∀ i2, i2 = hset j3 i 0 (.int .i64 (IntKind.i64.wrap (l0 + 1))) → (∃ j6 : Bool, (∃ j5 : Int, hcell i2 a8 a9 = some (.int .i64 j5) ∧ (((j5 == 0) = true → (∃ k6 : Int, hcell i2 i 0 = some (.int .i64 k6) ∧ (∃ k0 : Int, hcell i2 e0 0 = some (.int .i64 k0) ∧ (j6 = (k6 == k0))))) ∧ ((j5 == 0) = false → (j6 = false)))) ∧ ((j6 = true → (d7 .busy none i2 ∧ ∀ p8, Only l i2 p8 → d7 .done (some (.exit 2)) p8 → n1 (.bool false) p8)) ∧ (j6 = false → (d7 .busy none i2 ∧ ∀ p1, Only l i2 p1 → d7 .ready none p1 → n1 (.bool true) p1))))))))))))) → HCV Tryd.prog y [(.agg #[(.int .i64 f4), (.bool i9), (.int .u64 c7), (.int .u64 b5), (.int .i64 c2), (.slice f0 d8 e1), (.int .i64 f6), (.int .i64 e9), (.bool f8)])] k2 n1) → HCF Tryd.prog j4 [y] k8 (fun _ p6 => ∃ (st : LoopState) (i5 : Option Code), d7 st i5 p6 ∧ st ≠ .busy ∧ ∀ j2, Only l p6 j2 → d7 .exhausted i5 j2 → ((i5 = none ∧ (m7 j2)) ∨ (i5 = some .ret ∧ (∃ i1 : Bool, hcell j2 nb 0 = some (.bool i1) ∧ (∀ s8, Shut' (Array.size h) j2 s8 → R (.bool i1) s8))) ∨ (i5 = some (.exit 2) ∧ (m7 j2))))) ∧ (∀ (g0 : Heap), m7 g0 → (∃ j1 : Bool, (∃ g3 : Int, hcell g0 i 0 = some (.int .i64 g3) ∧ (∃ n9 : Option Addr, ∃ e7 l1 : Nat, hcell g0 g2 0 = some (.slice n9 e7 l1) ∧ (((g3 != (e7 : Int)) = true → (∃ i0 : Int, hcell g0 a8 a9 = some (.int .i64 i0) ∧ (((i0 != 0) = true → (j1 = true)) ∧ ((i0 != 0) = false → (∃ i6 : Int, hcell g0 e0 0 = some (.int .i64 i6) ∧ (j1 = (g3 != i6))))))) ∧ ((g3 != (e7 : Int)) = false → (j1 = false))))) ∧ ((j1 = true → (HW g0 nb 0 ∧ ∀ m1, m1 = hset g0 nb 0 (.bool false) → (∃ l5 : Bool, hcell m1 nb 0 = some (.bool l5) ∧ (∀ s7, Shut' (Array.size h) m1 s7 → R (.bool l5) s7)))) ∧ (j1 = false → (∃ j8 : Int, hcell g0 a8 a9 = some (.int .i64 j8) ∧ (∀ b0 k1, b0 = Array.size g0 → k1 = Array.push g0 (.cells #[(.int .i64 0)] 3) → (HW k1 b0 0 ∧ ∀ k3, k3 = hset k1 b0 0 (.int .i64 j8) → (∃ j0 : Int, hcell k3 b0 0 = some (.int .i64 j0) ∧ (HW k3 b0 0 ∧ ∀ n2, n2 = hset k3 b0 0 (.int .i64 (IntKind.i64.wrap (j0 + 1))) → (m3 b0 0 n2 ∧ l9 b0 0 n2 < l9 a8 a9 g4)))))))))))))) ∧ ((decide (j9 < 2)) = false → (∃ b1 : Option Addr, ∃ a4 e6 : Nat, hcell g4 b 4 = some (.slice b1 a4 e6) ∧ (∃ g8 : Bool, HC Tryd.prog 15 #[(.slice g9 c9 c8), (.slice b1 a4 e6)] g4 (fun vv h' => vv = (.bool g8) ∧ h' = g4) ∧ (HW g4 nb 0 ∧ ∀ m8, m8 = hset g4 nb 0 (.bool g8) → (∃ i1 : Bool, hcell m8 nb 0 = some (.bool i1) ∧ (∀ t0, Shut' (Array.size h) m8 t0 → R (.bool i1) t0)))))))))))))))))))))))))))) :
  HC Tryd.prog 7 #[(.agg #[(.int .i64 g6), (.int .i64 f7), (.int .i64 e8), (.int .i64 f5), (.slice i4 g1 f9)]), (.int .i64 l3)] h R := by
 refine hc_ofM (args := [(.agg #[(.int .i64 g6), (.int .i64 f7), (.int .i64 e8), (.int .i64 f5), (.slice i4 g1 f9)]), (.int .i64 l3)]) Tryd.func7 rfl Tryd.ntmps7 (Nat.le_of_ble_eq_true rfl) ?_
 refine xs (xr ?_)
 refine lp rfl rfl (hn_box (v := (.agg #[(.int .i64 g6), (.int .i64 f7), (.int .i64 e8), (.int .i64 f5), (.slice i4 g1 f9)])) rfl ?_)
 intro b h1 z8 s6
 replace H := H b h1 z8 s6
 have xx3 := ext_pushed_f7_shy s6
 refine lp rfl rfl (hn_box (v := (.int .i64 l3)) rfl ?_)
 intro e0 h2 z7 t1
 replace H := H e0 h2 z7 t1
 have xx6 := ext_pushed_f7_shy t1
 refine lp rfl rfl (hn_alloc TyTE.z4 ?_)
 intro nb h3 z6 s9
 replace H := H nb h3 z6 s9
 have xx9 := ext_pushed_f7_shy s9
 refine ln (qn (xs (xs (xr ?_))))
 refine lp rfl rfl (sc TyTE.cb10 rfl (HC.mono H ?_))
 rintro _ h4 ⟨a15, r, rfl, H⟩
 refine lv rfl rfl (v := (.bool (!r))) (hv_not (b := r) rfl) ?_
 refine ln (qn ?_)
 refine xc (b := !r) rfl (fun n6 => ?_) (fun n6 => ?_)
 ·replace H := H.1 n6
  refine xs (xr ?_)
  obtain ⟨u7, H⟩ := H
  refine lp rfl rfl (hn_store (v := (.bool false)) rfl rfl TyTE.sz4 rfl u7 ?_)
  intro h5 x5
  replace H := H h5 x5
  refine ln (qn (xt (qr ?_)))
  obtain ⟨i1, x2, H⟩ := H
  exact endQM_ret _ (fun h' hs => ⟨res_one Tryd.results7 (rv_cell1 TyTE.agg4 rfl (shut_cell hs x2)), H h' hs⟩)
 ·replace H := H.2 n6
  refine xi (qn (xs (xr ?_)))
  refine lv rfl rfl (v := (ptr b 0)) (vf TyTE.fld27_0 (b := b) (o := 0) rfl) ?_
  obtain ⟨g5, f1, d2, f2, v1, y4, w6, z4, H⟩ := H
  refine lv rfl rfl (vL (vs := [(.int .i64 g5), (.int .i64 f1), (.int .i64 d2), (.int .i64 f2)]) TyTE.agg24 TyTE.sz24 rfl (cc v1 (cc y4 (cc w6 (cc z4 cn))))) (lv rfl rfl (v := (ptr b 4)) (vf TyTE.fld27_1 (b := b) (o := 0) rfl) ?_)
  obtain ⟨x, m5, n0, x6, H⟩ := H
  refine lv rfl rfl (vl TyTE.agg25 rfl x6) ?_
  refine lp rfl rfl (sc TyTE.cb23 rfl (HC.mono H ?_))
  rintro _ h7 ⟨o2, o3, o6, rfl, H⟩
  refine lp rfl rfl (hn_alloc TyTE.z65 ?_)
  intro g2 h8 u9 p5
  replace H := H g2 h8 u9 p5
  have a11 := ext_pushed_f7_shy p5
  obtain ⟨u1, H⟩ := H
  refine lp rfl rfl (hn_store (v := (.slice o2 o3 o6)) rfl rfl TyTE.sz65 rfl u1 ?_)
  intro h9 t3
  replace H := H h9 t3
  refine ln (qn (xs (xr ?_)))
  refine lv rfl rfl (v := (ptr b 4)) (vf TyTE.fld27_1 (b := b) (o := 0) rfl) ?_
  obtain ⟨m6, i8, i7, w4, H⟩ := H
  refine lv rfl rfl (vl TyTE.agg25 rfl w4) ?_
  refine lp rfl rfl (sc TyTE.cb11 rfl (HC.mono H ?_))
  rintro _ j7 ⟨a13, g9, c9, c8, rfl, H⟩
  refine lv rfl rfl (va rfl) ?_
  refine ln (qn (xs (xr ?_)))
  refine lv rfl rfl (v := (ptr b 0)) (vf TyTE.fld27_0 (b := b) (o := 0) rfl) ?_
  obtain ⟨e5, d5, b7, d3, z0, x9, y2, x0, H⟩ := H
  refine lv rfl rfl (vL (vs := [(.int .i64 e5), (.int .i64 d5), (.int .i64 b7), (.int .i64 d3)]) TyTE.agg24 TyTE.sz24 rfl (cc z0 (cc x9 (cc y2 (cc x0 cn))))) (lv rfl rfl (vm rfl) ?_)
  refine lp rfl rfl (sc TyTE.cb24 rfl (HC.mono H ?_))
  rintro j4 o8 ⟨_, rfl, H⟩
  refine lv rfl rfl (va rfl) ?_
  refine ln (qn (xs (xs (xr ?_))))
  refine lp rfl rfl (hn_alloc TyTE.z3 ?_)
  intro g7 k4 z3 p3
  replace H := H g7 k4 z3 p3
  have a12 := ext_pushed_f7_shy p3
  obtain ⟨t8, H⟩ := H
  refine lp rfl rfl (hn_store (v := (.int .i64 0)) rfl rfl TyTE.sz3 rfl t8 ?_)
  intro o7 y1
  replace H := H o7 y1
  refine ln (qn (xb ?_))
  obtain ⟨m3, l9, y8, z5⟩ := H
  refine xl (σ := Nat × Nat) (fun s => [(2, (ptr b 0)), (3, (ptr e0 0)), (4, (ptr nb 0)), (5, (ptr g2 0)), (6, (.slice g9 c9 c8)), (7, j4), (8, (ptr s.1 s.2))]) (fun s h' => m3 s.1 s.2 h' ∧ True) (fun s h' => l9 s.1 s.2 h') (g7, 0) ⟨y8, trivial⟩ (hc rfl (hc rfl (hc rfl (hc rfl (hc rfl (hc rfl (hc rfl hn))))))) ?_
  rintro ⟨a8, a9⟩ ρ g4 ⟨v6, -⟩
  have H := z5 a8 a9 g4 v6
  refine xs (xs (xr ?_))
  obtain ⟨j9, y6, H⟩ := H
  refine lv rfl rfl (vl TyTE.agg3 rfl y6) (lv rfl rfl (vr rfl rfl rfl) ?_)
  refine ln (qn ?_)
  refine xc (b := decide (j9 < 2)) rfl (fun o0 => ?_) (fun o0 => ?_)
  ·replace H := H.1 o0
   refine xi (qn (xs (xb (xs (xr ?_)))))
   refine lp rfl rfl (hn_alloc TyTE.z3 ?_)
   intro i k7 v8 p7
   replace H := H i k7 v8 p7
   have a16 := ext_pushed_f7_shy p7
   obtain ⟨v4, H⟩ := H
   refine lp rfl rfl (hn_store (v := (.int .i64 0)) rfl rfl TyTE.sz3 rfl v4 ?_)
   intro k9 u0
   replace H := H k9 u0
   refine ln (qn ?_)
   obtain ⟨m7, n5, o1⟩ := H
   refine xk (fun ρ h' => (m7 h' ∧ True) ∧ Has ρ [(2, (ptr b 0)), (3, (ptr e0 0)), (4, (ptr nb 0)), (5, (ptr g2 0)), (6, (.slice g9 c9 c8)), (7, j4), (8, (ptr a8 a9)), (9, (ptr i 0))]) ?_ ?_
   ·have H := n5; clear n5 o1
    refine xs (xr ?_)
    refine lv rfl rfl (vm rfl) ?_
    refine ln (qn (xb ?_))
    refine hx_range rfl rfl rfl (fun k8 l w1 v5 u5 y7 => ?_)
    refine HCF.mono (H (fun st p h => LoopAt h l _ _ _ _ _ st p) l k8 (.func (.yield l) #[] #[]) rfl (fun s p h h' k e => k.same e) w1 v5 u5 y7 ?_) ?_
    ·intro f4 i9 c7 b5 c2 f0 d8 e1 f6 e9 f8 k2 n1 x3 H
     refine hcv_yield x3 rfl rfl ?_
     refine xr ?_
     refine lp rfl rfl (hn_alloc TyTE.z36 ?_)
     intro sv k5 v7 p0
     replace H := H sv k5 v7 p0
     have a14 := ext_pushed_f7_shy p0
     obtain ⟨w9, H⟩ := H
     refine lp rfl rfl (hn_stores (vs := [(.int .i64 f4), (.bool i9), (.int .u64 c7), (.int .u64 b5), (.int .i64 c2), (.slice f0 d8 e1), (.int .i64 f6), (.int .i64 e9), (.bool f8)]) rfl rfl TyTE.sz36 rfl w9 ?_)
     intro m9 y9
     replace H := H m9 y9
     refine ln ?_
     obtain ⟨w3, H⟩ := H
     refine ⟨rfl, w3, ?_⟩
     intro b3 w8 z2
     replace H := H b3 w8 z2
     refine xb (xs ?_)
     obtain ⟨m4, n8, n4⟩ := H
     refine xk (fun ρ h' => ∃ j : Bool, (m4 j h' ∧ True) ∧ Has ρ [(3, (ptr e0 0)), (4, (ptr nb 0)), (8, (ptr a8 a9)), (9, (ptr i 0)), (43, (.bool j))]) ?_ ?_
     ·have H := n8; clear n8 n4
      refine hx_draw TyTE.mixed [.read, .read, .pure, .pure, .pure, .read, .read, .read, .pure, .read, .wild, .pure, .pure] [0, 1, 2, 3, 4, 5, 6, 7, 8, 9, 10, 11, 12] (by kernel_rfl) ?_
      obtain ⟨b1, p4, H⟩ := H
      refine pr (i := 0) rfl (wanted_0 rfl) rfl (.int .i64 b1) (fun _ he => vl TyTE.agg3 rfl (Ext.cell he p4)) ?_
      obtain ⟨n3, a4, e6, p2, H⟩ := H
      refine pr (i := 1) rfl (wanted_0 rfl) rfl (.slice n3 a4 e6) (fun _ he => vl TyTE.agg65 rfl (Ext.cell he p2)) ?_
      refine pp (i := 2) rfl (wanted_0 rfl) rfl (.int .i64 (a4 : Int)) (fun _ => hv_len (n := a4) TyTE.u65 rfl) ?_
      refine pp (i := 3) rfl (wanted_0 rfl) rfl (.bool (decide (b1 ≥ (a4 : Int)))) (fun _ => vr rfl rfl rfl) ?_
      refine pp (i := 4) rfl (wanted_0 rfl) rfl (.bool (decide (b1 ≥ (a4 : Int)))) (fun _ => vm rfl) ?_
      rcases bool_or (decide (b1 ≥ (a4 : Int))) with b6 | b6
      ·replace H := H.1 b6
       refine pn (i := 5) rfl (wanted_n rfl rfl rfl b6) ?_
       refine pn (i := 6) rfl (wanted_n rfl rfl rfl b6) ?_
       refine pn (i := 7) rfl (wanted_n rfl rfl rfl b6) ?_
       refine pn (i := 8) rfl (wanted_n rfl rfl rfl b6) ?_
       refine pn (i := 9) rfl (wanted_n rfl rfl rfl b6) ?_
       refine pn (i := 10) rfl (wanted_n rfl rfl rfl b6) ?_
       refine pn (i := 11) rfl (wanted_n rfl rfl rfl b6) ?_
       refine pp (i := 12) rfl (wanted_0 rfl) rfl (.bool true) (fun _ => hv_pick_t rfl b6 rfl) ?_
       refine hp_nil ?_
       refine qn ?_
       exact ⟨_, ⟨H, trivial⟩, (hc rfl (hc rfl (hc rfl (hc rfl (hc rfl hn)))))⟩
      ·replace H := H.2 b6
       obtain ⟨e3, i3, b2, a2, a6, d4, b8, c1, e2, d1, e4, t6, w2, u3, x8, x1, x7, v9, v2, y5, H⟩ := H
       refine pr (i := 5) rfl (wanted_y rfl rfl rfl b6) rfl (.agg #[(.int .i64 e3), (.bool i3), (.int .u64 b2), (.int .u64 a2), (.int .i64 a6), (.slice d4 b8 c1), (.int .i64 e2), (.int .i64 d1), (.bool e4)]) (fun _ he => vL (vs := [(.int .i64 e3), (.bool i3), (.int .u64 b2), (.int .u64 a2), (.int .i64 a6), (.slice d4 b8 c1), (.int .i64 e2), (.int .i64 d1), (.bool e4)]) TyTE.agg36 TyTE.sz36 rfl (cc (Ext.cell he t6) (cc (Ext.cell he w2) (cc (Ext.cell he u3) (cc (Ext.cell he x8) (cc (Ext.cell he x1) (cc (Ext.cell he x7) (cc (Ext.cell he v9) (cc (Ext.cell he v2) (cc (Ext.cell he y5) cn)))))))))) ?_
       refine pr (i := 6) rfl (wanted_y rfl rfl rfl b6) rfl (.slice n3 a4 e6) (fun _ he => vl TyTE.agg65 rfl (Ext.cell he p2)) ?_
       refine pr (i := 7) rfl (wanted_y rfl rfl rfl b6) rfl (.int .i64 b1) (fun _ he => vl TyTE.agg3 rfl (Ext.cell he p4)) ?_
       obtain ⟨c6, d0, z9, u8, z1, Hq⟩ := H
       subst z9
       have H := Hq; clear Hq
       refine pp (i := 8) rfl (wanted_y rfl rfl rfl b6) rfl (ptr c6 (d0 + (Int.toNat b1) * 9)) (fun _ => vi TyTE.el65 rfl rfl u8 z1) ?_
       obtain ⟨c3, f3, a3, a0, a1, c0, a5, a7, c4, b9, c5, t9, u4, y3, y0, x4, v0, t7, t5, t4, H⟩ := H
       refine pr (i := 9) rfl (wanted_y rfl rfl rfl b6) rfl (.agg #[(.int .i64 c3), (.bool f3), (.int .u64 a3), (.int .u64 a0), (.int .i64 a1), (.slice c0 a5 a7), (.int .i64 c4), (.int .i64 b9), (.bool c5)]) (fun _ he => vL (vs := [(.int .i64 c3), (.bool f3), (.int .u64 a3), (.int .u64 a0), (.int .i64 a1), (.slice c0 a5 a7), (.int .i64 c4), (.int .i64 b9), (.bool c5)]) TyTE.agg36 TyTE.sz36 rfl (cc (Ext.cell he t9) (cc (Ext.cell he u4) (cc (Ext.cell he y3) (cc (Ext.cell he y0) (cc (Ext.cell he x4) (cc (Ext.cell he v0) (cc (Ext.cell he t7) (cc (Ext.cell he t5) (cc (Ext.cell he t4) cn)))))))))) ?_
       refine hp_wild (i := 10) rfl (wanted_y rfl rfl rfl b6) rfl (sc TyTE.cb14 rfl (HC.mono H ?_))
       rintro _ t2 ⟨g8, rfl, H⟩
       refine pp (i := 11) rfl (wanted_y rfl rfl rfl b6) rfl (.bool (!g8)) (fun _ => hv_not (b := g8) rfl) ?_
       refine pp (i := 12) rfl (wanted_0 rfl) rfl (.bool (!g8)) (fun _ => hv_pick_f rfl b6 rfl) ?_
       refine hp_nil ?_
       refine qn ?_
       exact ⟨_, ⟨H, trivial⟩, (hc rfl (hc rfl (hc rfl (hc rfl (hc rfl hn)))))⟩
     ·rintro ρ j3 ⟨j, ⟨w5, -⟩, hH⟩
      have H := n4 j j3 w5; clear n8 n4
      refine xh _ hH ?_
      refine xc (b := j) rfl (fun n7 => ?_) (fun n7 => ?_)
      ·replace H := H.1 n7
       refine xs (xr ?_)
       obtain ⟨r1, H⟩ := H
       refine lp rfl rfl (hn_store (v := (.bool false)) rfl rfl TyTE.sz4 rfl r1 ?_)
       intro m2 w7
       replace H := H m2 w7
       refine ln (qn (xt (qr (br ?_))))
       exact H
      ·replace H := H.2 n7
       refine xi (qn (xs (xr ?_)))
       obtain ⟨l0, q8, H⟩ := H
       refine lv rfl rfl (vl TyTE.agg3 rfl q8) (lv rfl rfl (vr rfl rfl rfl) ?_)
       obtain ⟨q9, H⟩ := H
       refine lp rfl rfl (hn_store (v := (.int .i64 (IntKind.i64.wrap (l0 + 1)))) rfl rfl TyTE.sz3 rfl q9 ?_)
       intro i2 q0
       replace H := H i2 q0
       refine ln (qn ?_)
       obtain ⟨j6, l7, m0⟩ := H
       refine xk (fun ρ h' => i2 = h' ∧ Has ρ [(52, (.bool j6))]) ?_ ?_
       ·have H := l7; clear l7 m0
        refine xr ?_
        obtain ⟨j5, q2, H⟩ := H
        refine lv rfl rfl (vl TyTE.agg3 rfl q2) (lv rfl rfl (vr rfl rfl rfl) (lv rfl rfl (vm rfl) ?_))
        rcases bool_or (j5 == 0) with d6 | d6
        ·replace H := H.1 d6
         obtain ⟨k6, q6, H⟩ := H
         refine ly (wanted_y rfl rfl rfl d6) rfl (HStep.of_val (v := (.int .i64 k6)) (vl TyTE.agg3 rfl q6) ?_)
         obtain ⟨k0, q1, H⟩ := H
         refine ly (wanted_y rfl rfl rfl d6) rfl (HStep.of_val (v := (.int .i64 k0)) (vl TyTE.agg3 rfl q1) ?_)
         refine ly (wanted_y rfl rfl rfl d6) rfl (HStep.of_val (v := (.bool (k6 == k0))) (vr rfl rfl rfl) ?_)
         refine lv rfl rfl (v := (.bool (k6 == k0))) (hv_pick_t rfl d6 rfl) ?_
         refine ln (qn ?_)
         obtain rfl := H
         exact ⟨rfl, (hc rfl hn)⟩
        ·replace H := H.2 d6
         refine lo (wanted_n rfl rfl rfl d6) rfl ?_
         refine lo (wanted_n rfl rfl rfl d6) rfl ?_
         refine lo (wanted_n rfl rfl rfl d6) rfl ?_
         refine lv rfl rfl (v := (.bool false)) (hv_pick_f rfl d6 rfl) ?_
         refine ln (qn ?_)
         obtain rfl := H
         exact ⟨rfl, (hc rfl hn)⟩
       ·have H := m0; clear l7 m0
        rintro ρ _ ⟨rfl, hH⟩
        refine xh _ hH ?_
        refine xc (b := j6) rfl (fun l6 => ?_) (fun l6 => ?_)
        ·replace H := H.1 l6
         refine xe (bp rfl ?_)
         exact H
        ·replace H := H.2 l6
         refine xi (bn ?_)
         exact H
    ·rintro _ p6 ⟨st, i5, u2, q7, H⟩
     refine ⟨st, i5, u2, q7, ?_⟩
     intro j2 w0 u6
     replace H := H j2 w0 u6
     rcases H with ⟨rfl, H⟩ | ⟨rfl, H⟩ | ⟨rfl, H⟩
     ·refine jumpQ_n ?_
      refine bn (qn ?_)
      exact ⟨⟨H, trivial⟩, (hc rfl (hc rfl (hc rfl (hc rfl (hc rfl (hc rfl (hc rfl (hc rfl hn))))))))⟩
     ·refine jumpQ_ret ?_
      refine br (qr (br (qr (qr (br (qr ?_))))))
      obtain ⟨i1, s5, H⟩ := H
      exact endQM_ret _ (fun h' hs => ⟨res_one Tryd.results7 (rv_cell1 TyTE.agg4 rfl (shut_cell hs s5)), H h' hs⟩)
     ·refine jumpQ_exit ?_
      refine bh (qn ?_)
      exact ⟨⟨H, trivial⟩, (hc rfl (hc rfl (hc rfl (hc rfl (hc rfl (hc rfl (hc rfl (hc rfl hn))))))))⟩
   ·rintro ρ g0 ⟨⟨v3, -⟩, hH⟩
    have H := o1 g0 v3; clear n5 o1
    refine xh _ hH ?_
    obtain ⟨j1, l4, l8⟩ := H
    refine xk (fun ρ h' => g0 = h' ∧ Has ρ [(2, (ptr b 0)), (3, (ptr e0 0)), (4, (ptr nb 0)), (5, (ptr g2 0)), (6, (.slice g9 c9 c8)), (7, j4), (8, (ptr a8 a9)), (65, (.bool j1))]) ?_ ?_
    ·have H := l4; clear l4 l8
     refine xr ?_
     obtain ⟨g3, o4, H⟩ := H
     refine lv rfl rfl (vl TyTE.agg3 rfl o4) ?_
     obtain ⟨n9, e7, l1, r8, H⟩ := H
     refine lv rfl rfl (vl TyTE.agg65 rfl r8) (lv rfl rfl (v := (.int .i64 (e7 : Int))) (hv_len (n := e7) TyTE.u65 rfl) (lv rfl rfl (vr rfl rfl rfl) (lv rfl rfl (vm rfl) ?_)))
     rcases bool_or (g3 != (e7 : Int)) with b4 | b4
     ·replace H := H.1 b4
      obtain ⟨i0, p9, H⟩ := H
      refine ly (wanted_y rfl rfl rfl b4) rfl (HStep.of_val (v := (.int .i64 i0)) (vl TyTE.agg3 rfl p9) ?_)
      refine ly (wanted_y rfl rfl rfl b4) rfl (HStep.of_val (v := (.bool (i0 != 0))) (vr rfl rfl rfl) ?_)
      refine ly (wanted_y rfl rfl rfl b4) rfl (HStep.of_val (v := (.bool (i0 != 0))) (vm rfl) ?_)
      rcases bool_or (i0 != 0) with d9 | d9
      ·replace H := H.1 d9
       refine lo (wanted_n rfl rfl rfl d9) rfl ?_
       refine lo (wanted_n rfl rfl rfl d9) rfl ?_
       refine lo (wanted_n rfl rfl rfl d9) rfl ?_
       refine ly (wanted_y rfl rfl rfl b4) rfl (HStep.of_val (v := (.bool true)) (hv_pick_t rfl d9 rfl) ?_)
       refine lv rfl rfl (v := (.bool true)) (hv_pick_t rfl b4 rfl) ?_
       refine ln (qn ?_)
       obtain rfl := H
       exact ⟨rfl, (hc rfl (hc rfl (hc rfl (hc rfl (hc rfl (hc rfl (hc rfl (hc rfl hn))))))))⟩
      ·replace H := H.2 d9
       refine ly (wanted_y rfl rfl rfl d9) rfl (HStep.of_val (v := (.int .i64 g3)) (vl TyTE.agg3 rfl o4) ?_)
       obtain ⟨i6, q4, H⟩ := H
       refine ly (wanted_y rfl rfl rfl d9) rfl (HStep.of_val (v := (.int .i64 i6)) (vl TyTE.agg3 rfl q4) ?_)
       refine ly (wanted_y rfl rfl rfl d9) rfl (HStep.of_val (v := (.bool (g3 != i6))) (vr rfl rfl rfl) ?_)
       refine ly (wanted_y rfl rfl rfl b4) rfl (HStep.of_val (v := (.bool (g3 != i6))) (hv_pick_f rfl d9 rfl) ?_)
       refine lv rfl rfl (v := (.bool (g3 != i6))) (hv_pick_t rfl b4 rfl) ?_
       refine ln (qn ?_)
       obtain rfl := H
       exact ⟨rfl, (hc rfl (hc rfl (hc rfl (hc rfl (hc rfl (hc rfl (hc rfl (hc rfl hn))))))))⟩
     ·replace H := H.2 b4
      refine lo (wanted_n rfl rfl rfl b4) rfl ?_
      refine lo (wanted_n rfl rfl rfl b4) rfl ?_
      refine lo (wanted_n rfl rfl rfl b4) rfl ?_
      refine lo (wanted_u rfl rfl rfl) rfl ?_
      refine lo (wanted_u rfl rfl rfl) rfl ?_
      refine lo (wanted_u rfl rfl rfl) rfl ?_
      refine lo (wanted_n rfl rfl rfl b4) rfl ?_
      refine lv rfl rfl (v := (.bool false)) (hv_pick_f rfl b4 rfl) ?_
      refine ln (qn ?_)
      obtain rfl := H
      exact ⟨rfl, (hc rfl (hc rfl (hc rfl (hc rfl (hc rfl (hc rfl (hc rfl (hc rfl hn))))))))⟩
    ·have H := l8; clear l4 l8
     rintro ρ _ ⟨rfl, hH⟩
     refine xh _ hH ?_
     refine xc (b := j1) rfl (fun l2 => ?_) (fun l2 => ?_)
     ·replace H := H.1 l2
      refine xs (xr ?_)
      obtain ⟨q5, H⟩ := H
      refine lp rfl rfl (hn_store (v := (.bool false)) rfl rfl TyTE.sz4 rfl q5 ?_)
      intro m1 r0
      replace H := H m1 r0
      refine ln (qn (xt (br (qr (qr (br (qr ?_)))))))
      obtain ⟨l5, s1, H⟩ := H
      exact endQM_ret _ (fun h' hs => ⟨res_one Tryd.results7 (rv_cell1 TyTE.agg4 rfl (shut_cell hs s1)), H h' hs⟩)
     ·replace H := H.2 l2
      refine xi (bn (qn (xs (xs (xr ?_)))))
      obtain ⟨j8, s3, H⟩ := H
      refine lv rfl rfl (vl TyTE.agg3 rfl s3) ?_
      refine ln (qn (xr ?_))
      refine lp rfl rfl (hn_alloc TyTE.z3 ?_)
      intro b0 k1 r9 o5
      replace H := H b0 k1 r9 o5
      have a10 := ext_pushed_f7_shy o5
      obtain ⟨r6, H⟩ := H
      refine lp rfl rfl (hn_store (v := (.int .i64 j8)) rfl rfl TyTE.sz3 rfl r6 ?_)
      intro k3 r5
      replace H := H k3 r5
      refine ln (qn (xr ?_))
      obtain ⟨j0, q3, H⟩ := H
      refine lv rfl rfl (vl TyTE.agg3 rfl q3) (lv rfl rfl (vr rfl rfl rfl) ?_)
      obtain ⟨r7, H⟩ := H
      refine lp rfl rfl (hn_store (v := (.int .i64 (IntKind.i64.wrap (j0 + 1)))) rfl rfl TyTE.sz3 rfl r7 ?_)
      intro n2 r2
      replace H := H n2 r2
      refine ln (qn ?_)
      exact ⟨(b0, 0), ⟨⟨H.1, trivial⟩, H.2⟩, (hc rfl (hc rfl (hc rfl (hc rfl (hc rfl (hc rfl (hc rfl hn)))))))⟩
  ·replace H := H.2 o0
   refine xe (qe (qe (bh (qn (xs (xr ?_))))))
   refine lv rfl rfl (vm rfl) (lv rfl rfl (v := (ptr b 4)) (vf TyTE.fld27_1 (b := b) (o := 0) rfl) ?_)
   obtain ⟨b1, a4, e6, r3, H⟩ := H
   refine lv rfl rfl (vl TyTE.agg25 rfl r3) ?_
   obtain ⟨g8, s0, H⟩ := H
   refine lv rfl rfl (hv_call TyTE.cb15 (vs := [(.slice g9 c9 c8), (.slice b1 a4 e6)]) rfl s0) ?_
   obtain ⟨s2, H⟩ := H
   refine lp rfl rfl (hn_store (v := (.bool g8)) rfl rfl TyTE.sz4 rfl s2 ?_)
   intro m8 s4
   replace H := H m8 s4
   refine ln (qn (xt ?_))
   obtain ⟨i1, r4, H⟩ := H
   exact endQM_ret _ (fun h' hs => ⟨res_one Tryd.results7 (rv_cell1 TyTE.agg4 rfl (shut_cell hs r4)), H h' hs⟩)
end Go.Proofs.YthjehlocmikchaaDoor
