import Derived.Test.YthjehlocmikchaaDoorProg
import Derived.Test.YthjehlocmikchaaDoorDo1
import Derived.Test.YthjehlocmikchaaDoorDo2
import Derived.Test.YthjehlocmikchaaDoorDo3
import Derived.Test.YthjehlocmikchaaDoorDo4
namespace Go.Proofs.YthjehlocmikchaaDoor
open Go
open Go.Proofs.YthjehlocmikchaaDoor renaming hl_val → lv, hl_step → lp, hl_nil → ln, hl_yes → ly, hl_no → lo, hx_seq → xs, hx_region → xr, hx_cond → xc, hx_block → xb, hx_loopT → xl, hx_cut → xk, hx_has → xh, hx_skip → xi, hx_ret → xt, hx_exit → xe, seqQ_n → qn, seqQ_ret → qr, seqQ_exit → qe, blockQ_n → bn, blockQ_ret → br, blockQ_here → bh, blockQ_past → bp, hv_move → vm, hv_assign → va, hv_arith → vr, hv_load → vl, hv_loads → vL, hv_extract → vx, hv_field → vf, hv_build → vb, hv_index → vi, hp_pure → pp, hp_read → pr, hp_no → pn, has_cons → hc, has_nil → hn, hcells_cons → cc, hcells_nil → cn, rowcell → rc, hs_call → sc, ht_one → to
set_option maxRecDepth 100000
set_option maxHeartbeats 4000000
theorem TyTC.agg24 : aggB Tryd.prog 24 = some true := by kernel_rfl
theorem TyTC.agg25 : aggB Tryd.prog 25 = some false := by kernel_rfl
theorem TyTC.agg29 : aggB Tryd.prog 29 = some false := by kernel_rfl
theorem TyTC.agg3 : aggB Tryd.prog 3 = some false := by kernel_rfl
theorem TyTC.agg31 : aggB Tryd.prog 31 = some true := by kernel_rfl
theorem TyTC.agg32 : aggB Tryd.prog 32 = some false := by kernel_rfl
theorem TyTC.agg34 : aggB Tryd.prog 34 = some true := by kernel_rfl
theorem TyTC.agg36 : aggB Tryd.prog 36 = some true := by kernel_rfl
theorem TyTC.agg4 : aggB Tryd.prog 4 = some false := by kernel_rfl
theorem TyTC.agg43 : aggB Tryd.prog 43 = some true := by kernel_rfl
theorem TyTC.agg45 : aggB Tryd.prog 45 = some true := by kernel_rfl
theorem TyTC.agg5 : aggB Tryd.prog 5 = some false := by kernel_rfl
theorem TyTC.agg85 : aggB Tryd.prog 85 = some false := by kernel_rfl
theorem TyTC.agg86 : aggB Tryd.prog 86 = some false := by kernel_rfl
theorem TyTC.by5 : byB Tryd.prog 5 = some 1 := by kernel_rfl
theorem TyTC.cb12 : CallB Tryd.prog 12 := fun _ _ => Tryd.call12 _ _
theorem TyTC.cb17 : CallB Tryd.prog 17 := fun _ _ => Tryd.call17 _ _
theorem TyTC.cb18 : CallB Tryd.prog 18 := fun _ _ => Tryd.call18 _ _
theorem TyTC.cb19 : CallB Tryd.prog 19 := fun _ _ => Tryd.call19 _ _
theorem TyTC.cb30 : CallB Tryd.prog 30 := fun _ _ => Tryd.call30 _ _
theorem TyTC.cb31 : CallB Tryd.prog 31 := fun _ _ => Tryd.call31 _ _
theorem TyTC.cb32 : CallB Tryd.prog 32 := fun _ _ => Tryd.call32 _ _
theorem TyTC.cb33 : CallB Tryd.prog 33 := fun _ _ => Tryd.call33 _ _
theorem TyTC.cb34 : CallB Tryd.prog 34 := fun _ _ => Tryd.call34 _ _
theorem TyTC.cb35 : CallB Tryd.prog 35 := fun _ _ => Tryd.call35 _ _
theorem TyTC.cb36 : CallB Tryd.prog 36 := fun _ _ => Tryd.call36 _ _
theorem TyTC.cb38 : CallB Tryd.prog 38 := fun _ _ => Tryd.call38 _ _
theorem TyTC.cb40 : CallB Tryd.prog 40 := fun _ _ => Tryd.call40 _ _
theorem TyTC.cb45 : CallB Tryd.prog 45 := fun _ _ => Tryd.call45 _ _
theorem TyTC.cb46 : CallB Tryd.prog 46 := fun _ _ => Tryd.call46 _ _
theorem TyTC.cb65 : CallB Tryd.prog 65 := fun _ _ => Tryd.call65 _ _
theorem TyTC.el25 : elB Tryd.prog 25 = some 1 := by kernel_rfl
theorem TyTC.el32 : elB Tryd.prog 32 = some 7 := by kernel_rfl
theorem TyTC.el47 : elB Tryd.prog 47 = some 4 := by kernel_rfl
theorem TyTC.el48 : elB Tryd.prog 48 = some 1 := by kernel_rfl
theorem TyTC.fld24_0 : fldB Tryd.prog 24 0 = some 0 := by kernel_rfl
theorem TyTC.fld24_2 : fldB Tryd.prog 24 2 = some 2 := by kernel_rfl
theorem TyTC.fld31_1 : fldB Tryd.prog 31 1 = some 1 := by kernel_rfl
theorem TyTC.fld31_2 : fldB Tryd.prog 31 2 = some 2 := by kernel_rfl
theorem TyTC.fld36_0 : fldB Tryd.prog 36 0 = some 0 := by kernel_rfl
theorem TyTC.fld36_1 : fldB Tryd.prog 36 1 = some 1 := by kernel_rfl
theorem TyTC.fld36_2 : fldB Tryd.prog 36 2 = some 2 := by kernel_rfl
theorem TyTC.fld36_3 : fldB Tryd.prog 36 3 = some 5 := by kernel_rfl
theorem TyTC.fld36_4 : fldB Tryd.prog 36 4 = some 6 := by kernel_rfl
theorem TyTC.fld36_5 : fldB Tryd.prog 36 5 = some 8 := by kernel_rfl
theorem TyTC.fld45_1 : fldB Tryd.prog 45 1 = some 1 := by kernel_rfl
theorem TyTC.fld45_2 : fldB Tryd.prog 45 2 = some 2 := by kernel_rfl
theorem TyTC.fld88_0 : fldB Tryd.prog 88 0 = some 0 := by kernel_rfl
theorem TyTC.fld88_1 : fldB Tryd.prog 88 1 = some 1 := by kernel_rfl
theorem TyTC.fld88_2 : fldB Tryd.prog 88 2 = some 2 := by kernel_rfl
theorem TyTC.gd45 : Tryd.prog.eqGuardType Tryd.prog.depth 45 = false := by kernel_rfl
theorem TyTC.mixed : Tryd.prog.follows .mixedOrders = true := by kernel_rfl
theorem TyTC.pl31 : plB Tryd.prog 31 = some [(0, 1), (1, 1), (2, 1)] := by kernel_rfl
theorem TyTC.pl34 : plB Tryd.prog 34 = some [(0, 1), (1, 1)] := by kernel_rfl
theorem TyTC.pl36 : plB Tryd.prog 36 = some [(0, 1), (1, 1), (2, 3), (5, 1), (6, 2), (8, 1)] := by kernel_rfl
theorem TyTC.pl43 : plB Tryd.prog 43 = some [(0, 1), (1, 1), (2, 1), (3, 1)] := by kernel_rfl
theorem TyTC.pl45 : plB Tryd.prog 45 = some [(0, 1), (1, 1), (2, 1), (3, 4)] := by kernel_rfl
theorem TyTC.se31 : seB Tryd.prog 31 = some [(29, 0), (29, 1), (3, 2)] := by kernel_rfl
theorem TyTC.se34 : seB Tryd.prog 34 = some [(3, 0), (3, 1)] := by kernel_rfl
theorem TyTC.sz24 : szB Tryd.prog 24 = some 4 := by kernel_rfl
theorem TyTC.sz3 : szB Tryd.prog 3 = some 1 := by kernel_rfl
theorem TyTC.sz31 : szB Tryd.prog 31 = some 3 := by kernel_rfl
theorem TyTC.sz32 : szB Tryd.prog 32 = some 1 := by kernel_rfl
theorem TyTC.sz34 : szB Tryd.prog 34 = some 2 := by kernel_rfl
theorem TyTC.sz36 : szB Tryd.prog 36 = some 9 := by kernel_rfl
theorem TyTC.sz4 : szB Tryd.prog 4 = some 1 := by kernel_rfl
theorem TyTC.sz43 : szB Tryd.prog 43 = some 4 := by kernel_rfl
theorem TyTC.sz45 : szB Tryd.prog 45 = some 7 := by kernel_rfl
theorem TyTC.sz5 : szB Tryd.prog 5 = some 1 := by kernel_rfl
theorem TyTC.sz88 : szB Tryd.prog 88 = some 4 := by kernel_rfl
theorem TyTC.u25 : Tryd.prog.underlying 25 = some (.slice 5) := by kernel_rfl
theorem TyTC.u32 : Tryd.prog.underlying 32 = some (.slice 45) := by kernel_rfl
theorem TyTC.u4 : Tryd.prog.underlying 4 = some (.bool) := by kernel_rfl
theorem TyTC.u47 : Tryd.prog.underlying 47 = some (.slice 43) := by kernel_rfl
theorem TyTC.u48 : Tryd.prog.underlying 48 = some (.slice 4) := by kernel_rfl
theorem TyTC.z3 : zeroB Tryd.prog 3 (.int .i64 0) := by unfold zeroB; kernel_rfl
theorem TyTC.z31 : zeroB Tryd.prog 31 (.agg #[(.int .u64 0), (.int .u64 0), (.int .i64 0)]) := by unfold zeroB; kernel_rfl
theorem TyTC.z34 : zeroB Tryd.prog 34 (.agg #[(.int .i64 0), (.int .i64 0)]) := by unfold zeroB; kernel_rfl
theorem TyTC.z36 : zeroB Tryd.prog 36 (.agg #[(.int .i64 0), (.bool false), (.int .u64 0), (.int .u64 0), (.int .i64 0), (.slice none 0 0), (.int .i64 0), (.int .i64 0), (.bool false)]) := by unfold zeroB; kernel_rfl
theorem TyTC.z43 : zeroB Tryd.prog 43 (.agg #[(.int .i64 0), (.int .u64 0), (.string ByteArray.empty), (.string ByteArray.empty)]) := by unfold zeroB; kernel_rfl
theorem TyTC.z45 : zeroB Tryd.prog 45 (.agg #[(.int .i64 0), (.int .i64 0), (.int .i64 0), (.int .i64 0), (.int .u64 0), (.string ByteArray.empty), (.string ByteArray.empty)]) := by unfold zeroB; kernel_rfl
theorem TyTC.z5 : zeroB Tryd.prog 5 (.int .u8 0) := by unfold zeroB; kernel_rfl
theorem TyTC.z88 : zeroB Tryd.prog 88 (.agg #[(.int .i64 0), (.int .i64 0), (.int .u32 0), (.int .u32 0)]) := by unfold zeroB; kernel_rfl
theorem ext_pushed_f64_sh {h h1 : Heap} {o : Obj} (e : h1 = Array.push h o) : Ext h h1 := by rw [e]; exact Ext.push _ _
theorem f12_sh (l0 : Int) (k1 : Int) (i6 : Int) (j8 : Int) (a7 : Int) (d7 : Option Addr) (b1 : Nat) (b6 : Nat) (h : Heap) (R : Value → Heap → Prop)
  (H : (∀ g h1, g = Array.size h → h1 = Array.push h (.cells #[(.int .i64 l0), (.int .i64 k1), (.int .i64 i6), (.int .i64 j8)] 24) → (∀ nb h2, nb = Array.size h1 → h2 = Array.push h1 (.cells #[(.int .i64 0), (.bool false), (.int .u64 0), (.int .u64 0), (.int .i64 0), (.slice none 0 0), (.int .i64 0), (.int .i64 0), (.bool false)] 36) → (∃ j2 i2 e6 i3 : Int, hcell h2 g 0 = some (.int .i64 j2) ∧ hcell h2 g 1 = some (.int .i64 i2) ∧ hcell h2 g 2 = some (.int .i64 e6) ∧ hcell h2 g 3 = some (.int .i64 i3) ∧ HC Tryd.prog 31 #[(.agg #[(.int .i64 j2), (.int .i64 i2), (.int .i64 e6), (.int .i64 i3)])] h2 (fun vv h3 => Ext h2 h3 ∧ ∃ r0 r1 r2 : Int, vv = (.tuple #[(.int .i64 r0), (.int .i64 r1), (.int .i64 r2)]) ∧ (((r2 != 0) = true → (HWs h3 nb 0 9 ∧ ∀ h4, h4 = hsets h3 nb 0 [(.int .i64 0), (.bool false), (.int .u64 0), (.int .u64 0), (.int .i64 0), (.slice none 0 0), (.int .i64 0), (.int .i64 0), (.bool false)] → (∃ a9 : Int, ∃ b2 : Bool, ∃ a2 a0 a1 : Int, ∃ a5 : Option Addr, ∃ a4 a3 : Nat, ∃ a8 a6 : Int, ∃ b0 : Bool, hcell h4 nb 0 = some (.int .i64 a9) ∧ hcell h4 nb 1 = some (.bool b2) ∧ hcell h4 nb 2 = some (.int .u64 a2) ∧ hcell h4 nb 3 = some (.int .u64 a0) ∧ hcell h4 nb 4 = some (.int .i64 a1) ∧ hcell h4 nb 5 = some (.slice a5 a4 a3) ∧ hcell h4 nb 6 = some (.int .i64 a8) ∧ hcell h4 nb 7 = some (.int .i64 a6) ∧ hcell h4 nb 8 = some (.bool b0) ∧ (∀ h5, Shut' (Array.size h) h4 h5 → R (.tuple #[(.agg #[(.int .i64 a9), (.bool b2), (.int .u64 a2), (.int .u64 a0), (.int .i64 a1), (.slice a5 a4 a3), (.int .i64 a8), (.int .i64 a6), (.bool b0)]), (.int .i64 r2)]) h5)))) ∧ ((r2 != 0) = false → (∃ j : Bool, (((decide (a7 < 0)) = true → (j = true)) ∧ ((decide (a7 < 0)) = false → (∃ x : Int, hcell h3 g 2 = some (.int .i64 x) ∧ (((decide (a7 ≥ x)) = true → (j = true)) ∧ ((decide (a7 ≥ x)) = false → (j = (r0 != (b1 : Int)))))))) ∧ ((j = true → (HWs h3 nb 0 9 ∧ ∀ h6, h6 = hsets h3 nb 0 [(.int .i64 0), (.bool false), (.int .u64 0), (.int .u64 0), (.int .i64 0), (.slice none 0 0), (.int .i64 0), (.int .i64 0), (.bool false)] → (∃ a9 : Int, ∃ b2 : Bool, ∃ a2 a0 a1 : Int, ∃ a5 : Option Addr, ∃ a4 a3 : Nat, ∃ a8 a6 : Int, ∃ b0 : Bool, hcell h6 nb 0 = some (.int .i64 a9) ∧ hcell h6 nb 1 = some (.bool b2) ∧ hcell h6 nb 2 = some (.int .u64 a2) ∧ hcell h6 nb 3 = some (.int .u64 a0) ∧ hcell h6 nb 4 = some (.int .i64 a1) ∧ hcell h6 nb 5 = some (.slice a5 a4 a3) ∧ hcell h6 nb 6 = some (.int .i64 a8) ∧ hcell h6 nb 7 = some (.int .i64 a6) ∧ hcell h6 nb 8 = some (.bool b0) ∧ (∀ h7, Shut' (Array.size h) h6 h7 → R (.tuple #[(.agg #[(.int .i64 a9), (.bool b2), (.int .u64 a2), (.int .u64 a0), (.int .i64 a1), (.slice a5 a4 a3), (.int .i64 a8), (.int .i64 a6), (.bool b0)]), (.int .i64 60)]) h7)))) ∧ (j = false → (∃ g1 f0 d0 f5 : Int, hcell h3 g 0 = some (.int .i64 g1) ∧ hcell h3 g 1 = some (.int .i64 f0) ∧ hcell h3 g 2 = some (.int .i64 d0) ∧ hcell h3 g 3 = some (.int .i64 f5) ∧ HC Tryd.prog 32 #[(.agg #[(.int .i64 g1), (.int .i64 f0), (.int .i64 d0), (.int .i64 f5)]), (.slice d7 b1 b6)] h3 (fun vv h8 => Ext h3 h8 ∧ ∃ d8 b9 c7 g7 : Int, vv = (.tuple #[(.agg #[(.int .u64 d8), (.int .u64 b9), (.int .i64 c7)]), (.int .i64 g7)]) ∧ (∀ hv h9, hv = Array.size h8 → h9 = Array.push h8 (.cells #[(.int .u64 0), (.int .u64 0), (.int .i64 0)] 31) → (HWs h9 hv 0 3 ∧ ∀ j3, j3 = hsets h9 hv 0 [(.int .u64 d8), (.int .u64 b9), (.int .i64 c7)] → (∃ l4 : Bool, (((g7 != 0) = true → (l4 = true)) ∧ ((g7 != 0) = false → (∃ m1 : Int, hcell j3 hv 2 = some (.int .i64 m1) ∧ (l4 = (m1 != a7))))) ∧ ((l4 = true → (HWs j3 nb 0 9 ∧ ∀ j4, j4 = hsets j3 nb 0 [(.int .i64 a7), (.bool false), (.int .u64 0), (.int .u64 0), (.int .i64 0), (.slice none 0 0), (.int .i64 0), (.int .i64 1), (.bool false)] → (∃ a9 : Int, ∃ b2 : Bool, ∃ a2 a0 a1 : Int, ∃ a5 : Option Addr, ∃ a4 a3 : Nat, ∃ a8 a6 : Int, ∃ b0 : Bool, hcell j4 nb 0 = some (.int .i64 a9) ∧ hcell j4 nb 1 = some (.bool b2) ∧ hcell j4 nb 2 = some (.int .u64 a2) ∧ hcell j4 nb 3 = some (.int .u64 a0) ∧ hcell j4 nb 4 = some (.int .i64 a1) ∧ hcell j4 nb 5 = some (.slice a5 a4 a3) ∧ hcell j4 nb 6 = some (.int .i64 a8) ∧ hcell j4 nb 7 = some (.int .i64 a6) ∧ hcell j4 nb 8 = some (.bool b0) ∧ (∀ x3, Shut' (Array.size h) j4 x3 → R (.tuple #[(.agg #[(.int .i64 a9), (.bool b2), (.int .u64 a2), (.int .u64 a0), (.int .i64 a1), (.slice a5 a4 a3), (.int .i64 a8), (.int .i64 a6), (.bool b0)]), (.int .i64 0)]) x3)))) ∧ (l4 = false → (∃ e1 b8 c9 : Int, hcell j3 hv 0 = some (.int .u64 e1) ∧ hcell j3 hv 1 = some (.int .u64 b8) ∧ hcell j3 hv 2 = some (.int .i64 c9) ∧ (∀ sv m3, sv = Array.size j3 → m3 = Array.push j3 (.cells #[(.int .i64 0), (.bool false), (.int .u64 0), (.int .u64 0), (.int .i64 0), (.slice none 0 0), (.int .i64 0), (.int .i64 0), (.bool false)] 36) → (HWs m3 sv 0 9 ∧ ∀ k9, k9 = hsets m3 sv 0 [(.int .i64 a7), (.bool true), (.int .u64 e1), (.int .u64 b8), (.int .i64 c9), (.slice none 0 0), (.int .i64 0), (.int .i64 0), (.bool false)] → (∃ g8 e9 d5 f3 : Int, hcell k9 g 0 = some (.int .i64 g8) ∧ hcell k9 g 1 = some (.int .i64 e9) ∧ hcell k9 g 2 = some (.int .i64 d5) ∧ hcell k9 g 3 = some (.int .i64 f3) ∧ HC Tryd.prog 33 #[(.agg #[(.int .i64 g8), (.int .i64 e9), (.int .i64 d5), (.int .i64 f3)]), (.int .i64 32)] k9 (fun vv n2 => Ext k9 n2 ∧ ∃ j7 k5 : Int, vv = (.tuple #[(.int .i64 j7), (.int .i64 k5)]) ∧ (∀ j6 m4, j6 = Array.size n2 → m4 = Array.push n2 (.cells #[(.int .i64 0)] 3) → (HW m4 j6 0 ∧ ∀ l1, l1 = hset m4 j6 0 (.int .i64 j7) → (∃ g4 e8 d4 f7 : Int, hcell l1 g 0 = some (.int .i64 g4) ∧ hcell l1 g 1 = some (.int .i64 e8) ∧ hcell l1 g 2 = some (.int .i64 d4) ∧ hcell l1 g 3 = some (.int .i64 f7) ∧ HC Tryd.prog 34 #[(.agg #[(.int .i64 g4), (.int .i64 e8), (.int .i64 d4), (.int .i64 f7)]), (.slice d7 b1 b6), (ptr sv 6)] l1 (fun vv p2 => ∃ r : Value, vv = r ∧ (∀ (j1 : LoopState → Option Code → Heap → Prop) (l : Nat) (l7 : Heap) (y : Value), (∀ s p h h', j1 s p h → h'[l]? = h[l]? → j1 s p h') → l = Array.size p2 + 1 → Ext p2 l7 → Array.size l7 = Array.size p2 + 2 → j1 .ready none l7 → (∀ (j0 : Int) (i7 : Int) (j9 : Int) (e0 : Int) (c5 : Int) (e3 : ByteArray) (d6 : ByteArray) (m0 : Heap) (q1 : Value → Heap → Prop), j1 .ready none m0 → (∀ f m2, f = Array.size m0 → m2 = Array.push m0 (.cells #[(.int .i64 0), (.int .i64 0), (.int .i64 0), (.int .i64 0), (.int .u64 0), (.string ByteArray.empty), (.string ByteArray.empty)] 45) → (HWs m2 f 0 7 ∧ ∀ n5, n5 = hsets m2 f 0 [(.int .i64 j0), (.int .i64 i7), (.int .i64 j9), (.int .i64 e0), (.int .u64 c5), (.string e3), (.string d6)] → (j1 .ready none n5 ∧ ∀ i5, Only l n5 i5 → j1 .busy none i5 → (∃ o8 : Option Addr, ∃ o5 p4 : Nat, hcell i5 sv 5 = some (.slice o8 o5 p4) ∧ (∃ c8 e4 i4 b7 b3 : Int, ∃ c0 b4 : ByteArray, hcell i5 f 0 = some (.int .i64 c8) ∧ hcell i5 f 1 = some (.int .i64 e4) ∧ hcell i5 f 2 = some (.int .i64 i4) ∧ hcell i5 f 3 = some (.int .i64 b7) ∧ hcell i5 f 4 = some (.int .u64 b3) ∧ hcell i5 f 5 = some (.string c0) ∧ hcell i5 f 6 = some (.string b4) ∧ (∀ n0 n3, n0 = Array.size i5 → n3 = Array.push i5 (.cells #[(.int .i64 c8), (.int .i64 e4), (.int .i64 i4), (.int .i64 b7), (.int .u64 b3), (.string c0), (.string b4)] 45) → HAppend Tryd.prog 32 32 (.slice o8 o5 p4) (.slice (some ⟨n0, 0, none⟩) 1 1) n3 (fun vv q0 => ∃ ap : Option Addr, ∃ m9 m7 : Nat, vv = (.slice ap m9 m7) ∧ (HW q0 sv 5 ∧ ∀ l3, l3 = hset q0 sv 5 (.slice ap m9 m7) → (∃ l6 : Int, hcell l3 f 1 = some (.int .i64 l6) ∧ (∃ l9 : Int, hcell l3 f 2 = some (.int .i64 l9) ∧ (HW l3 j6 0 ∧ ∀ n1, n1 = hset l3 j6 0 (.int .i64 (IntKind.i64.wrap (l6 + l9))) → (j1 .busy none n1 ∧ ∀ p5, Only l n1 p5 → j1 .ready none p5 → q1 (.bool true) p5)))))))))))) → HCV Tryd.prog y [(.agg #[(.int .i64 j0), (.int .i64 i7), (.int .i64 j9), (.int .i64 e0), (.int .u64 c5), (.string e3), (.string d6)])] m0 q1) → HCF Tryd.prog r [y] l7 (fun _ q3 => ∃ (st : LoopState) (l2 : Option Code), j1 st l2 q3 ∧ st ≠ .busy ∧ ∀ k2, Only l q3 k2 → j1 .exhausted l2 k2 → ((l2 = none ∧ (∃ g0 f2 d3 f1 : Int, hcell k2 g 0 = some (.int .i64 g0) ∧ hcell k2 g 1 = some (.int .i64 f2) ∧ hcell k2 g 2 = some (.int .i64 d3) ∧ hcell k2 g 3 = some (.int .i64 f1) ∧ HC Tryd.prog 35 #[(.agg #[(.int .i64 g0), (.int .i64 f2), (.int .i64 d3), (.int .i64 f1)]), (.slice d7 b1 b6)] k2 (fun vv n4 => Ext k2 n4 ∧ ∃ c2 e5 e7 i1 g3 : Int, vv = (.tuple #[(.agg #[(.int .i64 c2), (.int .i64 e5), (.int .u32 e7), (.int .u32 i1)]), (.int .i64 g3)]) ∧ (∀ i8 l8, i8 = Array.size n4 → l8 = Array.push n4 (.cells #[(.int .i64 0), (.int .i64 0), (.int .u32 0), (.int .u32 0)] 88) → (HWs l8 i8 0 4 ∧ ∀ f9, f9 = hsets l8 i8 0 [(.int .i64 c2), (.int .i64 e5), (.int .u32 e7), (.int .u32 i1)] → (∃ k3 : Heap → Prop, (((g3 == 0) = true → (∃ k6 : Int, hcell f9 i8 2 = some (.int .u32 k6) ∧ (∃ n6 : Int, hcell f9 hv 1 = some (.int .u64 n6) ∧ (∃ k7 : Int, (∀ p8, Ext f9 p8 → HC Tryd.prog 36 #[(.int .u64 n6)] p8 (fun vv h' => vv = (.int .u32 k7) ∧ h' = p8)) ∧ (((k6 == k7) = true → (∃ k8 : Int, hcell f9 i8 0 = some (.int .i64 k8) ∧ (∃ p9 : Option Addr, ∃ f8 m8 : Nat, hcell f9 sv 5 = some (.slice p9 f8 m8) ∧ (((k8 == (f8 : Int)) = true → (∃ l5 : Int, hcell f9 i8 1 = some (.int .i64 l5) ∧ (∃ k4 : Int, hcell f9 j6 0 = some (.int .i64 k4) ∧ (HW f9 sv 8 ∧ ∀ o4, o4 = hset f9 sv 8 (.bool (l5 == k4)) → (k3 o4))))) ∧ ((k8 == (f8 : Int)) = false → (HW f9 sv 8 ∧ ∀ p0, p0 = hset f9 sv 8 (.bool false) → (k3 p0))))))) ∧ ((k6 == k7) = false → (HW f9 sv 8 ∧ ∀ p1, p1 = hset f9 sv 8 (.bool false) → (k3 p1)))))))) ∧ ((g3 == 0) = false → (HW f9 sv 8 ∧ ∀ o7, o7 = hset f9 sv 8 (.bool false) → (k3 o7)))) ∧ (∀ (i9 : Heap), k3 i9 → (∃ d9 : Int, ∃ k0 : Bool, ∃ c6 b5 c1 : Int, ∃ f6 : Option Addr, ∃ d2 d1 : Nat, ∃ g6 f4 : Int, ∃ i0 : Bool, hcell i9 sv 0 = some (.int .i64 d9) ∧ hcell i9 sv 1 = some (.bool k0) ∧ hcell i9 sv 2 = some (.int .u64 c6) ∧ hcell i9 sv 3 = some (.int .u64 b5) ∧ hcell i9 sv 4 = some (.int .i64 c1) ∧ hcell i9 sv 5 = some (.slice f6 d2 d1) ∧ hcell i9 sv 6 = some (.int .i64 g6) ∧ hcell i9 sv 7 = some (.int .i64 f4) ∧ hcell i9 sv 8 = some (.bool i0) ∧ (HWs i9 nb 0 9 ∧ ∀ j5, j5 = hsets i9 nb 0 [(.int .i64 d9), (.bool k0), (.int .u64 c6), (.int .u64 b5), (.int .i64 c1), (.slice f6 d2 d1), (.int .i64 g6), (.int .i64 f4), (.bool i0)] → (∃ a9 : Int, ∃ b2 : Bool, ∃ a2 a0 a1 : Int, ∃ a5 : Option Addr, ∃ a4 a3 : Nat, ∃ a8 a6 : Int, ∃ b0 : Bool, hcell j5 nb 0 = some (.int .i64 a9) ∧ hcell j5 nb 1 = some (.bool b2) ∧ hcell j5 nb 2 = some (.int .u64 a2) ∧ hcell j5 nb 3 = some (.int .u64 a0) ∧ hcell j5 nb 4 = some (.int .i64 a1) ∧ hcell j5 nb 5 = some (.slice a5 a4 a3) ∧ hcell j5 nb 6 = some (.int .i64 a8) ∧ hcell j5 nb 7 = some (.int .i64 a6) ∧ hcell j5 nb 8 = some (.bool b0) ∧ (∀ x4, Shut' (Array.size h) j5 x4 → R (.tuple #[(.agg #[(.int .i64 a9), (.bool b2), (.int .u64 a2), (.int .u64 a0), (.int .i64 a1), (.slice a5 a4 a3), (.int .i64 a8), (.int .i64 a6), (.bool b0)]), (.int .i64 0)]) x4)))))))))))))))))))))))))))))))))))))))) :
  HC Tryd.prog 12 #[(.agg #[(.int .i64 l0), (.int .i64 k1), (.int .i64 i6), (.int .i64 j8)]), (.int .i64 a7), (.slice d7 b1 b6)] h R := by
 refine hc_ofM (args := [(.agg #[(.int .i64 l0), (.int .i64 k1), (.int .i64 i6), (.int .i64 j8)]), (.int .i64 a7), (.slice d7 b1 b6)]) Tryd.func12 rfl Tryd.ntmps12 (Nat.le_of_ble_eq_true rfl) ?_
 refine xs (xr ?_)
 refine lp rfl rfl (hn_box (v := (.agg #[(.int .i64 l0), (.int .i64 k1), (.int .i64 i6), (.int .i64 j8)])) rfl ?_)
 intro g h1 eb1 x2
 replace H := H g h1 eb1 x2
 have xx3 := ext_pushed_f64_sh x2
 refine lp rfl rfl (hn_alloc TyTC.z36 ?_)
 intro nb h2 eb4 x5
 replace H := H nb h2 eb4 x5
 have xx6 := ext_pushed_f64_sh x5
 refine lv rfl rfl (va rfl) ?_
 refine ln (qn (xs (xr ?_)))
 obtain ⟨j2, i2, e6, i3, hc7, hc8, hc9, a33, H⟩ := H
 refine lv rfl rfl (vL (vs := [(.int .i64 j2), (.int .i64 i2), (.int .i64 e6), (.int .i64 i3)]) TyTC.agg24 TyTC.sz24 rfl (cc hc7 (cc hc8 (cc hc9 (cc a33 cn))))) ?_
 refine lp rfl rfl (sc TyTC.cb31 rfl (HC.mono H ?_))
 rintro _ h3 ⟨a67, r0, r1, r2, rfl, H⟩
 refine lv rfl rfl (vm rfl) (lv rfl rfl (vx rfl rfl) (lv rfl rfl (vx rfl rfl) (lv rfl rfl (vx rfl rfl) (lv rfl rfl (va rfl) (lv rfl rfl (va rfl) ?_)))))
 refine lv rfl rfl (va rfl) ?_
 refine ln (qn (xs (xb (xs (xr ?_)))))
 refine lv rfl rfl (vm rfl) (lv rfl rfl (vr rfl rfl rfl) (lv rfl rfl (va rfl) ?_))
 refine ln (qn ?_)
 refine xc (b := r2 != 0) rfl (fun n7 => ?_) (fun n7 => ?_)
 ·replace H := H.1 n7
  refine xs (xr ?_)
  refine lv rfl rfl (v := (.agg #[(.int .i64 0), (.bool false), (.int .u64 0), (.int .u64 0), (.int .i64 0), (.slice none 0 0), (.int .i64 0), (.int .i64 0), (.bool false)])) (vb (vs := []) (cs := #[(.int .i64 0), (.bool false), (.int .u64 0), (.int .u64 0), (.int .i64 0), (.slice none 0 0), (.int .i64 0), (.int .i64 0), (.bool false)]) TyTC.z36 TyTC.pl36 rfl (by kernel_rfl)) (lv rfl rfl (vm rfl) ?_)
  obtain ⟨a24, H⟩ := H
  refine lp rfl rfl (hn_stores (vs := [(.int .i64 0), (.bool false), (.int .u64 0), (.int .u64 0), (.int .i64 0), (.slice none 0 0), (.int .i64 0), (.int .i64 0), (.bool false)]) rfl rfl TyTC.sz36 rfl a24 ?_)
  intro h4 a41
  replace H := H h4 a41
  refine lv rfl rfl (va rfl) ?_
  refine ln (qn (xt (br (qr ?_))))
  obtain ⟨a9, b2, a2, a0, a1, a5, a4, a3, a8, a6, b0, a10, a45, a51, a13, z5, z2, a12, z6, a16, H⟩ := H
  exact endQM_ret _ (fun h' hs => ⟨res_two Tryd.results12 (rv_cell (vs := [(.int .i64 a9), (.bool b2), (.int .u64 a2), (.int .u64 a0), (.int .i64 a1), (.slice a5 a4 a3), (.int .i64 a8), (.int .i64 a6), (.bool b0)]) TyTC.agg36 TyTC.sz36 rfl (cc (shut_cell hs a10) (cc (shut_cell hs a45) (cc (shut_cell hs a51) (cc (shut_cell hs a13) (cc (shut_cell hs z5) (cc (shut_cell hs z2) (cc (shut_cell hs a12) (cc (shut_cell hs z6) (cc (shut_cell hs a16) cn)))))))))) (rv_tmp rfl), H h' hs⟩)
 ·replace H := H.2 n7
  obtain ⟨j, o2, n9⟩ := H
  refine xk (fun ρ h' => h3 = h' ∧ Has ρ [(1, (.int .i64 a7)), (2, (.slice d7 b1 b6)), (3, (ptr g 0)), (6, (ptr nb 0)), (7, (.int .i64 0)), (28, (.bool j))]) ?_ ?_
  ·have H := o2; clear o2 n9
   refine xr ?_
   refine lv rfl rfl (vm rfl) (lv rfl rfl (vr rfl rfl rfl) (lv rfl rfl (vm rfl) ?_))
   rcases bool_or (decide (a7 < 0)) with g2 | g2
   ·replace H := H.1 g2
    refine lo (wanted_n rfl rfl rfl g2) rfl ?_
    refine lo (wanted_n rfl rfl rfl g2) rfl ?_
    refine lo (wanted_n rfl rfl rfl g2) rfl ?_
    refine lo (wanted_n rfl rfl rfl g2) rfl ?_
    refine lv rfl rfl (v := (.bool true)) (hv_pick_t rfl g2 rfl) (lv rfl rfl (vm rfl) ?_)
    refine lo (wanted_n rfl rfl (c := true) rfl rfl) rfl ?_
    refine lo (wanted_n rfl rfl (c := true) rfl rfl) rfl ?_
    refine lo (wanted_n rfl rfl (c := true) rfl rfl) rfl ?_
    refine lo (wanted_n rfl rfl (c := true) rfl rfl) rfl ?_
    refine lv rfl rfl (v := (.bool true)) (hv_pick (t := true) rfl rfl) (lv rfl rfl (va rfl) ?_)
    refine ln (qn ?_)
    obtain rfl := H
    exact ⟨rfl, (hc rfl (hc rfl (hc rfl (hc rfl (hc rfl (hc rfl hn))))))⟩
   ·replace H := H.2 g2
    refine ly (wanted_y rfl rfl rfl g2) rfl (HStep.of_val (v := (.int .i64 a7)) (vm rfl) ?_)
    refine ly (wanted_y rfl rfl rfl g2) rfl (HStep.of_val (v := (ptr g 2)) (vf TyTC.fld24_2 (b := g) (o := 0) rfl) ?_)
    obtain ⟨x, x6, H⟩ := H
    refine ly (wanted_y rfl rfl rfl g2) rfl (HStep.of_val (v := (.int .i64 x)) (vl TyTC.agg3 rfl x6) ?_)
    refine ly (wanted_y rfl rfl rfl g2) rfl (HStep.of_val (v := (.bool (decide (a7 ≥ x)))) (vr rfl rfl rfl) ?_)
    refine lv rfl rfl (v := (.bool (decide (a7 ≥ x)))) (hv_pick_f rfl g2 rfl) (lv rfl rfl (vm rfl) ?_)
    rcases bool_or (decide (a7 ≥ x)) with g9 | g9
    ·replace H := H.1 g9
     refine lo (wanted_n rfl rfl rfl g9) rfl ?_
     refine lo (wanted_n rfl rfl rfl g9) rfl ?_
     refine lo (wanted_n rfl rfl rfl g9) rfl ?_
     refine lo (wanted_n rfl rfl rfl g9) rfl ?_
     refine lv rfl rfl (v := (.bool true)) (hv_pick_t rfl g9 rfl) (lv rfl rfl (va rfl) ?_)
     refine ln (qn ?_)
     obtain rfl := H
     exact ⟨rfl, (hc rfl (hc rfl (hc rfl (hc rfl (hc rfl (hc rfl hn))))))⟩
    ·replace H := H.2 g9
     refine ly (wanted_y rfl rfl rfl g9) rfl (HStep.of_val (v := (.int .i64 r0)) (vm rfl) ?_)
     refine ly (wanted_y rfl rfl rfl g9) rfl (HStep.of_val (v := (.slice d7 b1 b6)) (vm rfl) ?_)
     refine ly (wanted_y rfl rfl rfl g9) rfl (HStep.of_val (v := (.int .i64 (b1 : Int))) (hv_len (n := b1) TyTC.u25 rfl) ?_)
     refine ly (wanted_y rfl rfl rfl g9) rfl (HStep.of_val (v := (.bool (r0 != (b1 : Int)))) (vr rfl rfl rfl) ?_)
     refine lv rfl rfl (v := (.bool (r0 != (b1 : Int)))) (hv_pick_f rfl g9 rfl) (lv rfl rfl (va rfl) ?_)
     refine ln (qn ?_)
     obtain rfl := H
     exact ⟨rfl, (hc rfl (hc rfl (hc rfl (hc rfl (hc rfl (hc rfl hn))))))⟩
  ·have H := n9; clear o2 n9
   rintro ρ _ ⟨rfl, hH⟩
   refine xh _ hH ?_
   refine xc (b := j) rfl (fun n8 => ?_) (fun n8 => ?_)
   ·replace H := H.1 n8
    refine xs (xr ?_)
    refine lv rfl rfl (v := (.agg #[(.int .i64 0), (.bool false), (.int .u64 0), (.int .u64 0), (.int .i64 0), (.slice none 0 0), (.int .i64 0), (.int .i64 0), (.bool false)])) (vb (vs := []) (cs := #[(.int .i64 0), (.bool false), (.int .u64 0), (.int .u64 0), (.int .i64 0), (.slice none 0 0), (.int .i64 0), (.int .i64 0), (.bool false)]) TyTC.z36 TyTC.pl36 rfl (by kernel_rfl)) ?_
    obtain ⟨a50, H⟩ := H
    refine lp rfl rfl (hn_stores (vs := [(.int .i64 0), (.bool false), (.int .u64 0), (.int .u64 0), (.int .i64 0), (.slice none 0 0), (.int .i64 0), (.int .i64 0), (.bool false)]) rfl rfl TyTC.sz36 rfl a50 ?_)
    intro h6 a39
    replace H := H h6 a39
    refine lv rfl rfl (va rfl) ?_
    refine ln (qn (xt (br (qr ?_))))
    obtain ⟨a9, b2, a2, a0, a1, a5, a4, a3, a8, a6, b0, a37, a46, a18, y9, a38, y2, a22, a44, a28, H⟩ := H
    exact endQM_ret _ (fun h' hs => ⟨res_two Tryd.results12 (rv_cell (vs := [(.int .i64 a9), (.bool b2), (.int .u64 a2), (.int .u64 a0), (.int .i64 a1), (.slice a5 a4 a3), (.int .i64 a8), (.int .i64 a6), (.bool b0)]) TyTC.agg36 TyTC.sz36 rfl (cc (shut_cell hs a37) (cc (shut_cell hs a46) (cc (shut_cell hs a18) (cc (shut_cell hs y9) (cc (shut_cell hs a38) (cc (shut_cell hs y2) (cc (shut_cell hs a22) (cc (shut_cell hs a44) (cc (shut_cell hs a28) cn)))))))))) (rv_tmp rfl), H h' hs⟩)
   ·replace H := H.2 n8
    refine xi (bn (qn (xs (xr ?_))))
    obtain ⟨g1, f0, d0, f5, a36, a17, a21, y0, H⟩ := H
    refine lv rfl rfl (vL (vs := [(.int .i64 g1), (.int .i64 f0), (.int .i64 d0), (.int .i64 f5)]) TyTC.agg24 TyTC.sz24 rfl (cc a36 (cc a17 (cc a21 (cc y0 cn))))) (lv rfl rfl (vm rfl) ?_)
    refine lp rfl rfl (sc TyTC.cb32 rfl (HC.mono H ?_))
    rintro _ h8 ⟨a64, d8, b9, c7, g7, rfl, H⟩
    refine lv rfl rfl (vm rfl) (lv rfl rfl (vx rfl rfl) (lv rfl rfl (vx rfl rfl) ?_))
    refine lp rfl rfl (hn_alloc TyTC.z31 ?_)
    intro hv h9 y3 p6
    replace H := H hv h9 y3 p6
    have a68 := ext_pushed_f64_sh p6
    obtain ⟨z8, H⟩ := H
    refine lp rfl rfl (hn_stores (vs := [(.int .u64 d8), (.int .u64 b9), (.int .i64 c7)]) rfl rfl TyTC.sz31 rfl z8 ?_)
    intro j3 a35
    replace H := H j3 a35
    refine lv rfl rfl (va rfl) ?_
    refine ln (qn (xs ?_))
    obtain ⟨l4, o0, o1⟩ := H
    refine xk (fun ρ h' => j3 = h' ∧ Has ρ [(1, (.int .i64 a7)), (2, (.slice d7 b1 b6)), (3, (ptr g 0)), (6, (ptr nb 0)), (7, (.int .i64 0)), (11, (ptr hv 0)), (57, (.bool l4))]) ?_ ?_
    ·have H := o0; clear o0 o1
     refine xr ?_
     refine lv rfl rfl (vm rfl) (lv rfl rfl (vr rfl rfl rfl) (lv rfl rfl (vm rfl) ?_))
     rcases bool_or (g7 != 0) with g5 | g5
     ·replace H := H.1 g5
      refine lo (wanted_n rfl rfl rfl g5) rfl ?_
      refine lo (wanted_n rfl rfl rfl g5) rfl ?_
      refine lo (wanted_n rfl rfl rfl g5) rfl ?_
      refine lo (wanted_n rfl rfl rfl g5) rfl ?_
      refine lv rfl rfl (v := (.bool true)) (hv_pick_t rfl g5 rfl) ?_
      refine ln (qn ?_)
      obtain rfl := H
      exact ⟨rfl, (hc rfl (hc rfl (hc rfl (hc rfl (hc rfl (hc rfl (hc rfl hn)))))))⟩
     ·replace H := H.2 g5
      refine ly (wanted_y rfl rfl rfl g5) rfl (HStep.of_val (v := (ptr hv 2)) (vf TyTC.fld31_2 (b := hv) (o := 0) rfl) ?_)
      obtain ⟨m1, z1, H⟩ := H
      refine ly (wanted_y rfl rfl rfl g5) rfl (HStep.of_val (v := (.int .i64 m1)) (vl TyTC.agg3 rfl z1) ?_)
      refine ly (wanted_y rfl rfl rfl g5) rfl (HStep.of_val (v := (.int .i64 a7)) (vm rfl) ?_)
      refine ly (wanted_y rfl rfl rfl g5) rfl (HStep.of_val (v := (.bool (m1 != a7))) (vr rfl rfl rfl) ?_)
      refine lv rfl rfl (v := (.bool (m1 != a7))) (hv_pick_f rfl g5 rfl) ?_
      refine ln (qn ?_)
      obtain rfl := H
      exact ⟨rfl, (hc rfl (hc rfl (hc rfl (hc rfl (hc rfl (hc rfl (hc rfl hn)))))))⟩
    ·have H := o1; clear o0 o1
     rintro ρ _ ⟨rfl, hH⟩
     refine xh _ hH ?_
     refine xc (b := l4) rfl (fun o3 => ?_) (fun o3 => ?_)
     ·replace H := H.1 o3
      refine xs (xr ?_)
      refine lv rfl rfl (vm rfl) (lv rfl rfl (v := (.agg #[(.int .i64 0), (.int .i64 1)])) (vb (vs := [(1, (.int .i64 1))]) (cs := #[(.int .i64 0), (.int .i64 1)]) TyTC.z34 TyTC.pl34 rfl (by kernel_rfl)) (lv rfl rfl (v := (.agg #[(.int .i64 a7), (.bool false), (.int .u64 0), (.int .u64 0), (.int .i64 0), (.slice none 0 0), (.int .i64 0), (.int .i64 1), (.bool false)])) (vb (vs := [(0, (.int .i64 a7)), (4, (.agg #[(.int .i64 0), (.int .i64 1)]))]) (cs := #[(.int .i64 a7), (.bool false), (.int .u64 0), (.int .u64 0), (.int .i64 0), (.slice none 0 0), (.int .i64 0), (.int .i64 1), (.bool false)]) TyTC.z36 TyTC.pl36 rfl (by kernel_rfl)) ?_))
      obtain ⟨a52, H⟩ := H
      refine lp rfl rfl (hn_stores (vs := [(.int .i64 a7), (.bool false), (.int .u64 0), (.int .u64 0), (.int .i64 0), (.slice none 0 0), (.int .i64 0), (.int .i64 1), (.bool false)]) rfl rfl TyTC.sz36 rfl a52 ?_)
      intro j4 a40
      replace H := H j4 a40
      refine lv rfl rfl (va rfl) ?_
      refine ln (qn (xt (qr ?_)))
      obtain ⟨a9, b2, a2, a0, a1, a5, a4, a3, a8, a6, b0, y1, a20, x8, x7, a27, a15, a47, a43, y5, H⟩ := H
      exact endQM_ret _ (fun h' hs => ⟨res_two Tryd.results12 (rv_cell (vs := [(.int .i64 a9), (.bool b2), (.int .u64 a2), (.int .u64 a0), (.int .i64 a1), (.slice a5 a4 a3), (.int .i64 a8), (.int .i64 a6), (.bool b0)]) TyTC.agg36 TyTC.sz36 rfl (cc (shut_cell hs y1) (cc (shut_cell hs a20) (cc (shut_cell hs x8) (cc (shut_cell hs x7) (cc (shut_cell hs a27) (cc (shut_cell hs a15) (cc (shut_cell hs a47) (cc (shut_cell hs a43) (cc (shut_cell hs y5) cn)))))))))) (rv_tmp rfl), H h' hs⟩)
     ·replace H := H.2 o3
      refine xi (qn (xs (xr ?_)))
      refine lv rfl rfl (vm rfl) ?_
      obtain ⟨e1, b8, c9, a49, y8, y6, H⟩ := H
      refine lv rfl rfl (vL (vs := [(.int .u64 e1), (.int .u64 b8), (.int .i64 c9)]) TyTC.agg31 TyTC.sz31 rfl (cc a49 (cc y8 (cc y6 cn)))) (lv rfl rfl (v := (.agg #[(.int .i64 a7), (.bool true), (.int .u64 e1), (.int .u64 b8), (.int .i64 c9), (.slice none 0 0), (.int .i64 0), (.int .i64 0), (.bool false)])) (vb (vs := [(0, (.int .i64 a7)), (1, (.bool true)), (2, (.agg #[(.int .u64 e1), (.int .u64 b8), (.int .i64 c9)]))]) (cs := #[(.int .i64 a7), (.bool true), (.int .u64 e1), (.int .u64 b8), (.int .i64 c9), (.slice none 0 0), (.int .i64 0), (.int .i64 0), (.bool false)]) TyTC.z36 TyTC.pl36 rfl (by kernel_rfl)) ?_)
      refine lp rfl rfl (hn_alloc TyTC.z36 ?_)
      intro sv m3 a19 p7
      replace H := H sv m3 a19 p7
      have a65 := ext_pushed_f64_sh p7
      obtain ⟨y4, H⟩ := H
      refine lp rfl rfl (hn_stores (vs := [(.int .i64 a7), (.bool true), (.int .u64 e1), (.int .u64 b8), (.int .i64 c9), (.slice none 0 0), (.int .i64 0), (.int .i64 0), (.bool false)]) rfl rfl TyTC.sz36 rfl y4 ?_)
      intro k9 a29
      replace H := H k9 a29
      refine ln (qn (xs (xr ?_)))
      obtain ⟨g8, e9, d5, f3, a23, y7, z7, a30, H⟩ := H
      refine lv rfl rfl (vL (vs := [(.int .i64 g8), (.int .i64 e9), (.int .i64 d5), (.int .i64 f3)]) TyTC.agg24 TyTC.sz24 rfl (cc a23 (cc y7 (cc z7 (cc a30 cn))))) ?_
      refine lp rfl rfl (sc TyTC.cb33 rfl (HC.mono H ?_))
      rintro _ n2 ⟨a66, j7, k5, rfl, H⟩
      refine lv rfl rfl (vm rfl) (lv rfl rfl (vx rfl rfl) (lv rfl rfl (vx rfl rfl) ?_))
      refine lp rfl rfl (hn_alloc TyTC.z3 ?_)
      intro j6 m4 a11 q2
      replace H := H j6 m4 a11 q2
      have a63 := ext_pushed_f64_sh q2
      obtain ⟨a25, H⟩ := H
      refine lp rfl rfl (hn_store (v := (.int .i64 j7)) rfl rfl TyTC.sz3 rfl a25 ?_)
      intro l1 a53
      replace H := H l1 a53
      refine lv rfl rfl (va rfl) ?_
      refine ln (qn (xs (xs (xr ?_))))
      obtain ⟨g4, e8, d4, f7, a48, a26, z3, x9, H⟩ := H
      refine lv rfl rfl (vL (vs := [(.int .i64 g4), (.int .i64 e8), (.int .i64 d4), (.int .i64 f7)]) TyTC.agg24 TyTC.sz24 rfl (cc a48 (cc a26 (cc z3 (cc x9 cn))))) (lv rfl rfl (vm rfl) (lv rfl rfl (v := (ptr sv 6)) (vf TyTC.fld36_4 (b := sv) (o := 0) rfl) ?_))
      refine lp rfl rfl (sc TyTC.cb34 rfl (HC.mono H ?_))
      rintro r p2 ⟨_, rfl, H⟩
      refine ln (qn (xb ?_))
      refine hx_range rfl rfl rfl (fun l7 l z0 a34 z9 a31 => ?_)
      refine HCF.mono (H (fun st p h => LoopAt h l _ _ _ _ _ st p) l l7 _ (fun s p h h' k e => k.same e) z0 a34 z9 a31 ?_) ?_
      ·intro j0 i7 j9 e0 c5 e3 d6 m0 q1 a32 H
       refine hcv_yield a32 rfl rfl ?_
       refine xr ?_
       refine lp rfl rfl (hn_alloc TyTC.z45 ?_)
       intro f m2 u1 o6
       replace H := H f m2 u1 o6
       have a60 := ext_pushed_f64_sh o6
       obtain ⟨t0, H⟩ := H
       refine lp rfl rfl (hn_stores (vs := [(.int .i64 j0), (.int .i64 i7), (.int .i64 j9), (.int .i64 e0), (.int .u64 c5), (.string e3), (.string d6)]) rfl rfl TyTC.sz45 rfl t0 ?_)
       intro n5 s0
       replace H := H n5 s0
       refine ln ?_
       obtain ⟨t4, H⟩ := H
       refine ⟨rfl, t4, ?_⟩
       intro i5 u4 r8
       replace H := H i5 u4 r8
       refine xb (xs (xr ?_))
       refine lv rfl rfl (v := (ptr sv 5)) (vf TyTC.fld36_3 (b := sv) (o := 0) rfl) ?_
       obtain ⟨o8, o5, p4, t2, H⟩ := H
       refine lv rfl rfl (vl TyTC.agg32 rfl t2) ?_
       obtain ⟨c8, e4, i4, b7, b3, c0, b4, r9, r7, q8, u5, t7, v2, v1, H⟩ := H
       refine lv rfl rfl (vL (vs := [(.int .i64 c8), (.int .i64 e4), (.int .i64 i4), (.int .i64 b7), (.int .u64 b3), (.string c0), (.string b4)]) TyTC.agg45 TyTC.sz45 rfl (cc r9 (cc r7 (cc q8 (cc u5 (cc t7 (cc v2 (cc v1 cn)))))))) ?_
       refine lp rfl rfl (hn_buildSlice (n := 1) (vs := [(0, (.agg #[(.int .i64 c8), (.int .i64 e4), (.int .i64 i4), (.int .i64 b7), (.int .u64 b3), (.string c0), (.string b4)]))]) (cs := #[(.int .i64 c8), (.int .i64 e4), (.int .i64 i4), (.int .i64 b7), (.int .u64 b3), (.string c0), (.string b4)]) TyTC.u32 TyTC.sz45 TyTC.z45 rfl rfl (by kernel_rfl) ?_)
       intro n0 n3 w6 o9
       replace H := H n0 n3 w6 o9
       have a59 := ext_pushed_f64_sh o9
       refine lp rfl rfl (hs_append rfl rfl (HAppend.mono H ?_))
       rintro _ q0 ⟨ap, m9, m7, rfl, H⟩
       refine lv rfl rfl (v := (ptr sv 5)) (vf TyTC.fld36_3 (b := sv) (o := 0) rfl) ?_
       obtain ⟨v5, H⟩ := H
       refine lp rfl rfl (hn_store (v := (.slice ap m9 m7)) rfl rfl TyTC.sz32 rfl v5 ?_)
       intro l3 v6
       replace H := H l3 v6
       refine ln (qn (xr ?_))
       refine lv rfl rfl (v := (ptr f 1)) (vf TyTC.fld45_1 (b := f) (o := 0) rfl) ?_
       obtain ⟨l6, w2, H⟩ := H
       refine lv rfl rfl (vl TyTC.agg3 rfl w2) (lv rfl rfl (v := (ptr f 2)) (vf TyTC.fld45_2 (b := f) (o := 0) rfl) ?_)
       obtain ⟨l9, t9, H⟩ := H
       refine lv rfl rfl (vl TyTC.agg3 rfl t9) (lv rfl rfl (vr rfl rfl rfl) ?_)
       obtain ⟨u8, H⟩ := H
       refine lp rfl rfl (hn_store (v := (.int .i64 (IntKind.i64.wrap (l6 + l9)))) rfl rfl TyTC.sz3 rfl u8 ?_)
       intro n1 u2
       replace H := H n1 u2
       refine ln (bn ?_)
       exact H
      ·rintro _ q3 ⟨st, l2, a42, v0, H⟩
       refine ⟨st, l2, a42, v0, ?_⟩
       intro k2 z4 a14
       replace H := H k2 z4 a14
       obtain ⟨rfl, H⟩ := H
       refine jumpQ_n ?_
       refine bn (qn (xs (xr ?_)))
       obtain ⟨g0, f2, d3, f1, s6, w9, s7, t6, H⟩ := H
       refine lv rfl rfl (vL (vs := [(.int .i64 g0), (.int .i64 f2), (.int .i64 d3), (.int .i64 f1)]) TyTC.agg24 TyTC.sz24 rfl (cc s6 (cc w9 (cc s7 (cc t6 cn))))) (lv rfl rfl (vm rfl) ?_)
       refine lp rfl rfl (sc TyTC.cb35 rfl (HC.mono H ?_))
       rintro _ n4 ⟨a61, c2, e5, e7, i1, g3, rfl, H⟩
       refine lv rfl rfl (vm rfl) (lv rfl rfl (vx rfl rfl) (lv rfl rfl (vx rfl rfl) ?_))
       refine lp rfl rfl (hn_alloc TyTC.z88 ?_)
       intro i8 l8 q9 p3
       replace H := H i8 l8 q9 p3
       have a62 := ext_pushed_f64_sh p3
       obtain ⟨t1, H⟩ := H
       refine lp rfl rfl (hn_stores (vs := [(.int .i64 c2), (.int .i64 e5), (.int .u32 e7), (.int .u32 i1)]) rfl rfl TyTC.sz88 rfl t1 ?_)
       intro f9 u3
       replace H := H f9 u3
       refine lv rfl rfl (va rfl) ?_
       refine ln (qn ?_)
       obtain ⟨k3, m5, m6⟩ := H
       refine xk (fun ρ h' => (k3 h' ∧ True) ∧ Has ρ [(6, (ptr nb 0)), (12, (ptr sv 0))]) ?_ ?_
       ·have H := m5; clear m5 m6
        refine hx_draw TyTC.mixed [.pure, .pure, .pure, .pure, .read, .pure, .read, .read, .pure, .pure, .pure, .pure, .read, .pure, .read, .pure, .pure, .pure, .pure, .pure, .read, .read, .pure, .pure, .pure, .wild] [0, 1, 2, 3, 4, 5, 6, 7, 8, 9, 10, 11, 12, 13, 14, 15, 16, 17, 18, 19, 20, 21, 22, 23, 24, 25] (by kernel_rfl) ?_
        refine pp (i := 0) rfl (wanted_0 rfl) rfl (.int .i64 g3) (fun _ => vm rfl) ?_
        refine pp (i := 1) rfl (wanted_0 rfl) rfl (.bool (g3 == 0)) (fun _ => vr rfl rfl rfl) ?_
        refine pp (i := 2) rfl (wanted_0 rfl) rfl (.bool (g3 == 0)) (fun _ => vm rfl) ?_
        rcases bool_or (g3 == 0) with c3 | c3
        ·replace H := H.1 c3
         refine pp (i := 3) rfl (wanted_y rfl rfl rfl c3) rfl (ptr i8 2) (fun _ => vf TyTC.fld88_2 (b := i8) (o := 0) rfl) ?_
         obtain ⟨k6, u9, H⟩ := H
         refine pr (i := 4) rfl (wanted_y rfl rfl rfl c3) rfl (.int .u32 k6) (fun _ he => vl TyTC.agg86 rfl (Ext.cell he u9)) ?_
         refine pp (i := 5) rfl (wanted_y rfl rfl rfl c3) rfl (ptr hv 1) (fun _ => vf TyTC.fld31_1 (b := hv) (o := 0) rfl) ?_
         obtain ⟨n6, s8, H⟩ := H
         refine pr (i := 6) rfl (wanted_y rfl rfl rfl c3) rfl (.int .u64 n6) (fun _ he => vl TyTC.agg29 rfl (Ext.cell he s8)) ?_
         obtain ⟨k7, r5, H⟩ := H
         refine pr (i := 7) rfl (wanted_y rfl rfl rfl c3) rfl (.int .u32 k7) (fun _ he => hv_call TyTC.cb36 (vs := [(.int .u64 n6)]) rfl (r5 _ he)) ?_
         refine pp (i := 8) rfl (wanted_y rfl rfl rfl c3) rfl (.bool (k6 == k7)) (fun _ => vr rfl rfl rfl) ?_
         refine pp (i := 9) rfl (wanted_0 rfl) rfl (.bool (k6 == k7)) (fun _ => hv_pick_t rfl c3 rfl) ?_
         refine pp (i := 10) rfl (wanted_0 rfl) rfl (.bool (k6 == k7)) (fun _ => vm rfl) ?_
         rcases bool_or (k6 == k7) with c4 | c4
         ·replace H := H.1 c4
          refine pp (i := 11) rfl (wanted_y rfl rfl rfl c4) rfl (ptr i8 0) (fun _ => vf TyTC.fld88_0 (b := i8) (o := 0) rfl) ?_
          obtain ⟨k8, q4, H⟩ := H
          refine pr (i := 12) rfl (wanted_y rfl rfl rfl c4) rfl (.int .i64 k8) (fun _ he => vl TyTC.agg3 rfl (Ext.cell he q4)) ?_
          refine pp (i := 13) rfl (wanted_y rfl rfl rfl c4) rfl (ptr sv 5) (fun _ => vf TyTC.fld36_3 (b := sv) (o := 0) rfl) ?_
          obtain ⟨p9, f8, m8, t3, H⟩ := H
          refine pr (i := 14) rfl (wanted_y rfl rfl rfl c4) rfl (.slice p9 f8 m8) (fun _ he => vl TyTC.agg32 rfl (Ext.cell he t3)) ?_
          refine pp (i := 15) rfl (wanted_y rfl rfl rfl c4) rfl (.int .i64 (f8 : Int)) (fun _ => hv_len (n := f8) TyTC.u32 rfl) ?_
          refine pp (i := 16) rfl (wanted_y rfl rfl rfl c4) rfl (.bool (k8 == (f8 : Int))) (fun _ => vr rfl rfl rfl) ?_
          refine pp (i := 17) rfl (wanted_0 rfl) rfl (.bool (k8 == (f8 : Int))) (fun _ => hv_pick_t rfl c4 rfl) ?_
          refine pp (i := 18) rfl (wanted_0 rfl) rfl (.bool (k8 == (f8 : Int))) (fun _ => vm rfl) ?_
          rcases bool_or (k8 == (f8 : Int)) with e2 | e2
          ·replace H := H.1 e2
           refine pp (i := 19) rfl (wanted_y rfl rfl rfl e2) rfl (ptr i8 1) (fun _ => vf TyTC.fld88_1 (b := i8) (o := 0) rfl) ?_
           obtain ⟨l5, u7, H⟩ := H
           refine pr (i := 20) rfl (wanted_y rfl rfl rfl e2) rfl (.int .i64 l5) (fun _ he => vl TyTC.agg3 rfl (Ext.cell he u7)) ?_
           obtain ⟨k4, w8, H⟩ := H
           refine pr (i := 21) rfl (wanted_y rfl rfl rfl e2) rfl (.int .i64 k4) (fun _ he => vl TyTC.agg3 rfl (Ext.cell he w8)) ?_
           refine pp (i := 22) rfl (wanted_y rfl rfl rfl e2) rfl (.bool (l5 == k4)) (fun _ => vr rfl rfl rfl) ?_
           refine pp (i := 23) rfl (wanted_0 rfl) rfl (.bool (l5 == k4)) (fun _ => hv_pick_t rfl e2 rfl) ?_
           refine pp (i := 24) rfl (wanted_0 rfl) rfl (ptr sv 8) (fun _ => vf TyTC.fld36_5 (b := sv) (o := 0) rfl) ?_
           obtain ⟨t5, H⟩ := H
           refine hp_wild (i := 25) rfl (wanted_0 rfl) rfl (hn_store (v := (.bool (l5 == k4))) rfl rfl TyTC.sz4 rfl t5 ?_)
           intro o4 q7
           replace H := H o4 q7
           refine hp_nil ?_
           refine qn ?_
           exact ⟨⟨H, trivial⟩, (hc rfl (hc rfl hn))⟩
          ·replace H := H.2 e2
           refine pn (i := 19) rfl (wanted_n rfl rfl rfl e2) ?_
           refine pn (i := 20) rfl (wanted_n rfl rfl rfl e2) ?_
           refine pn (i := 21) rfl (wanted_n rfl rfl rfl e2) ?_
           refine pn (i := 22) rfl (wanted_n rfl rfl rfl e2) ?_
           refine pp (i := 23) rfl (wanted_0 rfl) rfl (.bool false) (fun _ => hv_pick_f rfl e2 rfl) ?_
           refine pp (i := 24) rfl (wanted_0 rfl) rfl (ptr sv 8) (fun _ => vf TyTC.fld36_5 (b := sv) (o := 0) rfl) ?_
           obtain ⟨s4, H⟩ := H
           refine hp_wild (i := 25) rfl (wanted_0 rfl) rfl (hn_store (v := (.bool false)) rfl rfl TyTC.sz4 rfl s4 ?_)
           intro p0 t8
           replace H := H p0 t8
           refine hp_nil ?_
           refine qn ?_
           exact ⟨⟨H, trivial⟩, (hc rfl (hc rfl hn))⟩
         ·replace H := H.2 c4
          refine pn (i := 11) rfl (wanted_n rfl rfl rfl c4) ?_
          refine pn (i := 12) rfl (wanted_n rfl rfl rfl c4) ?_
          refine pn (i := 13) rfl (wanted_n rfl rfl rfl c4) ?_
          refine pn (i := 14) rfl (wanted_n rfl rfl rfl c4) ?_
          refine pn (i := 15) rfl (wanted_n rfl rfl rfl c4) ?_
          refine pn (i := 16) rfl (wanted_n rfl rfl rfl c4) ?_
          refine pp (i := 17) rfl (wanted_0 rfl) rfl (.bool false) (fun _ => hv_pick_f rfl c4 rfl) ?_
          refine pp (i := 18) rfl (wanted_0 rfl) rfl (.bool false) (fun _ => vm rfl) ?_
          refine pn (i := 19) rfl (wanted_n rfl rfl (c := false) rfl rfl) ?_
          refine pn (i := 20) rfl (wanted_n rfl rfl (c := false) rfl rfl) ?_
          refine pn (i := 21) rfl (wanted_n rfl rfl (c := false) rfl rfl) ?_
          refine pn (i := 22) rfl (wanted_n rfl rfl (c := false) rfl rfl) ?_
          refine pp (i := 23) rfl (wanted_0 rfl) rfl (.bool false) (fun _ => hv_pick (t := false) rfl rfl) ?_
          refine pp (i := 24) rfl (wanted_0 rfl) rfl (ptr sv 8) (fun _ => vf TyTC.fld36_5 (b := sv) (o := 0) rfl) ?_
          obtain ⟨x1, H⟩ := H
          refine hp_wild (i := 25) rfl (wanted_0 rfl) rfl (hn_store (v := (.bool false)) rfl rfl TyTC.sz4 rfl x1 ?_)
          intro p1 v8
          replace H := H p1 v8
          refine hp_nil ?_
          refine qn ?_
          exact ⟨⟨H, trivial⟩, (hc rfl (hc rfl hn))⟩
        ·replace H := H.2 c3
         refine pn (i := 3) rfl (wanted_n rfl rfl rfl c3) ?_
         refine pn (i := 4) rfl (wanted_n rfl rfl rfl c3) ?_
         refine pn (i := 5) rfl (wanted_n rfl rfl rfl c3) ?_
         refine pn (i := 6) rfl (wanted_n rfl rfl rfl c3) ?_
         refine pn (i := 7) rfl (wanted_n rfl rfl rfl c3) ?_
         refine pn (i := 8) rfl (wanted_n rfl rfl rfl c3) ?_
         refine pp (i := 9) rfl (wanted_0 rfl) rfl (.bool false) (fun _ => hv_pick_f rfl c3 rfl) ?_
         refine pp (i := 10) rfl (wanted_0 rfl) rfl (.bool false) (fun _ => vm rfl) ?_
         refine pn (i := 11) rfl (wanted_n rfl rfl (c := false) rfl rfl) ?_
         refine pn (i := 12) rfl (wanted_n rfl rfl (c := false) rfl rfl) ?_
         refine pn (i := 13) rfl (wanted_n rfl rfl (c := false) rfl rfl) ?_
         refine pn (i := 14) rfl (wanted_n rfl rfl (c := false) rfl rfl) ?_
         refine pn (i := 15) rfl (wanted_n rfl rfl (c := false) rfl rfl) ?_
         refine pn (i := 16) rfl (wanted_n rfl rfl (c := false) rfl rfl) ?_
         refine pp (i := 17) rfl (wanted_0 rfl) rfl (.bool false) (fun _ => hv_pick (t := false) rfl rfl) ?_
         refine pp (i := 18) rfl (wanted_0 rfl) rfl (.bool false) (fun _ => vm rfl) ?_
         refine pn (i := 19) rfl (wanted_n rfl rfl (c := false) rfl rfl) ?_
         refine pn (i := 20) rfl (wanted_n rfl rfl (c := false) rfl rfl) ?_
         refine pn (i := 21) rfl (wanted_n rfl rfl (c := false) rfl rfl) ?_
         refine pn (i := 22) rfl (wanted_n rfl rfl (c := false) rfl rfl) ?_
         refine pp (i := 23) rfl (wanted_0 rfl) rfl (.bool false) (fun _ => hv_pick (t := false) rfl rfl) ?_
         refine pp (i := 24) rfl (wanted_0 rfl) rfl (ptr sv 8) (fun _ => vf TyTC.fld36_5 (b := sv) (o := 0) rfl) ?_
         obtain ⟨s1, H⟩ := H
         refine hp_wild (i := 25) rfl (wanted_0 rfl) rfl (hn_store (v := (.bool false)) rfl rfl TyTC.sz4 rfl s1 ?_)
         intro o7 s3
         replace H := H o7 s3
         refine hp_nil ?_
         refine qn ?_
         exact ⟨⟨H, trivial⟩, (hc rfl (hc rfl hn))⟩
       ·rintro ρ i9 ⟨⟨w0, -⟩, hH⟩
        have H := m6 i9 w0; clear m5 m6
        refine xh _ hH ?_
        refine xs (xr ?_)
        obtain ⟨d9, k0, c6, b5, c1, f6, d2, d1, g6, f4, i0, w7, w5, v4, w3, u0, v9, s9, r4, w1, H⟩ := H
        refine lv rfl rfl (vL (vs := [(.int .i64 d9), (.bool k0), (.int .u64 c6), (.int .u64 b5), (.int .i64 c1), (.slice f6 d2 d1), (.int .i64 g6), (.int .i64 f4), (.bool i0)]) TyTC.agg36 TyTC.sz36 rfl (cc w7 (cc w5 (cc v4 (cc w3 (cc u0 (cc v9 (cc s9 (cc r4 (cc w1 cn)))))))))) ?_
        obtain ⟨r6, H⟩ := H
        refine lp rfl rfl (hn_stores (vs := [(.int .i64 d9), (.bool k0), (.int .u64 c6), (.int .u64 b5), (.int .i64 c1), (.slice f6 d2 d1), (.int .i64 g6), (.int .i64 f4), (.bool i0)]) rfl rfl TyTC.sz36 rfl r6 ?_)
        intro j5 s2
        replace H := H j5 s2
        refine lv rfl rfl (va rfl) ?_
        refine ln (qn (xt ?_))
        obtain ⟨a9, b2, a2, a0, a1, a5, a4, a3, a8, a6, b0, r3, x0, s5, w4, v3, u6, q6, v7, q5, H⟩ := H
        exact endQM_ret _ (fun h' hs => ⟨res_two Tryd.results12 (rv_cell (vs := [(.int .i64 a9), (.bool b2), (.int .u64 a2), (.int .u64 a0), (.int .i64 a1), (.slice a5 a4 a3), (.int .i64 a8), (.int .i64 a6), (.bool b0)]) TyTC.agg36 TyTC.sz36 rfl (cc (shut_cell hs r3) (cc (shut_cell hs x0) (cc (shut_cell hs s5) (cc (shut_cell hs w4) (cc (shut_cell hs v3) (cc (shut_cell hs u6) (cc (shut_cell hs q6) (cc (shut_cell hs v7) (cc (shut_cell hs q5) cn)))))))))) (rv_tmp rfl), H h' hs⟩)
theorem f10_sh  (h : Heap) (R : Value → Heap → Prop)
  (H : (∃ e7 : Option Addr → Nat → Nat → Heap → Prop, (((∀ (r : Nat) (h2 : Heap), Array.size h ≤ r → r < Array.size h2 → Ext h h2 → HC Tryd.prog 30 #[] h2 (fun vv h4 => Ext h2 h4 ∧ ∃ d1 c7 b6 c8 : Int, vv = (.agg #[(.int .i64 d1), (.int .i64 c7), (.int .i64 b6), (.int .i64 c8)]) ∧ (∀ nb h5, nb = Array.size h4 → h5 = Array.push h4 (.cells #[(.int .i64 1), (.int .u64 1), (.string (ByteArray.mk #[107])), (.string (ByteArray.mk #[118]))] 43) → HC Tryd.prog 18 #[(.agg #[(.int .i64 d1), (.int .i64 c7), (.int .i64 b6), (.int .i64 c8)]), (.agg #[(.int .u64 1), (.int .u64 5), (.int .i64 1)]), (.slice (some ⟨nb, 0, none⟩) 1 1), (.slice none 0 0)] h5 (fun vv h6 => Kp [r] h5 h6 ∧ ∃ r0 : Option Addr, ∃ c3 c4 : Nat, ∃ r1 : Option Addr, ∃ c9 d0 : Nat, vv = (.tuple #[(.slice r0 c3 c4), (.slice r1 c9 d0)]) ∧ (e7 r0 c3 c4 h6)))))) ∧ ((∀ (r : Nat) (h2 : Heap), Array.size h ≤ r → r < Array.size h2 → Ext h h2 → (∀ nb h7, nb = Array.size h2 → h7 = Array.push h2 (.cells #[(.int .i64 1), (.int .u64 1), (.string (ByteArray.mk #[107])), (.string (ByteArray.mk #[118]))] 43) → HC Tryd.prog 30 #[] h7 (fun vv h8 => Ext h7 h8 ∧ ∃ d1 c7 b6 c8 : Int, vv = (.agg #[(.int .i64 d1), (.int .i64 c7), (.int .i64 b6), (.int .i64 c8)]) ∧ HC Tryd.prog 18 #[(.agg #[(.int .i64 d1), (.int .i64 c7), (.int .i64 b6), (.int .i64 c8)]), (.agg #[(.int .u64 1), (.int .u64 5), (.int .i64 1)]), (.slice (some ⟨nb, 0, none⟩) 1 1), (.slice none 0 0)] h8 (fun vv h9 => Kp [r] h8 h9 ∧ ∃ r0 : Option Addr, ∃ c3 c4 : Nat, ∃ r1 : Option Addr, ∃ c9 d0 : Nat, vv = (.tuple #[(.slice r0 c3 c4), (.slice r1 c9 d0)]) ∧ (e7 r0 c3 c4 h9))))))) ∧ (∀ (d8 : Option Addr) (c6 : Nat) (c5 : Nat) (h3 : Heap), e7 d8 c6 c5 h3 → ∀ (r : Nat), Array.size h ≤ r → r < Array.size h3 → HC Tryd.prog 30 #[] h3 (fun vv f3 => Ext h3 f3 ∧ ∃ e2 e0 d7 d9 : Int, vv = (.agg #[(.int .i64 e2), (.int .i64 e0), (.int .i64 d7), (.int .i64 d9)]) ∧ HC Tryd.prog 12 #[(.agg #[(.int .i64 e2), (.int .i64 e0), (.int .i64 d7), (.int .i64 d9)]), (.int .i64 1), (.slice d8 c6 c5)] f3 (fun vv e3 => Ext f3 e3 ∧ ∃ b9 : Int, ∃ b7 : Bool, ∃ b3 a0 b1 : Int, ∃ b2 : Option Addr, ∃ a1 a8 : Nat, ∃ a7 a4 : Int, ∃ c0 : Bool, ∃ d3 : Int, vv = (.tuple #[(.agg #[(.int .i64 b9), (.bool b7), (.int .u64 b3), (.int .u64 a0), (.int .i64 b1), (.slice b2 a1 a8), (.int .i64 a7), (.int .i64 a4), (.bool c0)]), (.int .i64 d3)]) ∧ (∃ j : Bool, (((d3 == 0) = true → ((b7 = true → (((a0 == 5) = true → ((((a1 : Int) == 1) = true → (∃ b0 a9 : Nat, b2 = some ⟨b0, a9, none⟩ ∧ (0 : Int) ≤ 0 ∧ 0 < (a1 : Int) ∧ (∃ b4 b5 c2 a5 a2 : Int, ∃ a6 a3 : ByteArray, hcell e3 b0 (a9 + (Int.toNat 0) * 7) = some (.int .i64 b4) ∧ hcell e3 b0 ((a9 + (Int.toNat 0) * 7) + 1) = some (.int .i64 b5) ∧ hcell e3 b0 ((a9 + (Int.toNat 0) * 7) + 2) = some (.int .i64 c2) ∧ hcell e3 b0 ((a9 + (Int.toNat 0) * 7) + 3) = some (.int .i64 a5) ∧ hcell e3 b0 ((a9 + (Int.toNat 0) * 7) + 4) = some (.int .u64 a2) ∧ hcell e3 b0 ((a9 + (Int.toNat 0) * 7) + 5) = some (.string a6) ∧ hcell e3 b0 ((a9 + (Int.toNat 0) * 7) + 6) = some (.string a3) ∧ ((((b4 == 1 && (b5 == 32 && (c2 == 26 && ((a5 == 1 && (a2 == 1 && (a6 == (ByteArray.mk #[107]) && (a3 == (ByteArray.mk #[118]) && true)))) && true))))) = true → (j = ((a7 == 64 && (a4 == 2 && true))))) ∧ (((b4 == 1 && (b5 == 32 && (c2 == 26 && ((a5 == 1 && (a2 == 1 && (a6 == (ByteArray.mk #[107]) && (a3 == (ByteArray.mk #[118]) && true)))) && true))))) = false → (j = false)))))) ∧ (((a1 : Int) == 1) = false → (j = false)))) ∧ ((a0 == 5) = false → (j = false)))) ∧ (b7 = false → (j = false)))) ∧ ((d3 == 0) = false → (j = false))) ∧ (∀ (e6 : Heap), Ext e3 e6 → R (.bool j) e6))))))) :
  HC Tryd.prog 10 #[] h R := by
 refine hc_of (args := []) Tryd.func10 rfl Tryd.ntmps10 (Nat.le_of_ble_eq_true rfl) ?_
 refine xs (xr ?_)
 refine lv rfl rfl (va rfl) ?_
 refine ln (qn (xs (xr ?_)))
 refine lv rfl rfl (v := (.agg #[(.int .i64 1), (.int .u64 1), (.string (ByteArray.mk #[107])), (.string (ByteArray.mk #[118]))])) (vb (vs := [(0, (.int .i64 1)), (1, (.int .u64 1)), (2, (.string (ByteArray.mk #[107]))), (3, (.string (ByteArray.mk #[118])))]) (cs := #[(.int .i64 1), (.int .u64 1), (.string (ByteArray.mk #[107])), (.string (ByteArray.mk #[118]))]) TyTC.z43 TyTC.pl43 rfl (by kernel_rfl)) ?_
 refine lp rfl rfl (hn_alloc TyTC.z43 ?_)
 intro r h1 i0 g5
 have k0 := ext_pushed_f64_sh g5
 have f2 : Array.size h ≤ r := Nat.le_of_eq (Eq.symm i0)
 have g9 : h1[r]? = some (.cells #[(.int .i64 0), (.int .u64 0), (.string ByteArray.empty), (.string ByteArray.empty)] 43 (0, 0)) := by rw [g5]; exact push_new i0
 refine lp rfl rfl (hn_stores (vs := [(.int .i64 1), (.int .u64 1), (.string (ByteArray.mk #[107])), (.string (ByteArray.mk #[118]))]) rfl rfl TyTC.sz43 rfl (HWs_row g9 (by simp)) ?_)
 intro h2 g6
 have b8 : h2[r]? = some (.cells #[(.int .i64 1), (.int .u64 1), (.string (ByteArray.mk #[107])), (.string (ByteArray.mk #[118]))] 43 (0, 0)) := row_hsets_eq g6 g9 rfl
 have g8 := ext_hsets g6 k0 f2
 refine ln (qn ?_)
 obtain ⟨e7, g1, f4⟩ := H
 refine xk (fun ρ h' => ∃ d8 : Option Addr, ∃ c6 c5 : Nat, (e7 d8 c6 c5 h' ∧ h'[r]? = some (.cells #[(.int .i64 1), (.int .u64 1), (.string (ByteArray.mk #[107])), (.string (ByteArray.mk #[118]))] 43 (0, 0)) ∧ True) ∧ Has ρ [(1, (ptr r 0)), (2, (.slice d8 c6 c5))]) ?_ ?_
 ·have H := g1; clear g1 f4
  refine hx_tree TyTC.mixed (fun _ _ => True) fit_true [.ext, .pure, .read, .ext, .wild, .pure, .pure, .pure, .pure, .pure] (.one 1 (.one 2 (.fork [0, 3] fun k => bif k == 0 then (.one 3 (.one 4 (.one 5 (.one 6 (.one 7 (.one 8 (.one 9 .done))))))) else (.one 0 (.one 4 (.one 5 (.one 6 (.one 7 (.one 8 (.one 9 .done)))))))))) (by kernel_rfl) ?_
  refine to (ho_pure (i := 1) rfl (wanted_0 rfl) rfl (.agg #[(.int .u64 1), (.int .u64 5), (.int .i64 1)]) (fun _ => vb (vs := [(0, (.int .u64 1)), (1, (.int .u64 5)), (2, (.int .i64 1))]) (cs := #[(.int .u64 1), (.int .u64 5), (.int .i64 1)]) TyTC.z31 TyTC.pl31 rfl (by kernel_rfl)) ?_)
  refine to (ho_read (i := 2) rfl (wanted_0 rfl) rfl (.agg #[(.int .i64 1), (.int .u64 1), (.string (ByteArray.mk #[107])), (.string (ByteArray.mk #[118]))]) (fun _ he => vL (vs := [(.int .i64 1), (.int .u64 1), (.string (ByteArray.mk #[107])), (.string (ByteArray.mk #[118]))]) TyTC.agg43 TyTC.sz43 rfl (cc (Ext.cell he (rc b8 rfl)) (cc (Ext.cell he (rc b8 rfl)) (cc (Ext.cell he (rc b8 rfl)) (cc (Ext.cell he (rc b8 rfl)) cn))))) ?_)
  refine ht_fork2 rfl rfl ?_ ?_
  ·replace H := H.1
   replace H := H r h2 f2 (row_lt b8) g8
   refine ho_ext (i := 0) rfl (wanted_0 rfl) rfl (sc TyTC.cb30 rfl (HC.mono H ?_))
   rintro _ h4 ⟨f6, d1, c7, b6, c8, rfl, H⟩
   refine ⟨f6, ?_⟩
   replace b8 := Ext.row f6 b8
   refine to (ho_ext (i := 3) rfl (wanted_0 rfl) rfl (hn_buildSlice (n := 1) (vs := [(0, (.agg #[(.int .i64 1), (.int .u64 1), (.string (ByteArray.mk #[107])), (.string (ByteArray.mk #[118]))]))]) (cs := #[(.int .i64 1), (.int .u64 1), (.string (ByteArray.mk #[107])), (.string (ByteArray.mk #[118]))]) TyTC.u47 TyTC.sz43 TyTC.z43 rfl rfl (by kernel_rfl) ?_))
   intro nb h5 i9 f8
   replace H := H nb h5 i9 f8
   have f5 := ext_pushed_f64_sh f8
   replace b8 := Ext.row f5 b8
   refine ⟨f5, ?_⟩
   refine to (ho_wild (i := 4) rfl (wanted_0 rfl) rfl (sc TyTC.cb18 rfl (HC.mono H ?_)))
   rintro _ h6 ⟨j8, r0, c3, c4, r1, c9, d0, rfl, H⟩
   replace b8 := Kp.row j8 (by simp) b8
   refine to (ho_pure (i := 5) rfl (wanted_0 rfl) rfl (.tuple #[(.slice r0 c3 c4), (.slice r1 c9 d0)]) (fun _ => vm rfl) ?_)
   refine to (ho_pure (i := 6) rfl (wanted_0 rfl) rfl (.slice r0 c3 c4) (fun _ => vx (vs := #[(.slice r0 c3 c4), (.slice r1 c9 d0)]) rfl rfl) ?_)
   refine to (ho_pure (i := 7) rfl (wanted_0 rfl) rfl (.slice r1 c9 d0) (fun _ => vx (vs := #[(.slice r0 c3 c4), (.slice r1 c9 d0)]) rfl rfl) ?_)
   refine to (ho_pure (i := 8) rfl (wanted_0 rfl) rfl (.slice r0 c3 c4) (fun _ => va rfl) ?_)
   refine to (ho_pure (i := 9) rfl (wanted_0 rfl) rfl (.slice r1 c9 d0) (fun _ => va rfl) ?_)
   refine ht_done ?_
   refine qn ?_
   exact ⟨_, _, _, ⟨H, b8, trivial⟩, (hc rfl (hc rfl hn))⟩
  ·replace H := H.2
   replace H := H r h2 f2 (row_lt b8) g8
   refine ho_ext (i := 3) rfl (wanted_0 rfl) rfl (hn_buildSlice (n := 1) (vs := [(0, (.agg #[(.int .i64 1), (.int .u64 1), (.string (ByteArray.mk #[107])), (.string (ByteArray.mk #[118]))]))]) (cs := #[(.int .i64 1), (.int .u64 1), (.string (ByteArray.mk #[107])), (.string (ByteArray.mk #[118]))]) TyTC.u47 TyTC.sz43 TyTC.z43 rfl rfl (by kernel_rfl) ?_)
   intro nb h7 j6 g0
   replace H := H nb h7 j6 g0
   have f9 := ext_pushed_f64_sh g0
   replace b8 := Ext.row f9 b8
   refine ⟨f9, ?_⟩
   refine to (ho_ext (i := 0) rfl (wanted_0 rfl) rfl (sc TyTC.cb30 rfl (HC.mono H ?_)))
   rintro _ h8 ⟨f7, d1, c7, b6, c8, rfl, H⟩
   refine ⟨f7, ?_⟩
   replace b8 := Ext.row f7 b8
   refine to (ho_wild (i := 4) rfl (wanted_0 rfl) rfl (sc TyTC.cb18 rfl (HC.mono H ?_)))
   rintro _ h9 ⟨j2, r0, c3, c4, r1, c9, d0, rfl, H⟩
   replace b8 := Kp.row j2 (by simp) b8
   refine to (ho_pure (i := 5) rfl (wanted_0 rfl) rfl (.tuple #[(.slice r0 c3 c4), (.slice r1 c9 d0)]) (fun _ => vm rfl) ?_)
   refine to (ho_pure (i := 6) rfl (wanted_0 rfl) rfl (.slice r0 c3 c4) (fun _ => vx (vs := #[(.slice r0 c3 c4), (.slice r1 c9 d0)]) rfl rfl) ?_)
   refine to (ho_pure (i := 7) rfl (wanted_0 rfl) rfl (.slice r1 c9 d0) (fun _ => vx (vs := #[(.slice r0 c3 c4), (.slice r1 c9 d0)]) rfl rfl) ?_)
   refine to (ho_pure (i := 8) rfl (wanted_0 rfl) rfl (.slice r0 c3 c4) (fun _ => va rfl) ?_)
   refine to (ho_pure (i := 9) rfl (wanted_0 rfl) rfl (.slice r1 c9 d0) (fun _ => va rfl) ?_)
   refine ht_done ?_
   refine qn ?_
   exact ⟨_, _, _, ⟨H, b8, trivial⟩, (hc rfl (hc rfl hn))⟩
 ·rintro ρ h3 ⟨d8, c6, c5, ⟨i5, d2, -⟩, hH⟩
  have H := f4 d8 c6 c5 h3 i5; clear g1 f4
  refine xh _ hH ?_
  replace H := H r f2 (row_lt d2)
  refine xs (xr ?_)
  refine lp rfl rfl (sc TyTC.cb30 rfl (HC.mono H ?_))
  rintro _ f3 ⟨i6, e2, e0, d7, d9, rfl, H⟩
  replace d2 := Ext.row i6 d2
  refine lv rfl rfl (vm rfl) ?_
  refine lp rfl rfl (sc TyTC.cb12 rfl (HC.mono H ?_))
  rintro _ e3 ⟨i8, b9, b7, b3, a0, b1, b2, a1, a8, a7, a4, c0, d3, rfl, H⟩
  replace d2 := Ext.row i8 d2
  refine lv rfl rfl (vm rfl) (lv rfl rfl (vx rfl rfl) (lv rfl rfl (vx rfl rfl) ?_))
  refine lp rfl rfl (hn_alloc TyTC.z36 ?_)
  intro sv g7 f1 g2
  have g3 := ext_pushed_f64_sh g2
  have j5 := Nat.ne_of_lt (Nat.lt_of_lt_of_eq (row_lt d2) (Eq.symm f1))
  have j7 : Array.size e3 ≤ sv := Nat.le_of_eq (Eq.symm f1)
  have g4 : g7[sv]? = some (.cells #[(.int .i64 0), (.bool false), (.int .u64 0), (.int .u64 0), (.int .i64 0), (.slice none 0 0), (.int .i64 0), (.int .i64 0), (.bool false)] 36 (0, 0)) := by rw [g2]; exact push_new f1
  replace d2 := Ext.row g3 d2
  refine lp rfl rfl (hn_stores (vs := [(.int .i64 b9), (.bool b7), (.int .u64 b3), (.int .u64 a0), (.int .i64 b1), (.slice b2 a1 a8), (.int .i64 a7), (.int .i64 a4), (.bool c0)]) rfl rfl TyTC.sz36 rfl (HWs_row g4 (by simp)) ?_)
  intro e6 e9
  replace d2 := row_hsets_ne e9 j5 d2
  have e5 : e6[sv]? = some (.cells #[(.int .i64 b9), (.bool b7), (.int .u64 b3), (.int .u64 a0), (.int .i64 b1), (.slice b2 a1 a8), (.int .i64 a7), (.int .i64 a4), (.bool c0)] 36 (0, 0)) := row_hsets_eq e9 g4 (by simp [sets])
  have e4 := ext_hsets e9 g3 j7
  refine lv rfl rfl (va rfl) ?_
  refine ln (qn ?_)
  obtain ⟨j, e8, f0⟩ := H
  refine xk (fun ρ h' => e6 = h' ∧ Has ρ [(0, (.bool j))]) ?_ ?_
  ·have H := e8; clear e8 f0
   refine hx_draw TyTC.mixed [.pure, .pure, .pure, .pure, .read, .pure, .pure, .pure, .pure, .read, .pure, .pure, .pure, .pure, .read, .pure, .pure, .pure, .pure, .pure, .read, .pure, .read, .read, .pure, .pure, .pure, .pure, .pure, .read, .pure, .pure, .pure, .pure] [0, 1, 2, 3, 4, 5, 6, 7, 8, 9, 10, 11, 12, 13, 14, 15, 16, 17, 18, 19, 20, 21, 22, 23, 24, 25, 26, 27, 28, 29, 30, 31, 32, 33] (by kernel_rfl) ?_
   refine pp (i := 0) rfl (wanted_0 rfl) rfl (.int .i64 d3) (fun _ => vm rfl) ?_
   refine pp (i := 1) rfl (wanted_0 rfl) rfl (.bool (d3 == 0)) (fun _ => vr rfl rfl rfl) ?_
   refine pp (i := 2) rfl (wanted_0 rfl) rfl (.bool (d3 == 0)) (fun _ => vm rfl) ?_
   rcases bool_or (d3 == 0) with e1 | e1
   ·replace H := H.1 e1
    refine pp (i := 3) rfl (wanted_y rfl rfl rfl e1) rfl (ptr sv 1) (fun _ => vf TyTC.fld36_1 (b := sv) (o := 0) rfl) ?_
    refine pr (i := 4) rfl (wanted_y rfl rfl rfl e1) rfl (.bool b7) (fun _ he => vl TyTC.agg4 rfl (Ext.cell he (rc e5 rfl))) ?_
    refine pp (i := 5) rfl (wanted_0 rfl) rfl (.bool b7) (fun _ => hv_pick_t rfl e1 rfl) ?_
    refine pp (i := 6) rfl (wanted_0 rfl) rfl (.bool b7) (fun _ => vm rfl) ?_
    rcases bool_or (b7) with d6 | d6
    ·replace H := H.1 d6
     refine pp (i := 7) rfl (wanted_y rfl rfl rfl d6) rfl (ptr sv 2) (fun _ => vf TyTC.fld36_2 (b := sv) (o := 0) rfl) ?_
     refine pp (i := 8) rfl (wanted_y rfl rfl rfl d6) rfl (ptr sv 3) (fun _ => vf TyTC.fld31_1 (b := sv) (o := 2) rfl) ?_
     refine pr (i := 9) rfl (wanted_y rfl rfl rfl d6) rfl (.int .u64 a0) (fun _ he => vl TyTC.agg29 rfl (Ext.cell he (rc e5 rfl))) ?_
     refine pp (i := 10) rfl (wanted_y rfl rfl rfl d6) rfl (.bool (a0 == 5)) (fun _ => vr rfl rfl rfl) ?_
     refine pp (i := 11) rfl (wanted_0 rfl) rfl (.bool (a0 == 5)) (fun _ => hv_pick_t rfl d6 rfl) ?_
     refine pp (i := 12) rfl (wanted_0 rfl) rfl (.bool (a0 == 5)) (fun _ => vm rfl) ?_
     rcases bool_or (a0 == 5) with d5 | d5
     ·replace H := H.1 d5
      refine pp (i := 13) rfl (wanted_y rfl rfl rfl d5) rfl (ptr sv 5) (fun _ => vf TyTC.fld36_3 (b := sv) (o := 0) rfl) ?_
      refine pr (i := 14) rfl (wanted_y rfl rfl rfl d5) rfl (.slice b2 a1 a8) (fun _ he => vl TyTC.agg32 rfl (Ext.cell he (rc e5 rfl))) ?_
      refine pp (i := 15) rfl (wanted_y rfl rfl rfl d5) rfl (.int .i64 (a1 : Int)) (fun _ => hv_len (n := a1) TyTC.u32 rfl) ?_
      refine pp (i := 16) rfl (wanted_y rfl rfl rfl d5) rfl (.bool ((a1 : Int) == 1)) (fun _ => vr rfl rfl rfl) ?_
      refine pp (i := 17) rfl (wanted_0 rfl) rfl (.bool ((a1 : Int) == 1)) (fun _ => hv_pick_t rfl d5 rfl) ?_
      refine pp (i := 18) rfl (wanted_0 rfl) rfl (.bool ((a1 : Int) == 1)) (fun _ => vm rfl) ?_
      rcases bool_or ((a1 : Int) == 1) with c1 | c1
      ·replace H := H.1 c1
       refine pp (i := 19) rfl (wanted_y rfl rfl rfl c1) rfl (ptr sv 5) (fun _ => vf TyTC.fld36_3 (b := sv) (o := 0) rfl) ?_
       refine pr (i := 20) rfl (wanted_y rfl rfl rfl c1) rfl (.slice b2 a1 a8) (fun _ he => vl TyTC.agg32 rfl (Ext.cell he (rc e5 rfl))) ?_
       obtain ⟨b0, a9, j9, i3, i4, Hq⟩ := H
       subst j9
       have H := Hq; clear Hq
       refine pp (i := 21) rfl (wanted_y rfl rfl rfl c1) rfl (ptr b0 (a9 + (Int.toNat 0) * 7)) (fun _ => vi TyTC.el32 rfl rfl i3 i4) ?_
       obtain ⟨b4, b5, c2, a5, a2, a6, a3, i1, i7, j1, i2, j0, j4, j3, H⟩ := H
       refine pr (i := 22) rfl (wanted_y rfl rfl rfl c1) rfl (.agg #[(.int .i64 b4), (.int .i64 b5), (.int .i64 c2), (.int .i64 a5), (.int .u64 a2), (.string a6), (.string a3)]) (fun _ he => vL (vs := [(.int .i64 b4), (.int .i64 b5), (.int .i64 c2), (.int .i64 a5), (.int .u64 a2), (.string a6), (.string a3)]) TyTC.agg45 TyTC.sz45 rfl (cc (Ext.cell he (Ext.cell e4 i1)) (cc (Ext.cell he (Ext.cell e4 i7)) (cc (Ext.cell he (Ext.cell e4 j1)) (cc (Ext.cell he (Ext.cell e4 i2)) (cc (Ext.cell he (Ext.cell e4 j0)) (cc (Ext.cell he (Ext.cell e4 j4)) (cc (Ext.cell he (Ext.cell e4 j3)) cn)))))))) ?_
       refine pr (i := 23) rfl (wanted_y rfl rfl rfl c1) rfl (.agg #[(.int .i64 1), (.int .u64 1), (.string (ByteArray.mk #[107])), (.string (ByteArray.mk #[118]))]) (fun _ he => vL (vs := [(.int .i64 1), (.int .u64 1), (.string (ByteArray.mk #[107])), (.string (ByteArray.mk #[118]))]) TyTC.agg43 TyTC.sz43 rfl (cc (Ext.cell he (rc d2 rfl)) (cc (Ext.cell he (rc d2 rfl)) (cc (Ext.cell he (rc d2 rfl)) (cc (Ext.cell he (rc d2 rfl)) cn))))) ?_
       refine pp (i := 24) rfl (wanted_y rfl rfl rfl c1) rfl (.agg #[(.int .i64 1), (.int .i64 32), (.int .i64 26), (.int .i64 1), (.int .u64 1), (.string (ByteArray.mk #[107])), (.string (ByteArray.mk #[118]))]) (fun _ => vb (vs := [(0, (.int .i64 1)), (1, (.int .i64 32)), (2, (.int .i64 26)), (3, (.agg #[(.int .i64 1), (.int .u64 1), (.string (ByteArray.mk #[107])), (.string (ByteArray.mk #[118]))]))]) (cs := #[(.int .i64 1), (.int .i64 32), (.int .i64 26), (.int .i64 1), (.int .u64 1), (.string (ByteArray.mk #[107])), (.string (ByteArray.mk #[118]))]) TyTC.z45 TyTC.pl45 rfl (by kernel_rfl)) ?_
       refine pp (i := 25) rfl (wanted_y rfl rfl rfl c1) rfl (.bool ((b4 == 1 && (b5 == 32 && (c2 == 26 && ((a5 == 1 && (a2 == 1 && (a6 == (ByteArray.mk #[107]) && (a3 == (ByteArray.mk #[118]) && true)))) && true)))))) (fun _ => hv_structEqD (xs := [(.int .i64 b4), (.int .i64 b5), (.int .i64 c2), (.int .i64 a5), (.int .u64 a2), (.string a6), (.string a3)]) (ys := [(.int .i64 1), (.int .i64 32), (.int .i64 26), (.int .i64 1), (.int .u64 1), (.string (ByteArray.mk #[107])), (.string (ByteArray.mk #[118]))]) (b := (b4 == 1 && (b5 == 32 && (c2 == 26 && ((a5 == 1 && (a2 == 1 && (a6 == (ByteArray.mk #[107]) && (a3 == (ByteArray.mk #[118]) && true)))) && true))))) TyTC.gd45 rfl rfl (by kernel_rfl) rfl) ?_
       refine pp (i := 26) rfl (wanted_0 rfl) rfl (.bool ((b4 == 1 && (b5 == 32 && (c2 == 26 && ((a5 == 1 && (a2 == 1 && (a6 == (ByteArray.mk #[107]) && (a3 == (ByteArray.mk #[118]) && true)))) && true)))))) (fun _ => hv_pick_t rfl c1 rfl) ?_
       refine pp (i := 27) rfl (wanted_0 rfl) rfl (.bool ((b4 == 1 && (b5 == 32 && (c2 == 26 && ((a5 == 1 && (a2 == 1 && (a6 == (ByteArray.mk #[107]) && (a3 == (ByteArray.mk #[118]) && true)))) && true)))))) (fun _ => vm rfl) ?_
       rcases bool_or (((b4 == 1 && (b5 == 32 && (c2 == 26 && ((a5 == 1 && (a2 == 1 && (a6 == (ByteArray.mk #[107]) && (a3 == (ByteArray.mk #[118]) && true)))) && true)))))) with d4 | d4
       ·replace H := H.1 d4
        refine pp (i := 28) rfl (wanted_y rfl rfl rfl d4) rfl (ptr sv 6) (fun _ => vf TyTC.fld36_4 (b := sv) (o := 0) rfl) ?_
        refine pr (i := 29) rfl (wanted_y rfl rfl rfl d4) rfl (.agg #[(.int .i64 a7), (.int .i64 a4)]) (fun _ he => vL (vs := [(.int .i64 a7), (.int .i64 a4)]) TyTC.agg34 TyTC.sz34 rfl (cc (Ext.cell he (rc e5 rfl)) (cc (Ext.cell he (rc e5 rfl)) cn))) ?_
        refine pp (i := 30) rfl (wanted_y rfl rfl rfl d4) rfl (.agg #[(.int .i64 64), (.int .i64 2)]) (fun _ => vb (vs := [(0, (.int .i64 64)), (1, (.int .i64 2))]) (cs := #[(.int .i64 64), (.int .i64 2)]) TyTC.z34 TyTC.pl34 rfl (by kernel_rfl)) ?_
        refine pp (i := 31) rfl (wanted_y rfl rfl rfl d4) rfl (.bool ((a7 == 64 && (a4 == 2 && true)))) (fun _ => hv_structEq (xs := [(.int .i64 a7), (.int .i64 a4)]) (ys := [(.int .i64 64), (.int .i64 2)]) (b := (a7 == 64 && (a4 == 2 && true))) TyTC.se34 rfl rfl (by kernel_rfl) rfl) ?_
        refine pp (i := 32) rfl (wanted_0 rfl) rfl (.bool ((a7 == 64 && (a4 == 2 && true)))) (fun _ => hv_pick_t rfl d4 rfl) ?_
        refine pp (i := 33) rfl (wanted_0 rfl) rfl (.bool ((a7 == 64 && (a4 == 2 && true)))) (fun _ => va rfl) ?_
        refine hp_nil ?_
        refine qn ?_
        obtain rfl := H
        exact ⟨rfl, (hc rfl hn)⟩
       ·replace H := H.2 d4
        refine pn (i := 28) rfl (wanted_n rfl rfl rfl d4) ?_
        refine pn (i := 29) rfl (wanted_n rfl rfl rfl d4) ?_
        refine pn (i := 30) rfl (wanted_n rfl rfl rfl d4) ?_
        refine pn (i := 31) rfl (wanted_n rfl rfl rfl d4) ?_
        refine pp (i := 32) rfl (wanted_0 rfl) rfl (.bool false) (fun _ => hv_pick_f rfl d4 rfl) ?_
        refine pp (i := 33) rfl (wanted_0 rfl) rfl (.bool false) (fun _ => va rfl) ?_
        refine hp_nil ?_
        refine qn ?_
        obtain rfl := H
        exact ⟨rfl, (hc rfl hn)⟩
      ·replace H := H.2 c1
       refine pn (i := 19) rfl (wanted_n rfl rfl rfl c1) ?_
       refine pn (i := 20) rfl (wanted_n rfl rfl rfl c1) ?_
       refine pn (i := 21) rfl (wanted_n rfl rfl rfl c1) ?_
       refine pn (i := 22) rfl (wanted_n rfl rfl rfl c1) ?_
       refine pn (i := 23) rfl (wanted_n rfl rfl rfl c1) ?_
       refine pn (i := 24) rfl (wanted_n rfl rfl rfl c1) ?_
       refine pn (i := 25) rfl (wanted_n rfl rfl rfl c1) ?_
       refine pp (i := 26) rfl (wanted_0 rfl) rfl (.bool false) (fun _ => hv_pick_f rfl c1 rfl) ?_
       refine pp (i := 27) rfl (wanted_0 rfl) rfl (.bool false) (fun _ => vm rfl) ?_
       refine pn (i := 28) rfl (wanted_n rfl rfl (c := false) rfl rfl) ?_
       refine pn (i := 29) rfl (wanted_n rfl rfl (c := false) rfl rfl) ?_
       refine pn (i := 30) rfl (wanted_n rfl rfl (c := false) rfl rfl) ?_
       refine pn (i := 31) rfl (wanted_n rfl rfl (c := false) rfl rfl) ?_
       refine pp (i := 32) rfl (wanted_0 rfl) rfl (.bool false) (fun _ => hv_pick (t := false) rfl rfl) ?_
       refine pp (i := 33) rfl (wanted_0 rfl) rfl (.bool false) (fun _ => va rfl) ?_
       refine hp_nil ?_
       refine qn ?_
       obtain rfl := H
       exact ⟨rfl, (hc rfl hn)⟩
     ·replace H := H.2 d5
      refine pn (i := 13) rfl (wanted_n rfl rfl rfl d5) ?_
      refine pn (i := 14) rfl (wanted_n rfl rfl rfl d5) ?_
      refine pn (i := 15) rfl (wanted_n rfl rfl rfl d5) ?_
      refine pn (i := 16) rfl (wanted_n rfl rfl rfl d5) ?_
      refine pp (i := 17) rfl (wanted_0 rfl) rfl (.bool false) (fun _ => hv_pick_f rfl d5 rfl) ?_
      refine pp (i := 18) rfl (wanted_0 rfl) rfl (.bool false) (fun _ => vm rfl) ?_
      refine pn (i := 19) rfl (wanted_n rfl rfl (c := false) rfl rfl) ?_
      refine pn (i := 20) rfl (wanted_n rfl rfl (c := false) rfl rfl) ?_
      refine pn (i := 21) rfl (wanted_n rfl rfl (c := false) rfl rfl) ?_
      refine pn (i := 22) rfl (wanted_n rfl rfl (c := false) rfl rfl) ?_
      refine pn (i := 23) rfl (wanted_n rfl rfl (c := false) rfl rfl) ?_
      refine pn (i := 24) rfl (wanted_n rfl rfl (c := false) rfl rfl) ?_
      refine pn (i := 25) rfl (wanted_n rfl rfl (c := false) rfl rfl) ?_
      refine pp (i := 26) rfl (wanted_0 rfl) rfl (.bool false) (fun _ => hv_pick (t := false) rfl rfl) ?_
      refine pp (i := 27) rfl (wanted_0 rfl) rfl (.bool false) (fun _ => vm rfl) ?_
      refine pn (i := 28) rfl (wanted_n rfl rfl (c := false) rfl rfl) ?_
      refine pn (i := 29) rfl (wanted_n rfl rfl (c := false) rfl rfl) ?_
      refine pn (i := 30) rfl (wanted_n rfl rfl (c := false) rfl rfl) ?_
      refine pn (i := 31) rfl (wanted_n rfl rfl (c := false) rfl rfl) ?_
      refine pp (i := 32) rfl (wanted_0 rfl) rfl (.bool false) (fun _ => hv_pick (t := false) rfl rfl) ?_
      refine pp (i := 33) rfl (wanted_0 rfl) rfl (.bool false) (fun _ => va rfl) ?_
      refine hp_nil ?_
      refine qn ?_
      obtain rfl := H
      exact ⟨rfl, (hc rfl hn)⟩
    ·replace H := H.2 d6
     refine pn (i := 7) rfl (wanted_n rfl rfl rfl d6) ?_
     refine pn (i := 8) rfl (wanted_n rfl rfl rfl d6) ?_
     refine pn (i := 9) rfl (wanted_n rfl rfl rfl d6) ?_
     refine pn (i := 10) rfl (wanted_n rfl rfl rfl d6) ?_
     refine pp (i := 11) rfl (wanted_0 rfl) rfl (.bool false) (fun _ => hv_pick_f rfl d6 rfl) ?_
     refine pp (i := 12) rfl (wanted_0 rfl) rfl (.bool false) (fun _ => vm rfl) ?_
     refine pn (i := 13) rfl (wanted_n rfl rfl (c := false) rfl rfl) ?_
     refine pn (i := 14) rfl (wanted_n rfl rfl (c := false) rfl rfl) ?_
     refine pn (i := 15) rfl (wanted_n rfl rfl (c := false) rfl rfl) ?_
     refine pn (i := 16) rfl (wanted_n rfl rfl (c := false) rfl rfl) ?_
     refine pp (i := 17) rfl (wanted_0 rfl) rfl (.bool false) (fun _ => hv_pick (t := false) rfl rfl) ?_
     refine pp (i := 18) rfl (wanted_0 rfl) rfl (.bool false) (fun _ => vm rfl) ?_
     refine pn (i := 19) rfl (wanted_n rfl rfl (c := false) rfl rfl) ?_
     refine pn (i := 20) rfl (wanted_n rfl rfl (c := false) rfl rfl) ?_
     refine pn (i := 21) rfl (wanted_n rfl rfl (c := false) rfl rfl) ?_
     refine pn (i := 22) rfl (wanted_n rfl rfl (c := false) rfl rfl) ?_
     refine pn (i := 23) rfl (wanted_n rfl rfl (c := false) rfl rfl) ?_
     refine pn (i := 24) rfl (wanted_n rfl rfl (c := false) rfl rfl) ?_
     refine pn (i := 25) rfl (wanted_n rfl rfl (c := false) rfl rfl) ?_
     refine pp (i := 26) rfl (wanted_0 rfl) rfl (.bool false) (fun _ => hv_pick (t := false) rfl rfl) ?_
     refine pp (i := 27) rfl (wanted_0 rfl) rfl (.bool false) (fun _ => vm rfl) ?_
     refine pn (i := 28) rfl (wanted_n rfl rfl (c := false) rfl rfl) ?_
     refine pn (i := 29) rfl (wanted_n rfl rfl (c := false) rfl rfl) ?_
     refine pn (i := 30) rfl (wanted_n rfl rfl (c := false) rfl rfl) ?_
     refine pn (i := 31) rfl (wanted_n rfl rfl (c := false) rfl rfl) ?_
     refine pp (i := 32) rfl (wanted_0 rfl) rfl (.bool false) (fun _ => hv_pick (t := false) rfl rfl) ?_
     refine pp (i := 33) rfl (wanted_0 rfl) rfl (.bool false) (fun _ => va rfl) ?_
     refine hp_nil ?_
     refine qn ?_
     obtain rfl := H
     exact ⟨rfl, (hc rfl hn)⟩
   ·replace H := H.2 e1
    refine pn (i := 3) rfl (wanted_n rfl rfl rfl e1) ?_
    refine pn (i := 4) rfl (wanted_n rfl rfl rfl e1) ?_
    refine pp (i := 5) rfl (wanted_0 rfl) rfl (.bool false) (fun _ => hv_pick_f rfl e1 rfl) ?_
    refine pp (i := 6) rfl (wanted_0 rfl) rfl (.bool false) (fun _ => vm rfl) ?_
    refine pn (i := 7) rfl (wanted_n rfl rfl (c := false) rfl rfl) ?_
    refine pn (i := 8) rfl (wanted_n rfl rfl (c := false) rfl rfl) ?_
    refine pn (i := 9) rfl (wanted_n rfl rfl (c := false) rfl rfl) ?_
    refine pn (i := 10) rfl (wanted_n rfl rfl (c := false) rfl rfl) ?_
    refine pp (i := 11) rfl (wanted_0 rfl) rfl (.bool false) (fun _ => hv_pick (t := false) rfl rfl) ?_
    refine pp (i := 12) rfl (wanted_0 rfl) rfl (.bool false) (fun _ => vm rfl) ?_
    refine pn (i := 13) rfl (wanted_n rfl rfl (c := false) rfl rfl) ?_
    refine pn (i := 14) rfl (wanted_n rfl rfl (c := false) rfl rfl) ?_
    refine pn (i := 15) rfl (wanted_n rfl rfl (c := false) rfl rfl) ?_
    refine pn (i := 16) rfl (wanted_n rfl rfl (c := false) rfl rfl) ?_
    refine pp (i := 17) rfl (wanted_0 rfl) rfl (.bool false) (fun _ => hv_pick (t := false) rfl rfl) ?_
    refine pp (i := 18) rfl (wanted_0 rfl) rfl (.bool false) (fun _ => vm rfl) ?_
    refine pn (i := 19) rfl (wanted_n rfl rfl (c := false) rfl rfl) ?_
    refine pn (i := 20) rfl (wanted_n rfl rfl (c := false) rfl rfl) ?_
    refine pn (i := 21) rfl (wanted_n rfl rfl (c := false) rfl rfl) ?_
    refine pn (i := 22) rfl (wanted_n rfl rfl (c := false) rfl rfl) ?_
    refine pn (i := 23) rfl (wanted_n rfl rfl (c := false) rfl rfl) ?_
    refine pn (i := 24) rfl (wanted_n rfl rfl (c := false) rfl rfl) ?_
    refine pn (i := 25) rfl (wanted_n rfl rfl (c := false) rfl rfl) ?_
    refine pp (i := 26) rfl (wanted_0 rfl) rfl (.bool false) (fun _ => hv_pick (t := false) rfl rfl) ?_
    refine pp (i := 27) rfl (wanted_0 rfl) rfl (.bool false) (fun _ => vm rfl) ?_
    refine pn (i := 28) rfl (wanted_n rfl rfl (c := false) rfl rfl) ?_
    refine pn (i := 29) rfl (wanted_n rfl rfl (c := false) rfl rfl) ?_
    refine pn (i := 30) rfl (wanted_n rfl rfl (c := false) rfl rfl) ?_
    refine pn (i := 31) rfl (wanted_n rfl rfl (c := false) rfl rfl) ?_
    refine pp (i := 32) rfl (wanted_0 rfl) rfl (.bool false) (fun _ => hv_pick (t := false) rfl rfl) ?_
    refine pp (i := 33) rfl (wanted_0 rfl) rfl (.bool false) (fun _ => va rfl) ?_
    refine hp_nil ?_
    refine qn ?_
    obtain rfl := H
    exact ⟨rfl, (hc rfl hn)⟩
  ·have H := f0; clear e8 f0
   rintro ρ _ ⟨rfl, hH⟩
   refine xh _ hH ?_
   refine xt ?_
   replace H := H e6 e4
   exact endQ_ret _ (res_one Tryd.results10 (rv_tmp rfl)) H
theorem f14_sh (b1 : Int) (c6 : Bool) (a5 : Int) (a0 : Int) (a3 : Int) (b9 : Option Addr) (b0 : Nat) (b5 : Nat) (a8 : Int) (a7 : Int) (b6 : Bool) (b3 : Int) (c5 : Bool) (a4 : Int) (a1 : Int) (a2 : Int) (b8 : Option Addr) (b2 : Nat) (b4 : Nat) (a9 : Int) (a6 : Int) (b7 : Bool) (h : Heap) (R : Value → Heap → Prop)
  (H : (∃ j : Bool, (((b1 == b3) = true → (((c6 == c5) = true → ((((a5 == a4 && (a0 == a1 && (a3 == a2 && true)))) = true → (∀ (a : Nat) (b : Nat) (h2 : Heap), Array.size h ≤ a → a < Array.size h2 → Array.size h ≤ b → b < Array.size h2 → Ext h h2 → (∃ r : Bool, HC Tryd.prog 19 #[(.slice b9 b0 b5), (.slice b8 b2 b4)] h2 (fun vv h' => vv = (.bool r) ∧ h' = h2) ∧ ((r = true → ((((a8 == a9 && (a7 == a6 && true))) = true → (j = (b6 == b7))) ∧ (((a8 == a9 && (a7 == a6 && true))) = false → (j = false)))) ∧ (r = false → (j = false)))))) ∧ (((a5 == a4 && (a0 == a1 && (a3 == a2 && true)))) = false → (j = false)))) ∧ ((c6 == c5) = false → (j = false)))) ∧ ((b1 == b3) = false → (j = false))) ∧ (∀ (h2 : Heap), Ext h h2 → R (.bool j) h2))) :
  HC Tryd.prog 14 #[(.agg #[(.int .i64 b1), (.bool c6), (.int .u64 a5), (.int .u64 a0), (.int .i64 a3), (.slice b9 b0 b5), (.int .i64 a8), (.int .i64 a7), (.bool b6)]), (.agg #[(.int .i64 b3), (.bool c5), (.int .u64 a4), (.int .u64 a1), (.int .i64 a2), (.slice b8 b2 b4), (.int .i64 a9), (.int .i64 a6), (.bool b7)])] h R := by
 refine hc_of (args := [(.agg #[(.int .i64 b1), (.bool c6), (.int .u64 a5), (.int .u64 a0), (.int .i64 a3), (.slice b9 b0 b5), (.int .i64 a8), (.int .i64 a7), (.bool b6)]), (.agg #[(.int .i64 b3), (.bool c5), (.int .u64 a4), (.int .u64 a1), (.int .i64 a2), (.slice b8 b2 b4), (.int .i64 a9), (.int .i64 a6), (.bool b7)])]) Tryd.func14 rfl Tryd.ntmps14 (Nat.le_of_ble_eq_true rfl) ?_
 refine xs (xr ?_)
 refine lp rfl rfl (hn_box (v := (.agg #[(.int .i64 b1), (.bool c6), (.int .u64 a5), (.int .u64 a0), (.int .i64 a3), (.slice b9 b0 b5), (.int .i64 a8), (.int .i64 a7), (.bool b6)])) rfl ?_)
 intro a h1 d5 d3
 have d7 := ext_pushed_f64_sh d3
 have e0 : Array.size h ≤ a := Nat.le_of_eq (Eq.symm d5)
 have c7 : h1[a]? = some (.cells #[(.int .i64 b1), (.bool c6), (.int .u64 a5), (.int .u64 a0), (.int .i64 a3), (.slice b9 b0 b5), (.int .i64 a8), (.int .i64 a7), (.bool b6)] 36 (0, 0)) := by rw [d3]; exact push_new d5
 refine lp rfl rfl (hn_box (v := (.agg #[(.int .i64 b3), (.bool c5), (.int .u64 a4), (.int .u64 a1), (.int .i64 a2), (.slice b8 b2 b4), (.int .i64 a9), (.int .i64 a6), (.bool b7)])) rfl ?_)
 intro b h2 d1 d4
 have d6 := ext_pushed_f64_sh d4
 have e1 := Nat.ne_of_lt (Nat.lt_of_lt_of_eq (row_lt c7) (Eq.symm d1))
 have d8 : Array.size h ≤ b := Nat.le_trans (Ext.size d7) (Nat.le_of_eq (Eq.symm d1))
 have c8 : h2[b]? = some (.cells #[(.int .i64 b3), (.bool c5), (.int .u64 a4), (.int .u64 a1), (.int .i64 a2), (.slice b8 b2 b4), (.int .i64 a9), (.int .i64 a6), (.bool b7)] 36 (0, 0)) := by rw [d4]; exact push_new d1
 replace c7 := Ext.row d6 c7
 have d2 := Ext.trans d7 d6
 refine lv rfl rfl (va rfl) ?_
 refine ln (qn ?_)
 obtain ⟨j, c9, d0⟩ := H
 refine xk (fun ρ h' => h2 = h' ∧ Has ρ [(4, (.bool j))]) ?_ ?_
 ·have H := c9; clear c9 d0
  refine xr ?_
  refine lv rfl rfl (v := (ptr a 0)) (vf TyTC.fld36_0 (b := a) (o := 0) rfl) (lv rfl rfl (vl TyTC.agg3 rfl (rc c7 rfl)) (lv rfl rfl (v := (ptr b 0)) (vf TyTC.fld36_0 (b := b) (o := 0) rfl) (lv rfl rfl (vl TyTC.agg3 rfl (rc c8 rfl)) (lv rfl rfl (vr rfl rfl rfl) (lv rfl rfl (vm rfl) ?_)))))
  rcases bool_or (b1 == b3) with c4 | c4
  ·replace H := H.1 c4
   refine ly (wanted_y rfl rfl rfl c4) rfl (HStep.of_val (v := (ptr a 1)) (vf TyTC.fld36_1 (b := a) (o := 0) rfl) ?_)
   refine ly (wanted_y rfl rfl rfl c4) rfl (HStep.of_val (v := (.bool c6)) (vl TyTC.agg4 rfl (rc c7 rfl)) ?_)
   refine ly (wanted_y rfl rfl rfl c4) rfl (HStep.of_val (v := (ptr b 1)) (vf TyTC.fld36_1 (b := b) (o := 0) rfl) ?_)
   refine ly (wanted_y rfl rfl rfl c4) rfl (HStep.of_val (v := (.bool c5)) (vl TyTC.agg4 rfl (rc c8 rfl)) ?_)
   refine ly (wanted_y rfl rfl rfl c4) rfl (HStep.of_val (v := (.bool (c6 == c5))) (hv_eqBool TyTC.u4 rfl rfl rfl) ?_)
   refine lv rfl rfl (v := (.bool (c6 == c5))) (hv_pick_t rfl c4 rfl) (lv rfl rfl (vm rfl) ?_)
   rcases bool_or (c6 == c5) with c1 | c1
   ·replace H := H.1 c1
    refine ly (wanted_y rfl rfl rfl c1) rfl (HStep.of_val (v := (ptr a 2)) (vf TyTC.fld36_2 (b := a) (o := 0) rfl) ?_)
    refine ly (wanted_y rfl rfl rfl c1) rfl (HStep.of_val (v := (.agg #[(.int .u64 a5), (.int .u64 a0), (.int .i64 a3)])) (vL (vs := [(.int .u64 a5), (.int .u64 a0), (.int .i64 a3)]) TyTC.agg31 TyTC.sz31 rfl (cc (rc c7 rfl) (cc (rc c7 rfl) (cc (rc c7 rfl) cn)))) ?_)
    refine ly (wanted_y rfl rfl rfl c1) rfl (HStep.of_val (v := (ptr b 2)) (vf TyTC.fld36_2 (b := b) (o := 0) rfl) ?_)
    refine ly (wanted_y rfl rfl rfl c1) rfl (HStep.of_val (v := (.agg #[(.int .u64 a4), (.int .u64 a1), (.int .i64 a2)])) (vL (vs := [(.int .u64 a4), (.int .u64 a1), (.int .i64 a2)]) TyTC.agg31 TyTC.sz31 rfl (cc (rc c8 rfl) (cc (rc c8 rfl) (cc (rc c8 rfl) cn)))) ?_)
    refine ly (wanted_y rfl rfl rfl c1) rfl (HStep.of_val (v := (.bool ((a5 == a4 && (a0 == a1 && (a3 == a2 && true)))))) (hv_structEq (xs := [(.int .u64 a5), (.int .u64 a0), (.int .i64 a3)]) (ys := [(.int .u64 a4), (.int .u64 a1), (.int .i64 a2)]) (b := (a5 == a4 && (a0 == a1 && (a3 == a2 && true)))) TyTC.se31 rfl rfl (by kernel_rfl) rfl) ?_)
    refine lv rfl rfl (v := (.bool ((a5 == a4 && (a0 == a1 && (a3 == a2 && true)))))) (hv_pick_t rfl c1 rfl) (lv rfl rfl (vm rfl) ?_)
    rcases bool_or (((a5 == a4 && (a0 == a1 && (a3 == a2 && true))))) with c2 | c2
    ·replace H := H.1 c2
     refine ly (wanted_y rfl rfl rfl c2) rfl (HStep.of_val (v := (ptr a 5)) (vf TyTC.fld36_3 (b := a) (o := 0) rfl) ?_)
     refine ly (wanted_y rfl rfl rfl c2) rfl (HStep.of_val (v := (.slice b9 b0 b5)) (vl TyTC.agg32 rfl (rc c7 rfl)) ?_)
     refine ly (wanted_y rfl rfl rfl c2) rfl (HStep.of_val (v := (ptr b 5)) (vf TyTC.fld36_3 (b := b) (o := 0) rfl) ?_)
     refine ly (wanted_y rfl rfl rfl c2) rfl (HStep.of_val (v := (.slice b8 b2 b4)) (vl TyTC.agg32 rfl (rc c8 rfl)) ?_)
     replace H := H a b h2 e0 (row_lt c7) d8 (row_lt c8) d2
     obtain ⟨r, d9, H⟩ := H
     refine ly (wanted_y rfl rfl rfl c2) rfl (HStep.of_val (v := (.bool r)) (hv_call TyTC.cb19 (vs := [(.slice b9 b0 b5), (.slice b8 b2 b4)]) rfl d9) ?_)
     refine lv rfl rfl (v := (.bool r)) (hv_pick_t rfl c2 rfl) (lv rfl rfl (vm rfl) ?_)
     rcases bool_or (r) with c3 | c3
     ·replace H := H.1 c3
      refine ly (wanted_y rfl rfl rfl c3) rfl (HStep.of_val (v := (ptr a 6)) (vf TyTC.fld36_4 (b := a) (o := 0) rfl) ?_)
      refine ly (wanted_y rfl rfl rfl c3) rfl (HStep.of_val (v := (.agg #[(.int .i64 a8), (.int .i64 a7)])) (vL (vs := [(.int .i64 a8), (.int .i64 a7)]) TyTC.agg34 TyTC.sz34 rfl (cc (rc c7 rfl) (cc (rc c7 rfl) cn))) ?_)
      refine ly (wanted_y rfl rfl rfl c3) rfl (HStep.of_val (v := (ptr b 6)) (vf TyTC.fld36_4 (b := b) (o := 0) rfl) ?_)
      refine ly (wanted_y rfl rfl rfl c3) rfl (HStep.of_val (v := (.agg #[(.int .i64 a9), (.int .i64 a6)])) (vL (vs := [(.int .i64 a9), (.int .i64 a6)]) TyTC.agg34 TyTC.sz34 rfl (cc (rc c8 rfl) (cc (rc c8 rfl) cn))) ?_)
      refine ly (wanted_y rfl rfl rfl c3) rfl (HStep.of_val (v := (.bool ((a8 == a9 && (a7 == a6 && true))))) (hv_structEq (xs := [(.int .i64 a8), (.int .i64 a7)]) (ys := [(.int .i64 a9), (.int .i64 a6)]) (b := (a8 == a9 && (a7 == a6 && true))) TyTC.se34 rfl rfl (by kernel_rfl) rfl) ?_)
      refine lv rfl rfl (v := (.bool ((a8 == a9 && (a7 == a6 && true))))) (hv_pick_t rfl c3 rfl) (lv rfl rfl (vm rfl) ?_)
      rcases bool_or (((a8 == a9 && (a7 == a6 && true)))) with c0 | c0
      ·replace H := H.1 c0
       refine ly (wanted_y rfl rfl rfl c0) rfl (HStep.of_val (v := (ptr a 8)) (vf TyTC.fld36_5 (b := a) (o := 0) rfl) ?_)
       refine ly (wanted_y rfl rfl rfl c0) rfl (HStep.of_val (v := (.bool b6)) (vl TyTC.agg4 rfl (rc c7 rfl)) ?_)
       refine ly (wanted_y rfl rfl rfl c0) rfl (HStep.of_val (v := (ptr b 8)) (vf TyTC.fld36_5 (b := b) (o := 0) rfl) ?_)
       refine ly (wanted_y rfl rfl rfl c0) rfl (HStep.of_val (v := (.bool b7)) (vl TyTC.agg4 rfl (rc c8 rfl)) ?_)
       refine ly (wanted_y rfl rfl rfl c0) rfl (HStep.of_val (v := (.bool (b6 == b7))) (hv_eqBool TyTC.u4 rfl rfl rfl) ?_)
       refine lv rfl rfl (v := (.bool (b6 == b7))) (hv_pick_t rfl c0 rfl) (lv rfl rfl (va rfl) ?_)
       refine ln (qn ?_)
       obtain rfl := H
       exact ⟨rfl, (hc rfl hn)⟩
      ·replace H := H.2 c0
       refine lo (wanted_n rfl rfl rfl c0) rfl ?_
       refine lo (wanted_n rfl rfl rfl c0) rfl ?_
       refine lo (wanted_n rfl rfl rfl c0) rfl ?_
       refine lo (wanted_n rfl rfl rfl c0) rfl ?_
       refine lo (wanted_n rfl rfl rfl c0) rfl ?_
       refine lv rfl rfl (v := (.bool false)) (hv_pick_f rfl c0 rfl) (lv rfl rfl (va rfl) ?_)
       refine ln (qn ?_)
       obtain rfl := H
       exact ⟨rfl, (hc rfl hn)⟩
     ·replace H := H.2 c3
      refine lo (wanted_n rfl rfl rfl c3) rfl ?_
      refine lo (wanted_n rfl rfl rfl c3) rfl ?_
      refine lo (wanted_n rfl rfl rfl c3) rfl ?_
      refine lo (wanted_n rfl rfl rfl c3) rfl ?_
      refine lo (wanted_n rfl rfl rfl c3) rfl ?_
      refine lv rfl rfl (v := (.bool false)) (hv_pick_f rfl c3 rfl) (lv rfl rfl (vm rfl) ?_)
      refine lo (wanted_n rfl rfl (c := false) rfl rfl) rfl ?_
      refine lo (wanted_n rfl rfl (c := false) rfl rfl) rfl ?_
      refine lo (wanted_n rfl rfl (c := false) rfl rfl) rfl ?_
      refine lo (wanted_n rfl rfl (c := false) rfl rfl) rfl ?_
      refine lo (wanted_n rfl rfl (c := false) rfl rfl) rfl ?_
      refine lv rfl rfl (v := (.bool false)) (hv_pick (t := false) rfl rfl) (lv rfl rfl (va rfl) ?_)
      refine ln (qn ?_)
      obtain rfl := H
      exact ⟨rfl, (hc rfl hn)⟩
    ·replace H := H.2 c2
     refine lo (wanted_n rfl rfl rfl c2) rfl ?_
     refine lo (wanted_n rfl rfl rfl c2) rfl ?_
     refine lo (wanted_n rfl rfl rfl c2) rfl ?_
     refine lo (wanted_n rfl rfl rfl c2) rfl ?_
     refine lo (wanted_n rfl rfl rfl c2) rfl ?_
     refine lv rfl rfl (v := (.bool false)) (hv_pick_f rfl c2 rfl) (lv rfl rfl (vm rfl) ?_)
     refine lo (wanted_n rfl rfl (c := false) rfl rfl) rfl ?_
     refine lo (wanted_n rfl rfl (c := false) rfl rfl) rfl ?_
     refine lo (wanted_n rfl rfl (c := false) rfl rfl) rfl ?_
     refine lo (wanted_n rfl rfl (c := false) rfl rfl) rfl ?_
     refine lo (wanted_n rfl rfl (c := false) rfl rfl) rfl ?_
     refine lv rfl rfl (v := (.bool false)) (hv_pick (t := false) rfl rfl) (lv rfl rfl (vm rfl) ?_)
     refine lo (wanted_n rfl rfl (c := false) rfl rfl) rfl ?_
     refine lo (wanted_n rfl rfl (c := false) rfl rfl) rfl ?_
     refine lo (wanted_n rfl rfl (c := false) rfl rfl) rfl ?_
     refine lo (wanted_n rfl rfl (c := false) rfl rfl) rfl ?_
     refine lo (wanted_n rfl rfl (c := false) rfl rfl) rfl ?_
     refine lv rfl rfl (v := (.bool false)) (hv_pick (t := false) rfl rfl) (lv rfl rfl (va rfl) ?_)
     refine ln (qn ?_)
     obtain rfl := H
     exact ⟨rfl, (hc rfl hn)⟩
   ·replace H := H.2 c1
    refine lo (wanted_n rfl rfl rfl c1) rfl ?_
    refine lo (wanted_n rfl rfl rfl c1) rfl ?_
    refine lo (wanted_n rfl rfl rfl c1) rfl ?_
    refine lo (wanted_n rfl rfl rfl c1) rfl ?_
    refine lo (wanted_n rfl rfl rfl c1) rfl ?_
    refine lv rfl rfl (v := (.bool false)) (hv_pick_f rfl c1 rfl) (lv rfl rfl (vm rfl) ?_)
    refine lo (wanted_n rfl rfl (c := false) rfl rfl) rfl ?_
    refine lo (wanted_n rfl rfl (c := false) rfl rfl) rfl ?_
    refine lo (wanted_n rfl rfl (c := false) rfl rfl) rfl ?_
    refine lo (wanted_n rfl rfl (c := false) rfl rfl) rfl ?_
    refine lo (wanted_n rfl rfl (c := false) rfl rfl) rfl ?_
    refine lv rfl rfl (v := (.bool false)) (hv_pick (t := false) rfl rfl) (lv rfl rfl (vm rfl) ?_)
    refine lo (wanted_n rfl rfl (c := false) rfl rfl) rfl ?_
    refine lo (wanted_n rfl rfl (c := false) rfl rfl) rfl ?_
    refine lo (wanted_n rfl rfl (c := false) rfl rfl) rfl ?_
    refine lo (wanted_n rfl rfl (c := false) rfl rfl) rfl ?_
    refine lo (wanted_n rfl rfl (c := false) rfl rfl) rfl ?_
    refine lv rfl rfl (v := (.bool false)) (hv_pick (t := false) rfl rfl) (lv rfl rfl (vm rfl) ?_)
    refine lo (wanted_n rfl rfl (c := false) rfl rfl) rfl ?_
    refine lo (wanted_n rfl rfl (c := false) rfl rfl) rfl ?_
    refine lo (wanted_n rfl rfl (c := false) rfl rfl) rfl ?_
    refine lo (wanted_n rfl rfl (c := false) rfl rfl) rfl ?_
    refine lo (wanted_n rfl rfl (c := false) rfl rfl) rfl ?_
    refine lv rfl rfl (v := (.bool false)) (hv_pick (t := false) rfl rfl) (lv rfl rfl (va rfl) ?_)
    refine ln (qn ?_)
    obtain rfl := H
    exact ⟨rfl, (hc rfl hn)⟩
  ·replace H := H.2 c4
   refine lo (wanted_n rfl rfl rfl c4) rfl ?_
   refine lo (wanted_n rfl rfl rfl c4) rfl ?_
   refine lo (wanted_n rfl rfl rfl c4) rfl ?_
   refine lo (wanted_n rfl rfl rfl c4) rfl ?_
   refine lo (wanted_n rfl rfl rfl c4) rfl ?_
   refine lv rfl rfl (v := (.bool false)) (hv_pick_f rfl c4 rfl) (lv rfl rfl (vm rfl) ?_)
   refine lo (wanted_n rfl rfl (c := false) rfl rfl) rfl ?_
   refine lo (wanted_n rfl rfl (c := false) rfl rfl) rfl ?_
   refine lo (wanted_n rfl rfl (c := false) rfl rfl) rfl ?_
   refine lo (wanted_n rfl rfl (c := false) rfl rfl) rfl ?_
   refine lo (wanted_n rfl rfl (c := false) rfl rfl) rfl ?_
   refine lv rfl rfl (v := (.bool false)) (hv_pick (t := false) rfl rfl) (lv rfl rfl (vm rfl) ?_)
   refine lo (wanted_n rfl rfl (c := false) rfl rfl) rfl ?_
   refine lo (wanted_n rfl rfl (c := false) rfl rfl) rfl ?_
   refine lo (wanted_n rfl rfl (c := false) rfl rfl) rfl ?_
   refine lo (wanted_n rfl rfl (c := false) rfl rfl) rfl ?_
   refine lo (wanted_n rfl rfl (c := false) rfl rfl) rfl ?_
   refine lv rfl rfl (v := (.bool false)) (hv_pick (t := false) rfl rfl) (lv rfl rfl (vm rfl) ?_)
   refine lo (wanted_n rfl rfl (c := false) rfl rfl) rfl ?_
   refine lo (wanted_n rfl rfl (c := false) rfl rfl) rfl ?_
   refine lo (wanted_n rfl rfl (c := false) rfl rfl) rfl ?_
   refine lo (wanted_n rfl rfl (c := false) rfl rfl) rfl ?_
   refine lo (wanted_n rfl rfl (c := false) rfl rfl) rfl ?_
   refine lv rfl rfl (v := (.bool false)) (hv_pick (t := false) rfl rfl) (lv rfl rfl (vm rfl) ?_)
   refine lo (wanted_n rfl rfl (c := false) rfl rfl) rfl ?_
   refine lo (wanted_n rfl rfl (c := false) rfl rfl) rfl ?_
   refine lo (wanted_n rfl rfl (c := false) rfl rfl) rfl ?_
   refine lo (wanted_n rfl rfl (c := false) rfl rfl) rfl ?_
   refine lo (wanted_n rfl rfl (c := false) rfl rfl) rfl ?_
   refine lv rfl rfl (v := (.bool false)) (hv_pick (t := false) rfl rfl) (lv rfl rfl (va rfl) ?_)
   refine ln (qn ?_)
   obtain rfl := H
   exact ⟨rfl, (hc rfl hn)⟩
 ·have H := d0; clear c9 d0
  rintro ρ _ ⟨rfl, hH⟩
  refine xh _ hH ?_
  refine xt ?_
  replace H := H h2 d2
  exact endQ_ret _ (res_one Tryd.results14 (rv_tmp rfl)) H
theorem f18_sh (a1 : Int) (a4 : Int) (a2 : Int) (a3 : Int) (b5 : Int) (a6 : Int) (a7 : Int) (l : Option Addr) (c0 : Nat) (e3 : Nat) (d3 : Option Addr) (b0 : Nat) (b9 : Nat) (h : Heap) (R : Value → Heap → Prop)
  (H : (∀ (g : Nat) (hv : Nat) (h2 : Heap), Array.size h ≤ g → g < Array.size h2 → Array.size h ≤ hv → hv < Array.size h2 → Ext h h2 → HC Tryd.prog 45 #[(.agg #[(.int .i64 a1), (.int .i64 a4), (.int .i64 a2), (.int .i64 a3)])] h2 (fun vv h3 => Ext h2 h3 ∧ ∃ r : Int, vv = (.int .i64 r) ∧ ((0 : Int) ≤ r ∧ 1 * r ≤ 140737488355328 ∧ r ≤ 140737488355328 ∧ ∀ nb h4, nb = Array.size h3 → h4 = Array.push h3 (.cells (zcells [(.int .u8 0)] (Int.toNat r)).toArray 5) → (∃ (j4 : Int → Heap → Prop) (g5 : Int → Heap → Nat), j4 0 h4 ∧ (∀ (v : Int) (h5 : Heap), j4 v h5 → (((decide (v < (((Int.toNat r) : Nat) : Int))) = true → ((0 : Int) ≤ v ∧ v < (((Int.toNat r) : Nat) : Int) ∧ (HW h5 nb (0 + (Int.toNat v) * 1) ∧ Off nb [g, hv] ∧ ∀ h6, h6 = hset h5 nb (0 + (Int.toNat v) * 1) (.int .u8 255) → (j4 (IntKind.i64.wrap (v + 1)) h6 ∧ g5 (IntKind.i64.wrap (v + 1)) h6 < g5 v h5)))) ∧ ((decide (v < (((Int.toNat r) : Nat) : Int))) = false → HC Tryd.prog 17 #[(.agg #[(.int .i64 a1), (.int .i64 a4), (.int .i64 a2), (.int .i64 a3)]), (.agg #[(.int .u64 b5), (.int .u64 a6), (.int .i64 a7)])] h5 (fun vv h7 => Ext h5 h7 ∧ ∃ r0 : Option Addr, ∃ d0 d9 : Nat, ∃ r1 : Int, vv = (.tuple #[(.slice r0 d0 d9), (.int .i64 r1)]) ∧ HCopy Tryd.prog 25 25 (.slice (some ⟨nb, 0, none⟩) (Int.toNat r) (Int.toNat r)) (.slice r0 d0 d9) h7 (fun vv h8 => Kp [g, hv] h7 h8 ∧ ∃ n : Nat, vv = (.int .i64 (n : Int)) ∧ HC Tryd.prog 38 #[(.agg #[(.int .i64 a1), (.int .i64 a4), (.int .i64 a2), (.int .i64 a3)]), (.int .i64 32)] h8 (fun vv h9 => Ext h8 h9 ∧ ∃ d1 e8 : Int, vv = (.tuple #[(.int .i64 d1), (.int .i64 e8)]) ∧ (∃ (j5 : Int → Heap → Prop) (i0 : Int → Heap → Nat), j5 (d0 : Int) h9 ∧ (∀ (i : Int) (g0 : Heap), j5 i g0 → (((decide (i < d1)) = true → ((0 : Int) ≤ i ∧ i < (((Int.toNat r) : Nat) : Int) ∧ (HW g0 nb (0 + (Int.toNat i) * 1) ∧ Off nb [g, hv] ∧ ∀ i8, i8 = hset g0 nb (0 + (Int.toNat i) * 1) (.int .u8 0) → (j5 (IntKind.i64.wrap (i + 1)) i8 ∧ i0 (IntKind.i64.wrap (i + 1)) i8 < i0 i g0)))) ∧ ((decide (i < d1)) = false → (∃ (j0 : Int → Option Addr → Nat → Nat → Int → Heap → Prop) (g6 : Int → Option Addr → Nat → Nat → Int → Heap → Nat), j0 d1 none 0 0 0 g0 ∧ (∀ (a8 : Int) (e7 : Option Addr) (d4 : Nat) (d2 : Nat) (b1 : Int) (e0 : Heap), j0 a8 e7 d4 d2 b1 e0 → (((decide (b1 < (c0 : Int))) = true → (∃ j1 : Int → Option Addr → Nat → Nat → Heap → Prop, (∃ e4 e2 : Nat, l = some ⟨e4, e2, none⟩ ∧ (0 : Int) ≤ b1 ∧ b1 < (c0 : Int) ∧ (∃ b3 a5 : Int, ∃ b7 a9 : ByteArray, hcell e0 e4 (e2 + (Int.toNat b1) * 4) = some (.int .i64 b3) ∧ hcell e0 e4 ((e2 + (Int.toNat b1) * 4) + 1) = some (.int .u64 a5) ∧ hcell e0 e4 ((e2 + (Int.toNat b1) * 4) + 2) = some (.string b7) ∧ hcell e0 e4 ((e2 + (Int.toNat b1) * 4) + 3) = some (.string a9) ∧ (∀ (f1 : Nat) (f3 : Heap), Array.size e0 ≤ f1 → f1 < Array.size f3 → Ext e0 f3 → (∃ j3 : Int, (∀ l7, Ext f3 l7 → HC Tryd.prog 40 #[(.int .u64 a6)] l7 (fun vv h' => vv = (.int .u32 j3) ∧ h' = l7)) ∧ HC Tryd.prog 46 #[(.agg #[(.int .i64 a1), (.int .i64 a4), (.int .i64 a2), (.int .i64 a3)]), (.int .u32 j3), (.agg #[(.int .i64 b3), (.int .u64 a5), (.string b7), (.string a9)])] f3 (fun vv g3 => Ext f3 g3 ∧ ∃ c9 : Option Addr, ∃ a0 b4 : Nat, ∃ c5 : Int, vv = (.tuple #[(.slice c9 a0 b4), (.int .i64 c5)]) ∧ ((((c5 != 0) || (decide ((a0 : Int) > (IntKind.i64.wrap ((IntKind.i64.wrap ((((Int.toNat r) : Nat) : Int) - 24)) - a8))))) = true → (j1 a8 e7 d4 d2 g3)) ∧ (((c5 != 0) || (decide ((a0 : Int) > (IntKind.i64.wrap ((IntKind.i64.wrap ((((Int.toNat r) : Nat) : Int) - 24)) - a8))))) = false → (0 ≤ (a8 : Int) ∧ a8 ≤ (((Int.toNat r) : Nat) : Int) ∧ (((Int.toNat r) : Nat) : Int) ≤ (((Int.toNat r) : Nat) : Int) ∧ ∀ sl : Option Addr, sl = slA (some ⟨nb, 0, none⟩) (Int.toNat a8) 1 (Int.toNat r) → HCopy Tryd.prog 25 25 (.slice sl (Int.toNat (((Int.toNat r) : Nat) : Int) - Int.toNat a8) ((Int.toNat r) - Int.toNat a8)) (.slice c9 a0 b4) g3 (fun vv i7 => Kp [g, hv, f1] g3 i7 ∧ ∃ o0 : Nat, vv = (.int .i64 (o0 : Int)) ∧ (∀ i6 g2, i6 = Array.size i7 → g2 = Array.push i7 (.cells #[(.int .i64 a7), (.int .i64 a8), (.int .i64 (a0 : Int)), (.int .i64 b3), (.int .u64 a5), (.string b7), (.string a9)] 45) → HAppend Tryd.prog 32 32 (.slice e7 d4 d2) (.slice (some ⟨i6, 0, none⟩) 1 1) g2 (fun vv l2 => Kp [g, hv] g2 l2 ∧ ∃ ap : Option Addr, ∃ e6 e5 : Nat, vv = (.slice ap e6 e5) ∧ HC Tryd.prog 38 #[(.agg #[(.int .i64 a1), (.int .i64 a4), (.int .i64 a2), (.int .i64 a3)]), (.int .i64 (IntKind.i64.wrap (a8 + (a0 : Int))))] l2 (fun vv g4 => Ext l2 g4 ∧ ∃ c8 e9 : Int, vv = (.tuple #[(.int .i64 c8), (.int .i64 e9)]) ∧ (∃ c2 : Int, (∃ f9 : Bool, (((decide (b1 < (b0 : Int))) = true → (∃ f0 f2 : Nat, d3 = some ⟨f0, f2, none⟩ ∧ (0 : Int) ≤ b1 ∧ b1 < (b0 : Int) ∧ (∃ x : Bool, hcell g4 f0 (f2 + (Int.toNat b1) * 1) = some (.bool x) ∧ (f9 = x)))) ∧ ((decide (b1 < (b0 : Int))) = false → (f9 = false))) ∧ ((f9 = true → (a1 ≠ 0 ∧ (c2 = (IntKind.i64.wrap ((IntKind.i64.wrap (Int.tdiv (IntKind.i64.wrap ((IntKind.i64.wrap (c8 + a1)) - 1)) a1)) * a1))))) ∧ (f9 = false → (c2 = c8)))) ∧ (∃ (f8 : Int → Heap → Prop) (f6 : Int → Heap → Nat), f8 (IntKind.i64.wrap (a8 + (a0 : Int))) g4 ∧ (∀ (k : Int) (f4 : Heap), f8 k f4 → ((((decide (k < c2)) && (decide (k < (IntKind.i64.wrap ((((Int.toNat r) : Nat) : Int) - 24))))) = true → ((0 : Int) ≤ k ∧ k < (((Int.toNat r) : Nat) : Int) ∧ (HW f4 nb (0 + (Int.toNat k) * 1) ∧ Off nb [g, hv] ∧ ∀ i9, i9 = hset f4 nb (0 + (Int.toNat k) * 1) (.int .u8 0) → (f8 (IntKind.i64.wrap (k + 1)) i9 ∧ f6 (IntKind.i64.wrap (k + 1)) i9 < f6 k f4)))) ∧ (((decide (k < c2)) && (decide (k < (IntKind.i64.wrap ((((Int.toNat r) : Nat) : Int) - 24))))) = false → (j1 c2 ap e6 e5 f4)))))))))))))))))) ∧ (∀ (d7 : Int) (d8 : Option Addr) (c7 : Nat) (c6 : Nat) (j2 : Heap), j1 d7 d8 c7 c6 j2 → (j0 d7 d8 c7 c6 (IntKind.i64.wrap (b1 + 1)) j2 ∧ g6 d7 d8 c7 c6 (IntKind.i64.wrap (b1 + 1)) j2 < g6 a8 e7 d4 d2 b1 e0)))) ∧ ((decide (b1 < (c0 : Int))) = false → R (.tuple #[(.slice (some ⟨nb, 0, none⟩) (Int.toNat r) (Int.toNat r)), (.slice e7 d4 d2)]) e0))))))))))))))))))) :
  HC Tryd.prog 18 #[(.agg #[(.int .i64 a1), (.int .i64 a4), (.int .i64 a2), (.int .i64 a3)]), (.agg #[(.int .u64 b5), (.int .u64 a6), (.int .i64 a7)]), (.slice l c0 e3), (.slice d3 b0 b9)] h R := by
 refine hc_of (args := [(.agg #[(.int .i64 a1), (.int .i64 a4), (.int .i64 a2), (.int .i64 a3)]), (.agg #[(.int .u64 b5), (.int .u64 a6), (.int .i64 a7)]), (.slice l c0 e3), (.slice d3 b0 b9)]) Tryd.func18 rfl Tryd.ntmps18 (Nat.le_of_ble_eq_true rfl) ?_
 refine xs (xr ?_)
 refine lp rfl rfl (hn_box (v := (.agg #[(.int .i64 a1), (.int .i64 a4), (.int .i64 a2), (.int .i64 a3)])) rfl ?_)
 intro g h1 o1 n9
 have o5 := ext_pushed_f64_sh n9
 have s7 : Array.size h ≤ g := Nat.le_of_eq (Eq.symm o1)
 have e1 : h1[g]? = some (.cells #[(.int .i64 a1), (.int .i64 a4), (.int .i64 a2), (.int .i64 a3)] 24 (0, 0)) := by rw [n9]; exact push_new o1
 refine lp rfl rfl (hn_box (v := (.agg #[(.int .u64 b5), (.int .u64 a6), (.int .i64 a7)])) rfl ?_)
 intro hv h2 l8 o3
 have o2 := ext_pushed_f64_sh o3
 have s8 := Nat.ne_of_lt (Nat.lt_of_lt_of_eq (row_lt e1) (Eq.symm l8))
 have s4 : Array.size h ≤ hv := Nat.le_trans (Ext.size o5) (Nat.le_of_eq (Eq.symm l8))
 have g1 : h2[hv]? = some (.cells #[(.int .u64 b5), (.int .u64 a6), (.int .i64 a7)] 31 (0, 0)) := by rw [o3]; exact push_new l8
 replace e1 := Ext.row o2 e1
 have q1 := Ext.trans o5 o2
 refine lv rfl rfl (va rfl) (lv rfl rfl (va rfl) ?_)
 refine ln (qn (xs (xr ?_)))
 refine lv rfl rfl (vL (vs := [(.int .i64 a1), (.int .i64 a4), (.int .i64 a2), (.int .i64 a3)]) TyTC.agg24 TyTC.sz24 rfl (cc (rc e1 rfl) (cc (rc e1 rfl) (cc (rc e1 rfl) (cc (rc e1 rfl) cn))))) ?_
 replace H := H g hv h2 s7 (row_lt e1) s4 (row_lt g1) q1
 refine lp rfl rfl (sc TyTC.cb45 rfl (HC.mono H ?_))
 rintro _ h3 ⟨m4, r, rfl, H⟩
 replace e1 := Ext.row m4 e1
 replace g1 := Ext.row m4 g1
 obtain ⟨o6, s6, p5, H⟩ := H
 refine lp rfl rfl (hn_make (z := (.int .u8 0)) (zs := [(.int .u8 0)]) (n := r) TyTC.u25 TyTC.sz5 TyTC.by5 TyTC.z5 rfl rfl o6 s6 p5 rfl rfl ?_)
 intro nb h4 p2 m8
 replace H := H nb h4 p2 m8
 have m5 := ext_pushed_f64_sh m8
 replace e1 := Ext.row m5 e1
 replace g1 := Ext.row m5 g1
 refine lv rfl rfl (va rfl) ?_
 refine ln (qn (xs (xs (xr ?_))))
 refine lv rfl rfl (vm rfl) (lv rfl rfl (v := (.int .i64 (((Int.toNat r) : Nat) : Int))) (hv_len (n := (Int.toNat r)) TyTC.u25 rfl) (lv rfl rfl (vm rfl) ?_))
 refine ln (qn (xb ?_))
 obtain ⟨j4, g5, p9, p1⟩ := H
 refine xl (σ := Int) (fun s => [(2, (.slice l c0 e3)), (3, (.slice d3 b0 b9)), (4, (ptr g 0)), (5, (ptr hv 0)), (10, (.slice (some ⟨nb, 0, none⟩) (Int.toNat r) (Int.toNat r))), (29, (.int .i64 (((Int.toNat r) : Nat) : Int))), (30, (.int .i64 s))]) (fun s h' => j4 s h' ∧ h'[g]? = some (.cells #[(.int .i64 a1), (.int .i64 a4), (.int .i64 a2), (.int .i64 a3)] 24 (0, 0)) ∧ h'[hv]? = some (.cells #[(.int .u64 b5), (.int .u64 a6), (.int .i64 a7)] 31 (0, 0)) ∧ True) (fun s h' => g5 s h') 0 ⟨p9, e1, g1, trivial⟩ (hc rfl (hc rfl (hc rfl (hc rfl (hc rfl (hc rfl (hc rfl hn))))))) ?_
 rintro v ρ h5 ⟨q5, c4, d5, -⟩
 have H := p1 v h5 q5
 refine xs (xr ?_)
 refine lv rfl rfl (vr rfl rfl rfl) ?_
 refine ln (qn (xs ?_))
 refine xc (b := decide (v < (((Int.toNat r) : Nat) : Int))) rfl (fun k5 => ?_) (fun k5 => ?_)
 ·replace H := H.1 k5
  refine xi (qn (xs (xb (xs (xr ?_)))))
  refine lv rfl rfl (vm rfl) (lv rfl rfl (va rfl) ?_)
  refine ln (qn (xr ?_))
  refine lv rfl rfl (vm rfl) (lv rfl rfl (vm rfl) ?_)
  obtain ⟨q9, q0, H⟩ := H
  refine lv rfl rfl (v := (ptr nb (0 + (Int.toNat v) * 1))) (vi TyTC.el25 rfl rfl q9 q0) ?_
  obtain ⟨s1, l4, H⟩ := H
  refine lp rfl rfl (hn_store (v := (.int .u8 255)) rfl rfl TyTC.sz5 rfl s1 ?_)
  intro h6 k3
  replace H := H h6 k3
  replace c4 := row_hset_ne k3 (l4 _ (by simp)) c4
  replace d5 := row_hset_ne k3 (l4 _ (by simp)) d5
  refine ln (bn (qn (xr ?_)))
  refine lv rfl rfl (vr rfl rfl rfl) (lv rfl rfl (vm rfl) ?_)
  refine ln (qn ?_)
  exact ⟨IntKind.i64.wrap (v + 1), ⟨⟨H.1, c4, d5, trivial⟩, H.2⟩, (hc rfl (hc rfl (hc rfl (hc rfl (hc rfl (hc rfl (hc rfl hn)))))))⟩
 ·replace H := H.2 k5
  refine xe (qe (qe (bh (qn (xs (xr ?_))))))
  refine lv rfl rfl (vL (vs := [(.int .i64 a1), (.int .i64 a4), (.int .i64 a2), (.int .i64 a3)]) TyTC.agg24 TyTC.sz24 rfl (cc (rc c4 rfl) (cc (rc c4 rfl) (cc (rc c4 rfl) (cc (rc c4 rfl) cn))))) (lv rfl rfl (vL (vs := [(.int .u64 b5), (.int .u64 a6), (.int .i64 a7)]) TyTC.agg31 TyTC.sz31 rfl (cc (rc d5 rfl) (cc (rc d5 rfl) (cc (rc d5 rfl) cn)))) ?_)
  refine lp rfl rfl (sc TyTC.cb17 rfl (HC.mono H ?_))
  rintro _ h7 ⟨m6, r0, d0, d9, r1, rfl, H⟩
  replace c4 := Ext.row m6 c4
  replace d5 := Ext.row m6 d5
  refine lv rfl rfl (vm rfl) (lv rfl rfl (vx rfl rfl) (lv rfl rfl (vx rfl rfl) (lv rfl rfl (va rfl) (lv rfl rfl (va rfl) ?_))))
  refine ln (qn (xs (xr ?_)))
  refine lv rfl rfl (vm rfl) (lv rfl rfl (vm rfl) ?_)
  refine lp rfl rfl (hs_copy rfl rfl (HCopy.mono H ?_))
  rintro _ h8 ⟨m2, n, rfl, H⟩
  replace c4 := Kp.row m2 (by simp) c4
  replace d5 := Kp.row m2 (by simp) d5
  refine ln (qn (xs (xr ?_)))
  refine lv rfl rfl (vL (vs := [(.int .i64 a1), (.int .i64 a4), (.int .i64 a2), (.int .i64 a3)]) TyTC.agg24 TyTC.sz24 rfl (cc (rc c4 rfl) (cc (rc c4 rfl) (cc (rc c4 rfl) (cc (rc c4 rfl) cn))))) ?_
  refine lp rfl rfl (sc TyTC.cb38 rfl (HC.mono H ?_))
  rintro _ h9 ⟨l5, d1, e8, rfl, H⟩
  replace c4 := Ext.row l5 c4
  replace d5 := Ext.row l5 d5
  refine lv rfl rfl (vm rfl) (lv rfl rfl (vx rfl rfl) (lv rfl rfl (vx rfl rfl) (lv rfl rfl (va rfl) (lv rfl rfl (va rfl) ?_))))
  refine ln (qn (xs (xs (xr ?_))))
  refine lv rfl rfl (vm rfl) (lv rfl rfl (v := (.int .i64 (d0 : Int))) (hv_len (n := d0) TyTC.u25 rfl) (lv rfl rfl (va rfl) ?_))
  refine ln (qn (xb ?_))
  obtain ⟨j5, i0, s3, r3⟩ := H
  refine xl (σ := Int) (fun s => [(2, (.slice l c0 e3)), (3, (.slice d3 b0 b9)), (4, (ptr g 0)), (5, (ptr hv 0)), (10, (.slice (some ⟨nb, 0, none⟩) (Int.toNat r) (Int.toNat r))), (14, (.int .i64 d1)), (16, (.int .i64 s))]) (fun s h' => j5 s h' ∧ h'[g]? = some (.cells #[(.int .i64 a1), (.int .i64 a4), (.int .i64 a2), (.int .i64 a3)] 24 (0, 0)) ∧ h'[hv]? = some (.cells #[(.int .u64 b5), (.int .u64 a6), (.int .i64 a7)] 31 (0, 0)) ∧ True) (fun s h' => i0 s h') (d0 : Int) ⟨s3, c4, d5, trivial⟩ (hc rfl (hc rfl (hc rfl (hc rfl (hc rfl (hc rfl (hc rfl hn))))))) ?_
  rintro i ρ g0 ⟨r9, g7, i5, -⟩
  have H := r3 i g0 r9
  refine xs (xs (xr ?_))
  refine lv rfl rfl (vm rfl) (lv rfl rfl (vm rfl) (lv rfl rfl (vr rfl rfl rfl) ?_))
  refine ln (qn ?_)
  refine xc (b := decide (i < d1)) rfl (fun j8 => ?_) (fun j8 => ?_)
  ·replace H := H.1 j8
   refine xi (qn (xs (xb (xr ?_))))
   refine lv rfl rfl (vm rfl) (lv rfl rfl (vm rfl) ?_)
   obtain ⟨q2, q6, H⟩ := H
   refine lv rfl rfl (v := (ptr nb (0 + (Int.toNat i) * 1))) (vi TyTC.el25 rfl rfl q2 q6) ?_
   obtain ⟨s2, l6, H⟩ := H
   refine lp rfl rfl (hn_store (v := (.int .u8 0)) rfl rfl TyTC.sz5 rfl s2 ?_)
   intro i8 k0
   replace H := H i8 k0
   replace g7 := row_hset_ne k0 (l6 _ (by simp)) g7
   replace i5 := row_hset_ne k0 (l6 _ (by simp)) i5
   refine ln (bn (qn (xr ?_)))
   refine lv rfl rfl (vm rfl) (lv rfl rfl (vr rfl rfl rfl) (lv rfl rfl (va rfl) ?_))
   refine ln (qn ?_)
   exact ⟨IntKind.i64.wrap (i + 1), ⟨⟨H.1, g7, i5, trivial⟩, H.2⟩, (hc rfl (hc rfl (hc rfl (hc rfl (hc rfl (hc rfl (hc rfl hn)))))))⟩
  ·replace H := H.2 j8
   refine xe (qe (qe (bh (qn (xs (xr ?_))))))
   refine lv rfl rfl (va rfl) ?_
   refine ln (qn (xs (xs (xr ?_))))
   refine lv rfl rfl (vm rfl) (lv rfl rfl (v := (.int .i64 (c0 : Int))) (hv_len (n := c0) TyTC.u47 rfl) (lv rfl rfl (vm rfl) ?_))
   refine ln (qn (xb ?_))
   obtain ⟨j0, g6, r5, p7⟩ := H
   refine xl (σ := Int × Option Addr × Nat × Nat × Int) (fun s => [(3, (.slice d3 b0 b9)), (4, (ptr g 0)), (5, (ptr hv 0)), (10, (.slice (some ⟨nb, 0, none⟩) (Int.toNat r) (Int.toNat r))), (14, (.int .i64 s.1)), (17, (.slice s.2.1 s.2.2.1 s.2.2.2.1)), (61, (.slice l c0 e3)), (62, (.int .i64 (c0 : Int))), (63, (.int .i64 s.2.2.2.2))]) (fun s h' => j0 s.1 s.2.1 s.2.2.1 s.2.2.2.1 s.2.2.2.2 h' ∧ h'[g]? = some (.cells #[(.int .i64 a1), (.int .i64 a4), (.int .i64 a2), (.int .i64 a3)] 24 (0, 0)) ∧ h'[hv]? = some (.cells #[(.int .u64 b5), (.int .u64 a6), (.int .i64 a7)] 31 (0, 0)) ∧ True) (fun s h' => g6 s.1 s.2.1 s.2.2.1 s.2.2.2.1 s.2.2.2.2 h') (d1, none, 0, 0, 0) ⟨r5, g7, i5, trivial⟩ (hc rfl (hc rfl (hc rfl (hc rfl (hc rfl (hc rfl (hc rfl (hc rfl (hc rfl hn))))))))) ?_
   rintro ⟨a8, e7, d4, d2, b1⟩ ρ e0 ⟨p6, b2, c1, -⟩
   have H := p7 a8 e7 d4 d2 b1 e0 p6
   refine xs (xr ?_)
   refine lv rfl rfl (vr rfl rfl rfl) ?_
   refine ln (qn (xs ?_))
   refine xc (b := decide (b1 < (c0 : Int))) rfl (fun k6 => ?_) (fun k6 => ?_)
   ·replace H := H.1 k6
    refine xi (qn ?_)
    obtain ⟨j1, j6, k8⟩ := H
    refine xk (fun ρ h' => ∃ d7 : Int, ∃ d8 : Option Addr, ∃ c7 c6 : Nat, (j1 d7 d8 c7 c6 h' ∧ h'[g]? = some (.cells #[(.int .i64 a1), (.int .i64 a4), (.int .i64 a2), (.int .i64 a3)] 24 (0, 0)) ∧ h'[hv]? = some (.cells #[(.int .u64 b5), (.int .u64 a6), (.int .i64 a7)] 31 (0, 0)) ∧ True) ∧ Has ρ [(3, (.slice d3 b0 b9)), (4, (ptr g 0)), (5, (ptr hv 0)), (10, (.slice (some ⟨nb, 0, none⟩) (Int.toNat r) (Int.toNat r))), (14, (.int .i64 d7)), (17, (.slice d8 c7 c6)), (61, (.slice l c0 e3)), (62, (.int .i64 (c0 : Int))), (63, (.int .i64 b1))]) ?_ ?_
    ·have H := j6; clear j6 k8
     refine xb (xs (xr ?_))
     refine lv rfl rfl (vm rfl) ?_
     obtain ⟨e4, e2, m1, o7, r4, Hq⟩ := H
     subst m1
     have H := Hq; clear Hq
     refine lv rfl rfl (v := (ptr e4 (e2 + (Int.toNat b1) * 4))) (vi TyTC.el47 rfl rfl o7 r4) ?_
     obtain ⟨b3, a5, b7, a9, r2, p0, s0, p4, H⟩ := H
     refine lv rfl rfl (vL (vs := [(.int .i64 b3), (.int .u64 a5), (.string b7), (.string a9)]) TyTC.agg43 TyTC.sz43 rfl (cc r2 (cc p0 (cc s0 (cc p4 cn))))) ?_
     refine lp rfl rfl (hn_alloc TyTC.z43 ?_)
     intro f1 o4 g9 m3
     have l0 := ext_pushed_f64_sh m3
     have s5 := Nat.ne_of_lt (Nat.lt_of_lt_of_eq (row_lt b2) (Eq.symm g9))
     have o9 := Nat.ne_of_lt (Nat.lt_of_lt_of_eq (row_lt c1) (Eq.symm g9))
     have m7 : Array.size e0 ≤ f1 := Nat.le_of_eq (Eq.symm g9)
     have l3 : o4[f1]? = some (.cells #[(.int .i64 0), (.int .u64 0), (.string ByteArray.empty), (.string ByteArray.empty)] 43 (0, 0)) := by rw [m3]; exact push_new g9
     replace b2 := Ext.row l0 b2
     replace c1 := Ext.row l0 c1
     refine lv rfl rfl (va rfl) ?_
     refine lp rfl rfl (hn_stores (vs := [(.int .i64 b3), (.int .u64 a5), (.string b7), (.string a9)]) rfl rfl TyTC.sz43 rfl (HWs_row l3 (by simp)) ?_)
     intro f3 i3
     replace b2 := row_hsets_ne i3 s5 b2
     replace c1 := row_hsets_ne i3 o9 c1
     have c3 : f3[f1]? = some (.cells #[(.int .i64 b3), (.int .u64 a5), (.string b7), (.string a9)] 43 (0, 0)) := row_hsets_eq i3 l3 rfl
     have r7 := ext_hsets i3 l0 m7
     refine ln (qn (xs ?_))
     refine hx_draw TyTC.mixed [.read, .pure, .read, .read, .read, .ext, .pure, .pure, .pure, .pure, .pure] [0, 1, 2, 3, 4, 5, 6, 7, 8, 9, 10] (by kernel_rfl) ?_
     refine pr (i := 0) rfl (wanted_0 rfl) rfl (.agg #[(.int .i64 a1), (.int .i64 a4), (.int .i64 a2), (.int .i64 a3)]) (fun _ he => vL (vs := [(.int .i64 a1), (.int .i64 a4), (.int .i64 a2), (.int .i64 a3)]) TyTC.agg24 TyTC.sz24 rfl (cc (Ext.cell he (rc b2 rfl)) (cc (Ext.cell he (rc b2 rfl)) (cc (Ext.cell he (rc b2 rfl)) (cc (Ext.cell he (rc b2 rfl)) cn))))) ?_
     refine pp (i := 1) rfl (wanted_0 rfl) rfl (ptr hv 1) (fun _ => vf TyTC.fld31_1 (b := hv) (o := 0) rfl) ?_
     refine pr (i := 2) rfl (wanted_0 rfl) rfl (.int .u64 a6) (fun _ he => vl TyTC.agg29 rfl (Ext.cell he (rc c1 rfl))) ?_
     replace H := H f1 f3 m7 (row_lt c3) r7
     obtain ⟨j3, r8, H⟩ := H
     refine pr (i := 3) rfl (wanted_0 rfl) rfl (.int .u32 j3) (fun _ he => hv_call TyTC.cb40 (vs := [(.int .u64 a6)]) rfl (r8 _ he)) ?_
     refine pr (i := 4) rfl (wanted_0 rfl) rfl (.agg #[(.int .i64 b3), (.int .u64 a5), (.string b7), (.string a9)]) (fun _ he => vL (vs := [(.int .i64 b3), (.int .u64 a5), (.string b7), (.string a9)]) TyTC.agg43 TyTC.sz43 rfl (cc (Ext.cell he (rc c3 rfl)) (cc (Ext.cell he (rc c3 rfl)) (cc (Ext.cell he (rc c3 rfl)) (cc (Ext.cell he (rc c3 rfl)) cn))))) ?_
     refine hp_ext (i := 5) rfl (wanted_0 rfl) rfl (sc TyTC.cb46 rfl (HC.mono H ?_))
     rintro _ g3 ⟨i4, c9, a0, b4, c5, rfl, H⟩
     refine ⟨i4, ?_⟩
     replace b2 := Ext.row i4 b2
     replace c1 := Ext.row i4 c1
     replace c3 := Ext.row i4 c3
     refine pp (i := 6) rfl (wanted_0 rfl) rfl (.tuple #[(.slice c9 a0 b4), (.int .i64 c5)]) (fun _ => vm rfl) ?_
     refine pp (i := 7) rfl (wanted_0 rfl) rfl (.slice c9 a0 b4) (fun _ => vx (vs := #[(.slice c9 a0 b4), (.int .i64 c5)]) rfl rfl) ?_
     refine pp (i := 8) rfl (wanted_0 rfl) rfl (.int .i64 c5) (fun _ => vx (vs := #[(.slice c9 a0 b4), (.int .i64 c5)]) rfl rfl) ?_
     refine pp (i := 9) rfl (wanted_0 rfl) rfl (.slice c9 a0 b4) (fun _ => va rfl) ?_
     refine pp (i := 10) rfl (wanted_0 rfl) rfl (.int .i64 c5) (fun _ => va rfl) ?_
     refine hp_nil ?_
     refine qn (xs ?_)
     refine xk (fun ρ h' => g3 = h' ∧ Has ρ [(3, (.slice d3 b0 b9)), (4, (ptr g 0)), (5, (ptr hv 0)), (10, (.slice (some ⟨nb, 0, none⟩) (Int.toNat r) (Int.toNat r))), (14, (.int .i64 a8)), (17, (.slice e7 d4 d2)), (18, (.int .i64 b1)), (19, (ptr f1 0)), (20, (.slice c9 a0 b4)), (61, (.slice (some ⟨e4, e2, none⟩) c0 e3)), (62, (.int .i64 (c0 : Int))), (63, (.int .i64 b1)), (88, (.bool ((c5 != 0) || (decide ((a0 : Int) > (IntKind.i64.wrap ((IntKind.i64.wrap ((((Int.toNat r) : Nat) : Int) - 24)) - a8)))))))]) ?_ ?_
     ·refine xr ?_
      refine lv rfl rfl (vm rfl) (lv rfl rfl (vr rfl rfl rfl) (lv rfl rfl (vm rfl) ?_))
      rcases bool_or (c5 != 0) with b6 | b6
      ·refine lo (wanted_n rfl rfl rfl b6) rfl ?_
       refine lo (wanted_n rfl rfl rfl b6) rfl ?_
       refine lo (wanted_n rfl rfl rfl b6) rfl ?_
       refine lo (wanted_n rfl rfl rfl b6) rfl ?_
       refine lo (wanted_n rfl rfl rfl b6) rfl ?_
       refine lo (wanted_n rfl rfl rfl b6) rfl ?_
       refine lo (wanted_n rfl rfl rfl b6) rfl ?_
       refine lo (wanted_n rfl rfl rfl b6) rfl ?_
       refine lv rfl rfl (v := (.bool true)) (hv_pick_t rfl b6 rfl) ?_
       refine ln (qn ?_)
       exact ⟨rfl, (hc rfl (hc rfl (hc rfl (hc rfl (hc rfl (hc rfl (hc rfl (hc rfl (hc rfl (hc rfl (hc rfl (hc rfl (hc (show ((.bool true) : Value) = (.bool ((c5 != 0) || (decide ((a0 : Int) > (IntKind.i64.wrap ((IntKind.i64.wrap ((((Int.toNat r) : Nat) : Int) - 24)) - a8)))))) from (by first | rfl | ((try rw [b6]); all_goals first | rfl | (simp only [Bool.true_or, Bool.or_true, Bool.false_or, Bool.or_false, Bool.true_and, Bool.and_true, Bool.false_and, Bool.and_false, Bool.not_true, Bool.not_false, Bool.cond_true, Bool.cond_false]; done)) | simp [b6])) hn)))))))))))))⟩
      ·refine ly (wanted_y rfl rfl rfl b6) rfl (HStep.of_val (v := (.slice c9 a0 b4)) (vm rfl) ?_)
       refine ly (wanted_y rfl rfl rfl b6) rfl (HStep.of_val (v := (.int .i64 (a0 : Int))) (hv_len (n := a0) TyTC.u25 rfl) ?_)
       refine ly (wanted_y rfl rfl rfl b6) rfl (HStep.of_val (v := (.slice (some ⟨nb, 0, none⟩) (Int.toNat r) (Int.toNat r))) (vm rfl) ?_)
       refine ly (wanted_y rfl rfl rfl b6) rfl (HStep.of_val (v := (.int .i64 (((Int.toNat r) : Nat) : Int))) (hv_len (n := (Int.toNat r)) TyTC.u25 rfl) ?_)
       refine ly (wanted_y rfl rfl rfl b6) rfl (HStep.of_val (v := (.int .i64 (IntKind.i64.wrap ((((Int.toNat r) : Nat) : Int) - 24)))) (vr rfl rfl rfl) ?_)
       refine ly (wanted_y rfl rfl rfl b6) rfl (HStep.of_val (v := (.int .i64 a8)) (vm rfl) ?_)
       refine ly (wanted_y rfl rfl rfl b6) rfl (HStep.of_val (v := (.int .i64 (IntKind.i64.wrap ((IntKind.i64.wrap ((((Int.toNat r) : Nat) : Int) - 24)) - a8)))) (vr rfl rfl rfl) ?_)
       refine ly (wanted_y rfl rfl rfl b6) rfl (HStep.of_val (v := (.bool (decide ((a0 : Int) > (IntKind.i64.wrap ((IntKind.i64.wrap ((((Int.toNat r) : Nat) : Int) - 24)) - a8)))))) (vr rfl rfl rfl) ?_)
       refine lv rfl rfl (v := (.bool (decide ((a0 : Int) > (IntKind.i64.wrap ((IntKind.i64.wrap ((((Int.toNat r) : Nat) : Int) - 24)) - a8)))))) (hv_pick_f rfl b6 rfl) ?_
       refine ln (qn ?_)
       exact ⟨rfl, (hc rfl (hc rfl (hc rfl (hc rfl (hc rfl (hc rfl (hc rfl (hc rfl (hc rfl (hc rfl (hc rfl (hc rfl (hc (show ((.bool (decide ((a0 : Int) > (IntKind.i64.wrap ((IntKind.i64.wrap ((((Int.toNat r) : Nat) : Int) - 24)) - a8))))) : Value) = (.bool ((c5 != 0) || (decide ((a0 : Int) > (IntKind.i64.wrap ((IntKind.i64.wrap ((((Int.toNat r) : Nat) : Int) - 24)) - a8)))))) from (by first | rfl | ((try rw [b6]); all_goals first | rfl | (simp only [Bool.true_or, Bool.or_true, Bool.false_or, Bool.or_false, Bool.true_and, Bool.and_true, Bool.false_and, Bool.and_false, Bool.not_true, Bool.not_false, Bool.cond_true, Bool.cond_false]; done)) | simp [b6])) hn)))))))))))))⟩
     ·rintro ρ _ ⟨rfl, hH⟩
      refine xh _ hH ?_
      refine xc (b := ((c5 != 0) || (decide ((a0 : Int) > (IntKind.i64.wrap ((IntKind.i64.wrap ((((Int.toNat r) : Nat) : Int) - 24)) - a8)))))) rfl (fun k2 => ?_) (fun k2 => ?_)
      ·replace H := H.1 k2
       refine xe (qe (bh (qn ?_)))
       exact ⟨_, _, _, _, ⟨H, b2, c1, trivial⟩, (hc rfl (hc rfl (hc rfl (hc rfl (hc rfl (hc rfl (hc rfl (hc rfl (hc rfl hn)))))))))⟩
      ·replace H := H.2 k2
       refine xi (qn (xs (xr ?_)))
       refine lv rfl rfl (vm rfl) (lv rfl rfl (vm rfl) ?_)
       obtain ⟨q7, p8, q3, H⟩ := H
       obtain ⟨sl, hq87⟩ : ∃ q, q = slA (some ⟨nb, 0, none⟩) (Int.toNat a8) 1 (Int.toNat r) := ⟨_, rfl⟩
       replace H := H sl hq87
       refine lv rfl rfl (v := (.slice sl (Int.toNat (((Int.toNat r) : Nat) : Int) - Int.toNat a8) ((Int.toNat r) - Int.toNat a8))) (hv_slice (l := a8) (r := (((Int.toNat r) : Nat) : Int)) TyTC.u25 TyTC.sz5 rfl (sl_some rfl) sh_none q7 p8 q3 hq87) (lv rfl rfl (vm rfl) ?_)
       refine lp rfl rfl (hs_copy rfl rfl (HCopy.mono H ?_))
       rintro _ i7 ⟨k7, o0, rfl, H⟩
       replace b2 := Kp.row k7 (by simp) b2
       replace c1 := Kp.row k7 (by simp) c1
       replace c3 := Kp.row k7 (by simp) c3
       refine ln (qn (xs (xr ?_)))
       refine lv rfl rfl (vm rfl) (lv rfl rfl (v := (ptr hv 2)) (vf TyTC.fld31_2 (b := hv) (o := 0) rfl) (lv rfl rfl (vl TyTC.agg3 rfl (rc c1 rfl)) (lv rfl rfl (vm rfl) (lv rfl rfl (vm rfl) (lv rfl rfl (v := (.int .i64 (a0 : Int))) (hv_len (n := a0) TyTC.u25 rfl) ?_)))))
       refine lv rfl rfl (vL (vs := [(.int .i64 b3), (.int .u64 a5), (.string b7), (.string a9)]) TyTC.agg43 TyTC.sz43 rfl (cc (rc c3 rfl) (cc (rc c3 rfl) (cc (rc c3 rfl) (cc (rc c3 rfl) cn))))) (lv rfl rfl (v := (.agg #[(.int .i64 a7), (.int .i64 a8), (.int .i64 (a0 : Int)), (.int .i64 b3), (.int .u64 a5), (.string b7), (.string a9)])) (vb (vs := [(0, (.int .i64 a7)), (1, (.int .i64 a8)), (2, (.int .i64 (a0 : Int))), (3, (.agg #[(.int .i64 b3), (.int .u64 a5), (.string b7), (.string a9)]))]) (cs := #[(.int .i64 a7), (.int .i64 a8), (.int .i64 (a0 : Int)), (.int .i64 b3), (.int .u64 a5), (.string b7), (.string a9)]) TyTC.z45 TyTC.pl45 rfl (by kernel_rfl)) ?_)
       refine lp rfl rfl (hn_buildSlice (n := 1) (vs := [(0, (.agg #[(.int .i64 a7), (.int .i64 a8), (.int .i64 (a0 : Int)), (.int .i64 b3), (.int .u64 a5), (.string b7), (.string a9)]))]) (cs := #[(.int .i64 a7), (.int .i64 a8), (.int .i64 (a0 : Int)), (.int .i64 b3), (.int .u64 a5), (.string b7), (.string a9)]) TyTC.u32 TyTC.sz45 TyTC.z45 rfl rfl (by kernel_rfl) ?_)
       intro i6 g2 q8 m0
       replace H := H i6 g2 q8 m0
       have k4 := ext_pushed_f64_sh m0
       replace b2 := Ext.row k4 b2
       replace c1 := Ext.row k4 c1
       replace c3 := Ext.row k4 c3
       refine lp rfl rfl (hs_append rfl rfl (HAppend.mono H ?_))
       rintro _ l2 ⟨m9, ap, e6, e5, rfl, H⟩
       replace b2 := Kp.row m9 (by simp) b2
       replace c1 := Kp.row m9 (by simp) c1
       refine lv rfl rfl (va rfl) ?_
       refine ln (qn (xs (xr ?_)))
       refine lv rfl rfl (vL (vs := [(.int .i64 a1), (.int .i64 a4), (.int .i64 a2), (.int .i64 a3)]) TyTC.agg24 TyTC.sz24 rfl (cc (rc b2 rfl) (cc (rc b2 rfl) (cc (rc b2 rfl) (cc (rc b2 rfl) cn))))) (lv rfl rfl (vm rfl) (lv rfl rfl (vm rfl) (lv rfl rfl (v := (.int .i64 (a0 : Int))) (hv_len (n := a0) TyTC.u25 rfl) (lv rfl rfl (vr rfl rfl rfl) ?_))))
       refine lp rfl rfl (sc TyTC.cb38 rfl (HC.mono H ?_))
       rintro _ g4 ⟨l9, c8, e9, rfl, H⟩
       replace b2 := Ext.row l9 b2
       replace c1 := Ext.row l9 c1
       refine lv rfl rfl (vm rfl) (lv rfl rfl (vx rfl rfl) (lv rfl rfl (vx rfl rfl) (lv rfl rfl (va rfl) (lv rfl rfl (va rfl) ?_))))
       refine ln (qn ?_)
       obtain ⟨c2, j7, j9⟩ := H
       refine xk (fun ρ h' => g4 = h' ∧ Has ρ [(3, (.slice d3 b0 b9)), (4, (ptr g 0)), (5, (ptr hv 0)), (10, (.slice (some ⟨nb, 0, none⟩) (Int.toNat r) (Int.toNat r))), (14, (.int .i64 a8)), (17, (.slice ap e6 e5)), (20, (.slice c9 a0 b4)), (22, (.int .i64 c2)), (61, (.slice (some ⟨e4, e2, none⟩) c0 e3)), (62, (.int .i64 (c0 : Int))), (63, (.int .i64 b1))]) ?_ ?_
       ·have H := j7; clear j7 j9
        obtain ⟨f9, k9, k1⟩ := H
        refine xk (fun ρ h' => g4 = h' ∧ Has ρ [(3, (.slice d3 b0 b9)), (4, (ptr g 0)), (5, (ptr hv 0)), (10, (.slice (some ⟨nb, 0, none⟩) (Int.toNat r) (Int.toNat r))), (14, (.int .i64 a8)), (17, (.slice ap e6 e5)), (20, (.slice c9 a0 b4)), (22, (.int .i64 c8)), (61, (.slice (some ⟨e4, e2, none⟩) c0 e3)), (62, (.int .i64 (c0 : Int))), (63, (.int .i64 b1)), (122, (.bool f9))]) ?_ ?_
        ·have H := k9; clear k9 k1
         refine xr ?_
         refine lv rfl rfl (vm rfl) (lv rfl rfl (vm rfl) (lv rfl rfl (v := (.int .i64 (b0 : Int))) (hv_len (n := b0) TyTC.u48 rfl) (lv rfl rfl (vr rfl rfl rfl) (lv rfl rfl (vm rfl) ?_))))
         rcases bool_or (decide (b1 < (b0 : Int))) with d6 | d6
         ·replace H := H.1 d6
          refine ly (wanted_y rfl rfl rfl d6) rfl (HStep.of_val (v := (.slice d3 b0 b9)) (vm rfl) ?_)
          refine ly (wanted_y rfl rfl rfl d6) rfl (HStep.of_val (v := (.int .i64 b1)) (vm rfl) ?_)
          obtain ⟨f0, f2, m1, r6, n5, Hq⟩ := H
          subst m1
          have H := Hq; clear Hq
          refine ly (wanted_y rfl rfl rfl d6) rfl (HStep.of_val (v := (ptr f0 (f2 + (Int.toNat b1) * 1))) (vi TyTC.el48 rfl rfl r6 n5) ?_)
          obtain ⟨x, n4, H⟩ := H
          refine ly (wanted_y rfl rfl rfl d6) rfl (HStep.of_val (v := (.bool x)) (vl TyTC.agg4 rfl n4) ?_)
          refine lv rfl rfl (v := (.bool x)) (hv_pick_t rfl d6 rfl) ?_
          refine ln (qn ?_)
          obtain rfl := H
          exact ⟨rfl, (hc rfl (hc rfl (hc rfl (hc rfl (hc rfl (hc rfl (hc rfl (hc rfl (hc rfl (hc rfl (hc rfl (hc rfl hn))))))))))))⟩
         ·replace H := H.2 d6
          refine lo (wanted_n rfl rfl rfl d6) rfl ?_
          refine lo (wanted_n rfl rfl rfl d6) rfl ?_
          refine lo (wanted_n rfl rfl rfl d6) rfl ?_
          refine lo (wanted_n rfl rfl rfl d6) rfl ?_
          refine lv rfl rfl (v := (.bool false)) (hv_pick_f rfl d6 rfl) ?_
          refine ln (qn ?_)
          obtain rfl := H
          exact ⟨rfl, (hc rfl (hc rfl (hc rfl (hc rfl (hc rfl (hc rfl (hc rfl (hc rfl (hc rfl (hc rfl (hc rfl (hc rfl hn))))))))))))⟩
        ·have H := k1; clear k9 k1
         rintro ρ _ ⟨rfl, hH⟩
         refine xh _ hH ?_
         refine xc (b := f9) rfl (fun i2 => ?_) (fun i2 => ?_)
         ·replace H := H.1 i2
          refine hx_draw TyTC.mixed [.pure, .pure, .read, .pure, .pure, .pure, .read, .pure, .pure, .read, .pure, .pure] [0, 1, 2, 3, 4, 5, 6, 7, 8, 9, 10, 11] (by kernel_rfl) ?_
          refine pp (i := 0) rfl (wanted_0 rfl) rfl (.int .i64 c8) (fun _ => vm rfl) ?_
          refine pp (i := 1) rfl (wanted_0 rfl) rfl (ptr g 0) (fun _ => vf TyTC.fld24_0 (b := g) (o := 0) rfl) ?_
          refine pr (i := 2) rfl (wanted_0 rfl) rfl (.int .i64 a1) (fun _ he => vl TyTC.agg3 rfl (Ext.cell he (rc b2 rfl))) ?_
          refine pp (i := 3) rfl (wanted_0 rfl) rfl (.int .i64 (IntKind.i64.wrap (c8 + a1))) (fun _ => vr rfl rfl rfl) ?_
          refine pp (i := 4) rfl (wanted_0 rfl) rfl (.int .i64 (IntKind.i64.wrap ((IntKind.i64.wrap (c8 + a1)) - 1))) (fun _ => vr rfl rfl rfl) ?_
          refine pp (i := 5) rfl (wanted_0 rfl) rfl (ptr g 0) (fun _ => vf TyTC.fld24_0 (b := g) (o := 0) rfl) ?_
          refine pr (i := 6) rfl (wanted_0 rfl) rfl (.int .i64 a1) (fun _ he => vl TyTC.agg3 rfl (Ext.cell he (rc b2 rfl))) ?_
          obtain ⟨n7, H⟩ := H
          refine pp (i := 7) rfl (wanted_0 rfl) rfl (.int .i64 (IntKind.i64.wrap (Int.tdiv (IntKind.i64.wrap ((IntKind.i64.wrap (c8 + a1)) - 1)) a1))) (fun _ => hv_quo rfl rfl n7) ?_
          refine pp (i := 8) rfl (wanted_0 rfl) rfl (ptr g 0) (fun _ => vf TyTC.fld24_0 (b := g) (o := 0) rfl) ?_
          refine pr (i := 9) rfl (wanted_0 rfl) rfl (.int .i64 a1) (fun _ he => vl TyTC.agg3 rfl (Ext.cell he (rc b2 rfl))) ?_
          refine pp (i := 10) rfl (wanted_0 rfl) rfl (.int .i64 (IntKind.i64.wrap ((IntKind.i64.wrap (Int.tdiv (IntKind.i64.wrap ((IntKind.i64.wrap (c8 + a1)) - 1)) a1)) * a1))) (fun _ => vr rfl rfl rfl) ?_
          refine pp (i := 11) rfl (wanted_0 rfl) rfl (.int .i64 (IntKind.i64.wrap ((IntKind.i64.wrap (Int.tdiv (IntKind.i64.wrap ((IntKind.i64.wrap (c8 + a1)) - 1)) a1)) * a1))) (fun _ => va rfl) ?_
          refine hp_nil ?_
          refine qn ?_
          obtain rfl := H
          exact ⟨rfl, (hc rfl (hc rfl (hc rfl (hc rfl (hc rfl (hc rfl (hc rfl (hc rfl (hc rfl (hc rfl (hc rfl hn)))))))))))⟩
         ·replace H := H.2 i2
          refine xi (qn ?_)
          obtain rfl := H
          exact ⟨rfl, (hc rfl (hc rfl (hc rfl (hc rfl (hc rfl (hc rfl (hc rfl (hc rfl (hc rfl (hc rfl (hc rfl hn)))))))))))⟩
       ·have H := j9; clear j7 j9
        rintro ρ _ ⟨rfl, hH⟩
        refine xh _ hH ?_
        refine xs (xs (xr ?_))
        refine lv rfl rfl (vm rfl) (lv rfl rfl (vm rfl) (lv rfl rfl (v := (.int .i64 (a0 : Int))) (hv_len (n := a0) TyTC.u25 rfl) (lv rfl rfl (vr rfl rfl rfl) (lv rfl rfl (va rfl) ?_))))
        refine ln (qn (xb ?_))
        obtain ⟨f8, f6, n3, n1⟩ := H
        refine xl (σ := Int) (fun s => [(3, (.slice d3 b0 b9)), (4, (ptr g 0)), (5, (ptr hv 0)), (10, (.slice (some ⟨nb, 0, none⟩) (Int.toNat r) (Int.toNat r))), (17, (.slice ap e6 e5)), (22, (.int .i64 c2)), (24, (.int .i64 s)), (61, (.slice (some ⟨e4, e2, none⟩) c0 e3)), (62, (.int .i64 (c0 : Int))), (63, (.int .i64 b1))]) (fun s h' => f8 s h' ∧ h'[g]? = some (.cells #[(.int .i64 a1), (.int .i64 a4), (.int .i64 a2), (.int .i64 a3)] 24 (0, 0)) ∧ h'[hv]? = some (.cells #[(.int .u64 b5), (.int .u64 a6), (.int .i64 a7)] 31 (0, 0)) ∧ True) (fun s h' => f6 s h') (IntKind.i64.wrap (a8 + (a0 : Int))) ⟨n3, b2, c1, trivial⟩ (hc rfl (hc rfl (hc rfl (hc rfl (hc rfl (hc rfl (hc rfl (hc rfl (hc rfl (hc rfl hn)))))))))) ?_
        rintro k ρ f4 ⟨n6, f5, f7, -⟩
        have H := n1 k f4 n6
        refine xs ?_
        refine xk (fun ρ h' => f4 = h' ∧ Has ρ [(3, (.slice d3 b0 b9)), (4, (ptr g 0)), (5, (ptr hv 0)), (10, (.slice (some ⟨nb, 0, none⟩) (Int.toNat r) (Int.toNat r))), (17, (.slice ap e6 e5)), (22, (.int .i64 c2)), (24, (.int .i64 k)), (61, (.slice (some ⟨e4, e2, none⟩) c0 e3)), (62, (.int .i64 (c0 : Int))), (63, (.int .i64 b1)), (147, (.bool ((decide (k < c2)) && (decide (k < (IntKind.i64.wrap ((((Int.toNat r) : Nat) : Int) - 24)))))))]) ?_ ?_
        ·refine xr ?_
         refine lv rfl rfl (vm rfl) (lv rfl rfl (vm rfl) (lv rfl rfl (vr rfl rfl rfl) (lv rfl rfl (vm rfl) ?_)))
         rcases bool_or (decide (k < c2)) with b8 | b8
         ·refine ly (wanted_y rfl rfl rfl b8) rfl (HStep.of_val (v := (.int .i64 k)) (vm rfl) ?_)
          refine ly (wanted_y rfl rfl rfl b8) rfl (HStep.of_val (v := (.slice (some ⟨nb, 0, none⟩) (Int.toNat r) (Int.toNat r))) (vm rfl) ?_)
          refine ly (wanted_y rfl rfl rfl b8) rfl (HStep.of_val (v := (.int .i64 (((Int.toNat r) : Nat) : Int))) (hv_len (n := (Int.toNat r)) TyTC.u25 rfl) ?_)
          refine ly (wanted_y rfl rfl rfl b8) rfl (HStep.of_val (v := (.int .i64 (IntKind.i64.wrap ((((Int.toNat r) : Nat) : Int) - 24)))) (vr rfl rfl rfl) ?_)
          refine ly (wanted_y rfl rfl rfl b8) rfl (HStep.of_val (v := (.bool (decide (k < (IntKind.i64.wrap ((((Int.toNat r) : Nat) : Int) - 24)))))) (vr rfl rfl rfl) ?_)
          refine lv rfl rfl (v := (.bool (decide (k < (IntKind.i64.wrap ((((Int.toNat r) : Nat) : Int) - 24)))))) (hv_pick_t rfl b8 rfl) ?_
          refine ln (qn ?_)
          exact ⟨rfl, (hc rfl (hc rfl (hc rfl (hc rfl (hc rfl (hc rfl (hc rfl (hc rfl (hc rfl (hc rfl (hc (show ((.bool (decide (k < (IntKind.i64.wrap ((((Int.toNat r) : Nat) : Int) - 24))))) : Value) = (.bool ((decide (k < c2)) && (decide (k < (IntKind.i64.wrap ((((Int.toNat r) : Nat) : Int) - 24)))))) from (by first | rfl | ((try rw [b8]); all_goals first | rfl | (simp only [Bool.true_or, Bool.or_true, Bool.false_or, Bool.or_false, Bool.true_and, Bool.and_true, Bool.false_and, Bool.and_false, Bool.not_true, Bool.not_false, Bool.cond_true, Bool.cond_false]; done)) | simp [b8])) hn)))))))))))⟩
         ·refine lo (wanted_n rfl rfl rfl b8) rfl ?_
          refine lo (wanted_n rfl rfl rfl b8) rfl ?_
          refine lo (wanted_n rfl rfl rfl b8) rfl ?_
          refine lo (wanted_n rfl rfl rfl b8) rfl ?_
          refine lo (wanted_n rfl rfl rfl b8) rfl ?_
          refine lv rfl rfl (v := (.bool false)) (hv_pick_f rfl b8 rfl) ?_
          refine ln (qn ?_)
          exact ⟨rfl, (hc rfl (hc rfl (hc rfl (hc rfl (hc rfl (hc rfl (hc rfl (hc rfl (hc rfl (hc rfl (hc (show ((.bool false) : Value) = (.bool ((decide (k < c2)) && (decide (k < (IntKind.i64.wrap ((((Int.toNat r) : Nat) : Int) - 24)))))) from (by first | rfl | ((try rw [b8]); all_goals first | rfl | (simp only [Bool.true_or, Bool.or_true, Bool.false_or, Bool.or_false, Bool.true_and, Bool.and_true, Bool.false_and, Bool.and_false, Bool.not_true, Bool.not_false, Bool.cond_true, Bool.cond_false]; done)) | simp [b8])) hn)))))))))))⟩
        ·rintro ρ _ ⟨rfl, hH⟩
         refine xh _ hH ?_
         refine xc (b := ((decide (k < c2)) && (decide (k < (IntKind.i64.wrap ((((Int.toNat r) : Nat) : Int) - 24)))))) rfl (fun i1 => ?_) (fun i1 => ?_)
         ·replace H := H.1 i1
          refine xi (qn (xs (xb (xr ?_))))
          refine lv rfl rfl (vm rfl) (lv rfl rfl (vm rfl) ?_)
          obtain ⟨n0, n2, H⟩ := H
          refine lv rfl rfl (v := (ptr nb (0 + (Int.toNat k) * 1))) (vi TyTC.el25 rfl rfl n0 n2) ?_
          obtain ⟨n8, l1, H⟩ := H
          refine lp rfl rfl (hn_store (v := (.int .u8 0)) rfl rfl TyTC.sz5 rfl n8 ?_)
          intro i9 g8
          replace H := H i9 g8
          replace f5 := row_hset_ne g8 (l1 _ (by simp)) f5
          replace f7 := row_hset_ne g8 (l1 _ (by simp)) f7
          refine ln (bn (qn (xr ?_)))
          refine lv rfl rfl (vm rfl) (lv rfl rfl (vr rfl rfl rfl) (lv rfl rfl (va rfl) ?_))
          refine ln (qn ?_)
          exact ⟨IntKind.i64.wrap (k + 1), ⟨⟨H.1, f5, f7, trivial⟩, H.2⟩, (hc rfl (hc rfl (hc rfl (hc rfl (hc rfl (hc rfl (hc rfl (hc rfl (hc rfl (hc rfl hn))))))))))⟩
         ·replace H := H.2 i1
          refine xe (qe (qe (bh (qn (xr ?_)))))
          refine lv rfl rfl (vm rfl) (lv rfl rfl (va rfl) ?_)
          refine ln (bn (qn ?_))
          exact ⟨_, _, _, _, ⟨H, f5, f7, trivial⟩, (hc rfl (hc rfl (hc rfl (hc rfl (hc rfl (hc rfl (hc rfl (hc rfl (hc rfl hn)))))))))⟩
    ·rintro ρ j2 ⟨d7, d8, c7, c6, ⟨o8, p3, q4, -⟩, hH⟩
     have H := k8 d7 d8 c7 c6 j2 o8; clear j6 k8
     refine xh _ hH ?_
     refine xr ?_
     refine lv rfl rfl (vr rfl rfl rfl) (lv rfl rfl (vm rfl) ?_)
     refine ln (qn ?_)
     exact ⟨(d7, d8, c7, c6, IntKind.i64.wrap (b1 + 1)), ⟨⟨H.1, p3, q4, trivial⟩, H.2⟩, (hc rfl (hc rfl (hc rfl (hc rfl (hc rfl (hc rfl (hc rfl (hc rfl (hc rfl hn)))))))))⟩
   ·replace H := H.2 k6
    refine xe (qe (qe (bh (qn (xs (xr ?_))))))
    refine lv rfl rfl (vm rfl) (lv rfl rfl (vm rfl) (lv rfl rfl (va rfl) (lv rfl rfl (va rfl) ?_)))
    refine ln (qn (xt ?_))
    exact endQ_ret _ (res_two Tryd.results18 (rv_tmp rfl) (rv_tmp rfl)) H
theorem f19_sh (a : Option Addr) (b4 : Nat) (c0 : Nat) (b : Option Addr) (b5 : Nat) (c1 : Nat) (h : Heap) (R : Value → Heap → Prop)
  (H : ((((b4 : Int) != (b5 : Int)) = true → R (.bool false) h) ∧ (((b4 : Int) != (b5 : Int)) = false → (∃ (I2 : Int → Prop) (c3 : Int → Nat), I2 0 ∧ (∀ (v : Int), I2 v → (((decide (v < (b4 : Int))) = true → (∃ b6 b8 : Nat, a = some ⟨b6, b8, none⟩ ∧ (0 : Int) ≤ v ∧ v < (b4 : Int) ∧ (∃ b1 b2 b3 a6 a1 : Int, ∃ a7 a5 : ByteArray, hcell h b6 (b8 + (Int.toNat v) * 7) = some (.int .i64 b1) ∧ hcell h b6 ((b8 + (Int.toNat v) * 7) + 1) = some (.int .i64 b2) ∧ hcell h b6 ((b8 + (Int.toNat v) * 7) + 2) = some (.int .i64 b3) ∧ hcell h b6 ((b8 + (Int.toNat v) * 7) + 3) = some (.int .i64 a6) ∧ hcell h b6 ((b8 + (Int.toNat v) * 7) + 4) = some (.int .u64 a1) ∧ hcell h b6 ((b8 + (Int.toNat v) * 7) + 5) = some (.string a7) ∧ hcell h b6 ((b8 + (Int.toNat v) * 7) + 6) = some (.string a5) ∧ (∃ b7 b9 : Nat, b = some ⟨b7, b9, none⟩ ∧ (0 : Int) ≤ v ∧ v < (b5 : Int) ∧ (∃ a8 a9 b0 a3 a0 : Int, ∃ a4 a2 : ByteArray, hcell h b7 (b9 + (Int.toNat v) * 7) = some (.int .i64 a8) ∧ hcell h b7 ((b9 + (Int.toNat v) * 7) + 1) = some (.int .i64 a9) ∧ hcell h b7 ((b9 + (Int.toNat v) * 7) + 2) = some (.int .i64 b0) ∧ hcell h b7 ((b9 + (Int.toNat v) * 7) + 3) = some (.int .i64 a3) ∧ hcell h b7 ((b9 + (Int.toNat v) * 7) + 4) = some (.int .u64 a0) ∧ hcell h b7 ((b9 + (Int.toNat v) * 7) + 5) = some (.string a4) ∧ hcell h b7 ((b9 + (Int.toNat v) * 7) + 6) = some (.string a2) ∧ (((!((b1 == a8 && (b2 == a9 && (b3 == b0 && ((a6 == a3 && (a1 == a0 && (a7 == a4 && (a5 == a2 && true)))) && true)))))) = true → R (.bool false) h) ∧ ((!((b1 == a8 && (b2 == a9 && (b3 == b0 && ((a6 == a3 && (a1 == a0 && (a7 == a4 && (a5 == a2 && true)))) && true)))))) = false → (I2 (IntKind.i64.wrap (v + 1)) ∧ c3 (IntKind.i64.wrap (v + 1)) < c3 v)))))))) ∧ ((decide (v < (b4 : Int))) = false → R (.bool true) h))))))) :
  HC Tryd.prog 19 #[(.slice a b4 c0), (.slice b b5 c1)] h R := by
 refine hc_of (args := [(.slice a b4 c0), (.slice b b5 c1)]) Tryd.func19 rfl Tryd.ntmps19 (Nat.le_of_ble_eq_true rfl) ?_
 refine xs (xr ?_)
 refine lv rfl rfl (va rfl) ?_
 refine ln (qn (xs (xs (xr ?_))))
 refine lv rfl rfl (vm rfl) (lv rfl rfl (v := (.int .i64 (b4 : Int))) (hv_len (n := b4) TyTC.u32 rfl) (lv rfl rfl (vm rfl) (lv rfl rfl (v := (.int .i64 (b5 : Int))) (hv_len (n := b5) TyTC.u32 rfl) (lv rfl rfl (vr rfl rfl rfl) ?_))))
 refine ln (qn ?_)
 refine xc (b := (b4 : Int) != (b5 : Int)) rfl (fun c6 => ?_) (fun c6 => ?_)
 ·replace H := H.1 c6
  refine xs (xr ?_)
  refine lv rfl rfl (va rfl) ?_
  refine ln (qn (xt (qr ?_)))
  exact endQ_ret _ (res_one Tryd.results19 (rv_tmp rfl)) H
 ·replace H := H.2 c6
  refine xi (qn (xs (xs (xr ?_))))
  refine lv rfl rfl (vm rfl) (lv rfl rfl (v := (.int .i64 (b4 : Int))) (hv_len (n := b4) TyTC.u32 rfl) (lv rfl rfl (vm rfl) ?_))
  refine ln (qn (xb ?_))
  obtain ⟨I2, c3, e7, e6⟩ := H
  refine xl (σ := Int) (fun s => [(0, (.slice a b4 c0)), (1, (.slice b b5 c1)), (12, (.int .i64 (b4 : Int))), (13, (.int .i64 s))]) (fun s h' => I2 s ∧ h = h') (fun s _ => c3 s) 0 ⟨e7, rfl⟩ (hc rfl (hc rfl (hc rfl (hc rfl hn)))) ?_
  rintro v ρ _ ⟨e5, rfl⟩
  have H := e6 v e5
  refine xs (xr ?_)
  refine lv rfl rfl (vr rfl rfl rfl) ?_
  refine ln (qn (xs ?_))
  refine xc (b := decide (v < (b4 : Int))) rfl (fun c5 => ?_) (fun c5 => ?_)
  ·replace H := H.1 c5
   refine xi (qn (xs (xb (xs (xr ?_)))))
   refine lv rfl rfl (vm rfl) (lv rfl rfl (va rfl) ?_)
   refine ln (qn (xs ?_))
   refine hx_draw TyTC.mixed [.pure, .pure, .pure, .read, .pure, .pure, .pure, .read, .pure] [0, 1, 2, 3, 4, 5, 6, 7, 8] (by kernel_rfl) ?_
   refine pp (i := 0) rfl (wanted_0 rfl) rfl (.slice a b4 c0) (fun _ => vm rfl) ?_
   refine pp (i := 1) rfl (wanted_0 rfl) rfl (.int .i64 v) (fun _ => vm rfl) ?_
   obtain ⟨b6, b8, c4, e3, e4, Hq⟩ := H
   subst c4
   have H := Hq; clear Hq
   refine pp (i := 2) rfl (wanted_0 rfl) rfl (ptr b6 (b8 + (Int.toNat v) * 7)) (fun _ => vi TyTC.el32 rfl rfl e3 e4) ?_
   obtain ⟨b1, b2, b3, a6, a1, a7, a5, e2, d1, d2, d8, d6, c7, e1, H⟩ := H
   refine pr (i := 3) rfl (wanted_0 rfl) rfl (.agg #[(.int .i64 b1), (.int .i64 b2), (.int .i64 b3), (.int .i64 a6), (.int .u64 a1), (.string a7), (.string a5)]) (fun _ he => vL (vs := [(.int .i64 b1), (.int .i64 b2), (.int .i64 b3), (.int .i64 a6), (.int .u64 a1), (.string a7), (.string a5)]) TyTC.agg45 TyTC.sz45 rfl (cc (Ext.cell he e2) (cc (Ext.cell he d1) (cc (Ext.cell he d2) (cc (Ext.cell he d8) (cc (Ext.cell he d6) (cc (Ext.cell he c7) (cc (Ext.cell he e1) cn)))))))) ?_
   refine pp (i := 4) rfl (wanted_0 rfl) rfl (.slice b b5 c1) (fun _ => vm rfl) ?_
   refine pp (i := 5) rfl (wanted_0 rfl) rfl (.int .i64 v) (fun _ => vm rfl) ?_
   obtain ⟨b7, b9, c4, d3, c9, Hq⟩ := H
   subst c4
   have H := Hq; clear Hq
   refine pp (i := 6) rfl (wanted_0 rfl) rfl (ptr b7 (b9 + (Int.toNat v) * 7)) (fun _ => vi TyTC.el32 rfl rfl d3 c9) ?_
   obtain ⟨a8, a9, b0, a3, a0, a4, a2, d4, e0, d0, d7, c8, d5, d9, H⟩ := H
   refine pr (i := 7) rfl (wanted_0 rfl) rfl (.agg #[(.int .i64 a8), (.int .i64 a9), (.int .i64 b0), (.int .i64 a3), (.int .u64 a0), (.string a4), (.string a2)]) (fun _ he => vL (vs := [(.int .i64 a8), (.int .i64 a9), (.int .i64 b0), (.int .i64 a3), (.int .u64 a0), (.string a4), (.string a2)]) TyTC.agg45 TyTC.sz45 rfl (cc (Ext.cell he d4) (cc (Ext.cell he e0) (cc (Ext.cell he d0) (cc (Ext.cell he d7) (cc (Ext.cell he c8) (cc (Ext.cell he d5) (cc (Ext.cell he d9) cn)))))))) ?_
   refine pp (i := 8) rfl (wanted_0 rfl) rfl (.bool (!((b1 == a8 && (b2 == a9 && (b3 == b0 && ((a6 == a3 && (a1 == a0 && (a7 == a4 && (a5 == a2 && true)))) && true))))))) (fun _ => hv_structEqD (xs := [(.int .i64 b1), (.int .i64 b2), (.int .i64 b3), (.int .i64 a6), (.int .u64 a1), (.string a7), (.string a5)]) (ys := [(.int .i64 a8), (.int .i64 a9), (.int .i64 b0), (.int .i64 a3), (.int .u64 a0), (.string a4), (.string a2)]) (b := (b1 == a8 && (b2 == a9 && (b3 == b0 && ((a6 == a3 && (a1 == a0 && (a7 == a4 && (a5 == a2 && true)))) && true))))) TyTC.gd45 rfl rfl (by kernel_rfl) rfl) ?_
   refine hp_nil ?_
   refine qn ?_
   refine xc (b := !((b1 == a8 && (b2 == a9 && (b3 == b0 && ((a6 == a3 && (a1 == a0 && (a7 == a4 && (a5 == a2 && true)))) && true)))))) rfl (fun c2 => ?_) (fun c2 => ?_)
   ·replace H := H.1 c2
    refine xs (xr ?_)
    refine lv rfl rfl (va rfl) ?_
    refine ln (qn (xt (br (qr (qr (br (qr ?_)))))))
    exact endQ_ret _ (res_one Tryd.results19 (rv_tmp rfl)) H
   ·replace H := H.2 c2
    refine xi (bn (qn (xr ?_)))
    refine lv rfl rfl (vr rfl rfl rfl) (lv rfl rfl (vm rfl) ?_)
    refine ln (qn ?_)
    exact ⟨IntKind.i64.wrap (v + 1), ⟨⟨H.1, rfl⟩, H.2⟩, (hc rfl (hc rfl (hc rfl (hc rfl hn))))⟩
  ·replace H := H.2 c5
   refine xe (qe (qe (bh (qn (xs (xr ?_))))))
   refine lv rfl rfl (va rfl) ?_
   refine ln (qn (xt ?_))
   exact endQ_ret _ (res_one Tryd.results19 (rv_tmp rfl)) H
theorem f34_sh (a7 : Int) (a4 : Int) (a1 : Int) (a5 : Int) (a8 : Option Addr) (a2 : Nat) (a3 : Nat) (a9 : Nat) (b0 : Nat) (h : Heap) (R : Value → Heap → Prop)
  (H : (∀ g h1, g = Array.size h → h1 = Array.push h (.cells #[(.int .i64 a7), (.int .i64 a4), (.int .i64 a1), (.int .i64 a5)] 24) → (∀ a0 h2, a0 = Array.size h1 → h2 = Array.push h1 (.cells #[(.slice a8 a2 a3)] 25) → (∀ a6 h3, a6 = Array.size h2 → h3 = Array.push h2 (.cells #[(ptr a9 b0)] 85) → R (.func (.func 64) #[] #[(ptr g 0), (ptr a0 0), (ptr a6 0)]) h3)))) :
  HC Tryd.prog 34 #[(.agg #[(.int .i64 a7), (.int .i64 a4), (.int .i64 a1), (.int .i64 a5)]), (.slice a8 a2 a3), (ptr a9 b0)] h R := by
 refine hc_of (args := [(.agg #[(.int .i64 a7), (.int .i64 a4), (.int .i64 a1), (.int .i64 a5)]), (.slice a8 a2 a3), (ptr a9 b0)]) Tryd.func34 rfl Tryd.ntmps34 (Nat.le_of_ble_eq_true rfl) ?_
 refine xs (xr ?_)
 refine lp rfl rfl (hn_box (v := (.agg #[(.int .i64 a7), (.int .i64 a4), (.int .i64 a1), (.int .i64 a5)])) rfl ?_)
 intro g h1 b4 b3
 replace H := H g h1 b4 b3
 have b9 := ext_pushed_f64_sh b3
 refine lp rfl rfl (hn_box (v := (.slice a8 a2 a3)) rfl ?_)
 intro a0 h2 b6 b1
 replace H := H a0 h2 b6 b1
 have b7 := ext_pushed_f64_sh b1
 refine lp rfl rfl (hn_box (v := (ptr a9 b0)) rfl ?_)
 intro a6 h3 b5 b2
 replace H := H a6 h3 b5 b2
 have b8 := ext_pushed_f64_sh b2
 refine lv rfl rfl (va rfl) ?_
 refine ln (qn (xs (xr ?_)))
 refine lv rfl rfl (v := (.func (.func 64) #[] #[(ptr g 0), (ptr a0 0), (ptr a6 0)])) (hv_makeFunc (fv := []) (cv := [(ptr g 0), (ptr a0 0), (ptr a6 0)]) rfl rfl) (lv rfl rfl (va rfl) ?_)
 refine ln (qn (xt ?_))
 exact endQ_ret _ (res_one Tryd.results34 (rv_tmp rfl)) H
theorem f64_sh (f0 : Value) (a3 : Nat) (a2 : Nat) (e2 : Nat) (e3 : Nat) (d5 : Nat) (d4 : Nat) (h : Heap) (R : Value → Heap → Prop)
  (H : (∃ d8 d2 c0 d3 : Int, hcell h a3 a2 = some (.int .i64 d8) ∧ hcell h a3 (a2 + 1) = some (.int .i64 d2) ∧ hcell h a3 (a2 + 2) = some (.int .i64 c0) ∧ hcell h a3 (a2 + 3) = some (.int .i64 d3) ∧ (∃ x : Option Addr, ∃ f6 f7 : Nat, hcell h e2 e3 = some (.slice x f6 f7) ∧ HC Tryd.prog 32 #[(.agg #[(.int .i64 d8), (.int .i64 d2), (.int .i64 c0), (.int .i64 d3)]), (.slice x f6 f7)] h (fun vv h1 => Ext h h1 ∧ ∃ b0 a5 a4 r1 : Int, vv = (.tuple #[(.agg #[(.int .u64 b0), (.int .u64 a5), (.int .i64 a4)]), (.int .i64 r1)]) ∧ (((r1 != 0) = true → (∃ e4 : Option Addr, hcell h1 d5 d4 = some (.pointer e4) ∧ (∃ b6 b9 : Nat, e4 = some ⟨b6, b9, none⟩ ∧ (∀ (hv : Nat) (h3 : Heap), Array.size h1 ≤ hv → hv < Array.size h3 → Ext h1 h3 → (HWs h3 b6 b9 2 ∧ Off b6 [hv] ∧ ∀ h4, h4 = hsets h3 b6 b9 [(.int .i64 0), (.int .i64 1)] → R (.tuple #[]) h4))))) ∧ ((r1 != 0) = false → (∀ (hv : Nat) (h3 : Heap), Array.size h1 ≤ hv → hv < Array.size h3 → Ext h1 h3 → (∃ r : Int, HC Tryd.prog 36 #[(.int .u64 a5)] h3 (fun vv h' => vv = (.int .u32 r) ∧ h' = h3) ∧ (∃ d0 c4 b2 c5 : Int, hcell h3 a3 a2 = some (.int .i64 d0) ∧ hcell h3 a3 (a2 + 1) = some (.int .i64 c4) ∧ hcell h3 a3 (a2 + 2) = some (.int .i64 b2) ∧ hcell h3 a3 (a2 + 3) = some (.int .i64 c5) ∧ HC Tryd.prog 33 #[(.agg #[(.int .i64 d0), (.int .i64 c4), (.int .i64 b2), (.int .i64 c5)]), (.int .i64 32)] h3 (fun vv h5 => Ext h3 h5 ∧ ∃ r0 e5 : Int, vv = (.tuple #[(.int .i64 r0), (.int .i64 e5)]) ∧ (∃ (f5 : Int → Heap → Prop) (f1 : Int → Heap → Nat), f5 r0 h5 ∧ (∀ (a0 : Int) (h6 : Heap), f5 a0 h6 → (∃ e4 : Option Addr, ∃ b7 e0 : Nat, hcell h6 e2 e3 = some (.slice e4 b7 e0) ∧ (((decide ((IntKind.i64.wrap ((IntKind.i64.wrap (a0 + 24)) + 24)) ≤ (b7 : Int))) = true → (∃ b6 b9 : Nat, e4 = some ⟨b6, b9, none⟩ ∧ (0 : Int) ≤ a0 ∧ a0 < (b7 : Int) ∧ (∃ c8 : Int, hcell h6 b6 (b9 + (Int.toNat a0) * 1) = some (.int .u8 c8) ∧ (((c8 == 0) = true → (∃ a9 : Int, hcell h6 a3 a2 = some (.int .i64 a9) ∧ (a9 ≠ 0 ∧ (f5 (IntKind.i64.wrap ((IntKind.i64.wrap ((IntKind.i64.wrap (Int.tdiv a0 a9)) + 1)) * a9)) h6 ∧ f1 (IntKind.i64.wrap ((IntKind.i64.wrap ((IntKind.i64.wrap (Int.tdiv a0 a9)) + 1)) * a9)) h6 < f1 a0 h6)))) ∧ ((c8 == 0) = false → (((c8 == 255) = true → (∃ a9 : Option Addr, hcell h6 d5 d4 = some (.pointer a9) ∧ (∃ b8 c7 : Nat, a9 = some ⟨b8, c7, none⟩ ∧ (HWs h6 b8 c7 2 ∧ Off b8 [hv] ∧ ∀ h7, h7 = hsets h6 b8 c7 [(.int .i64 a0), (.int .i64 2)] → R (.tuple #[]) h7)))) ∧ ((c8 == 255) = false → (∃ d1 c3 b3 c1 : Int, hcell h6 a3 a2 = some (.int .i64 d1) ∧ hcell h6 a3 (a2 + 1) = some (.int .i64 c3) ∧ hcell h6 a3 (a2 + 2) = some (.int .i64 b3) ∧ hcell h6 a3 (a2 + 3) = some (.int .i64 c1) ∧ HC Tryd.prog 65 #[(.agg #[(.int .i64 d1), (.int .i64 c3), (.int .i64 b3), (.int .i64 c1)]), (.int .u32 r), (.slice (some ⟨b6, b9, none⟩) b7 e0), (.int .i64 a0)] h6 (fun vv h8 => Ext h6 h8 ∧ ∃ a7 a1 : Int, ∃ a8 a6 : ByteArray, ∃ b4 r2 : Int, vv = (.tuple #[(.agg #[(.int .i64 a7), (.int .u64 a1), (.string a8), (.string a6)]), (.int .i64 b4), (.int .i64 r2)]) ∧ (((r2 != 0) = true → (∃ a9 : Option Addr, hcell h8 d5 d4 = some (.pointer a9) ∧ (∃ b8 c7 : Nat, a9 = some ⟨b8, c7, none⟩ ∧ (∀ (f3 : Nat) (e1 : Heap), Array.size h8 ≤ f3 → f3 < Array.size e1 → Ext h8 e1 → (HWs e1 b8 c7 2 ∧ Off b8 [hv, f3] ∧ ∀ i1, i1 = hsets e1 b8 c7 [(.int .i64 a0), (.int .i64 3)] → R (.tuple #[]) i1))))) ∧ ((r2 != 0) = false → (∀ (e1 : Heap), Ext h8 e1 → HCV Tryd.prog f0 [(.agg #[(.int .i64 a4), (.int .i64 a0), (.int .i64 b4), (.int .i64 a7), (.int .u64 a1), (.string a8), (.string a6)])] e1 (fun vv e6 => Kp [hv] e1 e6 ∧ ∃ f4 : Bool, vv = (.bool f4) ∧ (((!f4) = true → R (.tuple #[]) e6) ∧ ((!f4) = false → (∃ c9 c2 b1 c6 : Int, hcell e6 a3 a2 = some (.int .i64 c9) ∧ hcell e6 a3 (a2 + 1) = some (.int .i64 c2) ∧ hcell e6 a3 (a2 + 2) = some (.int .i64 b1) ∧ hcell e6 a3 (a2 + 3) = some (.int .i64 c6) ∧ HC Tryd.prog 33 #[(.agg #[(.int .i64 c9), (.int .i64 c2), (.int .i64 b1), (.int .i64 c6)]), (.int .i64 (IntKind.i64.wrap (a0 + b4)))] e6 (fun vv i2 => Ext e6 i2 ∧ ∃ d7 f2 : Int, vv = (.tuple #[(.int .i64 d7), (.int .i64 f2)]) ∧ (f5 d7 i2 ∧ f1 d7 i2 < f1 a0 h6)))))))))))))))))) ∧ ((decide ((IntKind.i64.wrap ((IntKind.i64.wrap (a0 + 24)) + 24)) ≤ (b7 : Int))) = false → (∃ c8 : Option Addr, hcell h6 d5 d4 = some (.pointer c8) ∧ (∃ e7 e9 : Nat, c8 = some ⟨e7, e9, none⟩ ∧ (HWs h6 e7 e9 2 ∧ ∀ i3, i3 = hsets h6 e7 e9 [(.int .i64 a0), (.int .i64 4)] → R (.tuple #[]) i3)))))))))))))))))) :
  HC Tryd.prog 64 #[f0, (ptr a3 a2), (ptr e2 e3), (ptr d5 d4)] h R := by
 refine hc_of (args := [f0, (ptr a3 a2), (ptr e2 e3), (ptr d5 d4)]) Tryd.func64 rfl Tryd.ntmps64 (Nat.le_of_ble_eq_true rfl) ?_
 refine xs (xr ?_)
 obtain ⟨d8, d2, c0, d3, n4, n3, n5, n6, H⟩ := H
 refine lv rfl rfl (vL (vs := [(.int .i64 d8), (.int .i64 d2), (.int .i64 c0), (.int .i64 d3)]) TyTC.agg24 TyTC.sz24 rfl (cc n4 (cc n3 (cc n5 (cc n6 cn))))) ?_
 obtain ⟨x, f6, f7, n7, H⟩ := H
 refine lv rfl rfl (vl TyTC.agg25 rfl n7) ?_
 refine lp rfl rfl (sc TyTC.cb32 rfl (HC.mono H ?_))
 rintro _ h1 ⟨n8, b0, a5, a4, r1, rfl, H⟩
 refine lv rfl rfl (vm rfl) (lv rfl rfl (vx rfl rfl) (lv rfl rfl (vx rfl rfl) ?_))
 refine lp rfl rfl (hn_alloc TyTC.z31 ?_)
 intro hv h2 j5 j4
 have n2 := ext_pushed_f64_sh j4
 have g5 : Array.size h1 ≤ hv := Nat.le_of_eq (Eq.symm j5)
 have i5 : h2[hv]? = some (.cells #[(.int .u64 0), (.int .u64 0), (.int .i64 0)] 31 (0, 0)) := by rw [j4]; exact push_new j5
 refine lp rfl rfl (hn_stores (vs := [(.int .u64 b0), (.int .u64 a5), (.int .i64 a4)]) rfl rfl TyTC.sz31 rfl (HWs_row i5 (by simp)) ?_)
 intro h3 j2
 have d6 : h3[hv]? = some (.cells #[(.int .u64 b0), (.int .u64 a5), (.int .i64 a4)] 31 (0, 0)) := row_hsets_eq j2 i5 rfl
 have g8 := ext_hsets j2 n2 g5
 refine lv rfl rfl (va rfl) ?_
 refine ln (qn (xs (xs (xr ?_))))
 refine lv rfl rfl (vm rfl) (lv rfl rfl (vr rfl rfl rfl) ?_)
 refine ln (qn ?_)
 refine xc (b := r1 != 0) rfl (fun g7 => ?_) (fun g7 => ?_)
 ·replace H := H.1 g7
  refine xs (xr ?_)
  obtain ⟨e4, m2, H⟩ := H
  refine lv rfl rfl (vl TyTC.agg85 rfl (Ext.cell g8 m2)) (lv rfl rfl (v := (.agg #[(.int .i64 0), (.int .i64 1)])) (vb (vs := [(1, (.int .i64 1))]) (cs := #[(.int .i64 0), (.int .i64 1)]) TyTC.z34 TyTC.pl34 rfl (by kernel_rfl)) ?_)
  obtain ⟨b6, b9, e8, Hq⟩ := H
  subst e8
  have H := Hq; clear Hq
  refine lv rfl rfl (v := (ptr b6 b9)) (hv_nil rfl) ?_
  replace H := H hv h3 g5 (row_lt d6) g8
  obtain ⟨l6, m9, H⟩ := H
  refine lp rfl rfl (hn_stores (vs := [(.int .i64 0), (.int .i64 1)]) rfl rfl TyTC.sz34 rfl l6 ?_)
  intro h4 i6
  replace H := H h4 i6
  replace d6 := row_hsets_ne i6 (m9 _ (by simp)) d6
  refine ln (qn (xt (qr ?_)))
  exact endQ_ret _ (res_none Tryd.results64 ) H
 ·replace H := H.2 g7
  refine xi (qn (xs (xr ?_)))
  refine lv rfl rfl (v := (ptr hv 1)) (vf TyTC.fld31_1 (b := hv) (o := 0) rfl) (lv rfl rfl (vl TyTC.agg29 rfl (rc d6 rfl)) ?_)
  replace H := H hv h3 g5 (row_lt d6) g8
  obtain ⟨r, k1, H⟩ := H
  refine lv rfl rfl (hv_call TyTC.cb36 (vs := [(.int .u64 a5)]) rfl k1) (lv rfl rfl (va rfl) ?_)
  refine ln (qn (xs (xr ?_)))
  obtain ⟨d0, c4, b2, c5, l3, m7, l9, j6, H⟩ := H
  refine lv rfl rfl (vL (vs := [(.int .i64 d0), (.int .i64 c4), (.int .i64 b2), (.int .i64 c5)]) TyTC.agg24 TyTC.sz24 rfl (cc l3 (cc m7 (cc l9 (cc j6 cn))))) ?_
  refine lp rfl rfl (sc TyTC.cb33 rfl (HC.mono H ?_))
  rintro _ h5 ⟨k0, r0, e5, rfl, H⟩
  replace d6 := Ext.row k0 d6
  refine lv rfl rfl (vm rfl) (lv rfl rfl (vx rfl rfl) (lv rfl rfl (vx rfl rfl) (lv rfl rfl (va rfl) (lv rfl rfl (va rfl) ?_))))
  refine ln (qn (xs (xb ?_)))
  obtain ⟨f5, f1, m0, n0⟩ := H
  refine xl (σ := Int) (fun s => [(0, f0), (1, (ptr a3 a2)), (2, (ptr e2 e3)), (3, (ptr d5 d4)), (5, (ptr hv 0)), (7, (.int .u32 r)), (8, (.int .i64 s))]) (fun s h' => f5 s h' ∧ h'[hv]? = some (.cells #[(.int .u64 b0), (.int .u64 a5), (.int .i64 a4)] 31 (0, 0)) ∧ True) (fun s h' => f1 s h') r0 ⟨m0, d6, trivial⟩ (hc rfl (hc rfl (hc rfl (hc rfl (hc rfl (hc rfl (hc rfl hn))))))) ?_
  rintro a0 ρ h6 ⟨l5, b5, -⟩
  have H := n0 a0 h6 l5
  refine xs (xs (xr ?_))
  refine lv rfl rfl (vm rfl) (lv rfl rfl (vr rfl rfl rfl) (lv rfl rfl (vr rfl rfl rfl) ?_))
  obtain ⟨e4, b7, e0, g2, H⟩ := H
  refine lv rfl rfl (vl TyTC.agg25 rfl g2) (lv rfl rfl (v := (.int .i64 (b7 : Int))) (hv_len (n := b7) TyTC.u25 rfl) (lv rfl rfl (vr rfl rfl rfl) ?_))
  refine ln (qn ?_)
  refine xc (b := decide ((IntKind.i64.wrap ((IntKind.i64.wrap (a0 + 24)) + 24)) ≤ (b7 : Int))) rfl (fun g9 => ?_) (fun g9 => ?_)
  ·replace H := H.1 g9
   refine xi (qn (xb (xs (xs (xr ?_)))))
   refine lv rfl rfl (vl TyTC.agg25 rfl g2) (lv rfl rfl (vm rfl) ?_)
   obtain ⟨b6, b9, e8, l7, k4, Hq⟩ := H
   subst e8
   have H := Hq; clear Hq
   refine lv rfl rfl (v := (ptr b6 (b9 + (Int.toNat a0) * 1))) (vi TyTC.el25 rfl rfl l7 k4) ?_
   obtain ⟨c8, k8, H⟩ := H
   refine lv rfl rfl (vl TyTC.agg5 rfl k8) ?_
   refine ln (qn (xb (xs (xr ?_))))
   refine lv rfl rfl (vr rfl rfl rfl) (lv rfl rfl (va rfl) ?_)
   refine ln (qn ?_)
   refine xc (b := c8 == 0) rfl (fun g3 => ?_) (fun g3 => ?_)
   ·replace H := H.1 g3
    refine xs ?_
    refine hx_draw TyTC.mixed [.pure, .pure, .read, .pure, .pure, .pure, .read, .pure, .pure] [0, 1, 2, 3, 4, 5, 6, 7, 8] (by kernel_rfl) ?_
    refine pp (i := 0) rfl (wanted_0 rfl) rfl (.int .i64 a0) (fun _ => vm rfl) ?_
    refine pp (i := 1) rfl (wanted_0 rfl) rfl (ptr a3 a2) (fun _ => vf TyTC.fld24_0 (b := a3) (o := a2) rfl) ?_
    obtain ⟨a9, i4, H⟩ := H
    refine pr (i := 2) rfl (wanted_0 rfl) rfl (.int .i64 a9) (fun _ he => vl TyTC.agg3 rfl (Ext.cell he i4)) ?_
    obtain ⟨l1, H⟩ := H
    refine pp (i := 3) rfl (wanted_0 rfl) rfl (.int .i64 (IntKind.i64.wrap (Int.tdiv a0 a9))) (fun _ => hv_quo rfl rfl l1) ?_
    refine pp (i := 4) rfl (wanted_0 rfl) rfl (.int .i64 (IntKind.i64.wrap ((IntKind.i64.wrap (Int.tdiv a0 a9)) + 1))) (fun _ => vr rfl rfl rfl) ?_
    refine pp (i := 5) rfl (wanted_0 rfl) rfl (ptr a3 a2) (fun _ => vf TyTC.fld24_0 (b := a3) (o := a2) rfl) ?_
    refine pr (i := 6) rfl (wanted_0 rfl) rfl (.int .i64 a9) (fun _ he => vl TyTC.agg3 rfl (Ext.cell he i4)) ?_
    refine pp (i := 7) rfl (wanted_0 rfl) rfl (.int .i64 (IntKind.i64.wrap ((IntKind.i64.wrap ((IntKind.i64.wrap (Int.tdiv a0 a9)) + 1)) * a9))) (fun _ => vr rfl rfl rfl) ?_
    refine pp (i := 8) rfl (wanted_0 rfl) rfl (.int .i64 (IntKind.i64.wrap ((IntKind.i64.wrap ((IntKind.i64.wrap (Int.tdiv a0 a9)) + 1)) * a9))) (fun _ => va rfl) ?_
    refine hp_nil ?_
    refine qn (xe (bp rfl (qe (bh (qn ?_)))))
    exact ⟨IntKind.i64.wrap ((IntKind.i64.wrap ((IntKind.i64.wrap (Int.tdiv a0 a9)) + 1)) * a9), ⟨⟨H.1, b5, trivial⟩, H.2⟩, (hc rfl (hc rfl (hc rfl (hc rfl (hc rfl (hc rfl (hc rfl hn)))))))⟩
   ·replace H := H.2 g3
    refine xs (xr ?_)
    refine lv rfl rfl (vr rfl rfl rfl) (lv rfl rfl (va rfl) ?_)
    refine ln (qn ?_)
    refine xc (b := c8 == 255) rfl (fun g0 => ?_) (fun g0 => ?_)
    ·replace H := H.1 g0
     refine xs (xr ?_)
     obtain ⟨a9, l0, H⟩ := H
     refine lv rfl rfl (vl TyTC.agg85 rfl l0) (lv rfl rfl (vm rfl) (lv rfl rfl (v := (.agg #[(.int .i64 a0), (.int .i64 2)])) (vb (vs := [(0, (.int .i64 a0)), (1, (.int .i64 2))]) (cs := #[(.int .i64 a0), (.int .i64 2)]) TyTC.z34 TyTC.pl34 rfl (by kernel_rfl)) ?_))
     obtain ⟨b8, c7, e8, Hq⟩ := H
     subst e8
     have H := Hq; clear Hq
     refine lv rfl rfl (v := (ptr b8 c7)) (hv_nil rfl) ?_
     obtain ⟨j9, m8, H⟩ := H
     refine lp rfl rfl (hn_stores (vs := [(.int .i64 a0), (.int .i64 2)]) rfl rfl TyTC.sz34 rfl j9 ?_)
     intro h7 i8
     replace H := H h7 i8
     replace b5 := row_hsets_ne i8 (m8 _ (by simp)) b5
     refine ln (qn (xt (br (qr (br (qr (br (qr ?_))))))))
     exact endQ_ret _ (res_none Tryd.results64 ) H
    ·replace H := H.2 g0
     refine xi (bn (qn (xs (xr ?_))))
     obtain ⟨d1, c3, b3, c1, j7, k5, m5, k7, H⟩ := H
     refine lv rfl rfl (vL (vs := [(.int .i64 d1), (.int .i64 c3), (.int .i64 b3), (.int .i64 c1)]) TyTC.agg24 TyTC.sz24 rfl (cc j7 (cc k5 (cc m5 (cc k7 cn))))) (lv rfl rfl (vm rfl) (lv rfl rfl (vl TyTC.agg25 rfl g2) (lv rfl rfl (vm rfl) ?_)))
     refine lp rfl rfl (sc TyTC.cb65 rfl (HC.mono H ?_))
     rintro _ h8 ⟨n1, a7, a1, a8, a6, b4, r2, rfl, H⟩
     replace b5 := Ext.row n1 b5
     refine lv rfl rfl (vm rfl) (lv rfl rfl (vx rfl rfl) (lv rfl rfl (vx rfl rfl) (lv rfl rfl (vx rfl rfl) ?_)))
     refine lp rfl rfl (hn_alloc TyTC.z43 ?_)
     intro f3 h9 g6 j3
     have j1 := ext_pushed_f64_sh j3
     have k6 := Nat.ne_of_lt (Nat.lt_of_lt_of_eq (row_lt b5) (Eq.symm g6))
     have j0 : Array.size h8 ≤ f3 := Nat.le_of_eq (Eq.symm g6)
     have i7 : h9[f3]? = some (.cells #[(.int .i64 0), (.int .u64 0), (.string ByteArray.empty), (.string ByteArray.empty)] 43 (0, 0)) := by rw [j3]; exact push_new g6
     replace b5 := Ext.row j1 b5
     refine lp rfl rfl (hn_stores (vs := [(.int .i64 a7), (.int .u64 a1), (.string a8), (.string a6)]) rfl rfl TyTC.sz43 rfl (HWs_row i7 (by simp)) ?_)
     intro e1 f9
     replace b5 := row_hsets_ne f9 k6 b5
     have d9 : e1[f3]? = some (.cells #[(.int .i64 a7), (.int .u64 a1), (.string a8), (.string a6)] 43 (0, 0)) := row_hsets_eq f9 i7 rfl
     have i0 := ext_hsets f9 j1 j0
     refine lv rfl rfl (va rfl) (lv rfl rfl (va rfl) ?_)
     refine ln (qn (xs (xs (xr ?_))))
     refine lv rfl rfl (vm rfl) (lv rfl rfl (vr rfl rfl rfl) ?_)
     refine ln (qn ?_)
     refine xc (b := r2 != 0) rfl (fun f8 => ?_) (fun f8 => ?_)
     ·replace H := H.1 f8
      refine xs (xr ?_)
      obtain ⟨a9, j8, H⟩ := H
      refine lv rfl rfl (vl TyTC.agg85 rfl (Ext.cell i0 j8)) (lv rfl rfl (vm rfl) (lv rfl rfl (v := (.agg #[(.int .i64 a0), (.int .i64 3)])) (vb (vs := [(0, (.int .i64 a0)), (1, (.int .i64 3))]) (cs := #[(.int .i64 a0), (.int .i64 3)]) TyTC.z34 TyTC.pl34 rfl (by kernel_rfl)) ?_))
      obtain ⟨b8, c7, e8, Hq⟩ := H
      subst e8
      have H := Hq; clear Hq
      refine lv rfl rfl (v := (ptr b8 c7)) (hv_nil rfl) ?_
      replace H := H f3 e1 j0 (row_lt d9) i0
      obtain ⟨m1, i9, H⟩ := H
      refine lp rfl rfl (hn_stores (vs := [(.int .i64 a0), (.int .i64 3)]) rfl rfl TyTC.sz34 rfl m1 ?_)
      intro i1 g1
      replace H := H i1 g1
      replace b5 := row_hsets_ne g1 (i9 _ (by simp)) b5
      replace d9 := row_hsets_ne g1 (i9 _ (by simp)) d9
      refine ln (qn (xt (qr (br (qr (br (qr ?_)))))))
      exact endQ_ret _ (res_none Tryd.results64 ) H
     ·replace H := H.2 f8
      refine xi (qn (xs (xs (xr ?_))))
      refine lv rfl rfl (vm rfl) (lv rfl rfl (v := (ptr hv 2)) (vf TyTC.fld31_2 (b := hv) (o := 0) rfl) (lv rfl rfl (vl TyTC.agg3 rfl (rc b5 rfl)) (lv rfl rfl (vm rfl) (lv rfl rfl (vm rfl) (lv rfl rfl (vL (vs := [(.int .i64 a7), (.int .u64 a1), (.string a8), (.string a6)]) TyTC.agg43 TyTC.sz43 rfl (cc (rc d9 rfl) (cc (rc d9 rfl) (cc (rc d9 rfl) (cc (rc d9 rfl) cn))))) ?_)))))
      refine lv rfl rfl (v := (.agg #[(.int .i64 a4), (.int .i64 a0), (.int .i64 b4), (.int .i64 a7), (.int .u64 a1), (.string a8), (.string a6)])) (vb (vs := [(0, (.int .i64 a4)), (1, (.int .i64 a0)), (2, (.int .i64 b4)), (3, (.agg #[(.int .i64 a7), (.int .u64 a1), (.string a8), (.string a6)]))]) (cs := #[(.int .i64 a4), (.int .i64 a0), (.int .i64 b4), (.int .i64 a7), (.int .u64 a1), (.string a8), (.string a6)]) TyTC.z45 TyTC.pl45 rfl (by kernel_rfl)) ?_
      replace H := H e1 i0
      refine lp rfl rfl (hs_callF (vs := [(.agg #[(.int .i64 a4), (.int .i64 a0), (.int .i64 b4), (.int .i64 a7), (.int .u64 a1), (.string a8), (.string a6)])]) rfl rfl (HCV.mono H ?_))
      rintro _ e6 ⟨m4, f4, rfl, H⟩
      replace b5 := Kp.row m4 (by simp) b5
      refine lv rfl rfl (v := (.bool (!f4))) (hv_not (b := f4) rfl) ?_
      refine ln (qn ?_)
      refine xc (b := !f4) rfl (fun g4 => ?_) (fun g4 => ?_)
      ·replace H := H.1 g4
       refine xt (qr (br (qr (br (qr ?_)))))
       exact endQ_ret _ (res_none Tryd.results64 ) H
      ·replace H := H.2 g4
       refine xi (qn (xr ?_))
       obtain ⟨c9, c2, b1, c6, m3, l8, k2, m6, H⟩ := H
       refine lv rfl rfl (vL (vs := [(.int .i64 c9), (.int .i64 c2), (.int .i64 b1), (.int .i64 c6)]) TyTC.agg24 TyTC.sz24 rfl (cc m3 (cc l8 (cc k2 (cc m6 cn))))) (lv rfl rfl (vm rfl) (lv rfl rfl (vm rfl) (lv rfl rfl (vr rfl rfl rfl) ?_)))
       refine lp rfl rfl (sc TyTC.cb33 rfl (HC.mono H ?_))
       rintro _ i2 ⟨k9, d7, f2, rfl, H⟩
       replace b5 := Ext.row k9 b5
       refine lv rfl rfl (vm rfl) (lv rfl rfl (vx rfl rfl) (lv rfl rfl (vx rfl rfl) (lv rfl rfl (va rfl) ?_)))
       refine ln (bn (qn ?_))
       exact ⟨d7, ⟨⟨H.1, b5, trivial⟩, H.2⟩, (hc rfl (hc rfl (hc rfl (hc rfl (hc rfl (hc rfl (hc rfl hn)))))))⟩
  ·replace H := H.2 g9
   refine xe (qe (qe (bh (qn (xr ?_)))))
   obtain ⟨c8, k3, H⟩ := H
   refine lv rfl rfl (vl TyTC.agg85 rfl k3) (lv rfl rfl (vm rfl) (lv rfl rfl (v := (.agg #[(.int .i64 a0), (.int .i64 4)])) (vb (vs := [(0, (.int .i64 a0)), (1, (.int .i64 4))]) (cs := #[(.int .i64 a0), (.int .i64 4)]) TyTC.z34 TyTC.pl34 rfl (by kernel_rfl)) ?_))
   obtain ⟨e7, e9, e8, Hq⟩ := H
   subst e8
   have H := Hq; clear Hq
   refine lv rfl rfl (v := (ptr e7 e9)) (hv_nil rfl) ?_
   obtain ⟨l2, H⟩ := H
   refine lp rfl rfl (hn_stores (vs := [(.int .i64 a0), (.int .i64 4)]) rfl rfl TyTC.sz34 rfl l2 ?_)
   intro i3 l4
   replace H := H i3 l4
   refine ln ?_
   exact endQ_n _ (res_none Tryd.results64 ) H
end Go.Proofs.YthjehlocmikchaaDoor
namespace Go.Proofs.YthjehlocmikchaaDoor
namespace Sc
open Go
def fits (g : Geo) (L : List Int) : Prop := Gok g ∧ (L.length : Int) = g.sz
instance (g : Geo) (L : List Int) : Decidable (fits g L) := by unfold fits; infer_instance
structure Fo where
 rg : Int
 off : Int
 sz : Int
 rc : Rc
abbrev Fo.cs (x : Fo) : List Value := [.int .i64 x.rg, .int .i64 x.off, .int .i64 x.sz, .int .i64 x.rc.kind, .int .u64 x.rc.ver, .string x.rc.key, .string x.rc.val]
def eFo : Elt Fo := ⟨7, Fo.cs, fun _ => rfl, fun x v hv => by simp at hv; rcases hv with rfl | rfl | rfl | rfl | rfl | rfl | rfl <;> rfl⟩
def goOn (g : Geo) (salt rg : Int) (L : List Int) : Nat → Int → List Fo × Int × Int
 | 0, p => ([], p, 4)
 | n + 1, p =>
  if p > L.length - 48 then ([], p, 4) else
  if L.getD p.toNat 0 = 0 then goOn g salt rg L n ((p / g.page + 1) * g.page) else
  if L.getD p.toNat 0 = 255 then ([], p, 2) else
  if recOk g salt (L.drop p.toNat) then
   let sz : Int := szR (L.drop p.toNat)
   let r := goOn g salt rg L n (upTo (p + sz) g.al)
   (⟨rg, p, sz, rcOf (L.drop p.toNat)⟩ :: r.1, r.2)
  else ([], p, 3)
end Sc
end Go.Proofs.YthjehlocmikchaaDoor
namespace Go.Proofs.YthjehlocmikchaaDoor
namespace Sc
open Go
abbrev tF : TypeId := 45
theorem aF : AppT Tryd.prog 32 tF eFo.k 72 := ⟨by kernel_rfl, by kernel_rfl, by kernel_rfl, ⟨.agg #[.int .i64 0, .int .i64 0, .int .i64 0, .int .i64 0, .int .u64 0, .string ByteArray.empty, .string ByteArray.empty], [.int .i64 0, .int .i64 0, .int .i64 0, .int .i64 0, .int .u64 0, .string ByteArray.empty, .string ByteArray.empty], by unfold zeroB; kernel_rfl, rfl, rfl⟩, by decide⟩
def recsOf (g : Geo) (x : Hd) (rg : Int) (L : List Int) : List Fo × Int × Int := goOn g (x.sq % 4294967296) rg L L.length (fst0 g)
theorem goOn_far {g : Geo} {salt rg : Int} {L : List Int} {n : Nat} {p : Int} (h : p > L.length - 48) : goOn g salt rg L n p = ([], p, 4) := by
 cases n with
 | zero => rfl
 | succ n => unfold goOn; rw [if_pos h]
section
variable {h : Heap} {a : Option Addr} {c : Nat} {L : List Int}
theorem salt_r (q : Int) (hq : 0 ≤ q ∧ q < 18446744073709551616) (h : Heap) : HC Tryd.prog 40 #[.int .u64 q] h fun v h' => v = .int .u32 (q % 4294967296) ∧ h' = h := by
 refine f40_sh _ _ _ ⟨?_, rfl⟩
 rw [Int.tmod_eq_emod_of_nonneg hq.1, wu32 ⟨by omega, by omega⟩]
theorem salt_m (q : Int) (hq : 0 ≤ q ∧ q < 18446744073709551616) (h : Heap) : HC Tryd.prog 36 #[.int .u64 q] h fun v h' => v = .int .u32 (q % 4294967296) ∧ h' = h := by
 refine f36_sh _ _ _ ⟨?_, rfl⟩
 have : IntKind.u32.wrap q = q % 4294967296 := by unfold IntKind.wrap; simp [IntKind.bits, IntKind.signed]
 rw [this]
end
end Sc
end Go.Proofs.YthjehlocmikchaaDoor
namespace Go.Proofs.YthjehlocmikchaaDoor
namespace Sc
open Go
theorem headD_some {g : Geo} {L : List Int} {x : Hd} (h : headD g L = some x) : Gok g ∧ 32 ≤ L.length ∧ x = hdOf L := by
 unfold headD at h
 split at h
 ·rename_i q; cases h; exact ⟨q.1, q.2.1, rfl⟩
 ·cases h
end Sc
end Go.Proofs.YthjehlocmikchaaDoor
namespace Go.Proofs.YthjehlocmikchaaDoor
open Go
theorem Sl.set1 {α : Type} {E : Elt α} {h : Heap} {b o c : Nat} {L : List α} {T : TypeId} {N : Nat} (s : Sl E h (some ⟨b, o, none⟩) c L) (w : Own E.k T N h (some ⟨b, o, none⟩) c) {i r : Nat} {x x' : α} {v : Value} (hx : L[i]? = some x) (hr : r < E.k) (he : E.enc x' = (E.enc x).set r v) :
    Sl E (hset h b (o + i * E.k + r) v) (some ⟨b, o, none⟩) c (L.set i x') := by
  obtain ⟨cs, hrow, hcs, _⟩ := w.row
  have hi := (List.getElem?_eq_some_iff.1 hx).1
  have hle := s.le
  have f1 : (i + 1) * E.k ≤ c * E.k := Nat.mul_le_mul_right _ (by omega)
  rw [Nat.add_mul] at f1
  have hat : hcell (hset h b (o + i * E.k + r) v) b (o + i * E.k + r) = some v := by
    have hb : o + i * E.k + r < cs.size := by omega
    rw [hcell_row (hset_row hrow), Array.getElem?_setIfInBounds]; simp [hb]
  refine ⟨by simpa using s.le, .inr ⟨b, o, rfl, fun j y hy => ?_⟩⟩
  rw [List.getElem?_set] at hy
  split at hy
  · rename_i hij
    subst hij
    cases hy
    obtain ⟨b', o', e, hc⟩ := s.at hx
    cases e
    refine HCells.mk fun q u hu => ?_
    rw [he, List.getElem?_set] at hu
    split at hu
    · rename_i hq
      subst hq
      rw [if_pos (by rw [E.len]; exact hr)] at hu
      cases hu; exact hat
    · rename_i hq
      rw [hcell_hset_ne (by omega)]
      exact hc.get hu
  · rename_i hij
    obtain ⟨b', o', e, hc⟩ := s.at hy
    cases e
    refine HCells.mk fun q u hu => ?_
    have hq := (List.getElem?_eq_some_iff.1 hu).1
    rw [E.len] at hq
    rw [hcell_hset_ne ?_]
    · exact hc.get hu
    · rcases Nat.lt_or_gt_of_ne hij with g | g
      · have : (i + 1) * E.k ≤ j * E.k := Nat.mul_le_mul_right _ g
        rw [Nat.add_mul] at this; omega
      · have : (j + 1) * E.k ≤ i * E.k := Nat.mul_le_mul_right _ g
        rw [Nat.add_mul] at this; omega
theorem Sl.word {α : Type} {E : Elt α} {h : Heap} {b o c : Nat} {L : List α} {T : TypeId} {N : Nat} (s : Sl E h (some ⟨b, o, none⟩) c L) (w : Own E.k T N h (some ⟨b, o, none⟩) c) {i r : Nat} {x' : α} {v : Value} (hi : i < L.length) (hr : r < E.k) (he : E.enc x' = (E.enc L[i]).set r v) {p : Nat} (hp : p = o + i * E.k + r) :
    HW h b p ∧ ∀ h', h' = hset h b p v → Sl E h' (some ⟨b, o, none⟩) c (L.set i x') ∧ Own E.k T N h' (some ⟨b, o, none⟩) c ∧ Fr (fun x => x = b) h h' := by
  subst hp
  obtain ⟨cs, h1, h2, _⟩ := w.row
  have hle := s.le
  have f1 : L.length * E.k ≤ c * E.k := Nat.mul_le_mul_right _ hle
  have f2 : (i + 1) * E.k ≤ L.length * E.k := Nat.mul_le_mul_right _ hi
  rw [Nat.add_mul] at f2
  refine ⟨HW_row h1 (by omega), ?_⟩
  rintro h' rfl
  exact ⟨s.set1 w (List.getElem?_eq_getElem hi) hr he, Own.hsets w b _ [v], fr_hset _ fun _ => rfl⟩
theorem Sl.words {α : Type} {E : Elt α} {h : Heap} {b o c : Nat} {L : List α} {T : TypeId} {N : Nat} (s : Sl E h (some ⟨b, o, none⟩) c L) (w : Own E.k T N h (some ⟨b, o, none⟩) c) {i : Nat} (hi : i < L.length) (x : α) {p : Nat} (hp : p = o + i * E.k) :
    HWs h b p E.k ∧ ∀ h', h' = hsets h b p (E.enc x) → Sl E h' (some ⟨b, o, none⟩) c (L.set i x) ∧ Own E.k T N h' (some ⟨b, o, none⟩) c ∧ Fr (fun x => x = b) h h' := by
  subst hp
  obtain ⟨k1, k2, k3⟩ := s.put w hi x
  refine ⟨k1, ?_⟩
  rintro h' rfl
  exact ⟨k2, k3, fr_hsets _ fun _ => rfl⟩
end Go.Proofs.YthjehlocmikchaaDoor
namespace Go.Proofs.YthjehlocmikchaaDoor
namespace Sc
open Go
theorem cbF : CallB Tryd.prog 64 := fun _ _ => Tryd.call64 _ _
def Yt (T : Nat → Prop) (h h3 : Heap) (b : Nat) : Prop := (b < h.size ∧ T b) ∨ h3.size ≤ b
section
variable {h : Heap} {a : Option Addr} {c : Nat} {L : List Int}
abbrev rowG (g : Geo) : Array Value := #[.int .i64 g.page, .int .i64 g.pages, .int .i64 g.regs, .int .i64 g.al]
theorem G4 {hh : Heap} {gb : Nat} {g : Geo} {Tg : TypeId} {fr : Nat × Nat} (r : hh[gb]? = some (.cells (rowG g) Tg fr)) : hcell hh gb 0 = some (.int .i64 g.page) ∧ hcell hh gb (0 + 1) = some (.int .i64 g.pages) ∧ hcell hh gb (0 + 2) = some (.int .i64 g.regs) ∧ hcell hh gb (0 + 3) = some (.int .i64 g.al) :=
 ⟨by rw [hcell_row r]; rfl, by rw [hcell_row r]; rfl, by rw [hcell_row r]; rfl, by rw [hcell_row r]; rfl⟩
theorem drop_nil_len {α : Type} {A : List α} {k : Nat} (hk : k ≤ A.length) (e : A.drop k = []) : k = A.length := by
 have := congrArg List.length e
 simp at this; omega
set_option maxHeartbeats 3200000 in
theorem found_go {gb ib eb pb po : Nat} {Tg Ti Te : TypeId} {fg fi fe : Nat × Nat} {y : Value} {R : Value → Heap → Prop} (g : Geo) (T : Nat → Prop) (t : Tab h) (ft : fits g L) (s : Sl eB h a c L) (hb : isB L)
  (rg : h[gb]? = some (.cells (rowG g) Tg fg)) (ri : h[ib]? = some (.cells #[.slice a L.length c] Ti fi)) (re : h[eb]? = some (.cells #[ptr pb po] Te fe))
  (tg : ¬ T gb) (ti : ¬ T ib) (te : ¬ T eb) (ta : ∀ b, blkA a b → ¬ T b) (hp : pb < h.size)
  (hno : headD g L = none → ∀ h3, Ext h h3 → HWs h3 pb po 2 ∧ R (.tuple #[]) (hsets h3 pb po [.int .i64 0, .int .i64 1]))
  (hso : ∀ x, headD g L = some x → ∀ h3, Ext h h3 → ∃ J : Nat → Heap → Prop, J 0 h3 ∧ (∀ k h4 h5, J k h4 → Ext h4 h5 → J k h5) ∧
   (∀ k (hk : k < (recsOf g x x.rg L).1.length) h4, Fr (Yt T h h3) h3 h4 → J k h4 → HCV Tryd.prog y [.agg (recsOf g x x.rg L).1[k].cs.toArray] h4 fun vv h7 => Fr (Yt T h h3) h4 h7 ∧ ∃ b : Bool, vv = .bool b ∧ (b = false → R (.tuple #[]) h7) ∧ (b = true → J (k + 1) h7)) ∧
   (∀ h4, Fr (Yt T h h3) h3 h4 → J (recsOf g x x.rg L).1.length h4 → HWs h4 pb po 2 ∧ R (.tuple #[]) (hsets h4 pb po [.int .i64 (recsOf g x x.rg L).2.1, .int .i64 (recsOf g x x.rg L).2.2]))) :
  HCF Tryd.prog (.func (.func 64) #[] #[ptr gb 0, ptr ib 0, ptr eb 0]) [y] h R := by
 refine ⟨64, [], [ptr gb 0, ptr ib 0, ptr eb 0], rfl, cbF, ?_⟩
 have hg := ft.1
 have hL := ft.2
 have b := ok_bounds hg
 have fb := fst_bounds hg
 have hl : L.length ≤ 1099511627776 := by omega
 have hc := s.le
 obtain ⟨q1, q2, q3, q4⟩ := G4 rg
 refine f64_sh _ _ _ _ _ _ _ _ _ ⟨_, _, _, _, q1, q2, q3, q4, _, _, _, by rw [hcell_row ri]; rfl, (head_m g t s hb).mono ?_⟩
 rintro _ h1 ⟨rfl, x1⟩
 unfold tellD
 have glt := row_lt rg
 have ilt := row_lt ri
 have elt := row_lt re
 cases hx : headD g L with
 | none =>
  simp only [if_pos hg]
  refine ⟨x1, _, _, _, _, rfl, fun _ => ⟨_, by rw [hcell_row (x1.row re)]; rfl, pb, po, rfl, fun hv h3 lo _ x3 => ?_⟩, fun e => by simp at e⟩
  obtain ⟨u1, u2⟩ := hno hx h3 (x1.trans x3)
  have := x1.size
  exact ⟨u1, fun q hq => by simp only [List.mem_cons, List.not_mem_nil, or_false] at hq; omega, fun h4 e4 => by rw [e4]; exact u2⟩
 | some x =>
  obtain ⟨_, h32, rfl⟩ := headD_some hx
  refine ⟨x1, _, _, _, _, rfl, fun e => by simp at e, fun _ hv h3 hlo hlt x3 => ?_⟩
  have x13 := x1.trans x3
  obtain ⟨J, j0, jx, jy, je⟩ := hso _ hx h3 x13
  have hsq : 0 ≤ (hdOf L).sq ∧ (hdOf L).sq < 18446744073709551616 := le_u64 (isB_take (isB_drop hb 16) 8) (by simp; omega)
  unfold recsOf at jy je
  generalize hsalt : (hdOf L).sq % 4294967296 = salt at *
  have hs : U32 salt := by rw [← hsalt]; exact ⟨by omega, by omega⟩
  obtain ⟨r1, r2, r3, r4⟩ := G4 (x13.row rg)
  refine ⟨salt, (salt_m _ hsq h3).mono fun v h' q => by rw [← hsalt]; exact q, _, _, _, _, r1, r2, r3, r4, (Up_m g 32 h3).mono ?_⟩
  rintro _ h5 ⟨rfl, x5⟩
  rw [upE_32 hg]
  generalize hrec : goOn g salt (hdOf L).rg L L.length (fst0 g) = rs at *
  have hz1 := x1.size
  have hz3 := x3.size
  have ng : ¬ Yt T h h3 gb := fun q => by rcases q with q | q; exact tg q.2; omega
  have ni : ¬ Yt T h h3 ib := fun q => by rcases q with q | q; exact ti q.2; omega
  have ne : ¬ Yt T h h3 eb := fun q => by rcases q with q | q; exact te q.2; omega
  have nv : ¬ Yt T h h3 hv := fun q => by rcases q with q | q <;> omega
  refine ⟨x5, _, _, rfl, fun p h6 => ∃ (k n : Nat), k ≤ rs.1.length ∧ (rs.1.drop k, rs.2) = goOn g salt (hdOf L).rg L n p ∧ 32 ≤ p ∧ p ≤ L.length + 4096 ∧ (L.length : Int) ≤ n + p ∧ J k h6 ∧ Fr (Yt T h h3) h3 h6, fun p _ => (L.length + 8192 - p).toNat,
   ⟨0, L.length, Nat.zero_le _, by rw [List.drop_zero, hrec], by omega, by omega, by omega, jx 0 h3 h5 j0 x5, x5.fr _⟩, ?_⟩
  rintro p h6 ⟨k, n, hk, hgo, p0, p1, pn, jk, f6⟩
  have g6 := f6.row (x13.row rg) ng
  have i6 := f6.row (x13.row ri) ni
  have e6 := f6.row (x13.row re) ne
  have sfr : ∀ {hh : Heap}, Fr (Yt T h h3) h3 hh → Sl eB hh a c L := fun f => (s.ext x13).fr f fun b hb q => by
   have hlt' : b < h.size ∨ c = 0 := by
    rcases s.ex with e | ⟨b', o', e, hcs⟩
    ·exact .inr e
    ·obtain ⟨x', ex, rfl⟩ := hb
     rw [e] at ex; cases ex
     left
     have h0 : 0 < L.length := by omega
     have := hcs 0 _ (List.getElem?_eq_getElem h0)
     exact hcell_lt (this.get (j := 0) rfl)
   rcases q with q | q
   ·exact ta b hb q.2
   ·omega
  have s6 := sfr f6
  have ew : IntKind.i64.wrap (IntKind.i64.wrap (p + 24) + 24) = p + 48 := by rw [w64 (x := p + 24) (by omega) (by omega), w64 (by omega) (by omega)]; omega
  simp only [ew]
  have offp : ∀ {hh : Heap}, Ext h6 hh → ∀ q, hh.size ≤ q → pb ≠ q := fun xx q hq => by have := f6.size; have := xx.size; omega
  have fin : ∀ {hh : Heap} {q w : Int}, Ext h6 hh → goOn g salt (hdOf L).rg L n p = ([], q, w) → HWs hh pb po 2 ∧ R (.tuple #[]) (hsets hh pb po [.int .i64 q, .int .i64 w]) := fun {hh q w} xx h1 => by
   rw [h1] at hgo
   have e1 := congrArg Prod.fst hgo
   have e2 := congrArg Prod.snd hgo
   simp only at e1 e2
   have hk2 := drop_nil_len hk e1
   have := je hh (f6.trans (xx.fr (Yt T h h3)) fun _ _ q => q) (by rw [← hk2]; exact jx _ _ _ jk xx)
   rw [e2] at this; exact this
  refine ⟨_, _, _, by rw [hcell_row i6]; rfl, fun e => ?_, fun e => ?_⟩
  ·have hp48 := of_decide_eq_true e
   have hpl : p.toNat < L.length := by omega
   obtain ⟨n', rfl⟩ : ∃ n', n = n' + 1 := ⟨n - 1, by omega⟩
   obtain ⟨bb, o, ea, d⟩ := s6.at (List.getElem?_eq_getElem hpl)
   have hgd := getD_at hpl
   have hfar : ¬ p > L.length - 48 := by omega
   refine ⟨bb, o, ea, by omega, by omega, L[p.toNat], d.1, fun e2 => ?_, fun e2 => ⟨fun e3 => ?_, fun e3 => ?_⟩⟩
   ·have e0 : L.getD p.toNat 0 = 0 := by rw [hgd]; exact eq_of_beq e2
    have m1 := Int.emod_add_mul_ediv p g.page
    have m2 := Int.emod_nonneg p (show g.page ≠ 0 by omega)
    have m3 := Int.emod_lt_of_pos p (show 0 < g.page by omega)
    have d0 : 0 ≤ p / g.page := Int.ediv_nonneg (by omega) (by omega)
    have d1 : p / g.page ≤ p := Int.ediv_le_self _ (by omega)
    have e5 : (p / g.page + 1) * g.page = g.page * (p / g.page) + g.page := by rw [Int.add_mul, Int.one_mul, Int.mul_comm]
    have e7 : goOn g salt (hdOf L).rg L (n' + 1) p = goOn g salt (hdOf L).rg L n' ((p / g.page + 1) * g.page) := by rw [goOn, if_neg hfar, if_pos e0]
    refine ⟨g.page, (G4 g6).1, by omega, ?_⟩
    rw [Int.tdiv_eq_ediv_of_nonneg (by omega), w64 (x := p / g.page) (by omega) (by omega), w64 (x := p / g.page + 1) (by omega) (by omega), w64 (x := (p / g.page + 1) * g.page) (by omega) (by omega)]
    refine ⟨⟨k, n', hk, by rw [hgo, e7], by omega, by omega, by omega, jk, f6⟩, ?_⟩
    show ((L.length : Int) + 8192 - (p / g.page + 1) * g.page).toNat < ((L.length : Int) + 8192 - p).toNat
    omega
   ·have h0 : ¬ L.getD p.toNat 0 = 0 := by rw [hgd]; simpa using e2
    have h255 : L.getD p.toNat 0 = 255 := by rw [hgd]; simpa using e3
    obtain ⟨u1, u2⟩ := fin (q := p) (w := 2) (Ext.refl _) (by rw [goOn, if_neg hfar, if_neg h0, if_pos h255])
    exact ⟨_, by rw [hcell_row e6]; rfl, pb, po, rfl, u1, fun q hq => by simp only [List.mem_cons, List.not_mem_nil, or_false] at hq; omega, fun h7 e7 => by rw [e7]; exact u2⟩
   ·have h0 : ¬ L.getD p.toNat 0 = 0 := by rw [hgd]; simpa using e2
    have h255 : ¬ L.getD p.toNat 0 = 255 := by rw [hgd]; simpa using e3
    have edec : decV g salt L p = if recOk g salt (L.drop p.toNat) then .tuple #[(rcOf (L.drop p.toNat)).v, .int .i64 (szR (L.drop p.toNat)), .int .i64 0] else .tuple #[z4.v, .int .i64 0, .int .i64 52] := by
     unfold decV; rw [if_neg (not_not_intro hg), if_neg (by omega), if_neg (by omega)]
    obtain ⟨k1, k2, k3, k4⟩ := G4 g6
    rw [ea] at s6
    refine ⟨_, _, _, _, k1, k2, k3, k4, (decode_m g hs s6 hb hl p).mono ?_⟩
    rintro _ h8 ⟨rfl, x8⟩
    rw [edec]
    by_cases hok : recOk g salt (L.drop p.toNat)
    ·rw [if_pos hok]
     have hz := hok.1.2
     have hz2 : (24 : Nat) ≤ szR (L.drop p.toNat) := by unfold szR; omega
     have hzl : (L.drop p.toNat).length = L.length - p.toNat := List.length_drop
     have e7 : goOn g salt (hdOf L).rg L (n' + 1) p = (⟨(hdOf L).rg, p, szR (L.drop p.toNat), rcOf (L.drop p.toNat)⟩ :: (goOn g salt (hdOf L).rg L n' (upTo (p + szR (L.drop p.toNat)) g.al)).1, (goOn g salt (hdOf L).rg L n' (upTo (p + szR (L.drop p.toNat)) g.al)).2) := by
      rw [goOn, if_neg hfar, if_neg h0, if_neg h255, if_pos hok]
     rw [e7] at hgo
     have e8 := congrArg Prod.fst hgo
     have e9 := congrArg Prod.snd hgo
     simp only at e8 e9
     have hkl : k < rs.1.length := by
      rcases Nat.lt_or_ge k rs.1.length with q | q
      ·exact q
      ·rw [List.drop_eq_nil_of_le q] at e8; cases e8
     rw [List.drop_eq_getElem_cons hkl] at e8
     have e10 := (List.cons.inj e8).1
     have e11 := (List.cons.inj e8).2
     refine ⟨x8, _, _, _, _, _, _, rfl, fun e => by simp at e, fun _ h10 x10 => ?_⟩
     have f10 : Fr (Yt T h h3) h3 h10 := f6.trans ((x8.trans x10).fr (Yt T h h3)) fun _ _ q => q
     have hy := jy k hkl h10 f10 (jx _ _ _ jk (x8.trans x10))
     rw [e10] at hy
     refine hy.mono ?_
     rintro _ h12 ⟨f12, bo, rfl, hf, ht⟩
     have fr12 : Fr (Yt T h h3) h3 h12 := f10.trans f12 fun _ _ q => q
     refine ⟨f12.kp fun q hq => ?_, bo, rfl, fun e => hf (by cases bo; rfl; simp at e), fun e => ?_⟩
     ·simp only [List.mem_cons, List.not_mem_nil, or_false] at hq; subst hq; exact nv
     ·obtain ⟨k1, k2, k3, k4⟩ := G4 (fr12.row (x13.row rg) ng)
      refine ⟨_, _, _, _, k1, k2, k3, k4, ?_⟩
      rw [w64 (x := p + (szR (L.drop p.toNat) : Int)) (by omega) (by omega)]
      refine (Up_m g _ h12).mono ?_
      rintro _ h13 ⟨rfl, x13'⟩
      have up := upTo_ge (n := p + (szR (L.drop p.toNat) : Int)) (al := g.al) (by omega)
      have eup : upE g (p + (szR (L.drop p.toNat) : Int)) = .tuple #[.int .i64 (upTo (p + (szR (L.drop p.toNat) : Int)) g.al), .int .i64 0] := by
       have hd : g.sz * 2 ≤ g.sz * g.regs := Int.mul_le_mul_of_nonneg_left hg.2.2.1.1 (by omega)
       unfold upE; rw [if_pos hg, if_neg (by omega)]
      refine ⟨x13', _, _, eup, ⟨k + 1, n', hkl, by rw [e11, e9], by omega, by omega, by omega, jx _ _ _ (ht (by cases bo; simp at e; rfl)) x13', fr12.trans (x13'.fr (Yt T h h3)) fun _ _ q => q⟩, ?_⟩
      show ((L.length : Int) + 8192 - _).toNat < ((L.length : Int) + 8192 - p).toNat
      omega
    ·rw [if_neg hok]
     refine ⟨x8, _, _, _, _, _, _, rfl, fun _ => ⟨_, by rw [hcell_row (x8.row e6)]; rfl, pb, po, rfl, fun r h10 lo10 lt10 x10 => ?_⟩, fun e => by simp at e⟩
     obtain ⟨u1, u2⟩ := fin (q := p) (w := 3) (x8.trans x10) (by rw [goOn, if_neg hfar, if_neg h0, if_neg h255, if_neg hok])
     exact ⟨u1, fun q hq => by
      simp only [List.mem_cons, List.not_mem_nil, or_false] at hq
      rcases hq with rfl | rfl
      ·omega
      ·exact Ne.symm (offp x8 _ lo10), fun h11 e11 => by rw [e11]; exact u2⟩
  ·have hfar : p > L.length - 48 := by have := of_decide_eq_false e; omega
   obtain ⟨u1, u2⟩ := fin (q := p) (w := 4) (Ext.refl _) (goOn_far hfar)
   exact ⟨_, by rw [hcell_row e6]; rfl, pb, po, rfl, u1, fun h7 e7 => by rw [e7]; exact u2⟩
end
end Sc
end Go.Proofs.YthjehlocmikchaaDoor
namespace Go.Proofs.YthjehlocmikchaaDoor
namespace Sc
open Go
structure Su where
 rg : Int
 has : Bool
 ep : Int
 sq : Int
 hr : Int
 recs : List Fo
 at_ : Int
 why : Int
 sealed_ : Bool
abbrev Su.cs (x : Su) (a : Option Addr) (n c : Nat) : List Value := [.int .i64 x.rg, .bool x.has, .int .u64 x.ep, .int .u64 x.sq, .int .i64 x.hr, .slice a n c, .int .i64 x.at_, .int .i64 x.why, .bool x.sealed_]
def su0 : Su := ⟨0, false, 0, 0, 0, [], 0, 0, false⟩
def lastU (u : Int) (l : List Fo) : Int := match l.getLast? with | none => u | some f => f.off + f.sz
theorem lastU_snoc (u : Int) (l : List Fo) (f : Fo) : lastU u (l ++ [f]) = f.off + f.sz := by unfold lastU; simp
def surGo (g : Geo) (rg : Int) (x : Hd) (L : List Int) : Su :=
 let r := recsOf g x x.rg L
 ⟨rg, true, x.ep, x.sq, x.rg, r.1, r.2.1, r.2.2, decide (footOk g L ∧ (ftOf L).salt = x.sq % 4294967296 ∧ (ftOf L).recs = (r.1.length : Int) ∧ (ftOf L).used = lastU (fst0 g) r.1)⟩
def surOf (g : Geo) (rg : Int) (L : List Int) : Su × Int :=
 if ¬ Gok g then (su0, 20) else if rg < 0 ∨ rg ≥ g.regs ∨ ¬ (L.length : Int) = g.sz then (su0, 60) else
 match headD g L with
 | none => (⟨rg, false, 0, 0, 0, [], 0, 1, false⟩, 0)
 | some x => if x.rg ≠ rg then (⟨rg, false, 0, 0, 0, [], 0, 1, false⟩, 0) else (surGo g rg x L, 0)
def TellS (r : Su × Int) (h : Heap) (v : Value) (h' : Heap) : Prop :=
 ∃ a c, v = .tuple #[.agg (r.1.cs a r.1.recs.length c).toArray, .int .i64 r.2] ∧ Ext h h' ∧ Sl eFo h' a c r.1.recs ∧ Own eFo.k tF h.size h' a c
theorem tellS_nil {S : Su} {e : Int} {h h' : Heap} (hr : S.recs = []) (x : Ext h h') : TellS (S, e) h (.tuple #[.agg (S.cs none 0 0).toArray, .int .i64 e]) h' := by
 refine ⟨none, 0, ?_, x, ?_, Own.nil _ _ _ _⟩
 ·show _ = Value.tuple #[.agg (S.cs none S.recs.length 0).toArray, .int .i64 e]
  rw [hr]; rfl
 ·show Sl eFo h' none 0 S.recs
  rw [hr]; exact Sl.nil _ _
theorem goOn_len (g : Geo) (salt rg : Int) (L : List Int) : ∀ (n : Nat) (p : Int), (goOn g salt rg L n p).1.length ≤ n
 | 0, p => Nat.le_refl _
 | n + 1, p => by
  unfold goOn
  split
  ·exact Nat.zero_le _
  ·split
   ·exact Nat.le_succ_of_le (goOn_len g salt rg L n _)
   ·split
    ·exact Nat.zero_le _
    ·split
     ·exact Nat.succ_le_succ (goOn_len g salt rg L n _)
     ·exact Nat.zero_le _
theorem goOn_fits {g : Geo} (hg : Gok g) {salt rg : Int} {L : List Int} : ∀ (n : Nat) (p : Int), 0 ≤ p → ∀ f ∈ (goOn g salt rg L n p).1, f.rg = rg ∧ p ≤ f.off ∧ 24 ≤ f.sz ∧ f.off + f.sz ≤ L.length
 | 0, p, _ => by intro f hf; simp [goOn] at hf
 | n + 1, p, h0 => by
  have b := ok_bounds hg
  intro f hf
  unfold goOn at hf
  split at hf
  ·simp at hf
  ·rename_i hfar
   split at hf
   ·have m1 := Int.emod_add_mul_ediv p g.page
    have m3 := Int.emod_lt_of_pos p (show 0 < g.page by omega)
    have e5 : (p / g.page + 1) * g.page = g.page * (p / g.page) + g.page := by rw [Int.add_mul, Int.one_mul, Int.mul_comm]
    have := goOn_fits hg n ((p / g.page + 1) * g.page) (by omega) f hf
    omega
   ·split at hf
    ·simp at hf
    ·split at hf
     ·rename_i hok
      have hz := hok.1.2
      have hzl : (L.drop p.toNat).length = L.length - p.toNat := List.length_drop
      have hz2 : (24 : Nat) ≤ szR (L.drop p.toNat) := by unfold szR; omega
      simp only [List.mem_cons] at hf
      rcases hf with rfl | hf
      ·refine ⟨rfl, Int.le_refl _, ?_, ?_⟩
       ·show (24 : Int) ≤ (szR (L.drop p.toNat) : Int); omega
       ·show p + (szR (L.drop p.toNat) : Int) ≤ L.length; omega
      ·have up := upTo_ge (n := p + (szR (L.drop p.toNat) : Int)) (al := g.al) (by omega)
       have := goOn_fits hg n _ (by omega) f hf
       omega
     ·simp at hf
end Sc
end Go.Proofs.YthjehlocmikchaaDoor
