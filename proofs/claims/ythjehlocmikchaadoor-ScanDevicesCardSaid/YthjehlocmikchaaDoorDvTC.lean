import Derived.Test.YthjehlocmikchaaDoorDvDeq
import Derived.Test.YthjehlocmikchaaDoorDvDrw
import Derived.Test.YthjehlocmikchaaDoorDvRng
import Derived.Test.YthjehlocmikchaaDoorDvTBb
import Derived.Test.YthjehlocmikchaaDoorProg
namespace Go.Proofs.YthjehlocmikchaaDoor
open Go
open Go.Proofs.YthjehlocmikchaaDoor renaming hl_val → lv, hl_step → lp, hl_nil → ln, hl_yes → ly, hl_no → lo, hx_seq → xs, hx_region → xr, hx_cond → xc, hx_block → xb, hx_loopT → xl, hx_cut → xk, hx_has → xh, hx_skip → xi, hx_ret → xt, hx_exit → xe, seqQ_n → qn, seqQ_ret → qr, seqQ_exit → qe, blockQ_n → bn, blockQ_ret → br, blockQ_here → bh, blockQ_past → bp, hv_move → vm, hv_assign → va, hv_arith → vr, hv_load → vl, hv_loads → vL, hv_extract → vx, hv_field → vf, hv_build → vb, hv_index → vi, hp_pure → pp, hp_read → pr, hp_no → pn, has_cons → hc, has_nil → hn, hcells_cons → cc, hcells_nil → cn, rowcell → rc, hs_call → sc, ht_one → to
set_option maxRecDepth 100000
set_option maxHeartbeats 4000000
theorem TyTC.agg24 : aggB Tryd.prog 24 = some true := by kernel_rfl
theorem TyTC.agg25 : aggB Tryd.prog 25 = some false := by kernel_rfl
theorem TyTC.agg29 : aggB Tryd.prog 29 = some false := by kernel_rfl
theorem TyTC.agg3 : aggB Tryd.prog 3 = some false := by kernel_rfl
theorem TyTC.agg31 : aggB Tryd.prog 31 = some true := by kernel_rfl
theorem TyTC.agg32 : aggB Tryd.prog 32 = some false := by kernel_rfl
theorem TyTC.agg34 : aggB Tryd.prog 34 = some true := by kernel_rfl
theorem TyTC.agg36 : aggB Tryd.prog 36 = some true := by kernel_rfl
theorem TyTC.agg4 : aggB Tryd.prog 4 = some false := by kernel_rfl
theorem TyTC.agg43 : aggB Tryd.prog 43 = some true := by kernel_rfl
theorem TyTC.agg45 : aggB Tryd.prog 45 = some true := by kernel_rfl
theorem TyTC.agg5 : aggB Tryd.prog 5 = some false := by kernel_rfl
theorem TyTC.agg85 : aggB Tryd.prog 85 = some false := by kernel_rfl
theorem TyTC.agg86 : aggB Tryd.prog 86 = some false := by kernel_rfl
theorem TyTC.by5 : byB Tryd.prog 5 = some 1 := by kernel_rfl
theorem TyTC.cb12 : CallB Tryd.prog 12 := fun _ _ => Tryd.call12 _ _
theorem TyTC.cb17 : CallB Tryd.prog 17 := fun _ _ => Tryd.call17 _ _
theorem TyTC.cb18 : CallB Tryd.prog 18 := fun _ _ => Tryd.call18 _ _
theorem TyTC.cb19 : CallB Tryd.prog 19 := fun _ _ => Tryd.call19 _ _
theorem TyTC.cb30 : CallB Tryd.prog 30 := fun _ _ => Tryd.call30 _ _
theorem TyTC.cb31 : CallB Tryd.prog 31 := fun _ _ => Tryd.call31 _ _
theorem TyTC.cb32 : CallB Tryd.prog 32 := fun _ _ => Tryd.call32 _ _
theorem TyTC.cb33 : CallB Tryd.prog 33 := fun _ _ => Tryd.call33 _ _
theorem TyTC.cb34 : CallB Tryd.prog 34 := fun _ _ => Tryd.call34 _ _
theorem TyTC.cb35 : CallB Tryd.prog 35 := fun _ _ => Tryd.call35 _ _
theorem TyTC.cb36 : CallB Tryd.prog 36 := fun _ _ => Tryd.call36 _ _
theorem TyTC.cb38 : CallB Tryd.prog 38 := fun _ _ => Tryd.call38 _ _
theorem TyTC.cb40 : CallB Tryd.prog 40 := fun _ _ => Tryd.call40 _ _
theorem TyTC.cb45 : CallB Tryd.prog 45 := fun _ _ => Tryd.call45 _ _
theorem TyTC.cb46 : CallB Tryd.prog 46 := fun _ _ => Tryd.call46 _ _
theorem TyTC.cb65 : CallB Tryd.prog 65 := fun _ _ => Tryd.call65 _ _
theorem TyTC.el25 : elB Tryd.prog 25 = some 1 := by kernel_rfl
theorem TyTC.el32 : elB Tryd.prog 32 = some 7 := by kernel_rfl
theorem TyTC.el47 : elB Tryd.prog 47 = some 4 := by kernel_rfl
theorem TyTC.el48 : elB Tryd.prog 48 = some 1 := by kernel_rfl
theorem TyTC.fld24_0 : fldB Tryd.prog 24 0 = some 0 := by kernel_rfl
theorem TyTC.fld24_2 : fldB Tryd.prog 24 2 = some 2 := by kernel_rfl
theorem TyTC.fld31_1 : fldB Tryd.prog 31 1 = some 1 := by kernel_rfl
theorem TyTC.fld31_2 : fldB Tryd.prog 31 2 = some 2 := by kernel_rfl
theorem TyTC.fld36_0 : fldB Tryd.prog 36 0 = some 0 := by kernel_rfl
theorem TyTC.fld36_1 : fldB Tryd.prog 36 1 = some 1 := by kernel_rfl
theorem TyTC.fld36_2 : fldB Tryd.prog 36 2 = some 2 := by kernel_rfl
theorem TyTC.fld36_3 : fldB Tryd.prog 36 3 = some 5 := by kernel_rfl
theorem TyTC.fld36_4 : fldB Tryd.prog 36 4 = some 6 := by kernel_rfl
theorem TyTC.fld36_5 : fldB Tryd.prog 36 5 = some 8 := by kernel_rfl
theorem TyTC.fld45_1 : fldB Tryd.prog 45 1 = some 1 := by kernel_rfl
theorem TyTC.fld45_2 : fldB Tryd.prog 45 2 = some 2 := by kernel_rfl
theorem TyTC.fld88_0 : fldB Tryd.prog 88 0 = some 0 := by kernel_rfl
theorem TyTC.fld88_1 : fldB Tryd.prog 88 1 = some 1 := by kernel_rfl
theorem TyTC.fld88_2 : fldB Tryd.prog 88 2 = some 2 := by kernel_rfl
theorem TyTC.gd45 : Tryd.prog.eqGuardType Tryd.prog.depth 45 = false := by kernel_rfl
theorem TyTC.mixed : Tryd.prog.follows .mixedOrders = true := by kernel_rfl
theorem TyTC.pl31 : plB Tryd.prog 31 = some [(0, 1), (1, 1), (2, 1)] := by kernel_rfl
theorem TyTC.pl34 : plB Tryd.prog 34 = some [(0, 1), (1, 1)] := by kernel_rfl
theorem TyTC.pl36 : plB Tryd.prog 36 = some [(0, 1), (1, 1), (2, 3), (5, 1), (6, 2), (8, 1)] := by kernel_rfl
theorem TyTC.pl43 : plB Tryd.prog 43 = some [(0, 1), (1, 1), (2, 1), (3, 1)] := by kernel_rfl
theorem TyTC.pl45 : plB Tryd.prog 45 = some [(0, 1), (1, 1), (2, 1), (3, 4)] := by kernel_rfl
theorem TyTC.se31 : seB Tryd.prog 31 = some [(29, 0), (29, 1), (3, 2)] := by kernel_rfl
theorem TyTC.se34 : seB Tryd.prog 34 = some [(3, 0), (3, 1)] := by kernel_rfl
theorem TyTC.sz24 : szB Tryd.prog 24 = some 4 := by kernel_rfl
theorem TyTC.sz3 : szB Tryd.prog 3 = some 1 := by kernel_rfl
theorem TyTC.sz31 : szB Tryd.prog 31 = some 3 := by kernel_rfl
theorem TyTC.sz32 : szB Tryd.prog 32 = some 1 := by kernel_rfl
theorem TyTC.sz34 : szB Tryd.prog 34 = some 2 := by kernel_rfl
theorem TyTC.sz36 : szB Tryd.prog 36 = some 9 := by kernel_rfl
theorem TyTC.sz4 : szB Tryd.prog 4 = some 1 := by kernel_rfl
theorem TyTC.sz43 : szB Tryd.prog 43 = some 4 := by kernel_rfl
theorem TyTC.sz45 : szB Tryd.prog 45 = some 7 := by kernel_rfl
theorem TyTC.sz5 : szB Tryd.prog 5 = some 1 := by kernel_rfl
theorem TyTC.sz88 : szB Tryd.prog 88 = some 4 := by kernel_rfl
theorem TyTC.u25 : Tryd.prog.underlying 25 = some (.slice 5) := by kernel_rfl
theorem TyTC.u32 : Tryd.prog.underlying 32 = some (.slice 45) := by kernel_rfl
theorem TyTC.u4 : Tryd.prog.underlying 4 = some (.bool) := by kernel_rfl
theorem TyTC.u47 : Tryd.prog.underlying 47 = some (.slice 43) := by kernel_rfl
theorem TyTC.u48 : Tryd.prog.underlying 48 = some (.slice 4) := by kernel_rfl
theorem TyTC.z3 : zeroB Tryd.prog 3 (.int .i64 0) := by unfold zeroB; kernel_rfl
theorem TyTC.z31 : zeroB Tryd.prog 31 (.agg #[(.int .u64 0), (.int .u64 0), (.int .i64 0)]) := by unfold zeroB; kernel_rfl
theorem TyTC.z34 : zeroB Tryd.prog 34 (.agg #[(.int .i64 0), (.int .i64 0)]) := by unfold zeroB; kernel_rfl
theorem TyTC.z36 : zeroB Tryd.prog 36 (.agg #[(.int .i64 0), (.bool false), (.int .u64 0), (.int .u64 0), (.int .i64 0), (.slice none 0 0), (.int .i64 0), (.int .i64 0), (.bool false)]) := by unfold zeroB; kernel_rfl
theorem TyTC.z43 : zeroB Tryd.prog 43 (.agg #[(.int .i64 0), (.int .u64 0), (.string ByteArray.empty), (.string ByteArray.empty)]) := by unfold zeroB; kernel_rfl
theorem TyTC.z45 : zeroB Tryd.prog 45 (.agg #[(.int .i64 0), (.int .i64 0), (.int .i64 0), (.int .i64 0), (.int .u64 0), (.string ByteArray.empty), (.string ByteArray.empty)]) := by unfold zeroB; kernel_rfl
theorem TyTC.z5 : zeroB Tryd.prog 5 (.int .u8 0) := by unfold zeroB; kernel_rfl
theorem TyTC.z88 : zeroB Tryd.prog 88 (.agg #[(.int .i64 0), (.int .i64 0), (.int .u32 0), (.int .u32 0)]) := by unfold zeroB; kernel_rfl
theorem ext_pushed_f64_sh {h h1 : Heap} {o : Obj} (e : h1 = Array.push h o) : Ext h h1 := by rw [e]; exact Ext.push _ _
theorem f12_sh (k8 : Int) (k0 : Int) (j0 : Int) (k1 : Int) (a7 : Int) (d6 : Option Addr) (b1 : Nat) (b6 : Nat) (h : Heap) (R : Value → Heap → Prop)
  (H : (∀ g h1, g = Array.size h → h1 = Array.push h (.cells #[(.int .i64 k8), (.int .i64 k0), (.int .i64 j0), (.int .i64 k1)] 24) → (∀ nb h2, nb = Array.size h1 → h2 = Array.push h1 (.cells #[(.int .i64 0), (.bool false), (.int .u64 0), (.int .u64 0), (.int .i64 0), (.slice none 0 0), (.int .i64 0), (.int .i64 0), (.bool false)] 36) → (∃ j5 i3 e7 i2 : Int, hcell h2 g 0 = some (.int .i64 j5) ∧ hcell h2 g 1 = some (.int .i64 i3) ∧ hcell h2 g 2 = some (.int .i64 e7) ∧ hcell h2 g 3 = some (.int .i64 i2) ∧ HC Tryd.prog 31 #[(.agg #[(.int .i64 j5), (.int .i64 i3), (.int .i64 e7), (.int .i64 i2)])] h2 (fun vv h3 => Ext h2 h3 ∧ ∃ r0 r1 r2 : Int, vv = (.tuple #[(.int .i64 r0), (.int .i64 r1), (.int .i64 r2)]) ∧ (((r2 != 0) = true → (HWs h3 nb 0 9 ∧ ∀ h4, h4 = hsets h3 nb 0 [(.int .i64 0), (.bool false), (.int .u64 0), (.int .u64 0), (.int .i64 0), (.slice none 0 0), (.int .i64 0), (.int .i64 0), (.bool false)] → (∃ a9 : Int, ∃ b2 : Bool, ∃ a2 a0 a1 : Int, ∃ a5 : Option Addr, ∃ a4 a3 : Nat, ∃ a8 a6 : Int, ∃ b0 : Bool, hcell h4 nb 0 = some (.int .i64 a9) ∧ hcell h4 nb 1 = some (.bool b2) ∧ hcell h4 nb 2 = some (.int .u64 a2) ∧ hcell h4 nb 3 = some (.int .u64 a0) ∧ hcell h4 nb 4 = some (.int .i64 a1) ∧ hcell h4 nb 5 = some (.slice a5 a4 a3) ∧ hcell h4 nb 6 = some (.int .i64 a8) ∧ hcell h4 nb 7 = some (.int .i64 a6) ∧ hcell h4 nb 8 = some (.bool b0) ∧ (∀ h5, Shut' (Array.size h) h4 h5 → R (.tuple #[(.agg #[(.int .i64 a9), (.bool b2), (.int .u64 a2), (.int .u64 a0), (.int .i64 a1), (.slice a5 a4 a3), (.int .i64 a8), (.int .i64 a6), (.bool b0)]), (.int .i64 r2)]) h5)))) ∧ ((r2 != 0) = false → (∃ j : Bool, (((decide (a7 < 0)) = true → (j = true)) ∧ ((decide (a7 < 0)) = false → (∃ x : Int, hcell h3 g 2 = some (.int .i64 x) ∧ (((decide (a7 ≥ x)) = true → (j = true)) ∧ ((decide (a7 ≥ x)) = false → (j = (r0 != (b1 : Int)))))))) ∧ ((j = true → (HWs h3 nb 0 9 ∧ ∀ h6, h6 = hsets h3 nb 0 [(.int .i64 0), (.bool false), (.int .u64 0), (.int .u64 0), (.int .i64 0), (.slice none 0 0), (.int .i64 0), (.int .i64 0), (.bool false)] → (∃ a9 : Int, ∃ b2 : Bool, ∃ a2 a0 a1 : Int, ∃ a5 : Option Addr, ∃ a4 a3 : Nat, ∃ a8 a6 : Int, ∃ b0 : Bool, hcell h6 nb 0 = some (.int .i64 a9) ∧ hcell h6 nb 1 = some (.bool b2) ∧ hcell h6 nb 2 = some (.int .u64 a2) ∧ hcell h6 nb 3 = some (.int .u64 a0) ∧ hcell h6 nb 4 = some (.int .i64 a1) ∧ hcell h6 nb 5 = some (.slice a5 a4 a3) ∧ hcell h6 nb 6 = some (.int .i64 a8) ∧ hcell h6 nb 7 = some (.int .i64 a6) ∧ hcell h6 nb 8 = some (.bool b0) ∧ (∀ h7, Shut' (Array.size h) h6 h7 → R (.tuple #[(.agg #[(.int .i64 a9), (.bool b2), (.int .u64 a2), (.int .u64 a0), (.int .i64 a1), (.slice a5 a4 a3), (.int .i64 a8), (.int .i64 a6), (.bool b0)]), (.int .i64 60)]) h7)))) ∧ (j = false → (∃ g5 f0 d2 e9 : Int, hcell h3 g 0 = some (.int .i64 g5) ∧ hcell h3 g 1 = some (.int .i64 f0) ∧ hcell h3 g 2 = some (.int .i64 d2) ∧ hcell h3 g 3 = some (.int .i64 e9) ∧ HC Tryd.prog 32 #[(.agg #[(.int .i64 g5), (.int .i64 f0), (.int .i64 d2), (.int .i64 e9)]), (.slice d6 b1 b6)] h3 (fun vv h8 => Ext h3 h8 ∧ ∃ d8 b9 c7 g6 : Int, vv = (.tuple #[(.agg #[(.int .u64 d8), (.int .u64 b9), (.int .i64 c7)]), (.int .i64 g6)]) ∧ (∀ hv h9, hv = Array.size h8 → h9 = Array.push h8 (.cells #[(.int .u64 0), (.int .u64 0), (.int .i64 0)] 31) → (HWs h9 hv 0 3 ∧ ∀ j3, j3 = hsets h9 hv 0 [(.int .u64 d8), (.int .u64 b9), (.int .i64 c7)] → (∃ l3 : Bool, (((g6 != 0) = true → (l3 = true)) ∧ ((g6 != 0) = false → (∃ m4 : Int, hcell j3 hv 2 = some (.int .i64 m4) ∧ (l3 = (m4 != a7))))) ∧ ((l3 = true → (HWs j3 nb 0 9 ∧ ∀ j2, j2 = hsets j3 nb 0 [(.int .i64 a7), (.bool false), (.int .u64 0), (.int .u64 0), (.int .i64 0), (.slice none 0 0), (.int .i64 0), (.int .i64 1), (.bool false)] → (∃ a9 : Int, ∃ b2 : Bool, ∃ a2 a0 a1 : Int, ∃ a5 : Option Addr, ∃ a4 a3 : Nat, ∃ a8 a6 : Int, ∃ b0 : Bool, hcell j2 nb 0 = some (.int .i64 a9) ∧ hcell j2 nb 1 = some (.bool b2) ∧ hcell j2 nb 2 = some (.int .u64 a2) ∧ hcell j2 nb 3 = some (.int .u64 a0) ∧ hcell j2 nb 4 = some (.int .i64 a1) ∧ hcell j2 nb 5 = some (.slice a5 a4 a3) ∧ hcell j2 nb 6 = some (.int .i64 a8) ∧ hcell j2 nb 7 = some (.int .i64 a6) ∧ hcell j2 nb 8 = some (.bool b0) ∧ (∀ x2, Shut' (Array.size h) j2 x2 → R (.tuple #[(.agg #[(.int .i64 a9), (.bool b2), (.int .u64 a2), (.int .u64 a0), (.int .i64 a1), (.slice a5 a4 a3), (.int .i64 a8), (.int .i64 a6), (.bool b0)]), (.int .i64 0)]) x2)))) ∧ (l3 = false → (∃ d9 b8 c9 : Int, hcell j3 hv 0 = some (.int .u64 d9) ∧ hcell j3 hv 1 = some (.int .u64 b8) ∧ hcell j3 hv 2 = some (.int .i64 c9) ∧ (∀ sv l6, sv = Array.size j3 → l6 = Array.push j3 (.cells #[(.int .i64 0), (.bool false), (.int .u64 0), (.int .u64 0), (.int .i64 0), (.slice none 0 0), (.int .i64 0), (.int .i64 0), (.bool false)] 36) → (HWs l6 sv 0 9 ∧ ∀ k9, k9 = hsets l6 sv 0 [(.int .i64 a7), (.bool true), (.int .u64 d9), (.int .u64 b8), (.int .i64 c9), (.slice none 0 0), (.int .i64 0), (.int .i64 0), (.bool false)] → (∃ g8 f4 d4 f5 : Int, hcell k9 g 0 = some (.int .i64 g8) ∧ hcell k9 g 1 = some (.int .i64 f4) ∧ hcell k9 g 2 = some (.int .i64 d4) ∧ hcell k9 g 3 = some (.int .i64 f5) ∧ HC Tryd.prog 33 #[(.agg #[(.int .i64 g8), (.int .i64 f4), (.int .i64 d4), (.int .i64 f5)]), (.int .i64 32)] k9 (fun vv n1 => Ext k9 n1 ∧ ∃ j6 k3 : Int, vv = (.tuple #[(.int .i64 j6), (.int .i64 k3)]) ∧ (∀ j7 l8, j7 = Array.size n1 → l8 = Array.push n1 (.cells #[(.int .i64 0)] 3) → (HW l8 j7 0 ∧ ∀ l1, l1 = hset l8 j7 0 (.int .i64 j6) → (∃ i0 f3 d5 f6 : Int, hcell l1 g 0 = some (.int .i64 i0) ∧ hcell l1 g 1 = some (.int .i64 f3) ∧ hcell l1 g 2 = some (.int .i64 d5) ∧ hcell l1 g 3 = some (.int .i64 f6) ∧ HC Tryd.prog 34 #[(.agg #[(.int .i64 i0), (.int .i64 f3), (.int .i64 d5), (.int .i64 f6)]), (.slice d6 b1 b6), (ptr sv 6)] l1 (fun vv p1 => ∃ r : Value, vv = r ∧ (∀ (j1 : LoopState → Option Code → Heap → Prop) (l : Nat) (m3 : Heap) (y : Value), (∀ s p h h', j1 s p h → h'[l]? = h[l]? → j1 s p h') → l = Array.size p1 + 1 → Ext p1 m3 → Array.size m3 = Array.size p1 + 2 → j1 .ready none m3 → (∀ (i7 : Int) (i6 : Int) (j9 : Int) (e2 : Int) (c5 : Int) (e3 : ByteArray) (d7 : ByteArray) (m1 : Heap) (p5 : Value → Heap → Prop), j1 .ready none m1 → (∀ f l7, f = Array.size m1 → l7 = Array.push m1 (.cells #[(.int .i64 0), (.int .i64 0), (.int .i64 0), (.int .i64 0), (.int .u64 0), (.string ByteArray.empty), (.string ByteArray.empty)] 45) → (HWs l7 f 0 7 ∧ ∀ n3, n3 = hsets l7 f 0 [(.int .i64 i7), (.int .i64 i6), (.int .i64 j9), (.int .i64 e2), (.int .u64 c5), (.string e3), (.string d7)] → (j1 .ready none n3 ∧ ∀ i4, Only l n3 i4 → j1 .busy none i4 → (∃ p2 : Option Addr, ∃ p4 p3 : Nat, hcell i4 sv 5 = some (.slice p2 p4 p3) ∧ (∃ c8 e4 i5 b7 b3 : Int, ∃ c0 b4 : ByteArray, hcell i4 f 0 = some (.int .i64 c8) ∧ hcell i4 f 1 = some (.int .i64 e4) ∧ hcell i4 f 2 = some (.int .i64 i5) ∧ hcell i4 f 3 = some (.int .i64 b7) ∧ hcell i4 f 4 = some (.int .u64 b3) ∧ hcell i4 f 5 = some (.string c0) ∧ hcell i4 f 6 = some (.string b4) ∧ (∀ m7 n5, m7 = Array.size i4 → n5 = Array.push i4 (.cells #[(.int .i64 c8), (.int .i64 e4), (.int .i64 i5), (.int .i64 b7), (.int .u64 b3), (.string c0), (.string b4)] 45) → HAppend Tryd.prog 32 32 (.slice p2 p4 p3) (.slice (some ⟨m7, 0, none⟩) 1 1) n5 (fun vv q2 => ∃ ap : Option Addr, ∃ m9 m8 : Nat, vv = (.slice ap m9 m8) ∧ (HW q2 sv 5 ∧ ∀ l5, l5 = hset q2 sv 5 (.slice ap m9 m8) → (∃ l9 : Int, hcell l5 f 1 = some (.int .i64 l9) ∧ (∃ m2 : Int, hcell l5 f 2 = some (.int .i64 m2) ∧ (HW l5 j7 0 ∧ ∀ n4, n4 = hset l5 j7 0 (.int .i64 (IntKind.i64.wrap (l9 + m2))) → (j1 .busy none n4 ∧ ∀ p7, Only l n4 p7 → j1 .ready none p7 → p5 (.bool true) p7)))))))))))) → HCV Tryd.prog y [(.agg #[(.int .i64 i7), (.int .i64 i6), (.int .i64 j9), (.int .i64 e2), (.int .u64 c5), (.string e3), (.string d7)])] m1 p5) → HCF Tryd.prog r [y] m3 (fun _ q1 => ∃ (st : LoopState) (l2 : Option Code), j1 st l2 q1 ∧ st ≠ .busy ∧ ∀ k2, Only l q1 k2 → j1 .exhausted l2 k2 → ((l2 = none ∧ (∃ g1 f7 d1 f1 : Int, hcell k2 g 0 = some (.int .i64 g1) ∧ hcell k2 g 1 = some (.int .i64 f7) ∧ hcell k2 g 2 = some (.int .i64 d1) ∧ hcell k2 g 3 = some (.int .i64 f1) ∧ HC Tryd.prog 35 #[(.agg #[(.int .i64 g1), (.int .i64 f7), (.int .i64 d1), (.int .i64 f1)]), (.slice d6 b1 b6)] k2 (fun vv n6 => Ext k2 n6 ∧ ∃ c4 f2 e5 i1 g3 : Int, vv = (.tuple #[(.agg #[(.int .i64 c4), (.int .i64 f2), (.int .u32 e5), (.int .u32 i1)]), (.int .i64 g3)]) ∧ (∀ i9 m0, i9 = Array.size n6 → m0 = Array.push n6 (.cells #[(.int .i64 0), (.int .i64 0), (.int .u32 0), (.int .u32 0)] 88) → (HWs m0 i9 0 4 ∧ ∀ f9, f9 = hsets m0 i9 0 [(.int .i64 c4), (.int .i64 f2), (.int .u32 e5), (.int .u32 i1)] → (∃ k4 : Heap → Prop, (((g3 == 0) = true → (∃ l0 : Int, hcell f9 i9 2 = some (.int .u32 l0) ∧ (∃ n2 : Int, hcell f9 hv 1 = some (.int .u64 n2) ∧ (∃ k6 : Int, (∀ p6, Ext f9 p6 → HC Tryd.prog 36 #[(.int .u64 n2)] p6 (fun vv h' => vv = (.int .u32 k6) ∧ h' = p6)) ∧ (((l0 == k6) = true → (∃ k7 : Int, hcell f9 i9 0 = some (.int .i64 k7) ∧ (∃ q0 : Option Addr, ∃ f8 m5 : Nat, hcell f9 sv 5 = some (.slice q0 f8 m5) ∧ (((k7 == (f8 : Int)) = true → (∃ l4 : Int, hcell f9 i9 1 = some (.int .i64 l4) ∧ (∃ k5 : Int, hcell f9 j7 0 = some (.int .i64 k5) ∧ (HW f9 sv 8 ∧ ∀ o4, o4 = hset f9 sv 8 (.bool (l4 == k5)) → (k4 o4))))) ∧ ((k7 == (f8 : Int)) = false → (HW f9 sv 8 ∧ ∀ p0, p0 = hset f9 sv 8 (.bool false) → (k4 p0))))))) ∧ ((l0 == k6) = false → (HW f9 sv 8 ∧ ∀ o9, o9 = hset f9 sv 8 (.bool false) → (k4 o9)))))))) ∧ ((g3 == 0) = false → (HW f9 sv 8 ∧ ∀ o7, o7 = hset f9 sv 8 (.bool false) → (k4 o7)))) ∧ (∀ (i8 : Heap), k4 i8 → (∃ e0 : Int, ∃ j8 : Bool, ∃ c6 b5 c1 : Int, ∃ e8 : Option Addr, ∃ d3 d0 : Nat, ∃ g7 e6 : Int, ∃ g0 : Bool, hcell i8 sv 0 = some (.int .i64 e0) ∧ hcell i8 sv 1 = some (.bool j8) ∧ hcell i8 sv 2 = some (.int .u64 c6) ∧ hcell i8 sv 3 = some (.int .u64 b5) ∧ hcell i8 sv 4 = some (.int .i64 c1) ∧ hcell i8 sv 5 = some (.slice e8 d3 d0) ∧ hcell i8 sv 6 = some (.int .i64 g7) ∧ hcell i8 sv 7 = some (.int .i64 e6) ∧ hcell i8 sv 8 = some (.bool g0) ∧ (HWs i8 nb 0 9 ∧ ∀ j4, j4 = hsets i8 nb 0 [(.int .i64 e0), (.bool j8), (.int .u64 c6), (.int .u64 b5), (.int .i64 c1), (.slice e8 d3 d0), (.int .i64 g7), (.int .i64 e6), (.bool g0)] → (∃ a9 : Int, ∃ b2 : Bool, ∃ a2 a0 a1 : Int, ∃ a5 : Option Addr, ∃ a4 a3 : Nat, ∃ a8 a6 : Int, ∃ b0 : Bool, hcell j4 nb 0 = some (.int .i64 a9) ∧ hcell j4 nb 1 = some (.bool b2) ∧ hcell j4 nb 2 = some (.int .u64 a2) ∧ hcell j4 nb 3 = some (.int .u64 a0) ∧ hcell j4 nb 4 = some (.int .i64 a1) ∧ hcell j4 nb 5 = some (.slice a5 a4 a3) ∧ hcell j4 nb 6 = some (.int .i64 a8) ∧ hcell j4 nb 7 = some (.int .i64 a6) ∧ hcell j4 nb 8 = some (.bool b0) ∧ (∀ x3, Shut' (Array.size h) j4 x3 → R (.tuple #[(.agg #[(.int .i64 a9), (.bool b2), (.int .u64 a2), (.int .u64 a0), (.int .i64 a1), (.slice a5 a4 a3), (.int .i64 a8), (.int .i64 a6), (.bool b0)]), (.int .i64 0)]) x3)))))))))))))))))))))))))))))))))))))))) :
  HC Tryd.prog 12 #[(.agg #[(.int .i64 k8), (.int .i64 k0), (.int .i64 j0), (.int .i64 k1)]), (.int .i64 a7), (.slice d6 b1 b6)] h R := by
 refine hc_ofM (args := [(.agg #[(.int .i64 k8), (.int .i64 k0), (.int .i64 j0), (.int .i64 k1)]), (.int .i64 a7), (.slice d6 b1 b6)]) Tryd.func12 rfl Tryd.ntmps12 (Nat.le_of_ble_eq_true rfl) ?_
 refine xs (xr ?_)
 refine lp rfl rfl (hn_box (v := (.agg #[(.int .i64 k8), (.int .i64 k0), (.int .i64 j0), (.int .i64 k1)])) rfl ?_)
 intro g h1 eb1 x4
 replace H := H g h1 eb1 x4
 have xx3 := ext_pushed_f64_sh x4
 refine lp rfl rfl (hn_alloc TyTC.z36 ?_)
 intro nb h2 eb4 x5
 replace H := H nb h2 eb4 x5
 have xx6 := ext_pushed_f64_sh x5
 refine lv rfl rfl (va rfl) ?_
 refine ln (qn (xs (xr ?_)))
 obtain ⟨j5, i3, e7, i2, hc7, hc8, hc9, z9, H⟩ := H
 refine lv rfl rfl (vL (vs := [(.int .i64 j5), (.int .i64 i3), (.int .i64 e7), (.int .i64 i2)]) TyTC.agg24 TyTC.sz24 rfl (cc hc7 (cc hc8 (cc hc9 (cc z9 cn))))) ?_
 refine lp rfl rfl (sc TyTC.cb31 rfl (HC.mono H ?_))
 rintro _ h3 ⟨a63, r0, r1, r2, rfl, H⟩
 refine lv rfl rfl (vm rfl) (lv rfl rfl (vx rfl rfl) (lv rfl rfl (vx rfl rfl) (lv rfl rfl (vx rfl rfl) (lv rfl rfl (va rfl) (lv rfl rfl (va rfl) ?_)))))
 refine lv rfl rfl (va rfl) ?_
 refine ln (qn (xs (xb (xs (xr ?_)))))
 refine lv rfl rfl (vm rfl) (lv rfl rfl (vr rfl rfl rfl) (lv rfl rfl (va rfl) ?_))
 refine ln (qn ?_)
 refine xc (b := r2 != 0) rfl (fun n9 => ?_) (fun n9 => ?_)
 ·replace H := H.1 n9
  refine xs (xr ?_)
  refine lv rfl rfl (v := (.agg #[(.int .i64 0), (.bool false), (.int .u64 0), (.int .u64 0), (.int .i64 0), (.slice none 0 0), (.int .i64 0), (.int .i64 0), (.bool false)])) (vb (vs := []) (cs := #[(.int .i64 0), (.bool false), (.int .u64 0), (.int .u64 0), (.int .i64 0), (.slice none 0 0), (.int .i64 0), (.int .i64 0), (.bool false)]) TyTC.z36 TyTC.pl36 rfl (by kernel_rfl)) (lv rfl rfl (vm rfl) ?_)
  obtain ⟨a39, H⟩ := H
  refine lp rfl rfl (hn_stores (vs := [(.int .i64 0), (.bool false), (.int .u64 0), (.int .u64 0), (.int .i64 0), (.slice none 0 0), (.int .i64 0), (.int .i64 0), (.bool false)]) rfl rfl TyTC.sz36 rfl a39 ?_)
  intro h4 a15
  replace H := H h4 a15
  refine lv rfl rfl (va rfl) ?_
  refine ln (qn (xt (br (qr ?_))))
  obtain ⟨a9, b2, a2, a0, a1, a5, a4, a3, a8, a6, b0, a29, a43, a33, a41, y0, a13, a31, z7, x9, H⟩ := H
  exact endQM_ret _ (fun h' hs => ⟨res_two Tryd.results12 (rv_cell (vs := [(.int .i64 a9), (.bool b2), (.int .u64 a2), (.int .u64 a0), (.int .i64 a1), (.slice a5 a4 a3), (.int .i64 a8), (.int .i64 a6), (.bool b0)]) TyTC.agg36 TyTC.sz36 rfl (cc (shut_cell hs a29) (cc (shut_cell hs a43) (cc (shut_cell hs a33) (cc (shut_cell hs a41) (cc (shut_cell hs y0) (cc (shut_cell hs a13) (cc (shut_cell hs a31) (cc (shut_cell hs z7) (cc (shut_cell hs x9) cn)))))))))) (rv_tmp rfl), H h' hs⟩)
 ·replace H := H.2 n9
  obtain ⟨j, n7, o3⟩ := H
  refine xk (fun ρ h' => h3 = h' ∧ Has ρ [(1, (.int .i64 a7)), (2, (.slice d6 b1 b6)), (3, (ptr g 0)), (6, (ptr nb 0)), (7, (.int .i64 0)), (28, (.bool j))]) ?_ ?_
  ·have H := n7; clear n7 o3
   refine xr ?_
   refine lv rfl rfl (vm rfl) (lv rfl rfl (vr rfl rfl rfl) (lv rfl rfl (vm rfl) ?_))
   rcases bool_or (decide (a7 < 0)) with g9 | g9
   ·replace H := H.1 g9
    refine lo (wanted_n rfl rfl rfl g9) rfl ?_
    refine lo (wanted_n rfl rfl rfl g9) rfl ?_
    refine lo (wanted_n rfl rfl rfl g9) rfl ?_
    refine lo (wanted_n rfl rfl rfl g9) rfl ?_
    refine lv rfl rfl (v := (.bool true)) (hv_pick_t rfl g9 rfl) (lv rfl rfl (vm rfl) ?_)
    refine lo (wanted_n rfl rfl (c := true) rfl rfl) rfl ?_
    refine lo (wanted_n rfl rfl (c := true) rfl rfl) rfl ?_
    refine lo (wanted_n rfl rfl (c := true) rfl rfl) rfl ?_
    refine lo (wanted_n rfl rfl (c := true) rfl rfl) rfl ?_
    refine lv rfl rfl (v := (.bool true)) (hv_pick (t := true) rfl rfl) (lv rfl rfl (va rfl) ?_)
    refine ln (qn ?_)
    obtain rfl := H
    exact ⟨rfl, (hc rfl (hc rfl (hc rfl (hc rfl (hc rfl (hc rfl hn))))))⟩
   ·replace H := H.2 g9
    refine ly (wanted_y rfl rfl rfl g9) rfl (HStep.of_val (v := (.int .i64 a7)) (vm rfl) ?_)
    refine ly (wanted_y rfl rfl rfl g9) rfl (HStep.of_val (v := (ptr g 2)) (vf TyTC.fld24_2 (b := g) (o := 0) rfl) ?_)
    obtain ⟨x, a23, H⟩ := H
    refine ly (wanted_y rfl rfl rfl g9) rfl (HStep.of_val (v := (.int .i64 x)) (vl TyTC.agg3 rfl a23) ?_)
    refine ly (wanted_y rfl rfl rfl g9) rfl (HStep.of_val (v := (.bool (decide (a7 ≥ x)))) (vr rfl rfl rfl) ?_)
    refine lv rfl rfl (v := (.bool (decide (a7 ≥ x)))) (hv_pick_f rfl g9 rfl) (lv rfl rfl (vm rfl) ?_)
    rcases bool_or (decide (a7 ≥ x)) with g4 | g4
    ·replace H := H.1 g4
     refine lo (wanted_n rfl rfl rfl g4) rfl ?_
     refine lo (wanted_n rfl rfl rfl g4) rfl ?_
     refine lo (wanted_n rfl rfl rfl g4) rfl ?_
     refine lo (wanted_n rfl rfl rfl g4) rfl ?_
     refine lv rfl rfl (v := (.bool true)) (hv_pick_t rfl g4 rfl) (lv rfl rfl (va rfl) ?_)
     refine ln (qn ?_)
     obtain rfl := H
     exact ⟨rfl, (hc rfl (hc rfl (hc rfl (hc rfl (hc rfl (hc rfl hn))))))⟩
    ·replace H := H.2 g4
     refine ly (wanted_y rfl rfl rfl g4) rfl (HStep.of_val (v := (.int .i64 r0)) (vm rfl) ?_)
     refine ly (wanted_y rfl rfl rfl g4) rfl (HStep.of_val (v := (.slice d6 b1 b6)) (vm rfl) ?_)
     refine ly (wanted_y rfl rfl rfl g4) rfl (HStep.of_val (v := (.int .i64 (b1 : Int))) (hv_len (n := b1) TyTC.u25 rfl) ?_)
     refine ly (wanted_y rfl rfl rfl g4) rfl (HStep.of_val (v := (.bool (r0 != (b1 : Int)))) (vr rfl rfl rfl) ?_)
     refine lv rfl rfl (v := (.bool (r0 != (b1 : Int)))) (hv_pick_f rfl g4 rfl) (lv rfl rfl (va rfl) ?_)
     refine ln (qn ?_)
     obtain rfl := H
     exact ⟨rfl, (hc rfl (hc rfl (hc rfl (hc rfl (hc rfl (hc rfl hn))))))⟩
  ·have H := o3; clear n7 o3
   rintro ρ _ ⟨rfl, hH⟩
   refine xh _ hH ?_
   refine xc (b := j) rfl (fun n8 => ?_) (fun n8 => ?_)
   ·replace H := H.1 n8
    refine xs (xr ?_)
    refine lv rfl rfl (v := (.agg #[(.int .i64 0), (.bool false), (.int .u64 0), (.int .u64 0), (.int .i64 0), (.slice none 0 0), (.int .i64 0), (.int .i64 0), (.bool false)])) (vb (vs := []) (cs := #[(.int .i64 0), (.bool false), (.int .u64 0), (.int .u64 0), (.int .i64 0), (.slice none 0 0), (.int .i64 0), (.int .i64 0), (.bool false)]) TyTC.z36 TyTC.pl36 rfl (by kernel_rfl)) ?_
    obtain ⟨y7, H⟩ := H
    refine lp rfl rfl (hn_stores (vs := [(.int .i64 0), (.bool false), (.int .u64 0), (.int .u64 0), (.int .i64 0), (.slice none 0 0), (.int .i64 0), (.int .i64 0), (.bool false)]) rfl rfl TyTC.sz36 rfl y7 ?_)
    intro h6 a12
    replace H := H h6 a12
    refine lv rfl rfl (va rfl) ?_
    refine ln (qn (xt (br (qr ?_))))
    obtain ⟨a9, b2, a2, a0, a1, a5, a4, a3, a8, a6, b0, a19, a35, a26, z5, z0, a37, y4, a44, a16, H⟩ := H
    exact endQM_ret _ (fun h' hs => ⟨res_two Tryd.results12 (rv_cell (vs := [(.int .i64 a9), (.bool b2), (.int .u64 a2), (.int .u64 a0), (.int .i64 a1), (.slice a5 a4 a3), (.int .i64 a8), (.int .i64 a6), (.bool b0)]) TyTC.agg36 TyTC.sz36 rfl (cc (shut_cell hs a19) (cc (shut_cell hs a35) (cc (shut_cell hs a26) (cc (shut_cell hs z5) (cc (shut_cell hs z0) (cc (shut_cell hs a37) (cc (shut_cell hs y4) (cc (shut_cell hs a44) (cc (shut_cell hs a16) cn)))))))))) (rv_tmp rfl), H h' hs⟩)
   ·replace H := H.2 n8
    refine xi (bn (qn (xs (xr ?_))))
    obtain ⟨g5, f0, d2, e9, x6, a11, z3, x7, H⟩ := H
    refine lv rfl rfl (vL (vs := [(.int .i64 g5), (.int .i64 f0), (.int .i64 d2), (.int .i64 e9)]) TyTC.agg24 TyTC.sz24 rfl (cc x6 (cc a11 (cc z3 (cc x7 cn))))) (lv rfl rfl (vm rfl) ?_)
    refine lp rfl rfl (sc TyTC.cb32 rfl (HC.mono H ?_))
    rintro _ h8 ⟨a68, d8, b9, c7, g6, rfl, H⟩
    refine lv rfl rfl (vm rfl) (lv rfl rfl (vx rfl rfl) (lv rfl rfl (vx rfl rfl) ?_))
    refine lp rfl rfl (hn_alloc TyTC.z31 ?_)
    intro hv h9 a27 p8
    replace H := H hv h9 a27 p8
    have a64 := ext_pushed_f64_sh p8
    obtain ⟨y9, H⟩ := H
    refine lp rfl rfl (hn_stores (vs := [(.int .u64 d8), (.int .u64 b9), (.int .i64 c7)]) rfl rfl TyTC.sz31 rfl y9 ?_)
    intro j3 a36
    replace H := H j3 a36
    refine lv rfl rfl (va rfl) ?_
    refine ln (qn (xs ?_))
    obtain ⟨l3, o0, o1⟩ := H
    refine xk (fun ρ h' => j3 = h' ∧ Has ρ [(1, (.int .i64 a7)), (2, (.slice d6 b1 b6)), (3, (ptr g 0)), (6, (ptr nb 0)), (7, (.int .i64 0)), (11, (ptr hv 0)), (57, (.bool l3))]) ?_ ?_
    ·have H := o0; clear o0 o1
     refine xr ?_
     refine lv rfl rfl (vm rfl) (lv rfl rfl (vr rfl rfl rfl) (lv rfl rfl (vm rfl) ?_))
     rcases bool_or (g6 != 0) with g2 | g2
     ·replace H := H.1 g2
      refine lo (wanted_n rfl rfl rfl g2) rfl ?_
      refine lo (wanted_n rfl rfl rfl g2) rfl ?_
      refine lo (wanted_n rfl rfl rfl g2) rfl ?_
      refine lo (wanted_n rfl rfl rfl g2) rfl ?_
      refine lv rfl rfl (v := (.bool true)) (hv_pick_t rfl g2 rfl) ?_
      refine ln (qn ?_)
      obtain rfl := H
      exact ⟨rfl, (hc rfl (hc rfl (hc rfl (hc rfl (hc rfl (hc rfl (hc rfl hn)))))))⟩
     ·replace H := H.2 g2
      refine ly (wanted_y rfl rfl rfl g2) rfl (HStep.of_val (v := (ptr hv 2)) (vf TyTC.fld31_2 (b := hv) (o := 0) rfl) ?_)
      obtain ⟨m4, a49, H⟩ := H
      refine ly (wanted_y rfl rfl rfl g2) rfl (HStep.of_val (v := (.int .i64 m4)) (vl TyTC.agg3 rfl a49) ?_)
      refine ly (wanted_y rfl rfl rfl g2) rfl (HStep.of_val (v := (.int .i64 a7)) (vm rfl) ?_)
      refine ly (wanted_y rfl rfl rfl g2) rfl (HStep.of_val (v := (.bool (m4 != a7))) (vr rfl rfl rfl) ?_)
      refine lv rfl rfl (v := (.bool (m4 != a7))) (hv_pick_f rfl g2 rfl) ?_
      refine ln (qn ?_)
      obtain rfl := H
      exact ⟨rfl, (hc rfl (hc rfl (hc rfl (hc rfl (hc rfl (hc rfl (hc rfl hn)))))))⟩
    ·have H := o1; clear o0 o1
     rintro ρ _ ⟨rfl, hH⟩
     refine xh _ hH ?_
     refine xc (b := l3) rfl (fun o2 => ?_) (fun o2 => ?_)
     ·replace H := H.1 o2
      refine xs (xr ?_)
      refine lv rfl rfl (vm rfl) (lv rfl rfl (v := (.agg #[(.int .i64 0), (.int .i64 1)])) (vb (vs := [(1, (.int .i64 1))]) (cs := #[(.int .i64 0), (.int .i64 1)]) TyTC.z34 TyTC.pl34 rfl (by kernel_rfl)) (lv rfl rfl (v := (.agg #[(.int .i64 a7), (.bool false), (.int .u64 0), (.int .u64 0), (.int .i64 0), (.slice none 0 0), (.int .i64 0), (.int .i64 1), (.bool false)])) (vb (vs := [(0, (.int .i64 a7)), (4, (.agg #[(.int .i64 0), (.int .i64 1)]))]) (cs := #[(.int .i64 a7), (.bool false), (.int .u64 0), (.int .u64 0), (.int .i64 0), (.slice none 0 0), (.int .i64 0), (.int .i64 1), (.bool false)]) TyTC.z36 TyTC.pl36 rfl (by kernel_rfl)) ?_))
      obtain ⟨a45, H⟩ := H
      refine lp rfl rfl (hn_stores (vs := [(.int .i64 a7), (.bool false), (.int .u64 0), (.int .u64 0), (.int .i64 0), (.slice none 0 0), (.int .i64 0), (.int .i64 1), (.bool false)]) rfl rfl TyTC.sz36 rfl a45 ?_)
      intro j2 a17
      replace H := H j2 a17
      refine lv rfl rfl (va rfl) ?_
      refine ln (qn (xt (qr ?_)))
      obtain ⟨a9, b2, a2, a0, a1, a5, a4, a3, a8, a6, b0, a50, a46, z6, a18, a25, a21, a20, a51, a40, H⟩ := H
      exact endQM_ret _ (fun h' hs => ⟨res_two Tryd.results12 (rv_cell (vs := [(.int .i64 a9), (.bool b2), (.int .u64 a2), (.int .u64 a0), (.int .i64 a1), (.slice a5 a4 a3), (.int .i64 a8), (.int .i64 a6), (.bool b0)]) TyTC.agg36 TyTC.sz36 rfl (cc (shut_cell hs a50) (cc (shut_cell hs a46) (cc (shut_cell hs z6) (cc (shut_cell hs a18) (cc (shut_cell hs a25) (cc (shut_cell hs a21) (cc (shut_cell hs a20) (cc (shut_cell hs a51) (cc (shut_cell hs a40) cn)))))))))) (rv_tmp rfl), H h' hs⟩)
     ·replace H := H.2 o2
      refine xi (qn (xs (xr ?_)))
      refine lv rfl rfl (vm rfl) ?_
      obtain ⟨d9, b8, c9, z4, a42, a47, H⟩ := H
      refine lv rfl rfl (vL (vs := [(.int .u64 d9), (.int .u64 b8), (.int .i64 c9)]) TyTC.agg31 TyTC.sz31 rfl (cc z4 (cc a42 (cc a47 cn)))) (lv rfl rfl (v := (.agg #[(.int .i64 a7), (.bool true), (.int .u64 d9), (.int .u64 b8), (.int .i64 c9), (.slice none 0 0), (.int .i64 0), (.int .i64 0), (.bool false)])) (vb (vs := [(0, (.int .i64 a7)), (1, (.bool true)), (2, (.agg #[(.int .u64 d9), (.int .u64 b8), (.int .i64 c9)]))]) (cs := #[(.int .i64 a7), (.bool true), (.int .u64 d9), (.int .u64 b8), (.int .i64 c9), (.slice none 0 0), (.int .i64 0), (.int .i64 0), (.bool false)]) TyTC.z36 TyTC.pl36 rfl (by kernel_rfl)) ?_)
      refine lp rfl rfl (hn_alloc TyTC.z36 ?_)
      intro sv l6 y8 q3
      replace H := H sv l6 y8 q3
      have a67 := ext_pushed_f64_sh q3
      obtain ⟨z1, H⟩ := H
      refine lp rfl rfl (hn_stores (vs := [(.int .i64 a7), (.bool true), (.int .u64 d9), (.int .u64 b8), (.int .i64 c9), (.slice none 0 0), (.int .i64 0), (.int .i64 0), (.bool false)]) rfl rfl TyTC.sz36 rfl z1 ?_)
      intro k9 a24
      replace H := H k9 a24
      refine ln (qn (xs (xr ?_)))
      obtain ⟨g8, f4, d4, f5, x8, a32, a10, y2, H⟩ := H
      refine lv rfl rfl (vL (vs := [(.int .i64 g8), (.int .i64 f4), (.int .i64 d4), (.int .i64 f5)]) TyTC.agg24 TyTC.sz24 rfl (cc x8 (cc a32 (cc a10 (cc y2 cn))))) ?_
      refine lp rfl rfl (sc TyTC.cb33 rfl (HC.mono H ?_))
      rintro _ n1 ⟨a66, j6, k3, rfl, H⟩
      refine lv rfl rfl (vm rfl) (lv rfl rfl (vx rfl rfl) (lv rfl rfl (vx rfl rfl) ?_))
      refine lp rfl rfl (hn_alloc TyTC.z3 ?_)
      intro j7 l8 a30 p9
      replace H := H j7 l8 a30 p9
      have a65 := ext_pushed_f64_sh p9
      obtain ⟨z2, H⟩ := H
      refine lp rfl rfl (hn_store (v := (.int .i64 j6)) rfl rfl TyTC.sz3 rfl z2 ?_)
      intro l1 a38
      replace H := H l1 a38
      refine lv rfl rfl (va rfl) ?_
      refine ln (qn (xs (xs (xr ?_))))
      obtain ⟨i0, f3, d5, f6, a22, a52, a28, y5, H⟩ := H
      refine lv rfl rfl (vL (vs := [(.int .i64 i0), (.int .i64 f3), (.int .i64 d5), (.int .i64 f6)]) TyTC.agg24 TyTC.sz24 rfl (cc a22 (cc a52 (cc a28 (cc y5 cn))))) (lv rfl rfl (vm rfl) (lv rfl rfl (v := (ptr sv 6)) (vf TyTC.fld36_4 (b := sv) (o := 0) rfl) ?_))
      refine lp rfl rfl (sc TyTC.cb34 rfl (HC.mono H ?_))
      rintro r p1 ⟨_, rfl, H⟩
      refine ln (qn (xb ?_))
      refine hx_range rfl rfl rfl (fun m3 l a34 y3 a14 z8 => ?_)
      refine HCF.mono (H (fun st p h => LoopAt h l _ _ _ _ _ st p) l m3 _ (fun s p h h' k e => k.same e) a34 y3 a14 z8 ?_) ?_
      ·intro i7 i6 j9 e2 c5 e3 d7 m1 p5 a48 H
       refine hcv_yield a48 rfl rfl ?_
       refine xr ?_
       refine lp rfl rfl (hn_alloc TyTC.z45 ?_)
       intro f l7 v3 o8
       replace H := H f l7 v3 o8
       have a61 := ext_pushed_f64_sh o8
       obtain ⟨s5, H⟩ := H
       refine lp rfl rfl (hn_stores (vs := [(.int .i64 i7), (.int .i64 i6), (.int .i64 j9), (.int .i64 e2), (.int .u64 c5), (.string e3), (.string d7)]) rfl rfl TyTC.sz45 rfl s5 ?_)
       intro n3 v5
       replace H := H n3 v5
       refine ln ?_
       obtain ⟨q5, H⟩ := H
       refine ⟨rfl, q5, ?_⟩
       intro i4 x0 t9
       replace H := H i4 x0 t9
       refine xb (xs (xr ?_))
       refine lv rfl rfl (v := (ptr sv 5)) (vf TyTC.fld36_3 (b := sv) (o := 0) rfl) ?_
       obtain ⟨p2, p4, p3, t1, H⟩ := H
       refine lv rfl rfl (vl TyTC.agg32 rfl t1) ?_
       obtain ⟨c8, e4, i5, b7, b3, c0, b4, v1, v9, w6, s6, w5, s1, s8, H⟩ := H
       refine lv rfl rfl (vL (vs := [(.int .i64 c8), (.int .i64 e4), (.int .i64 i5), (.int .i64 b7), (.int .u64 b3), (.string c0), (.string b4)]) TyTC.agg45 TyTC.sz45 rfl (cc v1 (cc v9 (cc w6 (cc s6 (cc w5 (cc s1 (cc s8 cn)))))))) ?_
       refine lp rfl rfl (hn_buildSlice (n := 1) (vs := [(0, (.agg #[(.int .i64 c8), (.int .i64 e4), (.int .i64 i5), (.int .i64 b7), (.int .u64 b3), (.string c0), (.string b4)]))]) (cs := #[(.int .i64 c8), (.int .i64 e4), (.int .i64 i5), (.int .i64 b7), (.int .u64 b3), (.string c0), (.string b4)]) TyTC.u32 TyTC.sz45 TyTC.z45 rfl rfl (by kernel_rfl) ?_)
       intro m7 n5 w8 o5
       replace H := H m7 n5 w8 o5
       have a62 := ext_pushed_f64_sh o5
       refine lp rfl rfl (hs_append rfl rfl (HAppend.mono H ?_))
       rintro _ q2 ⟨ap, m9, m8, rfl, H⟩
       refine lv rfl rfl (v := (ptr sv 5)) (vf TyTC.fld36_3 (b := sv) (o := 0) rfl) ?_
       obtain ⟨q9, H⟩ := H
       refine lp rfl rfl (hn_store (v := (.slice ap m9 m8)) rfl rfl TyTC.sz32 rfl q9 ?_)
       intro l5 q6
       replace H := H l5 q6
       refine ln (qn (xr ?_))
       refine lv rfl rfl (v := (ptr f 1)) (vf TyTC.fld45_1 (b := f) (o := 0) rfl) ?_
       obtain ⟨l9, r8, H⟩ := H
       refine lv rfl rfl (vl TyTC.agg3 rfl r8) (lv rfl rfl (v := (ptr f 2)) (vf TyTC.fld45_2 (b := f) (o := 0) rfl) ?_)
       obtain ⟨m2, s3, H⟩ := H
       refine lv rfl rfl (vl TyTC.agg3 rfl s3) (lv rfl rfl (vr rfl rfl rfl) ?_)
       obtain ⟨r7, H⟩ := H
       refine lp rfl rfl (hn_store (v := (.int .i64 (IntKind.i64.wrap (l9 + m2)))) rfl rfl TyTC.sz3 rfl r7 ?_)
       intro n4 s7
       replace H := H n4 s7
       refine ln (bn ?_)
       exact H
      ·rintro _ q1 ⟨st, l2, a53, t0, H⟩
       refine ⟨st, l2, a53, t0, ?_⟩
       intro k2 y1 y6
       replace H := H k2 y1 y6
       obtain ⟨rfl, H⟩ := H
       refine jumpQ_n ?_
       refine bn (qn (xs (xr ?_)))
       obtain ⟨g1, f7, d1, f1, t4, s4, v4, s0, H⟩ := H
       refine lv rfl rfl (vL (vs := [(.int .i64 g1), (.int .i64 f7), (.int .i64 d1), (.int .i64 f1)]) TyTC.agg24 TyTC.sz24 rfl (cc t4 (cc s4 (cc v4 (cc s0 cn))))) (lv rfl rfl (vm rfl) ?_)
       refine lp rfl rfl (sc TyTC.cb35 rfl (HC.mono H ?_))
       rintro _ n6 ⟨a59, c4, f2, e5, i1, g3, rfl, H⟩
       refine lv rfl rfl (vm rfl) (lv rfl rfl (vx rfl rfl) (lv rfl rfl (vx rfl rfl) ?_))
       refine lp rfl rfl (hn_alloc TyTC.z88 ?_)
       intro i9 m0 u7 o6
       replace H := H i9 m0 u7 o6
       have a60 := ext_pushed_f64_sh o6
       obtain ⟨u3, H⟩ := H
       refine lp rfl rfl (hn_stores (vs := [(.int .i64 c4), (.int .i64 f2), (.int .u32 e5), (.int .u32 i1)]) rfl rfl TyTC.sz88 rfl u3 ?_)
       intro f9 u8
       replace H := H f9 u8
       refine lv rfl rfl (va rfl) ?_
       refine ln (qn ?_)
       obtain ⟨k4, n0, m6⟩ := H
       refine xk (fun ρ h' => (k4 h' ∧ True) ∧ Has ρ [(6, (ptr nb 0)), (12, (ptr sv 0))]) ?_ ?_
       ·have H := n0; clear n0 m6
        refine hx_draw TyTC.mixed [.pure, .pure, .pure, .pure, .read, .pure, .read, .read, .pure, .pure, .pure, .pure, .read, .pure, .read, .pure, .pure, .pure, .pure, .pure, .read, .read, .pure, .pure, .pure, .wild] [0, 1, 2, 3, 4, 5, 6, 7, 8, 9, 10, 11, 12, 13, 14, 15, 16, 17, 18, 19, 20, 21, 22, 23, 24, 25] (by kernel_rfl) ?_
        refine pp (i := 0) rfl (wanted_0 rfl) rfl (.int .i64 g3) (fun _ => vm rfl) ?_
        refine pp (i := 1) rfl (wanted_0 rfl) rfl (.bool (g3 == 0)) (fun _ => vr rfl rfl rfl) ?_
        refine pp (i := 2) rfl (wanted_0 rfl) rfl (.bool (g3 == 0)) (fun _ => vm rfl) ?_
        rcases bool_or (g3 == 0) with c3 | c3
        ·replace H := H.1 c3
         refine pp (i := 3) rfl (wanted_y rfl rfl rfl c3) rfl (ptr i9 2) (fun _ => vf TyTC.fld88_2 (b := i9) (o := 0) rfl) ?_
         obtain ⟨l0, w2, H⟩ := H
         refine pr (i := 4) rfl (wanted_y rfl rfl rfl c3) rfl (.int .u32 l0) (fun _ he => vl TyTC.agg86 rfl (Ext.cell he w2)) ?_
         refine pp (i := 5) rfl (wanted_y rfl rfl rfl c3) rfl (ptr hv 1) (fun _ => vf TyTC.fld31_1 (b := hv) (o := 0) rfl) ?_
         obtain ⟨n2, r4, H⟩ := H
         refine pr (i := 6) rfl (wanted_y rfl rfl rfl c3) rfl (.int .u64 n2) (fun _ he => vl TyTC.agg29 rfl (Ext.cell he r4)) ?_
         obtain ⟨k6, v2, H⟩ := H
         refine pr (i := 7) rfl (wanted_y rfl rfl rfl c3) rfl (.int .u32 k6) (fun _ he => hv_call TyTC.cb36 (vs := [(.int .u64 n2)]) rfl (v2 _ he)) ?_
         refine pp (i := 8) rfl (wanted_y rfl rfl rfl c3) rfl (.bool (l0 == k6)) (fun _ => vr rfl rfl rfl) ?_
         refine pp (i := 9) rfl (wanted_0 rfl) rfl (.bool (l0 == k6)) (fun _ => hv_pick_t rfl c3 rfl) ?_
         refine pp (i := 10) rfl (wanted_0 rfl) rfl (.bool (l0 == k6)) (fun _ => vm rfl) ?_
         rcases bool_or (l0 == k6) with c2 | c2
         ·replace H := H.1 c2
          refine pp (i := 11) rfl (wanted_y rfl rfl rfl c2) rfl (ptr i9 0) (fun _ => vf TyTC.fld88_0 (b := i9) (o := 0) rfl) ?_
          obtain ⟨k7, w3, H⟩ := H
          refine pr (i := 12) rfl (wanted_y rfl rfl rfl c2) rfl (.int .i64 k7) (fun _ he => vl TyTC.agg3 rfl (Ext.cell he w3)) ?_
          refine pp (i := 13) rfl (wanted_y rfl rfl rfl c2) rfl (ptr sv 5) (fun _ => vf TyTC.fld36_3 (b := sv) (o := 0) rfl) ?_
          obtain ⟨q0, f8, m5, u5, H⟩ := H
          refine pr (i := 14) rfl (wanted_y rfl rfl rfl c2) rfl (.slice q0 f8 m5) (fun _ he => vl TyTC.agg32 rfl (Ext.cell he u5)) ?_
          refine pp (i := 15) rfl (wanted_y rfl rfl rfl c2) rfl (.int .i64 (f8 : Int)) (fun _ => hv_len (n := f8) TyTC.u32 rfl) ?_
          refine pp (i := 16) rfl (wanted_y rfl rfl rfl c2) rfl (.bool (k7 == (f8 : Int))) (fun _ => vr rfl rfl rfl) ?_
          refine pp (i := 17) rfl (wanted_0 rfl) rfl (.bool (k7 == (f8 : Int))) (fun _ => hv_pick_t rfl c2 rfl) ?_
          refine pp (i := 18) rfl (wanted_0 rfl) rfl (.bool (k7 == (f8 : Int))) (fun _ => vm rfl) ?_
          rcases bool_or (k7 == (f8 : Int)) with e1 | e1
          ·replace H := H.1 e1
           refine pp (i := 19) rfl (wanted_y rfl rfl rfl e1) rfl (ptr i9 1) (fun _ => vf TyTC.fld88_1 (b := i9) (o := 0) rfl) ?_
           obtain ⟨l4, s9, H⟩ := H
           refine pr (i := 20) rfl (wanted_y rfl rfl rfl e1) rfl (.int .i64 l4) (fun _ he => vl TyTC.agg3 rfl (Ext.cell he s9)) ?_
           obtain ⟨k5, r3, H⟩ := H
           refine pr (i := 21) rfl (wanted_y rfl rfl rfl e1) rfl (.int .i64 k5) (fun _ he => vl TyTC.agg3 rfl (Ext.cell he r3)) ?_
           refine pp (i := 22) rfl (wanted_y rfl rfl rfl e1) rfl (.bool (l4 == k5)) (fun _ => vr rfl rfl rfl) ?_
           refine pp (i := 23) rfl (wanted_0 rfl) rfl (.bool (l4 == k5)) (fun _ => hv_pick_t rfl e1 rfl) ?_
           refine pp (i := 24) rfl (wanted_0 rfl) rfl (ptr sv 8) (fun _ => vf TyTC.fld36_5 (b := sv) (o := 0) rfl) ?_
           obtain ⟨t7, H⟩ := H
           refine hp_wild (i := 25) rfl (wanted_0 rfl) rfl (hn_store (v := (.bool (l4 == k5))) rfl rfl TyTC.sz4 rfl t7 ?_)
           intro o4 s2
           replace H := H o4 s2
           refine hp_nil ?_
           refine qn ?_
           exact ⟨⟨H, trivial⟩, (hc rfl (hc rfl hn))⟩
          ·replace H := H.2 e1
           refine pn (i := 19) rfl (wanted_n rfl rfl rfl e1) ?_
           refine pn (i := 20) rfl (wanted_n rfl rfl rfl e1) ?_
           refine pn (i := 21) rfl (wanted_n rfl rfl rfl e1) ?_
           refine pn (i := 22) rfl (wanted_n rfl rfl rfl e1) ?_
           refine pp (i := 23) rfl (wanted_0 rfl) rfl (.bool false) (fun _ => hv_pick_f rfl e1 rfl) ?_
           refine pp (i := 24) rfl (wanted_0 rfl) rfl (ptr sv 8) (fun _ => vf TyTC.fld36_5 (b := sv) (o := 0) rfl) ?_
           obtain ⟨t2, H⟩ := H
           refine hp_wild (i := 25) rfl (wanted_0 rfl) rfl (hn_store (v := (.bool false)) rfl rfl TyTC.sz4 rfl t2 ?_)
           intro p0 w7
           replace H := H p0 w7
           refine hp_nil ?_
           refine qn ?_
           exact ⟨⟨H, trivial⟩, (hc rfl (hc rfl hn))⟩
         ·replace H := H.2 c2
          refine pn (i := 11) rfl (wanted_n rfl rfl rfl c2) ?_
          refine pn (i := 12) rfl (wanted_n rfl rfl rfl c2) ?_
          refine pn (i := 13) rfl (wanted_n rfl rfl rfl c2) ?_
          refine pn (i := 14) rfl (wanted_n rfl rfl rfl c2) ?_
          refine pn (i := 15) rfl (wanted_n rfl rfl rfl c2) ?_
          refine pn (i := 16) rfl (wanted_n rfl rfl rfl c2) ?_
          refine pp (i := 17) rfl (wanted_0 rfl) rfl (.bool false) (fun _ => hv_pick_f rfl c2 rfl) ?_
          refine pp (i := 18) rfl (wanted_0 rfl) rfl (.bool false) (fun _ => vm rfl) ?_
          refine pn (i := 19) rfl (wanted_n rfl rfl (c := false) rfl rfl) ?_
          refine pn (i := 20) rfl (wanted_n rfl rfl (c := false) rfl rfl) ?_
          refine pn (i := 21) rfl (wanted_n rfl rfl (c := false) rfl rfl) ?_
          refine pn (i := 22) rfl (wanted_n rfl rfl (c := false) rfl rfl) ?_
          refine pp (i := 23) rfl (wanted_0 rfl) rfl (.bool false) (fun _ => hv_pick (t := false) rfl rfl) ?_
          refine pp (i := 24) rfl (wanted_0 rfl) rfl (ptr sv 8) (fun _ => vf TyTC.fld36_5 (b := sv) (o := 0) rfl) ?_
          obtain ⟨w0, H⟩ := H
          refine hp_wild (i := 25) rfl (wanted_0 rfl) rfl (hn_store (v := (.bool false)) rfl rfl TyTC.sz4 rfl w0 ?_)
          intro o9 v7
          replace H := H o9 v7
          refine hp_nil ?_
          refine qn ?_
          exact ⟨⟨H, trivial⟩, (hc rfl (hc rfl hn))⟩
        ·replace H := H.2 c3
         refine pn (i := 3) rfl (wanted_n rfl rfl rfl c3) ?_
         refine pn (i := 4) rfl (wanted_n rfl rfl rfl c3) ?_
         refine pn (i := 5) rfl (wanted_n rfl rfl rfl c3) ?_
         refine pn (i := 6) rfl (wanted_n rfl rfl rfl c3) ?_
         refine pn (i := 7) rfl (wanted_n rfl rfl rfl c3) ?_
         refine pn (i := 8) rfl (wanted_n rfl rfl rfl c3) ?_
         refine pp (i := 9) rfl (wanted_0 rfl) rfl (.bool false) (fun _ => hv_pick_f rfl c3 rfl) ?_
         refine pp (i := 10) rfl (wanted_0 rfl) rfl (.bool false) (fun _ => vm rfl) ?_
         refine pn (i := 11) rfl (wanted_n rfl rfl (c := false) rfl rfl) ?_
         refine pn (i := 12) rfl (wanted_n rfl rfl (c := false) rfl rfl) ?_
         refine pn (i := 13) rfl (wanted_n rfl rfl (c := false) rfl rfl) ?_
         refine pn (i := 14) rfl (wanted_n rfl rfl (c := false) rfl rfl) ?_
         refine pn (i := 15) rfl (wanted_n rfl rfl (c := false) rfl rfl) ?_
         refine pn (i := 16) rfl (wanted_n rfl rfl (c := false) rfl rfl) ?_
         refine pp (i := 17) rfl (wanted_0 rfl) rfl (.bool false) (fun _ => hv_pick (t := false) rfl rfl) ?_
         refine pp (i := 18) rfl (wanted_0 rfl) rfl (.bool false) (fun _ => vm rfl) ?_
         refine pn (i := 19) rfl (wanted_n rfl rfl (c := false) rfl rfl) ?_
         refine pn (i := 20) rfl (wanted_n rfl rfl (c := false) rfl rfl) ?_
         refine pn (i := 21) rfl (wanted_n rfl rfl (c := false) rfl rfl) ?_
         refine pn (i := 22) rfl (wanted_n rfl rfl (c := false) rfl rfl) ?_
         refine pp (i := 23) rfl (wanted_0 rfl) rfl (.bool false) (fun _ => hv_pick (t := false) rfl rfl) ?_
         refine pp (i := 24) rfl (wanted_0 rfl) rfl (ptr sv 8) (fun _ => vf TyTC.fld36_5 (b := sv) (o := 0) rfl) ?_
         obtain ⟨u1, H⟩ := H
         refine hp_wild (i := 25) rfl (wanted_0 rfl) rfl (hn_store (v := (.bool false)) rfl rfl TyTC.sz4 rfl u1 ?_)
         intro o7 r5
         replace H := H o7 r5
         refine hp_nil ?_
         refine qn ?_
         exact ⟨⟨H, trivial⟩, (hc rfl (hc rfl hn))⟩
       ·rintro ρ i8 ⟨⟨u9, -⟩, hH⟩
        have H := m6 i8 u9; clear n0 m6
        refine xh _ hH ?_
        refine xs (xr ?_)
        obtain ⟨e0, j8, c6, b5, c1, e8, d3, d0, g7, e6, g0, w4, t8, w9, v8, r6, q4, u2, r9, t6, H⟩ := H
        refine lv rfl rfl (vL (vs := [(.int .i64 e0), (.bool j8), (.int .u64 c6), (.int .u64 b5), (.int .i64 c1), (.slice e8 d3 d0), (.int .i64 g7), (.int .i64 e6), (.bool g0)]) TyTC.agg36 TyTC.sz36 rfl (cc w4 (cc t8 (cc w9 (cc v8 (cc r6 (cc q4 (cc u2 (cc r9 (cc t6 cn)))))))))) ?_
        obtain ⟨q7, H⟩ := H
        refine lp rfl rfl (hn_stores (vs := [(.int .i64 e0), (.bool j8), (.int .u64 c6), (.int .u64 b5), (.int .i64 c1), (.slice e8 d3 d0), (.int .i64 g7), (.int .i64 e6), (.bool g0)]) rfl rfl TyTC.sz36 rfl q7 ?_)
        intro j4 u0
        replace H := H j4 u0
        refine lv rfl rfl (va rfl) ?_
        refine ln (qn (xt ?_))
        obtain ⟨a9, b2, a2, a0, a1, a5, a4, a3, a8, a6, b0, u6, w1, x1, t3, u4, t5, q8, v6, v0, H⟩ := H
        exact endQM_ret _ (fun h' hs => ⟨res_two Tryd.results12 (rv_cell (vs := [(.int .i64 a9), (.bool b2), (.int .u64 a2), (.int .u64 a0), (.int .i64 a1), (.slice a5 a4 a3), (.int .i64 a8), (.int .i64 a6), (.bool b0)]) TyTC.agg36 TyTC.sz36 rfl (cc (shut_cell hs u6) (cc (shut_cell hs w1) (cc (shut_cell hs x1) (cc (shut_cell hs t3) (cc (shut_cell hs u4) (cc (shut_cell hs t5) (cc (shut_cell hs q8) (cc (shut_cell hs v6) (cc (shut_cell hs v0) cn)))))))))) (rv_tmp rfl), H h' hs⟩)
theorem f10_sh  (h : Heap) (R : Value → Heap → Prop)
  (H : (∃ e7 : Option Addr → Nat → Nat → Heap → Prop, (((∀ (r : Nat) (h2 : Heap), Array.size h ≤ r → r < Array.size h2 → Ext h h2 → HC Tryd.prog 30 #[] h2 (fun vv h4 => Ext h2 h4 ∧ ∃ d1 c7 b6 c6 : Int, vv = (.agg #[(.int .i64 d1), (.int .i64 c7), (.int .i64 b6), (.int .i64 c6)]) ∧ (∀ nb h5, nb = Array.size h4 → h5 = Array.push h4 (.cells #[(.int .i64 1), (.int .u64 1), (.string (ByteArray.mk #[107])), (.string (ByteArray.mk #[118]))] 43) → HC Tryd.prog 18 #[(.agg #[(.int .i64 d1), (.int .i64 c7), (.int .i64 b6), (.int .i64 c6)]), (.agg #[(.int .u64 1), (.int .u64 5), (.int .i64 1)]), (.slice (some ⟨nb, 0, none⟩) 1 1), (.slice none 0 0)] h5 (fun vv h6 => Kp [r] h5 h6 ∧ ∃ r0 : Option Addr, ∃ c4 c3 : Nat, ∃ r1 : Option Addr, ∃ d0 c9 : Nat, vv = (.tuple #[(.slice r0 c4 c3), (.slice r1 d0 c9)]) ∧ (e7 r0 c4 c3 h6)))))) ∧ ((∀ (r : Nat) (h2 : Heap), Array.size h ≤ r → r < Array.size h2 → Ext h h2 → (∀ nb h7, nb = Array.size h2 → h7 = Array.push h2 (.cells #[(.int .i64 1), (.int .u64 1), (.string (ByteArray.mk #[107])), (.string (ByteArray.mk #[118]))] 43) → HC Tryd.prog 30 #[] h7 (fun vv h8 => Ext h7 h8 ∧ ∃ d1 c7 b6 c6 : Int, vv = (.agg #[(.int .i64 d1), (.int .i64 c7), (.int .i64 b6), (.int .i64 c6)]) ∧ HC Tryd.prog 18 #[(.agg #[(.int .i64 d1), (.int .i64 c7), (.int .i64 b6), (.int .i64 c6)]), (.agg #[(.int .u64 1), (.int .u64 5), (.int .i64 1)]), (.slice (some ⟨nb, 0, none⟩) 1 1), (.slice none 0 0)] h8 (fun vv h9 => Kp [r] h8 h9 ∧ ∃ r0 : Option Addr, ∃ c4 c3 : Nat, ∃ r1 : Option Addr, ∃ d0 c9 : Nat, vv = (.tuple #[(.slice r0 c4 c3), (.slice r1 d0 c9)]) ∧ (e7 r0 c4 c3 h9))))))) ∧ (∀ (d8 : Option Addr) (c8 : Nat) (c5 : Nat) (h3 : Heap), e7 d8 c8 c5 h3 → ∀ (r : Nat), Array.size h ≤ r → r < Array.size h3 → HC Tryd.prog 30 #[] h3 (fun vv f3 => Ext h3 f3 ∧ ∃ e1 d9 d7 e0 : Int, vv = (.agg #[(.int .i64 e1), (.int .i64 d9), (.int .i64 d7), (.int .i64 e0)]) ∧ HC Tryd.prog 12 #[(.agg #[(.int .i64 e1), (.int .i64 d9), (.int .i64 d7), (.int .i64 e0)]), (.int .i64 1), (.slice d8 c8 c5)] f3 (fun vv e3 => Ext f3 e3 ∧ ∃ c0 : Int, ∃ b7 : Bool, ∃ b3 a0 b1 : Int, ∃ b2 : Option Addr, ∃ a1 a8 : Nat, ∃ a7 a4 : Int, ∃ b9 : Bool, ∃ d6 : Int, vv = (.tuple #[(.agg #[(.int .i64 c0), (.bool b7), (.int .u64 b3), (.int .u64 a0), (.int .i64 b1), (.slice b2 a1 a8), (.int .i64 a7), (.int .i64 a4), (.bool b9)]), (.int .i64 d6)]) ∧ (∃ j : Bool, (((d6 == 0) = true → ((b7 = true → (((a0 == 5) = true → ((((a1 : Int) == 1) = true → (∃ b0 a9 : Nat, b2 = some ⟨b0, a9, none⟩ ∧ (0 : Int) ≤ 0 ∧ 0 < (a1 : Int) ∧ (∃ b5 b4 c2 a5 a2 : Int, ∃ a6 a3 : ByteArray, hcell e3 b0 (a9 + (Int.toNat 0) * 7) = some (.int .i64 b5) ∧ hcell e3 b0 ((a9 + (Int.toNat 0) * 7) + 1) = some (.int .i64 b4) ∧ hcell e3 b0 ((a9 + (Int.toNat 0) * 7) + 2) = some (.int .i64 c2) ∧ hcell e3 b0 ((a9 + (Int.toNat 0) * 7) + 3) = some (.int .i64 a5) ∧ hcell e3 b0 ((a9 + (Int.toNat 0) * 7) + 4) = some (.int .u64 a2) ∧ hcell e3 b0 ((a9 + (Int.toNat 0) * 7) + 5) = some (.string a6) ∧ hcell e3 b0 ((a9 + (Int.toNat 0) * 7) + 6) = some (.string a3) ∧ ((((b5 == 1 && (b4 == 32 && (c2 == 26 && ((a5 == 1 && (a2 == 1 && (a6 == (ByteArray.mk #[107]) && (a3 == (ByteArray.mk #[118]) && true)))) && true))))) = true → (j = ((a7 == 64 && (a4 == 2 && true))))) ∧ (((b5 == 1 && (b4 == 32 && (c2 == 26 && ((a5 == 1 && (a2 == 1 && (a6 == (ByteArray.mk #[107]) && (a3 == (ByteArray.mk #[118]) && true)))) && true))))) = false → (j = false)))))) ∧ (((a1 : Int) == 1) = false → (j = false)))) ∧ ((a0 == 5) = false → (j = false)))) ∧ (b7 = false → (j = false)))) ∧ ((d6 == 0) = false → (j = false))) ∧ (∀ (e6 : Heap), Ext e3 e6 → R (.bool j) e6))))))) :
  HC Tryd.prog 10 #[] h R := by
 refine hc_of (args := []) Tryd.func10 rfl Tryd.ntmps10 (Nat.le_of_ble_eq_true rfl) ?_
 refine xs (xr ?_)
 refine lv rfl rfl (va rfl) ?_
 refine ln (qn (xs (xr ?_)))
 refine lv rfl rfl (v := (.agg #[(.int .i64 1), (.int .u64 1), (.string (ByteArray.mk #[107])), (.string (ByteArray.mk #[118]))])) (vb (vs := [(0, (.int .i64 1)), (1, (.int .u64 1)), (2, (.string (ByteArray.mk #[107]))), (3, (.string (ByteArray.mk #[118])))]) (cs := #[(.int .i64 1), (.int .u64 1), (.string (ByteArray.mk #[107])), (.string (ByteArray.mk #[118]))]) TyTC.z43 TyTC.pl43 rfl (by kernel_rfl)) ?_
 refine lp rfl rfl (hn_alloc TyTC.z43 ?_)
 intro r h1 g8 g6
 have j9 := ext_pushed_f64_sh g6
 have f2 : Array.size h ≤ r := Nat.le_of_eq (Eq.symm g8)
 have g5 : h1[r]? = some (.cells #[(.int .i64 0), (.int .u64 0), (.string ByteArray.empty), (.string ByteArray.empty)] 43 (0, 0)) := by rw [g6]; exact push_new g8
 refine lp rfl rfl (hn_stores (vs := [(.int .i64 1), (.int .u64 1), (.string (ByteArray.mk #[107])), (.string (ByteArray.mk #[118]))]) rfl rfl TyTC.sz43 rfl (HWs_row g5 (by simp)) ?_)
 intro h2 i0
 have b8 : h2[r]? = some (.cells #[(.int .i64 1), (.int .u64 1), (.string (ByteArray.mk #[107])), (.string (ByteArray.mk #[118]))] 43 (0, 0)) := row_hsets_eq i0 g5 rfl
 have g9 := ext_hsets i0 j9 f2
 refine ln (qn ?_)
 obtain ⟨e7, f5, g2⟩ := H
 refine xk (fun ρ h' => ∃ d8 : Option Addr, ∃ c8 c5 : Nat, (e7 d8 c8 c5 h' ∧ h'[r]? = some (.cells #[(.int .i64 1), (.int .u64 1), (.string (ByteArray.mk #[107])), (.string (ByteArray.mk #[118]))] 43 (0, 0)) ∧ True) ∧ Has ρ [(1, (ptr r 0)), (2, (.slice d8 c8 c5))]) ?_ ?_
 ·have H := f5; clear f5 g2
  refine hx_tree TyTC.mixed (fun _ _ => True) fit_true [.ext, .pure, .read, .ext, .wild, .pure, .pure, .pure, .pure, .pure] (.one 1 (.one 2 (.fork [0, 3] fun k => bif k == 0 then (.one 3 (.one 4 (.one 5 (.one 6 (.one 7 (.one 8 (.one 9 .done))))))) else (.one 0 (.one 4 (.one 5 (.one 6 (.one 7 (.one 8 (.one 9 .done)))))))))) (by kernel_rfl) ?_
  refine to (ho_pure (i := 1) rfl (wanted_0 rfl) rfl (.agg #[(.int .u64 1), (.int .u64 5), (.int .i64 1)]) (fun _ => vb (vs := [(0, (.int .u64 1)), (1, (.int .u64 5)), (2, (.int .i64 1))]) (cs := #[(.int .u64 1), (.int .u64 5), (.int .i64 1)]) TyTC.z31 TyTC.pl31 rfl (by kernel_rfl)) ?_)
  refine to (ho_read (i := 2) rfl (wanted_0 rfl) rfl (.agg #[(.int .i64 1), (.int .u64 1), (.string (ByteArray.mk #[107])), (.string (ByteArray.mk #[118]))]) (fun _ he => vL (vs := [(.int .i64 1), (.int .u64 1), (.string (ByteArray.mk #[107])), (.string (ByteArray.mk #[118]))]) TyTC.agg43 TyTC.sz43 rfl (cc (Ext.cell he (rc b8 rfl)) (cc (Ext.cell he (rc b8 rfl)) (cc (Ext.cell he (rc b8 rfl)) (cc (Ext.cell he (rc b8 rfl)) cn))))) ?_)
  refine ht_fork2 rfl rfl ?_ ?_
  ·replace H := H.1
   replace H := H r h2 f2 (row_lt b8) g9
   refine ho_ext (i := 0) rfl (wanted_0 rfl) rfl (sc TyTC.cb30 rfl (HC.mono H ?_))
   rintro _ h4 ⟨f7, d1, c7, b6, c6, rfl, H⟩
   refine ⟨f7, ?_⟩
   replace b8 := Ext.row f7 b8
   refine to (ho_ext (i := 3) rfl (wanted_0 rfl) rfl (hn_buildSlice (n := 1) (vs := [(0, (.agg #[(.int .i64 1), (.int .u64 1), (.string (ByteArray.mk #[107])), (.string (ByteArray.mk #[118]))]))]) (cs := #[(.int .i64 1), (.int .u64 1), (.string (ByteArray.mk #[107])), (.string (ByteArray.mk #[118]))]) TyTC.u47 TyTC.sz43 TyTC.z43 rfl rfl (by kernel_rfl) ?_))
   intro nb h5 j8 g1
   replace H := H nb h5 j8 g1
   have f4 := ext_pushed_f64_sh g1
   replace b8 := Ext.row f4 b8
   refine ⟨f4, ?_⟩
   refine to (ho_wild (i := 4) rfl (wanted_0 rfl) rfl (sc TyTC.cb18 rfl (HC.mono H ?_)))
   rintro _ h6 ⟨i9, r0, c4, c3, r1, d0, c9, rfl, H⟩
   replace b8 := Kp.row i9 (by simp) b8
   refine to (ho_pure (i := 5) rfl (wanted_0 rfl) rfl (.tuple #[(.slice r0 c4 c3), (.slice r1 d0 c9)]) (fun _ => vm rfl) ?_)
   refine to (ho_pure (i := 6) rfl (wanted_0 rfl) rfl (.slice r0 c4 c3) (fun _ => vx (vs := #[(.slice r0 c4 c3), (.slice r1 d0 c9)]) rfl rfl) ?_)
   refine to (ho_pure (i := 7) rfl (wanted_0 rfl) rfl (.slice r1 d0 c9) (fun _ => vx (vs := #[(.slice r0 c4 c3), (.slice r1 d0 c9)]) rfl rfl) ?_)
   refine to (ho_pure (i := 8) rfl (wanted_0 rfl) rfl (.slice r0 c4 c3) (fun _ => va rfl) ?_)
   refine to (ho_pure (i := 9) rfl (wanted_0 rfl) rfl (.slice r1 d0 c9) (fun _ => va rfl) ?_)
   refine ht_done ?_
   refine qn ?_
   exact ⟨_, _, _, ⟨H, b8, trivial⟩, (hc rfl (hc rfl hn))⟩
  ·replace H := H.2
   replace H := H r h2 f2 (row_lt b8) g9
   refine ho_ext (i := 3) rfl (wanted_0 rfl) rfl (hn_buildSlice (n := 1) (vs := [(0, (.agg #[(.int .i64 1), (.int .u64 1), (.string (ByteArray.mk #[107])), (.string (ByteArray.mk #[118]))]))]) (cs := #[(.int .i64 1), (.int .u64 1), (.string (ByteArray.mk #[107])), (.string (ByteArray.mk #[118]))]) TyTC.u47 TyTC.sz43 TyTC.z43 rfl rfl (by kernel_rfl) ?_)
   intro nb h7 i7 g3
   replace H := H nb h7 i7 g3
   have f9 := ext_pushed_f64_sh g3
   replace b8 := Ext.row f9 b8
   refine ⟨f9, ?_⟩
   refine to (ho_ext (i := 0) rfl (wanted_0 rfl) rfl (sc TyTC.cb30 rfl (HC.mono H ?_)))
   rintro _ h8 ⟨g0, d1, c7, b6, c6, rfl, H⟩
   refine ⟨g0, ?_⟩
   replace b8 := Ext.row g0 b8
   refine to (ho_wild (i := 4) rfl (wanted_0 rfl) rfl (sc TyTC.cb18 rfl (HC.mono H ?_)))
   rintro _ h9 ⟨j5, r0, c4, c3, r1, d0, c9, rfl, H⟩
   replace b8 := Kp.row j5 (by simp) b8
   refine to (ho_pure (i := 5) rfl (wanted_0 rfl) rfl (.tuple #[(.slice r0 c4 c3), (.slice r1 d0 c9)]) (fun _ => vm rfl) ?_)
   refine to (ho_pure (i := 6) rfl (wanted_0 rfl) rfl (.slice r0 c4 c3) (fun _ => vx (vs := #[(.slice r0 c4 c3), (.slice r1 d0 c9)]) rfl rfl) ?_)
   refine to (ho_pure (i := 7) rfl (wanted_0 rfl) rfl (.slice r1 d0 c9) (fun _ => vx (vs := #[(.slice r0 c4 c3), (.slice r1 d0 c9)]) rfl rfl) ?_)
   refine to (ho_pure (i := 8) rfl (wanted_0 rfl) rfl (.slice r0 c4 c3) (fun _ => va rfl) ?_)
   refine to (ho_pure (i := 9) rfl (wanted_0 rfl) rfl (.slice r1 d0 c9) (fun _ => va rfl) ?_)
   refine ht_done ?_
   refine qn ?_
   exact ⟨_, _, _, ⟨H, b8, trivial⟩, (hc rfl (hc rfl hn))⟩
 ·rintro ρ h3 ⟨d8, c8, c5, ⟨i6, d2, -⟩, hH⟩
  have H := g2 d8 c8 c5 h3 i6; clear f5 g2
  refine xh _ hH ?_
  replace H := H r f2 (row_lt d2)
  refine xs (xr ?_)
  refine lp rfl rfl (sc TyTC.cb30 rfl (HC.mono H ?_))
  rintro _ f3 ⟨j3, e1, d9, d7, e0, rfl, H⟩
  replace d2 := Ext.row j3 d2
  refine lv rfl rfl (vm rfl) ?_
  refine lp rfl rfl (sc TyTC.cb12 rfl (HC.mono H ?_))
  rintro _ e3 ⟨j4, c0, b7, b3, a0, b1, b2, a1, a8, a7, a4, b9, d6, rfl, H⟩
  replace d2 := Ext.row j4 d2
  refine lv rfl rfl (vm rfl) (lv rfl rfl (vx rfl rfl) (lv rfl rfl (vx rfl rfl) ?_))
  refine lp rfl rfl (hn_alloc TyTC.z36 ?_)
  intro sv g7 e9 f8
  have f6 := ext_pushed_f64_sh f8
  have j0 := Nat.ne_of_lt (Nat.lt_of_lt_of_eq (row_lt d2) (Eq.symm e9))
  have j6 : Array.size e3 ≤ sv := Nat.le_of_eq (Eq.symm e9)
  have g4 : g7[sv]? = some (.cells #[(.int .i64 0), (.bool false), (.int .u64 0), (.int .u64 0), (.int .i64 0), (.slice none 0 0), (.int .i64 0), (.int .i64 0), (.bool false)] 36 (0, 0)) := by rw [f8]; exact push_new e9
  replace d2 := Ext.row f6 d2
  refine lp rfl rfl (hn_stores (vs := [(.int .i64 c0), (.bool b7), (.int .u64 b3), (.int .u64 a0), (.int .i64 b1), (.slice b2 a1 a8), (.int .i64 a7), (.int .i64 a4), (.bool b9)]) rfl rfl TyTC.sz36 rfl (HWs_row g4 (by simp)) ?_)
  intro e6 f0
  replace d2 := row_hsets_ne f0 j0 d2
  have e5 : e6[sv]? = some (.cells #[(.int .i64 c0), (.bool b7), (.int .u64 b3), (.int .u64 a0), (.int .i64 b1), (.slice b2 a1 a8), (.int .i64 a7), (.int .i64 a4), (.bool b9)] 36 (0, 0)) := row_hsets_eq f0 g4 (by simp [sets])
  have e4 := ext_hsets f0 f6 j6
  refine lv rfl rfl (va rfl) ?_
  refine ln (qn ?_)
  obtain ⟨j, e8, f1⟩ := H
  refine xk (fun ρ h' => e6 = h' ∧ Has ρ [(0, (.bool j))]) ?_ ?_
  ·have H := e8; clear e8 f1
   refine hx_draw TyTC.mixed [.pure, .pure, .pure, .pure, .read, .pure, .pure, .pure, .pure, .read, .pure, .pure, .pure, .pure, .read, .pure, .pure, .pure, .pure, .pure, .read, .pure, .read, .read, .pure, .pure, .pure, .pure, .pure, .read, .pure, .pure, .pure, .pure] [0, 1, 2, 3, 4, 5, 6, 7, 8, 9, 10, 11, 12, 13, 14, 15, 16, 17, 18, 19, 20, 21, 22, 23, 24, 25, 26, 27, 28, 29, 30, 31, 32, 33] (by kernel_rfl) ?_
   refine pp (i := 0) rfl (wanted_0 rfl) rfl (.int .i64 d6) (fun _ => vm rfl) ?_
   refine pp (i := 1) rfl (wanted_0 rfl) rfl (.bool (d6 == 0)) (fun _ => vr rfl rfl rfl) ?_
   refine pp (i := 2) rfl (wanted_0 rfl) rfl (.bool (d6 == 0)) (fun _ => vm rfl) ?_
   rcases bool_or (d6 == 0) with e2 | e2
   ·replace H := H.1 e2
    refine pp (i := 3) rfl (wanted_y rfl rfl rfl e2) rfl (ptr sv 1) (fun _ => vf TyTC.fld36_1 (b := sv) (o := 0) rfl) ?_
    refine pr (i := 4) rfl (wanted_y rfl rfl rfl e2) rfl (.bool b7) (fun _ he => vl TyTC.agg4 rfl (Ext.cell he (rc e5 rfl))) ?_
    refine pp (i := 5) rfl (wanted_0 rfl) rfl (.bool b7) (fun _ => hv_pick_t rfl e2 rfl) ?_
    refine pp (i := 6) rfl (wanted_0 rfl) rfl (.bool b7) (fun _ => vm rfl) ?_
    rcases bool_or (b7) with d3 | d3
    ·replace H := H.1 d3
     refine pp (i := 7) rfl (wanted_y rfl rfl rfl d3) rfl (ptr sv 2) (fun _ => vf TyTC.fld36_2 (b := sv) (o := 0) rfl) ?_
     refine pp (i := 8) rfl (wanted_y rfl rfl rfl d3) rfl (ptr sv 3) (fun _ => vf TyTC.fld31_1 (b := sv) (o := 2) rfl) ?_
     refine pr (i := 9) rfl (wanted_y rfl rfl rfl d3) rfl (.int .u64 a0) (fun _ he => vl TyTC.agg29 rfl (Ext.cell he (rc e5 rfl))) ?_
     refine pp (i := 10) rfl (wanted_y rfl rfl rfl d3) rfl (.bool (a0 == 5)) (fun _ => vr rfl rfl rfl) ?_
     refine pp (i := 11) rfl (wanted_0 rfl) rfl (.bool (a0 == 5)) (fun _ => hv_pick_t rfl d3 rfl) ?_
     refine pp (i := 12) rfl (wanted_0 rfl) rfl (.bool (a0 == 5)) (fun _ => vm rfl) ?_
     rcases bool_or (a0 == 5) with d5 | d5
     ·replace H := H.1 d5
      refine pp (i := 13) rfl (wanted_y rfl rfl rfl d5) rfl (ptr sv 5) (fun _ => vf TyTC.fld36_3 (b := sv) (o := 0) rfl) ?_
      refine pr (i := 14) rfl (wanted_y rfl rfl rfl d5) rfl (.slice b2 a1 a8) (fun _ he => vl TyTC.agg32 rfl (Ext.cell he (rc e5 rfl))) ?_
      refine pp (i := 15) rfl (wanted_y rfl rfl rfl d5) rfl (.int .i64 (a1 : Int)) (fun _ => hv_len (n := a1) TyTC.u32 rfl) ?_
      refine pp (i := 16) rfl (wanted_y rfl rfl rfl d5) rfl (.bool ((a1 : Int) == 1)) (fun _ => vr rfl rfl rfl) ?_
      refine pp (i := 17) rfl (wanted_0 rfl) rfl (.bool ((a1 : Int) == 1)) (fun _ => hv_pick_t rfl d5 rfl) ?_
      refine pp (i := 18) rfl (wanted_0 rfl) rfl (.bool ((a1 : Int) == 1)) (fun _ => vm rfl) ?_
      rcases bool_or ((a1 : Int) == 1) with c1 | c1
      ·replace H := H.1 c1
       refine pp (i := 19) rfl (wanted_y rfl rfl rfl c1) rfl (ptr sv 5) (fun _ => vf TyTC.fld36_3 (b := sv) (o := 0) rfl) ?_
       refine pr (i := 20) rfl (wanted_y rfl rfl rfl c1) rfl (.slice b2 a1 a8) (fun _ he => vl TyTC.agg32 rfl (Ext.cell he (rc e5 rfl))) ?_
       obtain ⟨b0, a9, k0, i5, i4, Hq⟩ := H
       subst k0
       have H := Hq; clear Hq
       refine pp (i := 21) rfl (wanted_y rfl rfl rfl c1) rfl (ptr b0 (a9 + (Int.toNat 0) * 7)) (fun _ => vi TyTC.el32 rfl rfl i5 i4) ?_
       obtain ⟨b5, b4, c2, a5, a2, a6, a3, i1, j1, j7, i2, i8, i3, j2, H⟩ := H
       refine pr (i := 22) rfl (wanted_y rfl rfl rfl c1) rfl (.agg #[(.int .i64 b5), (.int .i64 b4), (.int .i64 c2), (.int .i64 a5), (.int .u64 a2), (.string a6), (.string a3)]) (fun _ he => vL (vs := [(.int .i64 b5), (.int .i64 b4), (.int .i64 c2), (.int .i64 a5), (.int .u64 a2), (.string a6), (.string a3)]) TyTC.agg45 TyTC.sz45 rfl (cc (Ext.cell he (Ext.cell e4 i1)) (cc (Ext.cell he (Ext.cell e4 j1)) (cc (Ext.cell he (Ext.cell e4 j7)) (cc (Ext.cell he (Ext.cell e4 i2)) (cc (Ext.cell he (Ext.cell e4 i8)) (cc (Ext.cell he (Ext.cell e4 i3)) (cc (Ext.cell he (Ext.cell e4 j2)) cn)))))))) ?_
       refine pr (i := 23) rfl (wanted_y rfl rfl rfl c1) rfl (.agg #[(.int .i64 1), (.int .u64 1), (.string (ByteArray.mk #[107])), (.string (ByteArray.mk #[118]))]) (fun _ he => vL (vs := [(.int .i64 1), (.int .u64 1), (.string (ByteArray.mk #[107])), (.string (ByteArray.mk #[118]))]) TyTC.agg43 TyTC.sz43 rfl (cc (Ext.cell he (rc d2 rfl)) (cc (Ext.cell he (rc d2 rfl)) (cc (Ext.cell he (rc d2 rfl)) (cc (Ext.cell he (rc d2 rfl)) cn))))) ?_
       refine pp (i := 24) rfl (wanted_y rfl rfl rfl c1) rfl (.agg #[(.int .i64 1), (.int .i64 32), (.int .i64 26), (.int .i64 1), (.int .u64 1), (.string (ByteArray.mk #[107])), (.string (ByteArray.mk #[118]))]) (fun _ => vb (vs := [(0, (.int .i64 1)), (1, (.int .i64 32)), (2, (.int .i64 26)), (3, (.agg #[(.int .i64 1), (.int .u64 1), (.string (ByteArray.mk #[107])), (.string (ByteArray.mk #[118]))]))]) (cs := #[(.int .i64 1), (.int .i64 32), (.int .i64 26), (.int .i64 1), (.int .u64 1), (.string (ByteArray.mk #[107])), (.string (ByteArray.mk #[118]))]) TyTC.z45 TyTC.pl45 rfl (by kernel_rfl)) ?_
       refine pp (i := 25) rfl (wanted_y rfl rfl rfl c1) rfl (.bool ((b5 == 1 && (b4 == 32 && (c2 == 26 && ((a5 == 1 && (a2 == 1 && (a6 == (ByteArray.mk #[107]) && (a3 == (ByteArray.mk #[118]) && true)))) && true)))))) (fun _ => hv_structEqD (xs := [(.int .i64 b5), (.int .i64 b4), (.int .i64 c2), (.int .i64 a5), (.int .u64 a2), (.string a6), (.string a3)]) (ys := [(.int .i64 1), (.int .i64 32), (.int .i64 26), (.int .i64 1), (.int .u64 1), (.string (ByteArray.mk #[107])), (.string (ByteArray.mk #[118]))]) (b := (b5 == 1 && (b4 == 32 && (c2 == 26 && ((a5 == 1 && (a2 == 1 && (a6 == (ByteArray.mk #[107]) && (a3 == (ByteArray.mk #[118]) && true)))) && true))))) TyTC.gd45 rfl rfl (by kernel_rfl) rfl) ?_
       refine pp (i := 26) rfl (wanted_0 rfl) rfl (.bool ((b5 == 1 && (b4 == 32 && (c2 == 26 && ((a5 == 1 && (a2 == 1 && (a6 == (ByteArray.mk #[107]) && (a3 == (ByteArray.mk #[118]) && true)))) && true)))))) (fun _ => hv_pick_t rfl c1 rfl) ?_
       refine pp (i := 27) rfl (wanted_0 rfl) rfl (.bool ((b5 == 1 && (b4 == 32 && (c2 == 26 && ((a5 == 1 && (a2 == 1 && (a6 == (ByteArray.mk #[107]) && (a3 == (ByteArray.mk #[118]) && true)))) && true)))))) (fun _ => vm rfl) ?_
       rcases bool_or (((b5 == 1 && (b4 == 32 && (c2 == 26 && ((a5 == 1 && (a2 == 1 && (a6 == (ByteArray.mk #[107]) && (a3 == (ByteArray.mk #[118]) && true)))) && true)))))) with d4 | d4
       ·replace H := H.1 d4
        refine pp (i := 28) rfl (wanted_y rfl rfl rfl d4) rfl (ptr sv 6) (fun _ => vf TyTC.fld36_4 (b := sv) (o := 0) rfl) ?_
        refine pr (i := 29) rfl (wanted_y rfl rfl rfl d4) rfl (.agg #[(.int .i64 a7), (.int .i64 a4)]) (fun _ he => vL (vs := [(.int .i64 a7), (.int .i64 a4)]) TyTC.agg34 TyTC.sz34 rfl (cc (Ext.cell he (rc e5 rfl)) (cc (Ext.cell he (rc e5 rfl)) cn))) ?_
        refine pp (i := 30) rfl (wanted_y rfl rfl rfl d4) rfl (.agg #[(.int .i64 64), (.int .i64 2)]) (fun _ => vb (vs := [(0, (.int .i64 64)), (1, (.int .i64 2))]) (cs := #[(.int .i64 64), (.int .i64 2)]) TyTC.z34 TyTC.pl34 rfl (by kernel_rfl)) ?_
        refine pp (i := 31) rfl (wanted_y rfl rfl rfl d4) rfl (.bool ((a7 == 64 && (a4 == 2 && true)))) (fun _ => hv_structEq (xs := [(.int .i64 a7), (.int .i64 a4)]) (ys := [(.int .i64 64), (.int .i64 2)]) (b := (a7 == 64 && (a4 == 2 && true))) TyTC.se34 rfl rfl (by kernel_rfl) rfl) ?_
        refine pp (i := 32) rfl (wanted_0 rfl) rfl (.bool ((a7 == 64 && (a4 == 2 && true)))) (fun _ => hv_pick_t rfl d4 rfl) ?_
        refine pp (i := 33) rfl (wanted_0 rfl) rfl (.bool ((a7 == 64 && (a4 == 2 && true)))) (fun _ => va rfl) ?_
        refine hp_nil ?_
        refine qn ?_
        obtain rfl := H
        exact ⟨rfl, (hc rfl hn)⟩
       ·replace H := H.2 d4
        refine pn (i := 28) rfl (wanted_n rfl rfl rfl d4) ?_
        refine pn (i := 29) rfl (wanted_n rfl rfl rfl d4) ?_
        refine pn (i := 30) rfl (wanted_n rfl rfl rfl d4) ?_
        refine pn (i := 31) rfl (wanted_n rfl rfl rfl d4) ?_
        refine pp (i := 32) rfl (wanted_0 rfl) rfl (.bool false) (fun _ => hv_pick_f rfl d4 rfl) ?_
        refine pp (i := 33) rfl (wanted_0 rfl) rfl (.bool false) (fun _ => va rfl) ?_
        refine hp_nil ?_
        refine qn ?_
        obtain rfl := H
        exact ⟨rfl, (hc rfl hn)⟩
      ·replace H := H.2 c1
       refine pn (i := 19) rfl (wanted_n rfl rfl rfl c1) ?_
       refine pn (i := 20) rfl (wanted_n rfl rfl rfl c1) ?_
       refine pn (i := 21) rfl (wanted_n rfl rfl rfl c1) ?_
       refine pn (i := 22) rfl (wanted_n rfl rfl rfl c1) ?_
       refine pn (i := 23) rfl (wanted_n rfl rfl rfl c1) ?_
       refine pn (i := 24) rfl (wanted_n rfl rfl rfl c1) ?_
       refine pn (i := 25) rfl (wanted_n rfl rfl rfl c1) ?_
       refine pp (i := 26) rfl (wanted_0 rfl) rfl (.bool false) (fun _ => hv_pick_f rfl c1 rfl) ?_
       refine pp (i := 27) rfl (wanted_0 rfl) rfl (.bool false) (fun _ => vm rfl) ?_
       refine pn (i := 28) rfl (wanted_n rfl rfl (c := false) rfl rfl) ?_
       refine pn (i := 29) rfl (wanted_n rfl rfl (c := false) rfl rfl) ?_
       refine pn (i := 30) rfl (wanted_n rfl rfl (c := false) rfl rfl) ?_
       refine pn (i := 31) rfl (wanted_n rfl rfl (c := false) rfl rfl) ?_
       refine pp (i := 32) rfl (wanted_0 rfl) rfl (.bool false) (fun _ => hv_pick (t := false) rfl rfl) ?_
       refine pp (i := 33) rfl (wanted_0 rfl) rfl (.bool false) (fun _ => va rfl) ?_
       refine hp_nil ?_
       refine qn ?_
       obtain rfl := H
       exact ⟨rfl, (hc rfl hn)⟩
     ·replace H := H.2 d5
      refine pn (i := 13) rfl (wanted_n rfl rfl rfl d5) ?_
      refine pn (i := 14) rfl (wanted_n rfl rfl rfl d5) ?_
      refine pn (i := 15) rfl (wanted_n rfl rfl rfl d5) ?_
      refine pn (i := 16) rfl (wanted_n rfl rfl rfl d5) ?_
      refine pp (i := 17) rfl (wanted_0 rfl) rfl (.bool false) (fun _ => hv_pick_f rfl d5 rfl) ?_
      refine pp (i := 18) rfl (wanted_0 rfl) rfl (.bool false) (fun _ => vm rfl) ?_
      refine pn (i := 19) rfl (wanted_n rfl rfl (c := false) rfl rfl) ?_
      refine pn (i := 20) rfl (wanted_n rfl rfl (c := false) rfl rfl) ?_
      refine pn (i := 21) rfl (wanted_n rfl rfl (c := false) rfl rfl) ?_
      refine pn (i := 22) rfl (wanted_n rfl rfl (c := false) rfl rfl) ?_
      refine pn (i := 23) rfl (wanted_n rfl rfl (c := false) rfl rfl) ?_
      refine pn (i := 24) rfl (wanted_n rfl rfl (c := false) rfl rfl) ?_
      refine pn (i := 25) rfl (wanted_n rfl rfl (c := false) rfl rfl) ?_
      refine pp (i := 26) rfl (wanted_0 rfl) rfl (.bool false) (fun _ => hv_pick (t := false) rfl rfl) ?_
      refine pp (i := 27) rfl (wanted_0 rfl) rfl (.bool false) (fun _ => vm rfl) ?_
      refine pn (i := 28) rfl (wanted_n rfl rfl (c := false) rfl rfl) ?_
      refine pn (i := 29) rfl (wanted_n rfl rfl (c := false) rfl rfl) ?_
      refine pn (i := 30) rfl (wanted_n rfl rfl (c := false) rfl rfl) ?_
      refine pn (i := 31) rfl (wanted_n rfl rfl (c := false) rfl rfl) ?_
      refine pp (i := 32) rfl (wanted_0 rfl) rfl (.bool false) (fun _ => hv_pick (t := false) rfl rfl) ?_
      refine pp (i := 33) rfl (wanted_0 rfl) rfl (.bool false) (fun _ => va rfl) ?_
      refine hp_nil ?_
      refine qn ?_
      obtain rfl := H
      exact ⟨rfl, (hc rfl hn)⟩
    ·replace H := H.2 d3
     refine pn (i := 7) rfl (wanted_n rfl rfl rfl d3) ?_
     refine pn (i := 8) rfl (wanted_n rfl rfl rfl d3) ?_
     refine pn (i := 9) rfl (wanted_n rfl rfl rfl d3) ?_
     refine pn (i := 10) rfl (wanted_n rfl rfl rfl d3) ?_
     refine pp (i := 11) rfl (wanted_0 rfl) rfl (.bool false) (fun _ => hv_pick_f rfl d3 rfl) ?_
     refine pp (i := 12) rfl (wanted_0 rfl) rfl (.bool false) (fun _ => vm rfl) ?_
     refine pn (i := 13) rfl (wanted_n rfl rfl (c := false) rfl rfl) ?_
     refine pn (i := 14) rfl (wanted_n rfl rfl (c := false) rfl rfl) ?_
     refine pn (i := 15) rfl (wanted_n rfl rfl (c := false) rfl rfl) ?_
     refine pn (i := 16) rfl (wanted_n rfl rfl (c := false) rfl rfl) ?_
     refine pp (i := 17) rfl (wanted_0 rfl) rfl (.bool false) (fun _ => hv_pick (t := false) rfl rfl) ?_
     refine pp (i := 18) rfl (wanted_0 rfl) rfl (.bool false) (fun _ => vm rfl) ?_
     refine pn (i := 19) rfl (wanted_n rfl rfl (c := false) rfl rfl) ?_
     refine pn (i := 20) rfl (wanted_n rfl rfl (c := false) rfl rfl) ?_
     refine pn (i := 21) rfl (wanted_n rfl rfl (c := false) rfl rfl) ?_
     refine pn (i := 22) rfl (wanted_n rfl rfl (c := false) rfl rfl) ?_
     refine pn (i := 23) rfl (wanted_n rfl rfl (c := false) rfl rfl) ?_
     refine pn (i := 24) rfl (wanted_n rfl rfl (c := false) rfl rfl) ?_
     refine pn (i := 25) rfl (wanted_n rfl rfl (c := false) rfl rfl) ?_
     refine pp (i := 26) rfl (wanted_0 rfl) rfl (.bool false) (fun _ => hv_pick (t := false) rfl rfl) ?_
     refine pp (i := 27) rfl (wanted_0 rfl) rfl (.bool false) (fun _ => vm rfl) ?_
     refine pn (i := 28) rfl (wanted_n rfl rfl (c := false) rfl rfl) ?_
     refine pn (i := 29) rfl (wanted_n rfl rfl (c := false) rfl rfl) ?_
     refine pn (i := 30) rfl (wanted_n rfl rfl (c := false) rfl rfl) ?_
     refine pn (i := 31) rfl (wanted_n rfl rfl (c := false) rfl rfl) ?_
     refine pp (i := 32) rfl (wanted_0 rfl) rfl (.bool false) (fun _ => hv_pick (t := false) rfl rfl) ?_
     refine pp (i := 33) rfl (wanted_0 rfl) rfl (.bool false) (fun _ => va rfl) ?_
     refine hp_nil ?_
     refine qn ?_
     obtain rfl := H
     exact ⟨rfl, (hc rfl hn)⟩
   ·replace H := H.2 e2
    refine pn (i := 3) rfl (wanted_n rfl rfl rfl e2) ?_
    refine pn (i := 4) rfl (wanted_n rfl rfl rfl e2) ?_
    refine pp (i := 5) rfl (wanted_0 rfl) rfl (.bool false) (fun _ => hv_pick_f rfl e2 rfl) ?_
    refine pp (i := 6) rfl (wanted_0 rfl) rfl (.bool false) (fun _ => vm rfl) ?_
    refine pn (i := 7) rfl (wanted_n rfl rfl (c := false) rfl rfl) ?_
    refine pn (i := 8) rfl (wanted_n rfl rfl (c := false) rfl rfl) ?_
    refine pn (i := 9) rfl (wanted_n rfl rfl (c := false) rfl rfl) ?_
    refine pn (i := 10) rfl (wanted_n rfl rfl (c := false) rfl rfl) ?_
    refine pp (i := 11) rfl (wanted_0 rfl) rfl (.bool false) (fun _ => hv_pick (t := false) rfl rfl) ?_
    refine pp (i := 12) rfl (wanted_0 rfl) rfl (.bool false) (fun _ => vm rfl) ?_
    refine pn (i := 13) rfl (wanted_n rfl rfl (c := false) rfl rfl) ?_
    refine pn (i := 14) rfl (wanted_n rfl rfl (c := false) rfl rfl) ?_
    refine pn (i := 15) rfl (wanted_n rfl rfl (c := false) rfl rfl) ?_
    refine pn (i := 16) rfl (wanted_n rfl rfl (c := false) rfl rfl) ?_
    refine pp (i := 17) rfl (wanted_0 rfl) rfl (.bool false) (fun _ => hv_pick (t := false) rfl rfl) ?_
    refine pp (i := 18) rfl (wanted_0 rfl) rfl (.bool false) (fun _ => vm rfl) ?_
    refine pn (i := 19) rfl (wanted_n rfl rfl (c := false) rfl rfl) ?_
    refine pn (i := 20) rfl (wanted_n rfl rfl (c := false) rfl rfl) ?_
    refine pn (i := 21) rfl (wanted_n rfl rfl (c := false) rfl rfl) ?_
    refine pn (i := 22) rfl (wanted_n rfl rfl (c := false) rfl rfl) ?_
    refine pn (i := 23) rfl (wanted_n rfl rfl (c := false) rfl rfl) ?_
    refine pn (i := 24) rfl (wanted_n rfl rfl (c := false) rfl rfl) ?_
    refine pn (i := 25) rfl (wanted_n rfl rfl (c := false) rfl rfl) ?_
    refine pp (i := 26) rfl (wanted_0 rfl) rfl (.bool false) (fun _ => hv_pick (t := false) rfl rfl) ?_
    refine pp (i := 27) rfl (wanted_0 rfl) rfl (.bool false) (fun _ => vm rfl) ?_
    refine pn (i := 28) rfl (wanted_n rfl rfl (c := false) rfl rfl) ?_
    refine pn (i := 29) rfl (wanted_n rfl rfl (c := false) rfl rfl) ?_
    refine pn (i := 30) rfl (wanted_n rfl rfl (c := false) rfl rfl) ?_
    refine pn (i := 31) rfl (wanted_n rfl rfl (c := false) rfl rfl) ?_
    refine pp (i := 32) rfl (wanted_0 rfl) rfl (.bool false) (fun _ => hv_pick (t := false) rfl rfl) ?_
    refine pp (i := 33) rfl (wanted_0 rfl) rfl (.bool false) (fun _ => va rfl) ?_
    refine hp_nil ?_
    refine qn ?_
    obtain rfl := H
    exact ⟨rfl, (hc rfl hn)⟩
  ·have H := f1; clear e8 f1
   rintro ρ _ ⟨rfl, hH⟩
   refine xh _ hH ?_
   refine xt ?_
   replace H := H e6 e4
   exact endQ_ret _ (res_one Tryd.results10 (rv_tmp rfl)) H
theorem f14_sh (b0 : Int) (c5 : Bool) (a4 : Int) (a0 : Int) (a3 : Int) (b8 : Option Addr) (b2 : Nat) (b5 : Nat) (a8 : Int) (a7 : Int) (b6 : Bool) (b1 : Int) (c6 : Bool) (a5 : Int) (a1 : Int) (a2 : Int) (b9 : Option Addr) (b4 : Nat) (b3 : Nat) (a9 : Int) (a6 : Int) (b7 : Bool) (h : Heap) (R : Value → Heap → Prop)
  (H : (∃ j : Bool, (((b0 == b1) = true → (((c5 == c6) = true → ((((a4 == a5 && (a0 == a1 && (a3 == a2 && true)))) = true → (∀ (a : Nat) (b : Nat) (h2 : Heap), Array.size h ≤ a → a < Array.size h2 → Array.size h ≤ b → b < Array.size h2 → Ext h h2 → (∃ r : Bool, HC Tryd.prog 19 #[(.slice b8 b2 b5), (.slice b9 b4 b3)] h2 (fun vv h' => vv = (.bool r) ∧ h' = h2) ∧ ((r = true → ((((a8 == a9 && (a7 == a6 && true))) = true → (j = (b6 == b7))) ∧ (((a8 == a9 && (a7 == a6 && true))) = false → (j = false)))) ∧ (r = false → (j = false)))))) ∧ (((a4 == a5 && (a0 == a1 && (a3 == a2 && true)))) = false → (j = false)))) ∧ ((c5 == c6) = false → (j = false)))) ∧ ((b0 == b1) = false → (j = false))) ∧ (∀ (h2 : Heap), Ext h h2 → R (.bool j) h2))) :
  HC Tryd.prog 14 #[(.agg #[(.int .i64 b0), (.bool c5), (.int .u64 a4), (.int .u64 a0), (.int .i64 a3), (.slice b8 b2 b5), (.int .i64 a8), (.int .i64 a7), (.bool b6)]), (.agg #[(.int .i64 b1), (.bool c6), (.int .u64 a5), (.int .u64 a1), (.int .i64 a2), (.slice b9 b4 b3), (.int .i64 a9), (.int .i64 a6), (.bool b7)])] h R := by
 refine hc_of (args := [(.agg #[(.int .i64 b0), (.bool c5), (.int .u64 a4), (.int .u64 a0), (.int .i64 a3), (.slice b8 b2 b5), (.int .i64 a8), (.int .i64 a7), (.bool b6)]), (.agg #[(.int .i64 b1), (.bool c6), (.int .u64 a5), (.int .u64 a1), (.int .i64 a2), (.slice b9 b4 b3), (.int .i64 a9), (.int .i64 a6), (.bool b7)])]) Tryd.func14 rfl Tryd.ntmps14 (Nat.le_of_ble_eq_true rfl) ?_
 refine xs (xr ?_)
 refine lp rfl rfl (hn_box (v := (.agg #[(.int .i64 b0), (.bool c5), (.int .u64 a4), (.int .u64 a0), (.int .i64 a3), (.slice b8 b2 b5), (.int .i64 a8), (.int .i64 a7), (.bool b6)])) rfl ?_)
 intro a h1 d7 d5
 have d6 := ext_pushed_f64_sh d5
 have e0 : Array.size h ≤ a := Nat.le_of_eq (Eq.symm d7)
 have c7 : h1[a]? = some (.cells #[(.int .i64 b0), (.bool c5), (.int .u64 a4), (.int .u64 a0), (.int .i64 a3), (.slice b8 b2 b5), (.int .i64 a8), (.int .i64 a7), (.bool b6)] 36 (0, 0)) := by rw [d5]; exact push_new d7
 refine lp rfl rfl (hn_box (v := (.agg #[(.int .i64 b1), (.bool c6), (.int .u64 a5), (.int .u64 a1), (.int .i64 a2), (.slice b9 b4 b3), (.int .i64 a9), (.int .i64 a6), (.bool b7)])) rfl ?_)
 intro b h2 d2 d3
 have d4 := ext_pushed_f64_sh d3
 have e1 := Nat.ne_of_lt (Nat.lt_of_lt_of_eq (row_lt c7) (Eq.symm d2))
 have d8 : Array.size h ≤ b := Nat.le_trans (Ext.size d6) (Nat.le_of_eq (Eq.symm d2))
 have c8 : h2[b]? = some (.cells #[(.int .i64 b1), (.bool c6), (.int .u64 a5), (.int .u64 a1), (.int .i64 a2), (.slice b9 b4 b3), (.int .i64 a9), (.int .i64 a6), (.bool b7)] 36 (0, 0)) := by rw [d3]; exact push_new d2
 replace c7 := Ext.row d4 c7
 have d1 := Ext.trans d6 d4
 refine lv rfl rfl (va rfl) ?_
 refine ln (qn ?_)
 obtain ⟨j, d0, c9⟩ := H
 refine xk (fun ρ h' => h2 = h' ∧ Has ρ [(4, (.bool j))]) ?_ ?_
 ·have H := d0; clear d0 c9
  refine xr ?_
  refine lv rfl rfl (v := (ptr a 0)) (vf TyTC.fld36_0 (b := a) (o := 0) rfl) (lv rfl rfl (vl TyTC.agg3 rfl (rc c7 rfl)) (lv rfl rfl (v := (ptr b 0)) (vf TyTC.fld36_0 (b := b) (o := 0) rfl) (lv rfl rfl (vl TyTC.agg3 rfl (rc c8 rfl)) (lv rfl rfl (vr rfl rfl rfl) (lv rfl rfl (vm rfl) ?_)))))
  rcases bool_or (b0 == b1) with c2 | c2
  ·replace H := H.1 c2
   refine ly (wanted_y rfl rfl rfl c2) rfl (HStep.of_val (v := (ptr a 1)) (vf TyTC.fld36_1 (b := a) (o := 0) rfl) ?_)
   refine ly (wanted_y rfl rfl rfl c2) rfl (HStep.of_val (v := (.bool c5)) (vl TyTC.agg4 rfl (rc c7 rfl)) ?_)
   refine ly (wanted_y rfl rfl rfl c2) rfl (HStep.of_val (v := (ptr b 1)) (vf TyTC.fld36_1 (b := b) (o := 0) rfl) ?_)
   refine ly (wanted_y rfl rfl rfl c2) rfl (HStep.of_val (v := (.bool c6)) (vl TyTC.agg4 rfl (rc c8 rfl)) ?_)
   refine ly (wanted_y rfl rfl rfl c2) rfl (HStep.of_val (v := (.bool (c5 == c6))) (hv_eqBool TyTC.u4 rfl rfl rfl) ?_)
   refine lv rfl rfl (v := (.bool (c5 == c6))) (hv_pick_t rfl c2 rfl) (lv rfl rfl (vm rfl) ?_)
   rcases bool_or (c5 == c6) with c1 | c1
   ·replace H := H.1 c1
    refine ly (wanted_y rfl rfl rfl c1) rfl (HStep.of_val (v := (ptr a 2)) (vf TyTC.fld36_2 (b := a) (o := 0) rfl) ?_)
    refine ly (wanted_y rfl rfl rfl c1) rfl (HStep.of_val (v := (.agg #[(.int .u64 a4), (.int .u64 a0), (.int .i64 a3)])) (vL (vs := [(.int .u64 a4), (.int .u64 a0), (.int .i64 a3)]) TyTC.agg31 TyTC.sz31 rfl (cc (rc c7 rfl) (cc (rc c7 rfl) (cc (rc c7 rfl) cn)))) ?_)
    refine ly (wanted_y rfl rfl rfl c1) rfl (HStep.of_val (v := (ptr b 2)) (vf TyTC.fld36_2 (b := b) (o := 0) rfl) ?_)
    refine ly (wanted_y rfl rfl rfl c1) rfl (HStep.of_val (v := (.agg #[(.int .u64 a5), (.int .u64 a1), (.int .i64 a2)])) (vL (vs := [(.int .u64 a5), (.int .u64 a1), (.int .i64 a2)]) TyTC.agg31 TyTC.sz31 rfl (cc (rc c8 rfl) (cc (rc c8 rfl) (cc (rc c8 rfl) cn)))) ?_)
    refine ly (wanted_y rfl rfl rfl c1) rfl (HStep.of_val (v := (.bool ((a4 == a5 && (a0 == a1 && (a3 == a2 && true)))))) (hv_structEq (xs := [(.int .u64 a4), (.int .u64 a0), (.int .i64 a3)]) (ys := [(.int .u64 a5), (.int .u64 a1), (.int .i64 a2)]) (b := (a4 == a5 && (a0 == a1 && (a3 == a2 && true)))) TyTC.se31 rfl rfl (by kernel_rfl) rfl) ?_)
    refine lv rfl rfl (v := (.bool ((a4 == a5 && (a0 == a1 && (a3 == a2 && true)))))) (hv_pick_t rfl c1 rfl) (lv rfl rfl (vm rfl) ?_)
    rcases bool_or (((a4 == a5 && (a0 == a1 && (a3 == a2 && true))))) with c4 | c4
    ·replace H := H.1 c4
     refine ly (wanted_y rfl rfl rfl c4) rfl (HStep.of_val (v := (ptr a 5)) (vf TyTC.fld36_3 (b := a) (o := 0) rfl) ?_)
     refine ly (wanted_y rfl rfl rfl c4) rfl (HStep.of_val (v := (.slice b8 b2 b5)) (vl TyTC.agg32 rfl (rc c7 rfl)) ?_)
     refine ly (wanted_y rfl rfl rfl c4) rfl (HStep.of_val (v := (ptr b 5)) (vf TyTC.fld36_3 (b := b) (o := 0) rfl) ?_)
     refine ly (wanted_y rfl rfl rfl c4) rfl (HStep.of_val (v := (.slice b9 b4 b3)) (vl TyTC.agg32 rfl (rc c8 rfl)) ?_)
     replace H := H a b h2 e0 (row_lt c7) d8 (row_lt c8) d1
     obtain ⟨r, d9, H⟩ := H
     refine ly (wanted_y rfl rfl rfl c4) rfl (HStep.of_val (v := (.bool r)) (hv_call TyTC.cb19 (vs := [(.slice b8 b2 b5), (.slice b9 b4 b3)]) rfl d9) ?_)
     refine lv rfl rfl (v := (.bool r)) (hv_pick_t rfl c4 rfl) (lv rfl rfl (vm rfl) ?_)
     rcases bool_or (r) with c3 | c3
     ·replace H := H.1 c3
      refine ly (wanted_y rfl rfl rfl c3) rfl (HStep.of_val (v := (ptr a 6)) (vf TyTC.fld36_4 (b := a) (o := 0) rfl) ?_)
      refine ly (wanted_y rfl rfl rfl c3) rfl (HStep.of_val (v := (.agg #[(.int .i64 a8), (.int .i64 a7)])) (vL (vs := [(.int .i64 a8), (.int .i64 a7)]) TyTC.agg34 TyTC.sz34 rfl (cc (rc c7 rfl) (cc (rc c7 rfl) cn))) ?_)
      refine ly (wanted_y rfl rfl rfl c3) rfl (HStep.of_val (v := (ptr b 6)) (vf TyTC.fld36_4 (b := b) (o := 0) rfl) ?_)
      refine ly (wanted_y rfl rfl rfl c3) rfl (HStep.of_val (v := (.agg #[(.int .i64 a9), (.int .i64 a6)])) (vL (vs := [(.int .i64 a9), (.int .i64 a6)]) TyTC.agg34 TyTC.sz34 rfl (cc (rc c8 rfl) (cc (rc c8 rfl) cn))) ?_)
      refine ly (wanted_y rfl rfl rfl c3) rfl (HStep.of_val (v := (.bool ((a8 == a9 && (a7 == a6 && true))))) (hv_structEq (xs := [(.int .i64 a8), (.int .i64 a7)]) (ys := [(.int .i64 a9), (.int .i64 a6)]) (b := (a8 == a9 && (a7 == a6 && true))) TyTC.se34 rfl rfl (by kernel_rfl) rfl) ?_)
      refine lv rfl rfl (v := (.bool ((a8 == a9 && (a7 == a6 && true))))) (hv_pick_t rfl c3 rfl) (lv rfl rfl (vm rfl) ?_)
      rcases bool_or (((a8 == a9 && (a7 == a6 && true)))) with c0 | c0
      ·replace H := H.1 c0
       refine ly (wanted_y rfl rfl rfl c0) rfl (HStep.of_val (v := (ptr a 8)) (vf TyTC.fld36_5 (b := a) (o := 0) rfl) ?_)
       refine ly (wanted_y rfl rfl rfl c0) rfl (HStep.of_val (v := (.bool b6)) (vl TyTC.agg4 rfl (rc c7 rfl)) ?_)
       refine ly (wanted_y rfl rfl rfl c0) rfl (HStep.of_val (v := (ptr b 8)) (vf TyTC.fld36_5 (b := b) (o := 0) rfl) ?_)
       refine ly (wanted_y rfl rfl rfl c0) rfl (HStep.of_val (v := (.bool b7)) (vl TyTC.agg4 rfl (rc c8 rfl)) ?_)
       refine ly (wanted_y rfl rfl rfl c0) rfl (HStep.of_val (v := (.bool (b6 == b7))) (hv_eqBool TyTC.u4 rfl rfl rfl) ?_)
       refine lv rfl rfl (v := (.bool (b6 == b7))) (hv_pick_t rfl c0 rfl) (lv rfl rfl (va rfl) ?_)
       refine ln (qn ?_)
       obtain rfl := H
       exact ⟨rfl, (hc rfl hn)⟩
      ·replace H := H.2 c0
       refine lo (wanted_n rfl rfl rfl c0) rfl ?_
       refine lo (wanted_n rfl rfl rfl c0) rfl ?_
       refine lo (wanted_n rfl rfl rfl c0) rfl ?_
       refine lo (wanted_n rfl rfl rfl c0) rfl ?_
       refine lo (wanted_n rfl rfl rfl c0) rfl ?_
       refine lv rfl rfl (v := (.bool false)) (hv_pick_f rfl c0 rfl) (lv rfl rfl (va rfl) ?_)
       refine ln (qn ?_)
       obtain rfl := H
       exact ⟨rfl, (hc rfl hn)⟩
     ·replace H := H.2 c3
      refine lo (wanted_n rfl rfl rfl c3) rfl ?_
      refine lo (wanted_n rfl rfl rfl c3) rfl ?_
      refine lo (wanted_n rfl rfl rfl c3) rfl ?_
      refine lo (wanted_n rfl rfl rfl c3) rfl ?_
      refine lo (wanted_n rfl rfl rfl c3) rfl ?_
      refine lv rfl rfl (v := (.bool false)) (hv_pick_f rfl c3 rfl) (lv rfl rfl (vm rfl) ?_)
      refine lo (wanted_n rfl rfl (c := false) rfl rfl) rfl ?_
      refine lo (wanted_n rfl rfl (c := false) rfl rfl) rfl ?_
      refine lo (wanted_n rfl rfl (c := false) rfl rfl) rfl ?_
      refine lo (wanted_n rfl rfl (c := false) rfl rfl) rfl ?_
      refine lo (wanted_n rfl rfl (c := false) rfl rfl) rfl ?_
      refine lv rfl rfl (v := (.bool false)) (hv_pick (t := false) rfl rfl) (lv rfl rfl (va rfl) ?_)
      refine ln (qn ?_)
      obtain rfl := H
      exact ⟨rfl, (hc rfl hn)⟩
    ·replace H := H.2 c4
     refine lo (wanted_n rfl rfl rfl c4) rfl ?_
     refine lo (wanted_n rfl rfl rfl c4) rfl ?_
     refine lo (wanted_n rfl rfl rfl c4) rfl ?_
     refine lo (wanted_n rfl rfl rfl c4) rfl ?_
     refine lo (wanted_n rfl rfl rfl c4) rfl ?_
     refine lv rfl rfl (v := (.bool false)) (hv_pick_f rfl c4 rfl) (lv rfl rfl (vm rfl) ?_)
     refine lo (wanted_n rfl rfl (c := false) rfl rfl) rfl ?_
     refine lo (wanted_n rfl rfl (c := false) rfl rfl) rfl ?_
     refine lo (wanted_n rfl rfl (c := false) rfl rfl) rfl ?_
     refine lo (wanted_n rfl rfl (c := false) rfl rfl) rfl ?_
     refine lo (wanted_n rfl rfl (c := false) rfl rfl) rfl ?_
     refine lv rfl rfl (v := (.bool false)) (hv_pick (t := false) rfl rfl) (lv rfl rfl (vm rfl) ?_)
     refine lo (wanted_n rfl rfl (c := false) rfl rfl) rfl ?_
     refine lo (wanted_n rfl rfl (c := false) rfl rfl) rfl ?_
     refine lo (wanted_n rfl rfl (c := false) rfl rfl) rfl ?_
     refine lo (wanted_n rfl rfl (c := false) rfl rfl) rfl ?_
     refine lo (wanted_n rfl rfl (c := false) rfl rfl) rfl ?_
     refine lv rfl rfl (v := (.bool false)) (hv_pick (t := false) rfl rfl) (lv rfl rfl (va rfl) ?_)
     refine ln (qn ?_)
     obtain rfl := H
     exact ⟨rfl, (hc rfl hn)⟩
   ·replace H := H.2 c1
    refine lo (wanted_n rfl rfl rfl c1) rfl ?_
    refine lo (wanted_n rfl rfl rfl c1) rfl ?_
    refine lo (wanted_n rfl rfl rfl c1) rfl ?_
    refine lo (wanted_n rfl rfl rfl c1) rfl ?_
    refine lo (wanted_n rfl rfl rfl c1) rfl ?_
    refine lv rfl rfl (v := (.bool false)) (hv_pick_f rfl c1 rfl) (lv rfl rfl (vm rfl) ?_)
    refine lo (wanted_n rfl rfl (c := false) rfl rfl) rfl ?_
    refine lo (wanted_n rfl rfl (c := false) rfl rfl) rfl ?_
    refine lo (wanted_n rfl rfl (c := false) rfl rfl) rfl ?_
    refine lo (wanted_n rfl rfl (c := false) rfl rfl) rfl ?_
    refine lo (wanted_n rfl rfl (c := false) rfl rfl) rfl ?_
    refine lv rfl rfl (v := (.bool false)) (hv_pick (t := false) rfl rfl) (lv rfl rfl (vm rfl) ?_)
    refine lo (wanted_n rfl rfl (c := false) rfl rfl) rfl ?_
    refine lo (wanted_n rfl rfl (c := false) rfl rfl) rfl ?_
    refine lo (wanted_n rfl rfl (c := false) rfl rfl) rfl ?_
    refine lo (wanted_n rfl rfl (c := false) rfl rfl) rfl ?_
    refine lo (wanted_n rfl rfl (c := false) rfl rfl) rfl ?_
    refine lv rfl rfl (v := (.bool false)) (hv_pick (t := false) rfl rfl) (lv rfl rfl (vm rfl) ?_)
    refine lo (wanted_n rfl rfl (c := false) rfl rfl) rfl ?_
    refine lo (wanted_n rfl rfl (c := false) rfl rfl) rfl ?_
    refine lo (wanted_n rfl rfl (c := false) rfl rfl) rfl ?_
    refine lo (wanted_n rfl rfl (c := false) rfl rfl) rfl ?_
    refine lo (wanted_n rfl rfl (c := false) rfl rfl) rfl ?_
    refine lv rfl rfl (v := (.bool false)) (hv_pick (t := false) rfl rfl) (lv rfl rfl (va rfl) ?_)
    refine ln (qn ?_)
    obtain rfl := H
    exact ⟨rfl, (hc rfl hn)⟩
  ·replace H := H.2 c2
   refine lo (wanted_n rfl rfl rfl c2) rfl ?_
   refine lo (wanted_n rfl rfl rfl c2) rfl ?_
   refine lo (wanted_n rfl rfl rfl c2) rfl ?_
   refine lo (wanted_n rfl rfl rfl c2) rfl ?_
   refine lo (wanted_n rfl rfl rfl c2) rfl ?_
   refine lv rfl rfl (v := (.bool false)) (hv_pick_f rfl c2 rfl) (lv rfl rfl (vm rfl) ?_)
   refine lo (wanted_n rfl rfl (c := false) rfl rfl) rfl ?_
   refine lo (wanted_n rfl rfl (c := false) rfl rfl) rfl ?_
   refine lo (wanted_n rfl rfl (c := false) rfl rfl) rfl ?_
   refine lo (wanted_n rfl rfl (c := false) rfl rfl) rfl ?_
   refine lo (wanted_n rfl rfl (c := false) rfl rfl) rfl ?_
   refine lv rfl rfl (v := (.bool false)) (hv_pick (t := false) rfl rfl) (lv rfl rfl (vm rfl) ?_)
   refine lo (wanted_n rfl rfl (c := false) rfl rfl) rfl ?_
   refine lo (wanted_n rfl rfl (c := false) rfl rfl) rfl ?_
   refine lo (wanted_n rfl rfl (c := false) rfl rfl) rfl ?_
   refine lo (wanted_n rfl rfl (c := false) rfl rfl) rfl ?_
   refine lo (wanted_n rfl rfl (c := false) rfl rfl) rfl ?_
   refine lv rfl rfl (v := (.bool false)) (hv_pick (t := false) rfl rfl) (lv rfl rfl (vm rfl) ?_)
   refine lo (wanted_n rfl rfl (c := false) rfl rfl) rfl ?_
   refine lo (wanted_n rfl rfl (c := false) rfl rfl) rfl ?_
   refine lo (wanted_n rfl rfl (c := false) rfl rfl) rfl ?_
   refine lo (wanted_n rfl rfl (c := false) rfl rfl) rfl ?_
   refine lo (wanted_n rfl rfl (c := false) rfl rfl) rfl ?_
   refine lv rfl rfl (v := (.bool false)) (hv_pick (t := false) rfl rfl) (lv rfl rfl (vm rfl) ?_)
   refine lo (wanted_n rfl rfl (c := false) rfl rfl) rfl ?_
   refine lo (wanted_n rfl rfl (c := false) rfl rfl) rfl ?_
   refine lo (wanted_n rfl rfl (c := false) rfl rfl) rfl ?_
   refine lo (wanted_n rfl rfl (c := false) rfl rfl) rfl ?_
   refine lo (wanted_n rfl rfl (c := false) rfl rfl) rfl ?_
   refine lv rfl rfl (v := (.bool false)) (hv_pick (t := false) rfl rfl) (lv rfl rfl (va rfl) ?_)
   refine ln (qn ?_)
   obtain rfl := H
   exact ⟨rfl, (hc rfl hn)⟩
 ·have H := c9; clear d0 c9
  rintro ρ _ ⟨rfl, hH⟩
  refine xh _ hH ?_
  refine xt ?_
  replace H := H h2 d1
  exact endQ_ret _ (res_one Tryd.results14 (rv_tmp rfl)) H
theorem f18_sh (a0 : Int) (a3 : Int) (a2 : Int) (a4 : Int) (b5 : Int) (a6 : Int) (a7 : Int) (l : Option Addr) (c0 : Nat) (e2 : Nat) (d3 : Option Addr) (b0 : Nat) (b9 : Nat) (h : Heap) (R : Value → Heap → Prop)
  (H : (∀ (g : Nat) (hv : Nat) (h2 : Heap), Array.size h ≤ g → g < Array.size h2 → Array.size h ≤ hv → hv < Array.size h2 → Ext h h2 → HC Tryd.prog 45 #[(.agg #[(.int .i64 a0), (.int .i64 a3), (.int .i64 a2), (.int .i64 a4)])] h2 (fun vv h3 => Ext h2 h3 ∧ ∃ r : Int, vv = (.int .i64 r) ∧ ((0 : Int) ≤ r ∧ 1 * r ≤ 140737488355328 ∧ r ≤ 140737488355328 ∧ ∀ nb h4, nb = Array.size h3 → h4 = Array.push h3 (.cells (zcells [(.int .u8 0)] (Int.toNat r)).toArray 5) → (∃ (j1 : Int → Heap → Prop) (i3 : Int → Heap → Nat), j1 0 h4 ∧ (∀ (v : Int) (h5 : Heap), j1 v h5 → (((decide (v < (((Int.toNat r) : Nat) : Int))) = true → ((0 : Int) ≤ v ∧ v < (((Int.toNat r) : Nat) : Int) ∧ (HW h5 nb (0 + (Int.toNat v) * 1) ∧ Off nb [g, hv] ∧ ∀ h6, h6 = hset h5 nb (0 + (Int.toNat v) * 1) (.int .u8 255) → (j1 (IntKind.i64.wrap (v + 1)) h6 ∧ i3 (IntKind.i64.wrap (v + 1)) h6 < i3 v h5)))) ∧ ((decide (v < (((Int.toNat r) : Nat) : Int))) = false → HC Tryd.prog 17 #[(.agg #[(.int .i64 a0), (.int .i64 a3), (.int .i64 a2), (.int .i64 a4)]), (.agg #[(.int .u64 b5), (.int .u64 a6), (.int .i64 a7)])] h5 (fun vv h7 => Ext h5 h7 ∧ ∃ r0 : Option Addr, ∃ d1 d9 : Nat, ∃ r1 : Int, vv = (.tuple #[(.slice r0 d1 d9), (.int .i64 r1)]) ∧ HCopy Tryd.prog 25 25 (.slice (some ⟨nb, 0, none⟩) (Int.toNat r) (Int.toNat r)) (.slice r0 d1 d9) h7 (fun vv h8 => Kp [g, hv] h7 h8 ∧ ∃ n : Nat, vv = (.int .i64 (n : Int)) ∧ HC Tryd.prog 38 #[(.agg #[(.int .i64 a0), (.int .i64 a3), (.int .i64 a2), (.int .i64 a4)]), (.int .i64 32)] h8 (fun vv h9 => Ext h8 h9 ∧ ∃ d0 e9 : Int, vv = (.tuple #[(.int .i64 d0), (.int .i64 e9)]) ∧ (∃ (j3 : Int → Heap → Prop) (i2 : Int → Heap → Nat), j3 (d1 : Int) h9 ∧ (∀ (i : Int) (f9 : Heap), j3 i f9 → (((decide (i < d0)) = true → ((0 : Int) ≤ i ∧ i < (((Int.toNat r) : Nat) : Int) ∧ (HW f9 nb (0 + (Int.toNat i) * 1) ∧ Off nb [g, hv] ∧ ∀ i8, i8 = hset f9 nb (0 + (Int.toNat i) * 1) (.int .u8 0) → (j3 (IntKind.i64.wrap (i + 1)) i8 ∧ i2 (IntKind.i64.wrap (i + 1)) i8 < i2 i f9)))) ∧ ((decide (i < d0)) = false → (∃ (i9 : Int → Option Addr → Nat → Nat → Int → Heap → Prop) (i6 : Int → Option Addr → Nat → Nat → Int → Heap → Nat), i9 d0 none 0 0 0 f9 ∧ (∀ (a8 : Int) (e5 : Option Addr) (d2 : Nat) (d4 : Nat) (b1 : Int) (e1 : Heap), i9 a8 e5 d2 d4 b1 e1 → (((decide (b1 < (c0 : Int))) = true → (∃ j2 : Int → Option Addr → Nat → Nat → Heap → Prop, (∃ e4 e3 : Nat, l = some ⟨e4, e3, none⟩ ∧ (0 : Int) ≤ b1 ∧ b1 < (c0 : Int) ∧ (∃ b3 a5 : Int, ∃ b7 a9 : ByteArray, hcell e1 e4 (e3 + (Int.toNat b1) * 4) = some (.int .i64 b3) ∧ hcell e1 e4 ((e3 + (Int.toNat b1) * 4) + 1) = some (.int .u64 a5) ∧ hcell e1 e4 ((e3 + (Int.toNat b1) * 4) + 2) = some (.string b7) ∧ hcell e1 e4 ((e3 + (Int.toNat b1) * 4) + 3) = some (.string a9) ∧ (∀ (f2 : Nat) (f3 : Heap), Array.size e1 ≤ f2 → f2 < Array.size f3 → Ext e1 f3 → (∃ j5 : Int, (∀ l4, Ext f3 l4 → HC Tryd.prog 40 #[(.int .u64 a6)] l4 (fun vv h' => vv = (.int .u32 j5) ∧ h' = l4)) ∧ HC Tryd.prog 46 #[(.agg #[(.int .i64 a0), (.int .i64 a3), (.int .i64 a2), (.int .i64 a4)]), (.int .u32 j5), (.agg #[(.int .i64 b3), (.int .u64 a5), (.string b7), (.string a9)])] f3 (fun vv g3 => Ext f3 g3 ∧ ∃ c9 : Option Addr, ∃ a1 b4 : Nat, ∃ c5 : Int, vv = (.tuple #[(.slice c9 a1 b4), (.int .i64 c5)]) ∧ ((((c5 != 0) || (decide ((a1 : Int) > (IntKind.i64.wrap ((IntKind.i64.wrap ((((Int.toNat r) : Nat) : Int) - 24)) - a8))))) = true → (j2 a8 e5 d2 d4 g3)) ∧ (((c5 != 0) || (decide ((a1 : Int) > (IntKind.i64.wrap ((IntKind.i64.wrap ((((Int.toNat r) : Nat) : Int) - 24)) - a8))))) = false → (0 ≤ (a8 : Int) ∧ a8 ≤ (((Int.toNat r) : Nat) : Int) ∧ (((Int.toNat r) : Nat) : Int) ≤ (((Int.toNat r) : Nat) : Int) ∧ ∀ sl : Option Addr, sl = slA (some ⟨nb, 0, none⟩) (Int.toNat a8) 1 (Int.toNat r) → HCopy Tryd.prog 25 25 (.slice sl (Int.toNat (((Int.toNat r) : Nat) : Int) - Int.toNat a8) ((Int.toNat r) - Int.toNat a8)) (.slice c9 a1 b4) g3 (fun vv j0 => Kp [g, hv, f2] g3 j0 ∧ ∃ o0 : Nat, vv = (.int .i64 (o0 : Int)) ∧ (∀ i1 g2, i1 = Array.size j0 → g2 = Array.push j0 (.cells #[(.int .i64 a7), (.int .i64 a8), (.int .i64 (a1 : Int)), (.int .i64 b3), (.int .u64 a5), (.string b7), (.string a9)] 45) → HAppend Tryd.prog 32 32 (.slice e5 d2 d4) (.slice (some ⟨i1, 0, none⟩) 1 1) g2 (fun vv l2 => Kp [g, hv] g2 l2 ∧ ∃ ap : Option Addr, ∃ e7 e6 : Nat, vv = (.slice ap e7 e6) ∧ HC Tryd.prog 38 #[(.agg #[(.int .i64 a0), (.int .i64 a3), (.int .i64 a2), (.int .i64 a4)]), (.int .i64 (IntKind.i64.wrap (a8 + (a1 : Int))))] l2 (fun vv g4 => Ext l2 g4 ∧ ∃ c8 e8 : Int, vv = (.tuple #[(.int .i64 c8), (.int .i64 e8)]) ∧ (∃ c2 : Int, (∃ g0 : Bool, (((decide (b1 < (b0 : Int))) = true → (∃ f1 f0 : Nat, d3 = some ⟨f1, f0, none⟩ ∧ (0 : Int) ≤ b1 ∧ b1 < (b0 : Int) ∧ (∃ x : Bool, hcell g4 f1 (f0 + (Int.toNat b1) * 1) = some (.bool x) ∧ (g0 = x)))) ∧ ((decide (b1 < (b0 : Int))) = false → (g0 = false))) ∧ ((g0 = true → (a0 ≠ 0 ∧ (c2 = (IntKind.i64.wrap ((IntKind.i64.wrap (Int.tdiv (IntKind.i64.wrap ((IntKind.i64.wrap (c8 + a0)) - 1)) a0)) * a0))))) ∧ (g0 = false → (c2 = c8)))) ∧ (∃ (f8 : Int → Heap → Prop) (f7 : Int → Heap → Nat), f8 (IntKind.i64.wrap (a8 + (a1 : Int))) g4 ∧ (∀ (k : Int) (f4 : Heap), f8 k f4 → ((((decide (k < c2)) && (decide (k < (IntKind.i64.wrap ((((Int.toNat r) : Nat) : Int) - 24))))) = true → ((0 : Int) ≤ k ∧ k < (((Int.toNat r) : Nat) : Int) ∧ (HW f4 nb (0 + (Int.toNat k) * 1) ∧ Off nb [g, hv] ∧ ∀ j4, j4 = hset f4 nb (0 + (Int.toNat k) * 1) (.int .u8 0) → (f8 (IntKind.i64.wrap (k + 1)) j4 ∧ f7 (IntKind.i64.wrap (k + 1)) j4 < f7 k f4)))) ∧ (((decide (k < c2)) && (decide (k < (IntKind.i64.wrap ((((Int.toNat r) : Nat) : Int) - 24))))) = false → (j2 c2 ap e7 e6 f4)))))))))))))))))) ∧ (∀ (d7 : Int) (d8 : Option Addr) (c6 : Nat) (c7 : Nat) (i7 : Heap), j2 d7 d8 c6 c7 i7 → (i9 d7 d8 c6 c7 (IntKind.i64.wrap (b1 + 1)) i7 ∧ i6 d7 d8 c6 c7 (IntKind.i64.wrap (b1 + 1)) i7 < i6 a8 e5 d2 d4 b1 e1)))) ∧ ((decide (b1 < (c0 : Int))) = false → R (.tuple #[(.slice (some ⟨nb, 0, none⟩) (Int.toNat r) (Int.toNat r)), (.slice e5 d2 d4)]) e1))))))))))))))))))) :
  HC Tryd.prog 18 #[(.agg #[(.int .i64 a0), (.int .i64 a3), (.int .i64 a2), (.int .i64 a4)]), (.agg #[(.int .u64 b5), (.int .u64 a6), (.int .i64 a7)]), (.slice l c0 e2), (.slice d3 b0 b9)] h R := by
 refine hc_of (args := [(.agg #[(.int .i64 a0), (.int .i64 a3), (.int .i64 a2), (.int .i64 a4)]), (.agg #[(.int .u64 b5), (.int .u64 a6), (.int .i64 a7)]), (.slice l c0 e2), (.slice d3 b0 b9)]) Tryd.func18 rfl Tryd.ntmps18 (Nat.le_of_ble_eq_true rfl) ?_
 refine xs (xr ?_)
 refine lp rfl rfl (hn_box (v := (.agg #[(.int .i64 a0), (.int .i64 a3), (.int .i64 a2), (.int .i64 a4)])) rfl ?_)
 intro g h1 o5 o4
 have o2 := ext_pushed_f64_sh o4
 have s7 : Array.size h ≤ g := Nat.le_of_eq (Eq.symm o5)
 have e0 : h1[g]? = some (.cells #[(.int .i64 a0), (.int .i64 a3), (.int .i64 a2), (.int .i64 a4)] 24 (0, 0)) := by rw [o4]; exact push_new o5
 refine lp rfl rfl (hn_box (v := (.agg #[(.int .u64 b5), (.int .u64 a6), (.int .i64 a7)])) rfl ?_)
 intro hv h2 m9 o1
 have n9 := ext_pushed_f64_sh o1
 have s8 := Nat.ne_of_lt (Nat.lt_of_lt_of_eq (row_lt e0) (Eq.symm m9))
 have r2 : Array.size h ≤ hv := Nat.le_trans (Ext.size o2) (Nat.le_of_eq (Eq.symm m9))
 have g1 : h2[hv]? = some (.cells #[(.int .u64 b5), (.int .u64 a6), (.int .i64 a7)] 31 (0, 0)) := by rw [o1]; exact push_new m9
 replace e0 := Ext.row n9 e0
 have p4 := Ext.trans o2 n9
 refine lv rfl rfl (va rfl) (lv rfl rfl (va rfl) ?_)
 refine ln (qn (xs (xr ?_)))
 refine lv rfl rfl (vL (vs := [(.int .i64 a0), (.int .i64 a3), (.int .i64 a2), (.int .i64 a4)]) TyTC.agg24 TyTC.sz24 rfl (cc (rc e0 rfl) (cc (rc e0 rfl) (cc (rc e0 rfl) (cc (rc e0 rfl) cn))))) ?_
 replace H := H g hv h2 s7 (row_lt e0) r2 (row_lt g1) p4
 refine lp rfl rfl (sc TyTC.cb45 rfl (HC.mono H ?_))
 rintro _ h3 ⟨l8, r, rfl, H⟩
 replace e0 := Ext.row l8 e0
 replace g1 := Ext.row l8 g1
 obtain ⟨r4, q2, q1, H⟩ := H
 refine lp rfl rfl (hn_make (z := (.int .u8 0)) (zs := [(.int .u8 0)]) (n := r) TyTC.u25 TyTC.sz5 TyTC.by5 TyTC.z5 rfl rfl r4 q2 q1 rfl rfl ?_)
 intro nb h4 q5 m0
 replace H := H nb h4 q5 m0
 have m6 := ext_pushed_f64_sh m0
 replace e0 := Ext.row m6 e0
 replace g1 := Ext.row m6 g1
 refine lv rfl rfl (va rfl) ?_
 refine ln (qn (xs (xs (xr ?_))))
 refine lv rfl rfl (vm rfl) (lv rfl rfl (v := (.int .i64 (((Int.toNat r) : Nat) : Int))) (hv_len (n := (Int.toNat r)) TyTC.u25 rfl) (lv rfl rfl (vm rfl) ?_))
 refine ln (qn (xb ?_))
 obtain ⟨j1, i3, p2, o7⟩ := H
 refine xl (σ := Int) (fun s => [(2, (.slice l c0 e2)), (3, (.slice d3 b0 b9)), (4, (ptr g 0)), (5, (ptr hv 0)), (10, (.slice (some ⟨nb, 0, none⟩) (Int.toNat r) (Int.toNat r))), (29, (.int .i64 (((Int.toNat r) : Nat) : Int))), (30, (.int .i64 s))]) (fun s h' => j1 s h' ∧ h'[g]? = some (.cells #[(.int .i64 a0), (.int .i64 a3), (.int .i64 a2), (.int .i64 a4)] 24 (0, 0)) ∧ h'[hv]? = some (.cells #[(.int .u64 b5), (.int .u64 a6), (.int .i64 a7)] 31 (0, 0)) ∧ True) (fun s h' => i3 s h') 0 ⟨p2, e0, g1, trivial⟩ (hc rfl (hc rfl (hc rfl (hc rfl (hc rfl (hc rfl (hc rfl hn))))))) ?_
 rintro v ρ h5 ⟨r9, c4, d6, -⟩
 have H := o7 v h5 r9
 refine xs (xr ?_)
 refine lv rfl rfl (vr rfl rfl rfl) ?_
 refine ln (qn (xs ?_))
 refine xc (b := decide (v < (((Int.toNat r) : Nat) : Int))) rfl (fun j9 => ?_) (fun j9 => ?_)
 ·replace H := H.1 j9
  refine xi (qn (xs (xb (xs (xr ?_)))))
  refine lv rfl rfl (vm rfl) (lv rfl rfl (va rfl) ?_)
  refine ln (qn (xr ?_))
  refine lv rfl rfl (vm rfl) (lv rfl rfl (vm rfl) ?_)
  obtain ⟨s5, s3, H⟩ := H
  refine lv rfl rfl (v := (ptr nb (0 + (Int.toNat v) * 1))) (vi TyTC.el25 rfl rfl s5 s3) ?_
  obtain ⟨p9, m8, H⟩ := H
  refine lp rfl rfl (hn_store (v := (.int .u8 255)) rfl rfl TyTC.sz5 rfl p9 ?_)
  intro h6 k3
  replace H := H h6 k3
  replace c4 := row_hset_ne k3 (m8 _ (by simp)) c4
  replace d6 := row_hset_ne k3 (m8 _ (by simp)) d6
  refine ln (bn (qn (xr ?_)))
  refine lv rfl rfl (vr rfl rfl rfl) (lv rfl rfl (vm rfl) ?_)
  refine ln (qn ?_)
  exact ⟨IntKind.i64.wrap (v + 1), ⟨⟨H.1, c4, d6, trivial⟩, H.2⟩, (hc rfl (hc rfl (hc rfl (hc rfl (hc rfl (hc rfl (hc rfl hn)))))))⟩
 ·replace H := H.2 j9
  refine xe (qe (qe (bh (qn (xs (xr ?_))))))
  refine lv rfl rfl (vL (vs := [(.int .i64 a0), (.int .i64 a3), (.int .i64 a2), (.int .i64 a4)]) TyTC.agg24 TyTC.sz24 rfl (cc (rc c4 rfl) (cc (rc c4 rfl) (cc (rc c4 rfl) (cc (rc c4 rfl) cn))))) (lv rfl rfl (vL (vs := [(.int .u64 b5), (.int .u64 a6), (.int .i64 a7)]) TyTC.agg31 TyTC.sz31 rfl (cc (rc d6 rfl) (cc (rc d6 rfl) (cc (rc d6 rfl) cn)))) ?_)
  refine lp rfl rfl (sc TyTC.cb17 rfl (HC.mono H ?_))
  rintro _ h7 ⟨l6, r0, d1, d9, r1, rfl, H⟩
  replace c4 := Ext.row l6 c4
  replace d6 := Ext.row l6 d6
  refine lv rfl rfl (vm rfl) (lv rfl rfl (vx rfl rfl) (lv rfl rfl (vx rfl rfl) (lv rfl rfl (va rfl) (lv rfl rfl (va rfl) ?_))))
  refine ln (qn (xs (xr ?_)))
  refine lv rfl rfl (vm rfl) (lv rfl rfl (vm rfl) ?_)
  refine lp rfl rfl (hs_copy rfl rfl (HCopy.mono H ?_))
  rintro _ h8 ⟨l5, n, rfl, H⟩
  replace c4 := Kp.row l5 (by simp) c4
  replace d6 := Kp.row l5 (by simp) d6
  refine ln (qn (xs (xr ?_)))
  refine lv rfl rfl (vL (vs := [(.int .i64 a0), (.int .i64 a3), (.int .i64 a2), (.int .i64 a4)]) TyTC.agg24 TyTC.sz24 rfl (cc (rc c4 rfl) (cc (rc c4 rfl) (cc (rc c4 rfl) (cc (rc c4 rfl) cn))))) ?_
  refine lp rfl rfl (sc TyTC.cb38 rfl (HC.mono H ?_))
  rintro _ h9 ⟨l9, d0, e9, rfl, H⟩
  replace c4 := Ext.row l9 c4
  replace d6 := Ext.row l9 d6
  refine lv rfl rfl (vm rfl) (lv rfl rfl (vx rfl rfl) (lv rfl rfl (vx rfl rfl) (lv rfl rfl (va rfl) (lv rfl rfl (va rfl) ?_))))
  refine ln (qn (xs (xs (xr ?_))))
  refine lv rfl rfl (vm rfl) (lv rfl rfl (v := (.int .i64 (d1 : Int))) (hv_len (n := d1) TyTC.u25 rfl) (lv rfl rfl (va rfl) ?_))
  refine ln (qn (xb ?_))
  obtain ⟨j3, i2, p7, p8⟩ := H
  refine xl (σ := Int) (fun s => [(2, (.slice l c0 e2)), (3, (.slice d3 b0 b9)), (4, (ptr g 0)), (5, (ptr hv 0)), (10, (.slice (some ⟨nb, 0, none⟩) (Int.toNat r) (Int.toNat r))), (14, (.int .i64 d0)), (16, (.int .i64 s))]) (fun s h' => j3 s h' ∧ h'[g]? = some (.cells #[(.int .i64 a0), (.int .i64 a3), (.int .i64 a2), (.int .i64 a4)] 24 (0, 0)) ∧ h'[hv]? = some (.cells #[(.int .u64 b5), (.int .u64 a6), (.int .i64 a7)] 31 (0, 0)) ∧ True) (fun s h' => i2 s h') (d1 : Int) ⟨p7, c4, d6, trivial⟩ (hc rfl (hc rfl (hc rfl (hc rfl (hc rfl (hc rfl (hc rfl hn))))))) ?_
  rintro i ρ f9 ⟨p0, i5, i0, -⟩
  have H := p8 i f9 p0
  refine xs (xs (xr ?_))
  refine lv rfl rfl (vm rfl) (lv rfl rfl (vm rfl) (lv rfl rfl (vr rfl rfl rfl) ?_))
  refine ln (qn ?_)
  refine xc (b := decide (i < d0)) rfl (fun j7 => ?_) (fun j7 => ?_)
  ·replace H := H.1 j7
   refine xi (qn (xs (xb (xr ?_))))
   refine lv rfl rfl (vm rfl) (lv rfl rfl (vm rfl) ?_)
   obtain ⟨q9, s2, H⟩ := H
   refine lv rfl rfl (v := (ptr nb (0 + (Int.toNat i) * 1))) (vi TyTC.el25 rfl rfl q9 s2) ?_
   obtain ⟨q0, m7, H⟩ := H
   refine lp rfl rfl (hn_store (v := (.int .u8 0)) rfl rfl TyTC.sz5 rfl q0 ?_)
   intro i8 k7
   replace H := H i8 k7
   replace i5 := row_hset_ne k7 (m7 _ (by simp)) i5
   replace i0 := row_hset_ne k7 (m7 _ (by simp)) i0
   refine ln (bn (qn (xr ?_)))
   refine lv rfl rfl (vm rfl) (lv rfl rfl (vr rfl rfl rfl) (lv rfl rfl (va rfl) ?_))
   refine ln (qn ?_)
   exact ⟨IntKind.i64.wrap (i + 1), ⟨⟨H.1, i5, i0, trivial⟩, H.2⟩, (hc rfl (hc rfl (hc rfl (hc rfl (hc rfl (hc rfl (hc rfl hn)))))))⟩
  ·replace H := H.2 j7
   refine xe (qe (qe (bh (qn (xs (xr ?_))))))
   refine lv rfl rfl (va rfl) ?_
   refine ln (qn (xs (xs (xr ?_))))
   refine lv rfl rfl (vm rfl) (lv rfl rfl (v := (.int .i64 (c0 : Int))) (hv_len (n := c0) TyTC.u47 rfl) (lv rfl rfl (vm rfl) ?_))
   refine ln (qn (xb ?_))
   obtain ⟨i9, i6, q6, q4⟩ := H
   refine xl (σ := Int × Option Addr × Nat × Nat × Int) (fun s => [(3, (.slice d3 b0 b9)), (4, (ptr g 0)), (5, (ptr hv 0)), (10, (.slice (some ⟨nb, 0, none⟩) (Int.toNat r) (Int.toNat r))), (14, (.int .i64 s.1)), (17, (.slice s.2.1 s.2.2.1 s.2.2.2.1)), (61, (.slice l c0 e2)), (62, (.int .i64 (c0 : Int))), (63, (.int .i64 s.2.2.2.2))]) (fun s h' => i9 s.1 s.2.1 s.2.2.1 s.2.2.2.1 s.2.2.2.2 h' ∧ h'[g]? = some (.cells #[(.int .i64 a0), (.int .i64 a3), (.int .i64 a2), (.int .i64 a4)] 24 (0, 0)) ∧ h'[hv]? = some (.cells #[(.int .u64 b5), (.int .u64 a6), (.int .i64 a7)] 31 (0, 0)) ∧ True) (fun s h' => i6 s.1 s.2.1 s.2.2.1 s.2.2.2.1 s.2.2.2.2 h') (d0, none, 0, 0, 0) ⟨q6, i5, i0, trivial⟩ (hc rfl (hc rfl (hc rfl (hc rfl (hc rfl (hc rfl (hc rfl (hc rfl (hc rfl hn))))))))) ?_
   rintro ⟨a8, e5, d2, d4, b1⟩ ρ e1 ⟨r7, b2, c1, -⟩
   have H := q4 a8 e5 d2 d4 b1 e1 r7
   refine xs (xr ?_)
   refine lv rfl rfl (vr rfl rfl rfl) ?_
   refine ln (qn (xs ?_))
   refine xc (b := decide (b1 < (c0 : Int))) rfl (fun k8 => ?_) (fun k8 => ?_)
   ·replace H := H.1 k8
    refine xi (qn ?_)
    obtain ⟨j2, j8, k0⟩ := H
    refine xk (fun ρ h' => ∃ d7 : Int, ∃ d8 : Option Addr, ∃ c6 c7 : Nat, (j2 d7 d8 c6 c7 h' ∧ h'[g]? = some (.cells #[(.int .i64 a0), (.int .i64 a3), (.int .i64 a2), (.int .i64 a4)] 24 (0, 0)) ∧ h'[hv]? = some (.cells #[(.int .u64 b5), (.int .u64 a6), (.int .i64 a7)] 31 (0, 0)) ∧ True) ∧ Has ρ [(3, (.slice d3 b0 b9)), (4, (ptr g 0)), (5, (ptr hv 0)), (10, (.slice (some ⟨nb, 0, none⟩) (Int.toNat r) (Int.toNat r))), (14, (.int .i64 d7)), (17, (.slice d8 c6 c7)), (61, (.slice l c0 e2)), (62, (.int .i64 (c0 : Int))), (63, (.int .i64 b1))]) ?_ ?_
    ·have H := j8; clear j8 k0
     refine xb (xs (xr ?_))
     refine lv rfl rfl (vm rfl) ?_
     obtain ⟨e4, e3, m4, s1, q7, Hq⟩ := H
     subst m4
     have H := Hq; clear Hq
     refine lv rfl rfl (v := (ptr e4 (e3 + (Int.toNat b1) * 4))) (vi TyTC.el47 rfl rfl s1 q7) ?_
     obtain ⟨b3, a5, b7, a9, s0, q8, q3, r5, H⟩ := H
     refine lv rfl rfl (vL (vs := [(.int .i64 b3), (.int .u64 a5), (.string b7), (.string a9)]) TyTC.agg43 TyTC.sz43 rfl (cc s0 (cc q8 (cc q3 (cc r5 cn))))) ?_
     refine lp rfl rfl (hn_alloc TyTC.z43 ?_)
     intro f2 o3 g5 m3
     have k5 := ext_pushed_f64_sh m3
     have r3 := Nat.ne_of_lt (Nat.lt_of_lt_of_eq (row_lt b2) (Eq.symm g5))
     have s6 := Nat.ne_of_lt (Nat.lt_of_lt_of_eq (row_lt c1) (Eq.symm g5))
     have m5 : Array.size e1 ≤ f2 := Nat.le_of_eq (Eq.symm g5)
     have l3 : o3[f2]? = some (.cells #[(.int .i64 0), (.int .u64 0), (.string ByteArray.empty), (.string ByteArray.empty)] 43 (0, 0)) := by rw [m3]; exact push_new g5
     replace b2 := Ext.row k5 b2
     replace c1 := Ext.row k5 c1
     refine lv rfl rfl (va rfl) ?_
     refine lp rfl rfl (hn_stores (vs := [(.int .i64 b3), (.int .u64 a5), (.string b7), (.string a9)]) rfl rfl TyTC.sz43 rfl (HWs_row l3 (by simp)) ?_)
     intro f3 i4
     replace b2 := row_hsets_ne i4 r3 b2
     replace c1 := row_hsets_ne i4 s6 c1
     have c3 : f3[f2]? = some (.cells #[(.int .i64 b3), (.int .u64 a5), (.string b7), (.string a9)] 43 (0, 0)) := row_hsets_eq i4 l3 rfl
     have o8 := ext_hsets i4 k5 m5
     refine ln (qn (xs ?_))
     refine hx_draw TyTC.mixed [.read, .pure, .read, .read, .read, .ext, .pure, .pure, .pure, .pure, .pure] [0, 1, 2, 3, 4, 5, 6, 7, 8, 9, 10] (by kernel_rfl) ?_
     refine pr (i := 0) rfl (wanted_0 rfl) rfl (.agg #[(.int .i64 a0), (.int .i64 a3), (.int .i64 a2), (.int .i64 a4)]) (fun _ he => vL (vs := [(.int .i64 a0), (.int .i64 a3), (.int .i64 a2), (.int .i64 a4)]) TyTC.agg24 TyTC.sz24 rfl (cc (Ext.cell he (rc b2 rfl)) (cc (Ext.cell he (rc b2 rfl)) (cc (Ext.cell he (rc b2 rfl)) (cc (Ext.cell he (rc b2 rfl)) cn))))) ?_
     refine pp (i := 1) rfl (wanted_0 rfl) rfl (ptr hv 1) (fun _ => vf TyTC.fld31_1 (b := hv) (o := 0) rfl) ?_
     refine pr (i := 2) rfl (wanted_0 rfl) rfl (.int .u64 a6) (fun _ he => vl TyTC.agg29 rfl (Ext.cell he (rc c1 rfl))) ?_
     replace H := H f2 f3 m5 (row_lt c3) o8
     obtain ⟨j5, o6, H⟩ := H
     refine pr (i := 3) rfl (wanted_0 rfl) rfl (.int .u32 j5) (fun _ he => hv_call TyTC.cb40 (vs := [(.int .u64 a6)]) rfl (o6 _ he)) ?_
     refine pr (i := 4) rfl (wanted_0 rfl) rfl (.agg #[(.int .i64 b3), (.int .u64 a5), (.string b7), (.string a9)]) (fun _ he => vL (vs := [(.int .i64 b3), (.int .u64 a5), (.string b7), (.string a9)]) TyTC.agg43 TyTC.sz43 rfl (cc (Ext.cell he (rc c3 rfl)) (cc (Ext.cell he (rc c3 rfl)) (cc (Ext.cell he (rc c3 rfl)) (cc (Ext.cell he (rc c3 rfl)) cn))))) ?_
     refine hp_ext (i := 5) rfl (wanted_0 rfl) rfl (sc TyTC.cb46 rfl (HC.mono H ?_))
     rintro _ g3 ⟨g8, c9, a1, b4, c5, rfl, H⟩
     refine ⟨g8, ?_⟩
     replace b2 := Ext.row g8 b2
     replace c1 := Ext.row g8 c1
     replace c3 := Ext.row g8 c3
     refine pp (i := 6) rfl (wanted_0 rfl) rfl (.tuple #[(.slice c9 a1 b4), (.int .i64 c5)]) (fun _ => vm rfl) ?_
     refine pp (i := 7) rfl (wanted_0 rfl) rfl (.slice c9 a1 b4) (fun _ => vx (vs := #[(.slice c9 a1 b4), (.int .i64 c5)]) rfl rfl) ?_
     refine pp (i := 8) rfl (wanted_0 rfl) rfl (.int .i64 c5) (fun _ => vx (vs := #[(.slice c9 a1 b4), (.int .i64 c5)]) rfl rfl) ?_
     refine pp (i := 9) rfl (wanted_0 rfl) rfl (.slice c9 a1 b4) (fun _ => va rfl) ?_
     refine pp (i := 10) rfl (wanted_0 rfl) rfl (.int .i64 c5) (fun _ => va rfl) ?_
     refine hp_nil ?_
     refine qn (xs ?_)
     refine xk (fun ρ h' => g3 = h' ∧ Has ρ [(3, (.slice d3 b0 b9)), (4, (ptr g 0)), (5, (ptr hv 0)), (10, (.slice (some ⟨nb, 0, none⟩) (Int.toNat r) (Int.toNat r))), (14, (.int .i64 a8)), (17, (.slice e5 d2 d4)), (18, (.int .i64 b1)), (19, (ptr f2 0)), (20, (.slice c9 a1 b4)), (61, (.slice (some ⟨e4, e3, none⟩) c0 e2)), (62, (.int .i64 (c0 : Int))), (63, (.int .i64 b1)), (88, (.bool ((c5 != 0) || (decide ((a1 : Int) > (IntKind.i64.wrap ((IntKind.i64.wrap ((((Int.toNat r) : Nat) : Int) - 24)) - a8)))))))]) ?_ ?_
     ·refine xr ?_
      refine lv rfl rfl (vm rfl) (lv rfl rfl (vr rfl rfl rfl) (lv rfl rfl (vm rfl) ?_))
      rcases bool_or (c5 != 0) with b6 | b6
      ·refine lo (wanted_n rfl rfl rfl b6) rfl ?_
       refine lo (wanted_n rfl rfl rfl b6) rfl ?_
       refine lo (wanted_n rfl rfl rfl b6) rfl ?_
       refine lo (wanted_n rfl rfl rfl b6) rfl ?_
       refine lo (wanted_n rfl rfl rfl b6) rfl ?_
       refine lo (wanted_n rfl rfl rfl b6) rfl ?_
       refine lo (wanted_n rfl rfl rfl b6) rfl ?_
       refine lo (wanted_n rfl rfl rfl b6) rfl ?_
       refine lv rfl rfl (v := (.bool true)) (hv_pick_t rfl b6 rfl) ?_
       refine ln (qn ?_)
       exact ⟨rfl, (hc rfl (hc rfl (hc rfl (hc rfl (hc rfl (hc rfl (hc rfl (hc rfl (hc rfl (hc rfl (hc rfl (hc rfl (hc (show ((.bool true) : Value) = (.bool ((c5 != 0) || (decide ((a1 : Int) > (IntKind.i64.wrap ((IntKind.i64.wrap ((((Int.toNat r) : Nat) : Int) - 24)) - a8)))))) from (by first | rfl | ((try rw [b6]); all_goals first | rfl | (simp only [Bool.true_or, Bool.or_true, Bool.false_or, Bool.or_false, Bool.true_and, Bool.and_true, Bool.false_and, Bool.and_false, Bool.not_true, Bool.not_false, Bool.cond_true, Bool.cond_false]; done)) | simp [b6])) hn)))))))))))))⟩
      ·refine ly (wanted_y rfl rfl rfl b6) rfl (HStep.of_val (v := (.slice c9 a1 b4)) (vm rfl) ?_)
       refine ly (wanted_y rfl rfl rfl b6) rfl (HStep.of_val (v := (.int .i64 (a1 : Int))) (hv_len (n := a1) TyTC.u25 rfl) ?_)
       refine ly (wanted_y rfl rfl rfl b6) rfl (HStep.of_val (v := (.slice (some ⟨nb, 0, none⟩) (Int.toNat r) (Int.toNat r))) (vm rfl) ?_)
       refine ly (wanted_y rfl rfl rfl b6) rfl (HStep.of_val (v := (.int .i64 (((Int.toNat r) : Nat) : Int))) (hv_len (n := (Int.toNat r)) TyTC.u25 rfl) ?_)
       refine ly (wanted_y rfl rfl rfl b6) rfl (HStep.of_val (v := (.int .i64 (IntKind.i64.wrap ((((Int.toNat r) : Nat) : Int) - 24)))) (vr rfl rfl rfl) ?_)
       refine ly (wanted_y rfl rfl rfl b6) rfl (HStep.of_val (v := (.int .i64 a8)) (vm rfl) ?_)
       refine ly (wanted_y rfl rfl rfl b6) rfl (HStep.of_val (v := (.int .i64 (IntKind.i64.wrap ((IntKind.i64.wrap ((((Int.toNat r) : Nat) : Int) - 24)) - a8)))) (vr rfl rfl rfl) ?_)
       refine ly (wanted_y rfl rfl rfl b6) rfl (HStep.of_val (v := (.bool (decide ((a1 : Int) > (IntKind.i64.wrap ((IntKind.i64.wrap ((((Int.toNat r) : Nat) : Int) - 24)) - a8)))))) (vr rfl rfl rfl) ?_)
       refine lv rfl rfl (v := (.bool (decide ((a1 : Int) > (IntKind.i64.wrap ((IntKind.i64.wrap ((((Int.toNat r) : Nat) : Int) - 24)) - a8)))))) (hv_pick_f rfl b6 rfl) ?_
       refine ln (qn ?_)
       exact ⟨rfl, (hc rfl (hc rfl (hc rfl (hc rfl (hc rfl (hc rfl (hc rfl (hc rfl (hc rfl (hc rfl (hc rfl (hc rfl (hc (show ((.bool (decide ((a1 : Int) > (IntKind.i64.wrap ((IntKind.i64.wrap ((((Int.toNat r) : Nat) : Int) - 24)) - a8))))) : Value) = (.bool ((c5 != 0) || (decide ((a1 : Int) > (IntKind.i64.wrap ((IntKind.i64.wrap ((((Int.toNat r) : Nat) : Int) - 24)) - a8)))))) from (by first | rfl | ((try rw [b6]); all_goals first | rfl | (simp only [Bool.true_or, Bool.or_true, Bool.false_or, Bool.or_false, Bool.true_and, Bool.and_true, Bool.false_and, Bool.and_false, Bool.not_true, Bool.not_false, Bool.cond_true, Bool.cond_false]; done)) | simp [b6])) hn)))))))))))))⟩
     ·rintro ρ _ ⟨rfl, hH⟩
      refine xh _ hH ?_
      refine xc (b := ((c5 != 0) || (decide ((a1 : Int) > (IntKind.i64.wrap ((IntKind.i64.wrap ((((Int.toNat r) : Nat) : Int) - 24)) - a8)))))) rfl (fun j6 => ?_) (fun j6 => ?_)
      ·replace H := H.1 j6
       refine xe (qe (bh (qn ?_)))
       exact ⟨_, _, _, _, ⟨H, b2, c1, trivial⟩, (hc rfl (hc rfl (hc rfl (hc rfl (hc rfl (hc rfl (hc rfl (hc rfl (hc rfl hn)))))))))⟩
      ·replace H := H.2 j6
       refine xi (qn (xs (xr ?_)))
       refine lv rfl rfl (vm rfl) (lv rfl rfl (vm rfl) ?_)
       obtain ⟨r6, p3, s4, H⟩ := H
       obtain ⟨sl, hq87⟩ : ∃ q, q = slA (some ⟨nb, 0, none⟩) (Int.toNat a8) 1 (Int.toNat r) := ⟨_, rfl⟩
       replace H := H sl hq87
       refine lv rfl rfl (v := (.slice sl (Int.toNat (((Int.toNat r) : Nat) : Int) - Int.toNat a8) ((Int.toNat r) - Int.toNat a8))) (hv_slice (l := a8) (r := (((Int.toNat r) : Nat) : Int)) TyTC.u25 TyTC.sz5 rfl (sl_some rfl) sh_none r6 p3 s4 hq87) (lv rfl rfl (vm rfl) ?_)
       refine lp rfl rfl (hs_copy rfl rfl (HCopy.mono H ?_))
       rintro _ j0 ⟨k2, o0, rfl, H⟩
       replace b2 := Kp.row k2 (by simp) b2
       replace c1 := Kp.row k2 (by simp) c1
       replace c3 := Kp.row k2 (by simp) c3
       refine ln (qn (xs (xr ?_)))
       refine lv rfl rfl (vm rfl) (lv rfl rfl (v := (ptr hv 2)) (vf TyTC.fld31_2 (b := hv) (o := 0) rfl) (lv rfl rfl (vl TyTC.agg3 rfl (rc c1 rfl)) (lv rfl rfl (vm rfl) (lv rfl rfl (vm rfl) (lv rfl rfl (v := (.int .i64 (a1 : Int))) (hv_len (n := a1) TyTC.u25 rfl) ?_)))))
       refine lv rfl rfl (vL (vs := [(.int .i64 b3), (.int .u64 a5), (.string b7), (.string a9)]) TyTC.agg43 TyTC.sz43 rfl (cc (rc c3 rfl) (cc (rc c3 rfl) (cc (rc c3 rfl) (cc (rc c3 rfl) cn))))) (lv rfl rfl (v := (.agg #[(.int .i64 a7), (.int .i64 a8), (.int .i64 (a1 : Int)), (.int .i64 b3), (.int .u64 a5), (.string b7), (.string a9)])) (vb (vs := [(0, (.int .i64 a7)), (1, (.int .i64 a8)), (2, (.int .i64 (a1 : Int))), (3, (.agg #[(.int .i64 b3), (.int .u64 a5), (.string b7), (.string a9)]))]) (cs := #[(.int .i64 a7), (.int .i64 a8), (.int .i64 (a1 : Int)), (.int .i64 b3), (.int .u64 a5), (.string b7), (.string a9)]) TyTC.z45 TyTC.pl45 rfl (by kernel_rfl)) ?_)
       refine lp rfl rfl (hn_buildSlice (n := 1) (vs := [(0, (.agg #[(.int .i64 a7), (.int .i64 a8), (.int .i64 (a1 : Int)), (.int .i64 b3), (.int .u64 a5), (.string b7), (.string a9)]))]) (cs := #[(.int .i64 a7), (.int .i64 a8), (.int .i64 (a1 : Int)), (.int .i64 b3), (.int .u64 a5), (.string b7), (.string a9)]) TyTC.u32 TyTC.sz45 TyTC.z45 rfl rfl (by kernel_rfl) ?_)
       intro i1 g2 p5 m2
       replace H := H i1 g2 p5 m2
       have k1 := ext_pushed_f64_sh m2
       replace b2 := Ext.row k1 b2
       replace c1 := Ext.row k1 c1
       replace c3 := Ext.row k1 c3
       refine lp rfl rfl (hs_append rfl rfl (HAppend.mono H ?_))
       rintro _ l2 ⟨l7, ap, e7, e6, rfl, H⟩
       replace b2 := Kp.row l7 (by simp) b2
       replace c1 := Kp.row l7 (by simp) c1
       refine lv rfl rfl (va rfl) ?_
       refine ln (qn (xs (xr ?_)))
       refine lv rfl rfl (vL (vs := [(.int .i64 a0), (.int .i64 a3), (.int .i64 a2), (.int .i64 a4)]) TyTC.agg24 TyTC.sz24 rfl (cc (rc b2 rfl) (cc (rc b2 rfl) (cc (rc b2 rfl) (cc (rc b2 rfl) cn))))) (lv rfl rfl (vm rfl) (lv rfl rfl (vm rfl) (lv rfl rfl (v := (.int .i64 (a1 : Int))) (hv_len (n := a1) TyTC.u25 rfl) (lv rfl rfl (vr rfl rfl rfl) ?_))))
       refine lp rfl rfl (sc TyTC.cb38 rfl (HC.mono H ?_))
       rintro _ g4 ⟨m1, c8, e8, rfl, H⟩
       replace b2 := Ext.row m1 b2
       replace c1 := Ext.row m1 c1
       refine lv rfl rfl (vm rfl) (lv rfl rfl (vx rfl rfl) (lv rfl rfl (vx rfl rfl) (lv rfl rfl (va rfl) (lv rfl rfl (va rfl) ?_))))
       refine ln (qn ?_)
       obtain ⟨c2, k9, l0⟩ := H
       refine xk (fun ρ h' => g4 = h' ∧ Has ρ [(3, (.slice d3 b0 b9)), (4, (ptr g 0)), (5, (ptr hv 0)), (10, (.slice (some ⟨nb, 0, none⟩) (Int.toNat r) (Int.toNat r))), (14, (.int .i64 a8)), (17, (.slice ap e7 e6)), (20, (.slice c9 a1 b4)), (22, (.int .i64 c2)), (61, (.slice (some ⟨e4, e3, none⟩) c0 e2)), (62, (.int .i64 (c0 : Int))), (63, (.int .i64 b1))]) ?_ ?_
       ·have H := k9; clear k9 l0
        obtain ⟨g0, k6, k4⟩ := H
        refine xk (fun ρ h' => g4 = h' ∧ Has ρ [(3, (.slice d3 b0 b9)), (4, (ptr g 0)), (5, (ptr hv 0)), (10, (.slice (some ⟨nb, 0, none⟩) (Int.toNat r) (Int.toNat r))), (14, (.int .i64 a8)), (17, (.slice ap e7 e6)), (20, (.slice c9 a1 b4)), (22, (.int .i64 c8)), (61, (.slice (some ⟨e4, e3, none⟩) c0 e2)), (62, (.int .i64 (c0 : Int))), (63, (.int .i64 b1)), (122, (.bool g0))]) ?_ ?_
        ·have H := k6; clear k6 k4
         refine xr ?_
         refine lv rfl rfl (vm rfl) (lv rfl rfl (vm rfl) (lv rfl rfl (v := (.int .i64 (b0 : Int))) (hv_len (n := b0) TyTC.u48 rfl) (lv rfl rfl (vr rfl rfl rfl) (lv rfl rfl (vm rfl) ?_))))
         rcases bool_or (decide (b1 < (b0 : Int))) with d5 | d5
         ·replace H := H.1 d5
          refine ly (wanted_y rfl rfl rfl d5) rfl (HStep.of_val (v := (.slice d3 b0 b9)) (vm rfl) ?_)
          refine ly (wanted_y rfl rfl rfl d5) rfl (HStep.of_val (v := (.int .i64 b1)) (vm rfl) ?_)
          obtain ⟨f1, f0, m4, p1, n6, Hq⟩ := H
          subst m4
          have H := Hq; clear Hq
          refine ly (wanted_y rfl rfl rfl d5) rfl (HStep.of_val (v := (ptr f1 (f0 + (Int.toNat b1) * 1))) (vi TyTC.el48 rfl rfl p1 n6) ?_)
          obtain ⟨x, n0, H⟩ := H
          refine ly (wanted_y rfl rfl rfl d5) rfl (HStep.of_val (v := (.bool x)) (vl TyTC.agg4 rfl n0) ?_)
          refine lv rfl rfl (v := (.bool x)) (hv_pick_t rfl d5 rfl) ?_
          refine ln (qn ?_)
          obtain rfl := H
          exact ⟨rfl, (hc rfl (hc rfl (hc rfl (hc rfl (hc rfl (hc rfl (hc rfl (hc rfl (hc rfl (hc rfl (hc rfl (hc rfl hn))))))))))))⟩
         ·replace H := H.2 d5
          refine lo (wanted_n rfl rfl rfl d5) rfl ?_
          refine lo (wanted_n rfl rfl rfl d5) rfl ?_
          refine lo (wanted_n rfl rfl rfl d5) rfl ?_
          refine lo (wanted_n rfl rfl rfl d5) rfl ?_
          refine lv rfl rfl (v := (.bool false)) (hv_pick_f rfl d5 rfl) ?_
          refine ln (qn ?_)
          obtain rfl := H
          exact ⟨rfl, (hc rfl (hc rfl (hc rfl (hc rfl (hc rfl (hc rfl (hc rfl (hc rfl (hc rfl (hc rfl (hc rfl (hc rfl hn))))))))))))⟩
        ·have H := k4; clear k6 k4
         rintro ρ _ ⟨rfl, hH⟩
         refine xh _ hH ?_
         refine xc (b := g0) rfl (fun g9 => ?_) (fun g9 => ?_)
         ·replace H := H.1 g9
          refine hx_draw TyTC.mixed [.pure, .pure, .read, .pure, .pure, .pure, .read, .pure, .pure, .read, .pure, .pure] [0, 1, 2, 3, 4, 5, 6, 7, 8, 9, 10, 11] (by kernel_rfl) ?_
          refine pp (i := 0) rfl (wanted_0 rfl) rfl (.int .i64 c8) (fun _ => vm rfl) ?_
          refine pp (i := 1) rfl (wanted_0 rfl) rfl (ptr g 0) (fun _ => vf TyTC.fld24_0 (b := g) (o := 0) rfl) ?_
          refine pr (i := 2) rfl (wanted_0 rfl) rfl (.int .i64 a0) (fun _ he => vl TyTC.agg3 rfl (Ext.cell he (rc b2 rfl))) ?_
          refine pp (i := 3) rfl (wanted_0 rfl) rfl (.int .i64 (IntKind.i64.wrap (c8 + a0))) (fun _ => vr rfl rfl rfl) ?_
          refine pp (i := 4) rfl (wanted_0 rfl) rfl (.int .i64 (IntKind.i64.wrap ((IntKind.i64.wrap (c8 + a0)) - 1))) (fun _ => vr rfl rfl rfl) ?_
          refine pp (i := 5) rfl (wanted_0 rfl) rfl (ptr g 0) (fun _ => vf TyTC.fld24_0 (b := g) (o := 0) rfl) ?_
          refine pr (i := 6) rfl (wanted_0 rfl) rfl (.int .i64 a0) (fun _ he => vl TyTC.agg3 rfl (Ext.cell he (rc b2 rfl))) ?_
          obtain ⟨n7, H⟩ := H
          refine pp (i := 7) rfl (wanted_0 rfl) rfl (.int .i64 (IntKind.i64.wrap (Int.tdiv (IntKind.i64.wrap ((IntKind.i64.wrap (c8 + a0)) - 1)) a0))) (fun _ => hv_quo rfl rfl n7) ?_
          refine pp (i := 8) rfl (wanted_0 rfl) rfl (ptr g 0) (fun _ => vf TyTC.fld24_0 (b := g) (o := 0) rfl) ?_
          refine pr (i := 9) rfl (wanted_0 rfl) rfl (.int .i64 a0) (fun _ he => vl TyTC.agg3 rfl (Ext.cell he (rc b2 rfl))) ?_
          refine pp (i := 10) rfl (wanted_0 rfl) rfl (.int .i64 (IntKind.i64.wrap ((IntKind.i64.wrap (Int.tdiv (IntKind.i64.wrap ((IntKind.i64.wrap (c8 + a0)) - 1)) a0)) * a0))) (fun _ => vr rfl rfl rfl) ?_
          refine pp (i := 11) rfl (wanted_0 rfl) rfl (.int .i64 (IntKind.i64.wrap ((IntKind.i64.wrap (Int.tdiv (IntKind.i64.wrap ((IntKind.i64.wrap (c8 + a0)) - 1)) a0)) * a0))) (fun _ => va rfl) ?_
          refine hp_nil ?_
          refine qn ?_
          obtain rfl := H
          exact ⟨rfl, (hc rfl (hc rfl (hc rfl (hc rfl (hc rfl (hc rfl (hc rfl (hc rfl (hc rfl (hc rfl (hc rfl hn)))))))))))⟩
         ·replace H := H.2 g9
          refine xi (qn ?_)
          obtain rfl := H
          exact ⟨rfl, (hc rfl (hc rfl (hc rfl (hc rfl (hc rfl (hc rfl (hc rfl (hc rfl (hc rfl (hc rfl (hc rfl hn)))))))))))⟩
       ·have H := l0; clear k9 l0
        rintro ρ _ ⟨rfl, hH⟩
        refine xh _ hH ?_
        refine xs (xs (xr ?_))
        refine lv rfl rfl (vm rfl) (lv rfl rfl (vm rfl) (lv rfl rfl (v := (.int .i64 (a1 : Int))) (hv_len (n := a1) TyTC.u25 rfl) (lv rfl rfl (vr rfl rfl rfl) (lv rfl rfl (va rfl) ?_))))
        refine ln (qn (xb ?_))
        obtain ⟨f8, f7, n3, n5⟩ := H
        refine xl (σ := Int) (fun s => [(3, (.slice d3 b0 b9)), (4, (ptr g 0)), (5, (ptr hv 0)), (10, (.slice (some ⟨nb, 0, none⟩) (Int.toNat r) (Int.toNat r))), (17, (.slice ap e7 e6)), (22, (.int .i64 c2)), (24, (.int .i64 s)), (61, (.slice (some ⟨e4, e3, none⟩) c0 e2)), (62, (.int .i64 (c0 : Int))), (63, (.int .i64 b1))]) (fun s h' => f8 s h' ∧ h'[g]? = some (.cells #[(.int .i64 a0), (.int .i64 a3), (.int .i64 a2), (.int .i64 a4)] 24 (0, 0)) ∧ h'[hv]? = some (.cells #[(.int .u64 b5), (.int .u64 a6), (.int .i64 a7)] 31 (0, 0)) ∧ True) (fun s h' => f7 s h') (IntKind.i64.wrap (a8 + (a1 : Int))) ⟨n3, b2, c1, trivial⟩ (hc rfl (hc rfl (hc rfl (hc rfl (hc rfl (hc rfl (hc rfl (hc rfl (hc rfl (hc rfl hn)))))))))) ?_
        rintro k ρ f4 ⟨n4, f5, f6, -⟩
        have H := n5 k f4 n4
        refine xs ?_
        refine xk (fun ρ h' => f4 = h' ∧ Has ρ [(3, (.slice d3 b0 b9)), (4, (ptr g 0)), (5, (ptr hv 0)), (10, (.slice (some ⟨nb, 0, none⟩) (Int.toNat r) (Int.toNat r))), (17, (.slice ap e7 e6)), (22, (.int .i64 c2)), (24, (.int .i64 k)), (61, (.slice (some ⟨e4, e3, none⟩) c0 e2)), (62, (.int .i64 (c0 : Int))), (63, (.int .i64 b1)), (147, (.bool ((decide (k < c2)) && (decide (k < (IntKind.i64.wrap ((((Int.toNat r) : Nat) : Int) - 24)))))))]) ?_ ?_
        ·refine xr ?_
         refine lv rfl rfl (vm rfl) (lv rfl rfl (vm rfl) (lv rfl rfl (vr rfl rfl rfl) (lv rfl rfl (vm rfl) ?_)))
         rcases bool_or (decide (k < c2)) with b8 | b8
         ·refine ly (wanted_y rfl rfl rfl b8) rfl (HStep.of_val (v := (.int .i64 k)) (vm rfl) ?_)
          refine ly (wanted_y rfl rfl rfl b8) rfl (HStep.of_val (v := (.slice (some ⟨nb, 0, none⟩) (Int.toNat r) (Int.toNat r))) (vm rfl) ?_)
          refine ly (wanted_y rfl rfl rfl b8) rfl (HStep.of_val (v := (.int .i64 (((Int.toNat r) : Nat) : Int))) (hv_len (n := (Int.toNat r)) TyTC.u25 rfl) ?_)
          refine ly (wanted_y rfl rfl rfl b8) rfl (HStep.of_val (v := (.int .i64 (IntKind.i64.wrap ((((Int.toNat r) : Nat) : Int) - 24)))) (vr rfl rfl rfl) ?_)
          refine ly (wanted_y rfl rfl rfl b8) rfl (HStep.of_val (v := (.bool (decide (k < (IntKind.i64.wrap ((((Int.toNat r) : Nat) : Int) - 24)))))) (vr rfl rfl rfl) ?_)
          refine lv rfl rfl (v := (.bool (decide (k < (IntKind.i64.wrap ((((Int.toNat r) : Nat) : Int) - 24)))))) (hv_pick_t rfl b8 rfl) ?_
          refine ln (qn ?_)
          exact ⟨rfl, (hc rfl (hc rfl (hc rfl (hc rfl (hc rfl (hc rfl (hc rfl (hc rfl (hc rfl (hc rfl (hc (show ((.bool (decide (k < (IntKind.i64.wrap ((((Int.toNat r) : Nat) : Int) - 24))))) : Value) = (.bool ((decide (k < c2)) && (decide (k < (IntKind.i64.wrap ((((Int.toNat r) : Nat) : Int) - 24)))))) from (by first | rfl | ((try rw [b8]); all_goals first | rfl | (simp only [Bool.true_or, Bool.or_true, Bool.false_or, Bool.or_false, Bool.true_and, Bool.and_true, Bool.false_and, Bool.and_false, Bool.not_true, Bool.not_false, Bool.cond_true, Bool.cond_false]; done)) | simp [b8])) hn)))))))))))⟩
         ·refine lo (wanted_n rfl rfl rfl b8) rfl ?_
          refine lo (wanted_n rfl rfl rfl b8) rfl ?_
          refine lo (wanted_n rfl rfl rfl b8) rfl ?_
          refine lo (wanted_n rfl rfl rfl b8) rfl ?_
          refine lo (wanted_n rfl rfl rfl b8) rfl ?_
          refine lv rfl rfl (v := (.bool false)) (hv_pick_f rfl b8 rfl) ?_
          refine ln (qn ?_)
          exact ⟨rfl, (hc rfl (hc rfl (hc rfl (hc rfl (hc rfl (hc rfl (hc rfl (hc rfl (hc rfl (hc rfl (hc (show ((.bool false) : Value) = (.bool ((decide (k < c2)) && (decide (k < (IntKind.i64.wrap ((((Int.toNat r) : Nat) : Int) - 24)))))) from (by first | rfl | ((try rw [b8]); all_goals first | rfl | (simp only [Bool.true_or, Bool.or_true, Bool.false_or, Bool.or_false, Bool.true_and, Bool.and_true, Bool.false_and, Bool.and_false, Bool.not_true, Bool.not_false, Bool.cond_true, Bool.cond_false]; done)) | simp [b8])) hn)))))))))))⟩
        ·rintro ρ _ ⟨rfl, hH⟩
         refine xh _ hH ?_
         refine xc (b := ((decide (k < c2)) && (decide (k < (IntKind.i64.wrap ((((Int.toNat r) : Nat) : Int) - 24)))))) rfl (fun g7 => ?_) (fun g7 => ?_)
         ·replace H := H.1 g7
          refine xi (qn (xs (xb (xr ?_))))
          refine lv rfl rfl (vm rfl) (lv rfl rfl (vm rfl) ?_)
          obtain ⟨n8, n2, H⟩ := H
          refine lv rfl rfl (v := (ptr nb (0 + (Int.toNat k) * 1))) (vi TyTC.el25 rfl rfl n8 n2) ?_
          obtain ⟨n1, l1, H⟩ := H
          refine lp rfl rfl (hn_store (v := (.int .u8 0)) rfl rfl TyTC.sz5 rfl n1 ?_)
          intro j4 g6
          replace H := H j4 g6
          replace f5 := row_hset_ne g6 (l1 _ (by simp)) f5
          replace f6 := row_hset_ne g6 (l1 _ (by simp)) f6
          refine ln (bn (qn (xr ?_)))
          refine lv rfl rfl (vm rfl) (lv rfl rfl (vr rfl rfl rfl) (lv rfl rfl (va rfl) ?_))
          refine ln (qn ?_)
          exact ⟨IntKind.i64.wrap (k + 1), ⟨⟨H.1, f5, f6, trivial⟩, H.2⟩, (hc rfl (hc rfl (hc rfl (hc rfl (hc rfl (hc rfl (hc rfl (hc rfl (hc rfl (hc rfl hn))))))))))⟩
         ·replace H := H.2 g7
          refine xe (qe (qe (bh (qn (xr ?_)))))
          refine lv rfl rfl (vm rfl) (lv rfl rfl (va rfl) ?_)
          refine ln (bn (qn ?_))
          exact ⟨_, _, _, _, ⟨H, f5, f6, trivial⟩, (hc rfl (hc rfl (hc rfl (hc rfl (hc rfl (hc rfl (hc rfl (hc rfl (hc rfl hn)))))))))⟩
    ·rintro ρ i7 ⟨d7, d8, c6, c7, ⟨r8, p6, o9, -⟩, hH⟩
     have H := k0 d7 d8 c6 c7 i7 r8; clear j8 k0
     refine xh _ hH ?_
     refine xr ?_
     refine lv rfl rfl (vr rfl rfl rfl) (lv rfl rfl (vm rfl) ?_)
     refine ln (qn ?_)
     exact ⟨(d7, d8, c6, c7, IntKind.i64.wrap (b1 + 1)), ⟨⟨H.1, p6, o9, trivial⟩, H.2⟩, (hc rfl (hc rfl (hc rfl (hc rfl (hc rfl (hc rfl (hc rfl (hc rfl (hc rfl hn)))))))))⟩
   ·replace H := H.2 k8
    refine xe (qe (qe (bh (qn (xs (xr ?_))))))
    refine lv rfl rfl (vm rfl) (lv rfl rfl (vm rfl) (lv rfl rfl (va rfl) (lv rfl rfl (va rfl) ?_)))
    refine ln (qn (xt ?_))
    exact endQ_ret _ (res_two Tryd.results18 (rv_tmp rfl) (rv_tmp rfl)) H
theorem f19_sh (a : Option Addr) (b4 : Nat) (c0 : Nat) (b : Option Addr) (b5 : Nat) (c1 : Nat) (h : Heap) (R : Value → Heap → Prop)
  (H : ((((b4 : Int) != (b5 : Int)) = true → R (.bool false) h) ∧ (((b4 : Int) != (b5 : Int)) = false → (∃ (I2 : Int → Prop) (c3 : Int → Nat), I2 0 ∧ (∀ (v : Int), I2 v → (((decide (v < (b4 : Int))) = true → (∃ b7 b9 : Nat, a = some ⟨b7, b9, none⟩ ∧ (0 : Int) ≤ v ∧ v < (b4 : Int) ∧ (∃ b0 b2 b3 a6 a1 : Int, ∃ a7 a4 : ByteArray, hcell h b7 (b9 + (Int.toNat v) * 7) = some (.int .i64 b0) ∧ hcell h b7 ((b9 + (Int.toNat v) * 7) + 1) = some (.int .i64 b2) ∧ hcell h b7 ((b9 + (Int.toNat v) * 7) + 2) = some (.int .i64 b3) ∧ hcell h b7 ((b9 + (Int.toNat v) * 7) + 3) = some (.int .i64 a6) ∧ hcell h b7 ((b9 + (Int.toNat v) * 7) + 4) = some (.int .u64 a1) ∧ hcell h b7 ((b9 + (Int.toNat v) * 7) + 5) = some (.string a7) ∧ hcell h b7 ((b9 + (Int.toNat v) * 7) + 6) = some (.string a4) ∧ (∃ b6 b8 : Nat, b = some ⟨b6, b8, none⟩ ∧ (0 : Int) ≤ v ∧ v < (b5 : Int) ∧ (∃ a8 a9 b1 a3 a0 : Int, ∃ a5 a2 : ByteArray, hcell h b6 (b8 + (Int.toNat v) * 7) = some (.int .i64 a8) ∧ hcell h b6 ((b8 + (Int.toNat v) * 7) + 1) = some (.int .i64 a9) ∧ hcell h b6 ((b8 + (Int.toNat v) * 7) + 2) = some (.int .i64 b1) ∧ hcell h b6 ((b8 + (Int.toNat v) * 7) + 3) = some (.int .i64 a3) ∧ hcell h b6 ((b8 + (Int.toNat v) * 7) + 4) = some (.int .u64 a0) ∧ hcell h b6 ((b8 + (Int.toNat v) * 7) + 5) = some (.string a5) ∧ hcell h b6 ((b8 + (Int.toNat v) * 7) + 6) = some (.string a2) ∧ (((!((b0 == a8 && (b2 == a9 && (b3 == b1 && ((a6 == a3 && (a1 == a0 && (a7 == a5 && (a4 == a2 && true)))) && true)))))) = true → R (.bool false) h) ∧ ((!((b0 == a8 && (b2 == a9 && (b3 == b1 && ((a6 == a3 && (a1 == a0 && (a7 == a5 && (a4 == a2 && true)))) && true)))))) = false → (I2 (IntKind.i64.wrap (v + 1)) ∧ c3 (IntKind.i64.wrap (v + 1)) < c3 v)))))))) ∧ ((decide (v < (b4 : Int))) = false → R (.bool true) h))))))) :
  HC Tryd.prog 19 #[(.slice a b4 c0), (.slice b b5 c1)] h R := by
 refine hc_of (args := [(.slice a b4 c0), (.slice b b5 c1)]) Tryd.func19 rfl Tryd.ntmps19 (Nat.le_of_ble_eq_true rfl) ?_
 refine xs (xr ?_)
 refine lv rfl rfl (va rfl) ?_
 refine ln (qn (xs (xs (xr ?_))))
 refine lv rfl rfl (vm rfl) (lv rfl rfl (v := (.int .i64 (b4 : Int))) (hv_len (n := b4) TyTC.u32 rfl) (lv rfl rfl (vm rfl) (lv rfl rfl (v := (.int .i64 (b5 : Int))) (hv_len (n := b5) TyTC.u32 rfl) (lv rfl rfl (vr rfl rfl rfl) ?_))))
 refine ln (qn ?_)
 refine xc (b := (b4 : Int) != (b5 : Int)) rfl (fun c4 => ?_) (fun c4 => ?_)
 ·replace H := H.1 c4
  refine xs (xr ?_)
  refine lv rfl rfl (va rfl) ?_
  refine ln (qn (xt (qr ?_)))
  exact endQ_ret _ (res_one Tryd.results19 (rv_tmp rfl)) H
 ·replace H := H.2 c4
  refine xi (qn (xs (xs (xr ?_))))
  refine lv rfl rfl (vm rfl) (lv rfl rfl (v := (.int .i64 (b4 : Int))) (hv_len (n := b4) TyTC.u32 rfl) (lv rfl rfl (vm rfl) ?_))
  refine ln (qn (xb ?_))
  obtain ⟨I2, c3, e5, e4⟩ := H
  refine xl (σ := Int) (fun s => [(0, (.slice a b4 c0)), (1, (.slice b b5 c1)), (12, (.int .i64 (b4 : Int))), (13, (.int .i64 s))]) (fun s h' => I2 s ∧ h = h') (fun s _ => c3 s) 0 ⟨e5, rfl⟩ (hc rfl (hc rfl (hc rfl (hc rfl hn)))) ?_
  rintro v ρ _ ⟨e3, rfl⟩
  have H := e4 v e3
  refine xs (xr ?_)
  refine lv rfl rfl (vr rfl rfl rfl) ?_
  refine ln (qn (xs ?_))
  refine xc (b := decide (v < (b4 : Int))) rfl (fun c5 => ?_) (fun c5 => ?_)
  ·replace H := H.1 c5
   refine xi (qn (xs (xb (xs (xr ?_)))))
   refine lv rfl rfl (vm rfl) (lv rfl rfl (va rfl) ?_)
   refine ln (qn (xs ?_))
   refine hx_draw TyTC.mixed [.pure, .pure, .pure, .read, .pure, .pure, .pure, .read, .pure] [0, 1, 2, 3, 4, 5, 6, 7, 8] (by kernel_rfl) ?_
   refine pp (i := 0) rfl (wanted_0 rfl) rfl (.slice a b4 c0) (fun _ => vm rfl) ?_
   refine pp (i := 1) rfl (wanted_0 rfl) rfl (.int .i64 v) (fun _ => vm rfl) ?_
   obtain ⟨b7, b9, c6, e7, e6, Hq⟩ := H
   subst c6
   have H := Hq; clear Hq
   refine pp (i := 2) rfl (wanted_0 rfl) rfl (ptr b7 (b9 + (Int.toNat v) * 7)) (fun _ => vi TyTC.el32 rfl rfl e7 e6) ?_
   obtain ⟨b0, b2, b3, a6, a1, a7, a4, d8, d3, d7, d9, e0, e1, d6, H⟩ := H
   refine pr (i := 3) rfl (wanted_0 rfl) rfl (.agg #[(.int .i64 b0), (.int .i64 b2), (.int .i64 b3), (.int .i64 a6), (.int .u64 a1), (.string a7), (.string a4)]) (fun _ he => vL (vs := [(.int .i64 b0), (.int .i64 b2), (.int .i64 b3), (.int .i64 a6), (.int .u64 a1), (.string a7), (.string a4)]) TyTC.agg45 TyTC.sz45 rfl (cc (Ext.cell he d8) (cc (Ext.cell he d3) (cc (Ext.cell he d7) (cc (Ext.cell he d9) (cc (Ext.cell he e0) (cc (Ext.cell he e1) (cc (Ext.cell he d6) cn)))))))) ?_
   refine pp (i := 4) rfl (wanted_0 rfl) rfl (.slice b b5 c1) (fun _ => vm rfl) ?_
   refine pp (i := 5) rfl (wanted_0 rfl) rfl (.int .i64 v) (fun _ => vm rfl) ?_
   obtain ⟨b6, b8, c6, e2, d5, Hq⟩ := H
   subst c6
   have H := Hq; clear Hq
   refine pp (i := 6) rfl (wanted_0 rfl) rfl (ptr b6 (b8 + (Int.toNat v) * 7)) (fun _ => vi TyTC.el32 rfl rfl e2 d5) ?_
   obtain ⟨a8, a9, b1, a3, a0, a5, a2, d1, c7, c9, d4, d0, c8, d2, H⟩ := H
   refine pr (i := 7) rfl (wanted_0 rfl) rfl (.agg #[(.int .i64 a8), (.int .i64 a9), (.int .i64 b1), (.int .i64 a3), (.int .u64 a0), (.string a5), (.string a2)]) (fun _ he => vL (vs := [(.int .i64 a8), (.int .i64 a9), (.int .i64 b1), (.int .i64 a3), (.int .u64 a0), (.string a5), (.string a2)]) TyTC.agg45 TyTC.sz45 rfl (cc (Ext.cell he d1) (cc (Ext.cell he c7) (cc (Ext.cell he c9) (cc (Ext.cell he d4) (cc (Ext.cell he d0) (cc (Ext.cell he c8) (cc (Ext.cell he d2) cn)))))))) ?_
   refine pp (i := 8) rfl (wanted_0 rfl) rfl (.bool (!((b0 == a8 && (b2 == a9 && (b3 == b1 && ((a6 == a3 && (a1 == a0 && (a7 == a5 && (a4 == a2 && true)))) && true))))))) (fun _ => hv_structEqD (xs := [(.int .i64 b0), (.int .i64 b2), (.int .i64 b3), (.int .i64 a6), (.int .u64 a1), (.string a7), (.string a4)]) (ys := [(.int .i64 a8), (.int .i64 a9), (.int .i64 b1), (.int .i64 a3), (.int .u64 a0), (.string a5), (.string a2)]) (b := (b0 == a8 && (b2 == a9 && (b3 == b1 && ((a6 == a3 && (a1 == a0 && (a7 == a5 && (a4 == a2 && true)))) && true))))) TyTC.gd45 rfl rfl (by kernel_rfl) rfl) ?_
   refine hp_nil ?_
   refine qn ?_
   refine xc (b := !((b0 == a8 && (b2 == a9 && (b3 == b1 && ((a6 == a3 && (a1 == a0 && (a7 == a5 && (a4 == a2 && true)))) && true)))))) rfl (fun c2 => ?_) (fun c2 => ?_)
   ·replace H := H.1 c2
    refine xs (xr ?_)
    refine lv rfl rfl (va rfl) ?_
    refine ln (qn (xt (br (qr (qr (br (qr ?_)))))))
    exact endQ_ret _ (res_one Tryd.results19 (rv_tmp rfl)) H
   ·replace H := H.2 c2
    refine xi (bn (qn (xr ?_)))
    refine lv rfl rfl (vr rfl rfl rfl) (lv rfl rfl (vm rfl) ?_)
    refine ln (qn ?_)
    exact ⟨IntKind.i64.wrap (v + 1), ⟨⟨H.1, rfl⟩, H.2⟩, (hc rfl (hc rfl (hc rfl (hc rfl hn))))⟩
  ·replace H := H.2 c5
   refine xe (qe (qe (bh (qn (xs (xr ?_))))))
   refine lv rfl rfl (va rfl) ?_
   refine ln (qn (xt ?_))
   exact endQ_ret _ (res_one Tryd.results19 (rv_tmp rfl)) H
theorem f34_sh (a7 : Int) (a3 : Int) (a1 : Int) (a2 : Int) (a8 : Option Addr) (a5 : Nat) (a4 : Nat) (a9 : Nat) (b0 : Nat) (h : Heap) (R : Value → Heap → Prop)
  (H : (∀ g h1, g = Array.size h → h1 = Array.push h (.cells #[(.int .i64 a7), (.int .i64 a3), (.int .i64 a1), (.int .i64 a2)] 24) → (∀ a0 h2, a0 = Array.size h1 → h2 = Array.push h1 (.cells #[(.slice a8 a5 a4)] 25) → (∀ a6 h3, a6 = Array.size h2 → h3 = Array.push h2 (.cells #[(ptr a9 b0)] 85) → R (.func (.func 64) #[] #[(ptr g 0), (ptr a0 0), (ptr a6 0)]) h3)))) :
  HC Tryd.prog 34 #[(.agg #[(.int .i64 a7), (.int .i64 a3), (.int .i64 a1), (.int .i64 a2)]), (.slice a8 a5 a4), (ptr a9 b0)] h R := by
 refine hc_of (args := [(.agg #[(.int .i64 a7), (.int .i64 a3), (.int .i64 a1), (.int .i64 a2)]), (.slice a8 a5 a4), (ptr a9 b0)]) Tryd.func34 rfl Tryd.ntmps34 (Nat.le_of_ble_eq_true rfl) ?_
 refine xs (xr ?_)
 refine lp rfl rfl (hn_box (v := (.agg #[(.int .i64 a7), (.int .i64 a3), (.int .i64 a1), (.int .i64 a2)])) rfl ?_)
 intro g h1 b5 b1
 replace H := H g h1 b5 b1
 have b8 := ext_pushed_f64_sh b1
 refine lp rfl rfl (hn_box (v := (.slice a8 a5 a4)) rfl ?_)
 intro a0 h2 b6 b2
 replace H := H a0 h2 b6 b2
 have b9 := ext_pushed_f64_sh b2
 refine lp rfl rfl (hn_box (v := (ptr a9 b0)) rfl ?_)
 intro a6 h3 b4 b3
 replace H := H a6 h3 b4 b3
 have b7 := ext_pushed_f64_sh b3
 refine lv rfl rfl (va rfl) ?_
 refine ln (qn (xs (xr ?_)))
 refine lv rfl rfl (v := (.func (.func 64) #[] #[(ptr g 0), (ptr a0 0), (ptr a6 0)])) (hv_makeFunc (fv := []) (cv := [(ptr g 0), (ptr a0 0), (ptr a6 0)]) rfl rfl) (lv rfl rfl (va rfl) ?_)
 refine ln (qn (xt ?_))
 exact endQ_ret _ (res_one Tryd.results34 (rv_tmp rfl)) H
theorem f64_sh (e6 : Value) (a3 : Nat) (a2 : Nat) (e3 : Nat) (e2 : Nat) (d4 : Nat) (d5 : Nat) (h : Heap) (R : Value → Heap → Prop)
  (H : (∃ d8 d3 c3 d2 : Int, hcell h a3 a2 = some (.int .i64 d8) ∧ hcell h a3 (a2 + 1) = some (.int .i64 d3) ∧ hcell h a3 (a2 + 2) = some (.int .i64 c3) ∧ hcell h a3 (a2 + 3) = some (.int .i64 d2) ∧ (∃ x : Option Addr, ∃ f7 f6 : Nat, hcell h e3 e2 = some (.slice x f7 f6) ∧ HC Tryd.prog 32 #[(.agg #[(.int .i64 d8), (.int .i64 d3), (.int .i64 c3), (.int .i64 d2)]), (.slice x f7 f6)] h (fun vv h1 => Ext h h1 ∧ ∃ b0 a5 a4 r1 : Int, vv = (.tuple #[(.agg #[(.int .u64 b0), (.int .u64 a5), (.int .i64 a4)]), (.int .i64 r1)]) ∧ (((r1 != 0) = true → (∃ e4 : Option Addr, hcell h1 d4 d5 = some (.pointer e4) ∧ (∃ b6 b9 : Nat, e4 = some ⟨b6, b9, none⟩ ∧ (∀ (hv : Nat) (h3 : Heap), Array.size h1 ≤ hv → hv < Array.size h3 → Ext h1 h3 → (HWs h3 b6 b9 2 ∧ Off b6 [hv] ∧ ∀ h4, h4 = hsets h3 b6 b9 [(.int .i64 0), (.int .i64 1)] → R (.tuple #[]) h4))))) ∧ ((r1 != 0) = false → (∀ (hv : Nat) (h3 : Heap), Array.size h1 ≤ hv → hv < Array.size h3 → Ext h1 h3 → (∃ r : Int, HC Tryd.prog 36 #[(.int .u64 a5)] h3 (fun vv h' => vv = (.int .u32 r) ∧ h' = h3) ∧ (∃ c9 c5 b1 c4 : Int, hcell h3 a3 a2 = some (.int .i64 c9) ∧ hcell h3 a3 (a2 + 1) = some (.int .i64 c5) ∧ hcell h3 a3 (a2 + 2) = some (.int .i64 b1) ∧ hcell h3 a3 (a2 + 3) = some (.int .i64 c4) ∧ HC Tryd.prog 33 #[(.agg #[(.int .i64 c9), (.int .i64 c5), (.int .i64 b1), (.int .i64 c4)]), (.int .i64 32)] h3 (fun vv h5 => Ext h3 h5 ∧ ∃ r0 e5 : Int, vv = (.tuple #[(.int .i64 r0), (.int .i64 e5)]) ∧ (∃ (f5 : Int → Heap → Prop) (f2 : Int → Heap → Nat), f5 r0 h5 ∧ (∀ (a0 : Int) (h6 : Heap), f5 a0 h6 → (∃ e4 : Option Addr, ∃ b7 e0 : Nat, hcell h6 e3 e2 = some (.slice e4 b7 e0) ∧ (((decide ((IntKind.i64.wrap ((IntKind.i64.wrap (a0 + 24)) + 24)) ≤ (b7 : Int))) = true → (∃ b6 b9 : Nat, e4 = some ⟨b6, b9, none⟩ ∧ (0 : Int) ≤ a0 ∧ a0 < (b7 : Int) ∧ (∃ c8 : Int, hcell h6 b6 (b9 + (Int.toNat a0) * 1) = some (.int .u8 c8) ∧ (((c8 == 0) = true → (∃ a9 : Int, hcell h6 a3 a2 = some (.int .i64 a9) ∧ (a9 ≠ 0 ∧ (f5 (IntKind.i64.wrap ((IntKind.i64.wrap ((IntKind.i64.wrap (Int.tdiv a0 a9)) + 1)) * a9)) h6 ∧ f2 (IntKind.i64.wrap ((IntKind.i64.wrap ((IntKind.i64.wrap (Int.tdiv a0 a9)) + 1)) * a9)) h6 < f2 a0 h6)))) ∧ ((c8 == 0) = false → (((c8 == 255) = true → (∃ a9 : Option Addr, hcell h6 d4 d5 = some (.pointer a9) ∧ (∃ b8 c7 : Nat, a9 = some ⟨b8, c7, none⟩ ∧ (HWs h6 b8 c7 2 ∧ Off b8 [hv] ∧ ∀ h7, h7 = hsets h6 b8 c7 [(.int .i64 a0), (.int .i64 2)] → R (.tuple #[]) h7)))) ∧ ((c8 == 255) = false → (∃ d0 c0 b2 c1 : Int, hcell h6 a3 a2 = some (.int .i64 d0) ∧ hcell h6 a3 (a2 + 1) = some (.int .i64 c0) ∧ hcell h6 a3 (a2 + 2) = some (.int .i64 b2) ∧ hcell h6 a3 (a2 + 3) = some (.int .i64 c1) ∧ HC Tryd.prog 65 #[(.agg #[(.int .i64 d0), (.int .i64 c0), (.int .i64 b2), (.int .i64 c1)]), (.int .u32 r), (.slice (some ⟨b6, b9, none⟩) b7 e0), (.int .i64 a0)] h6 (fun vv h8 => Ext h6 h8 ∧ ∃ a7 a1 : Int, ∃ a8 a6 : ByteArray, ∃ b5 r2 : Int, vv = (.tuple #[(.agg #[(.int .i64 a7), (.int .u64 a1), (.string a8), (.string a6)]), (.int .i64 b5), (.int .i64 r2)]) ∧ (((r2 != 0) = true → (∃ a9 : Option Addr, hcell h8 d4 d5 = some (.pointer a9) ∧ (∃ b8 c7 : Nat, a9 = some ⟨b8, c7, none⟩ ∧ (∀ (f3 : Nat) (e1 : Heap), Array.size h8 ≤ f3 → f3 < Array.size e1 → Ext h8 e1 → (HWs e1 b8 c7 2 ∧ Off b8 [hv, f3] ∧ ∀ i2, i2 = hsets e1 b8 c7 [(.int .i64 a0), (.int .i64 3)] → R (.tuple #[]) i2))))) ∧ ((r2 != 0) = false → (∀ (e1 : Heap), Ext h8 e1 → HCV Tryd.prog e6 [(.agg #[(.int .i64 a4), (.int .i64 a0), (.int .i64 b5), (.int .i64 a7), (.int .u64 a1), (.string a8), (.string a6)])] e1 (fun vv e9 => Kp [hv] e1 e9 ∧ ∃ f4 : Bool, vv = (.bool f4) ∧ (((!f4) = true → R (.tuple #[]) e9) ∧ ((!f4) = false → (∃ d1 c6 b3 c2 : Int, hcell e9 a3 a2 = some (.int .i64 d1) ∧ hcell e9 a3 (a2 + 1) = some (.int .i64 c6) ∧ hcell e9 a3 (a2 + 2) = some (.int .i64 b3) ∧ hcell e9 a3 (a2 + 3) = some (.int .i64 c2) ∧ HC Tryd.prog 33 #[(.agg #[(.int .i64 d1), (.int .i64 c6), (.int .i64 b3), (.int .i64 c2)]), (.int .i64 (IntKind.i64.wrap (a0 + b5)))] e9 (fun vv i1 => Ext e9 i1 ∧ ∃ d7 f1 : Int, vv = (.tuple #[(.int .i64 d7), (.int .i64 f1)]) ∧ (f5 d7 i1 ∧ f2 d7 i1 < f2 a0 h6)))))))))))))))))) ∧ ((decide ((IntKind.i64.wrap ((IntKind.i64.wrap (a0 + 24)) + 24)) ≤ (b7 : Int))) = false → (∃ c8 : Option Addr, hcell h6 d4 d5 = some (.pointer c8) ∧ (∃ e8 f0 : Nat, c8 = some ⟨e8, f0, none⟩ ∧ (HWs h6 e8 f0 2 ∧ ∀ i3, i3 = hsets h6 e8 f0 [(.int .i64 a0), (.int .i64 4)] → R (.tuple #[]) i3)))))))))))))))))) :
  HC Tryd.prog 64 #[e6, (ptr a3 a2), (ptr e3 e2), (ptr d4 d5)] h R := by
 refine hc_of (args := [e6, (ptr a3 a2), (ptr e3 e2), (ptr d4 d5)]) Tryd.func64 rfl Tryd.ntmps64 (Nat.le_of_ble_eq_true rfl) ?_
 refine xs (xr ?_)
 obtain ⟨d8, d3, c3, d2, n5, n2, n7, n6, H⟩ := H
 refine lv rfl rfl (vL (vs := [(.int .i64 d8), (.int .i64 d3), (.int .i64 c3), (.int .i64 d2)]) TyTC.agg24 TyTC.sz24 rfl (cc n5 (cc n2 (cc n7 (cc n6 cn))))) ?_
 obtain ⟨x, f7, f6, n3, H⟩ := H
 refine lv rfl rfl (vl TyTC.agg25 rfl n3) ?_
 refine lp rfl rfl (sc TyTC.cb32 rfl (HC.mono H ?_))
 rintro _ h1 ⟨n8, b0, a5, a4, r1, rfl, H⟩
 refine lv rfl rfl (vm rfl) (lv rfl rfl (vx rfl rfl) (lv rfl rfl (vx rfl rfl) ?_))
 refine lp rfl rfl (hn_alloc TyTC.z31 ?_)
 intro hv h2 j4 j5
 have n4 := ext_pushed_f64_sh j5
 have f8 : Array.size h1 ≤ hv := Nat.le_of_eq (Eq.symm j4)
 have i6 : h2[hv]? = some (.cells #[(.int .u64 0), (.int .u64 0), (.int .i64 0)] 31 (0, 0)) := by rw [j5]; exact push_new j4
 refine lp rfl rfl (hn_stores (vs := [(.int .u64 b0), (.int .u64 a5), (.int .i64 a4)]) rfl rfl TyTC.sz31 rfl (HWs_row i6 (by simp)) ?_)
 intro h3 i5
 have d6 : h3[hv]? = some (.cells #[(.int .u64 b0), (.int .u64 a5), (.int .i64 a4)] 31 (0, 0)) := row_hsets_eq i5 i6 rfl
 have g9 := ext_hsets i5 n4 f8
 refine lv rfl rfl (va rfl) ?_
 refine ln (qn (xs (xs (xr ?_))))
 refine lv rfl rfl (vm rfl) (lv rfl rfl (vr rfl rfl rfl) ?_)
 refine ln (qn ?_)
 refine xc (b := r1 != 0) rfl (fun f9 => ?_) (fun f9 => ?_)
 ·replace H := H.1 f9
  refine xs (xr ?_)
  obtain ⟨e4, k5, H⟩ := H
  refine lv rfl rfl (vl TyTC.agg85 rfl (Ext.cell g9 k5)) (lv rfl rfl (v := (.agg #[(.int .i64 0), (.int .i64 1)])) (vb (vs := [(1, (.int .i64 1))]) (cs := #[(.int .i64 0), (.int .i64 1)]) TyTC.z34 TyTC.pl34 rfl (by kernel_rfl)) ?_)
  obtain ⟨b6, b9, e7, Hq⟩ := H
  subst e7
  have H := Hq; clear Hq
  refine lv rfl rfl (v := (ptr b6 b9)) (hv_nil rfl) ?_
  replace H := H hv h3 f8 (row_lt d6) g9
  obtain ⟨m8, l0, H⟩ := H
  refine lp rfl rfl (hn_stores (vs := [(.int .i64 0), (.int .i64 1)]) rfl rfl TyTC.sz34 rfl m8 ?_)
  intro h4 j3
  replace H := H h4 j3
  replace d6 := row_hsets_ne j3 (l0 _ (by simp)) d6
  refine ln (qn (xt (qr ?_)))
  exact endQ_ret _ (res_none Tryd.results64 ) H
 ·replace H := H.2 f9
  refine xi (qn (xs (xr ?_)))
  refine lv rfl rfl (v := (ptr hv 1)) (vf TyTC.fld31_1 (b := hv) (o := 0) rfl) (lv rfl rfl (vl TyTC.agg29 rfl (rc d6 rfl)) ?_)
  replace H := H hv h3 f8 (row_lt d6) g9
  obtain ⟨r, k4, H⟩ := H
  refine lv rfl rfl (hv_call TyTC.cb36 (vs := [(.int .u64 a5)]) rfl k4) (lv rfl rfl (va rfl) ?_)
  refine ln (qn (xs (xr ?_)))
  obtain ⟨c9, c5, b1, c4, m1, k7, l8, j8, H⟩ := H
  refine lv rfl rfl (vL (vs := [(.int .i64 c9), (.int .i64 c5), (.int .i64 b1), (.int .i64 c4)]) TyTC.agg24 TyTC.sz24 rfl (cc m1 (cc k7 (cc l8 (cc j8 cn))))) ?_
  refine lp rfl rfl (sc TyTC.cb33 rfl (HC.mono H ?_))
  rintro _ h5 ⟨l1, r0, e5, rfl, H⟩
  replace d6 := Ext.row l1 d6
  refine lv rfl rfl (vm rfl) (lv rfl rfl (vx rfl rfl) (lv rfl rfl (vx rfl rfl) (lv rfl rfl (va rfl) (lv rfl rfl (va rfl) ?_))))
  refine ln (qn (xs (xb ?_)))
  obtain ⟨f5, f2, l9, l6⟩ := H
  refine xl (σ := Int) (fun s => [(0, e6), (1, (ptr a3 a2)), (2, (ptr e3 e2)), (3, (ptr d4 d5)), (5, (ptr hv 0)), (7, (.int .u32 r)), (8, (.int .i64 s))]) (fun s h' => f5 s h' ∧ h'[hv]? = some (.cells #[(.int .u64 b0), (.int .u64 a5), (.int .i64 a4)] 31 (0, 0)) ∧ True) (fun s h' => f2 s h') r0 ⟨l9, d6, trivial⟩ (hc rfl (hc rfl (hc rfl (hc rfl (hc rfl (hc rfl (hc rfl hn))))))) ?_
  rintro a0 ρ h6 ⟨k3, b4, -⟩
  have H := l6 a0 h6 k3
  refine xs (xs (xr ?_))
  refine lv rfl rfl (vm rfl) (lv rfl rfl (vr rfl rfl rfl) (lv rfl rfl (vr rfl rfl rfl) ?_))
  obtain ⟨e4, b7, e0, g0, H⟩ := H
  refine lv rfl rfl (vl TyTC.agg25 rfl g0) (lv rfl rfl (v := (.int .i64 (b7 : Int))) (hv_len (n := b7) TyTC.u25 rfl) (lv rfl rfl (vr rfl rfl rfl) ?_))
  refine ln (qn ?_)
  refine xc (b := decide ((IntKind.i64.wrap ((IntKind.i64.wrap (a0 + 24)) + 24)) ≤ (b7 : Int))) rfl (fun g4 => ?_) (fun g4 => ?_)
  ·replace H := H.1 g4
   refine xi (qn (xb (xs (xs (xr ?_)))))
   refine lv rfl rfl (vl TyTC.agg25 rfl g0) (lv rfl rfl (vm rfl) ?_)
   obtain ⟨b6, b9, e7, k9, m3, Hq⟩ := H
   subst e7
   have H := Hq; clear Hq
   refine lv rfl rfl (v := (ptr b6 (b9 + (Int.toNat a0) * 1))) (vi TyTC.el25 rfl rfl k9 m3) ?_
   obtain ⟨c8, l4, H⟩ := H
   refine lv rfl rfl (vl TyTC.agg5 rfl l4) ?_
   refine ln (qn (xb (xs (xr ?_))))
   refine lv rfl rfl (vr rfl rfl rfl) (lv rfl rfl (va rfl) ?_)
   refine ln (qn ?_)
   refine xc (b := c8 == 0) rfl (fun g2 => ?_) (fun g2 => ?_)
   ·replace H := H.1 g2
    refine xs ?_
    refine hx_draw TyTC.mixed [.pure, .pure, .read, .pure, .pure, .pure, .read, .pure, .pure] [0, 1, 2, 3, 4, 5, 6, 7, 8] (by kernel_rfl) ?_
    refine pp (i := 0) rfl (wanted_0 rfl) rfl (.int .i64 a0) (fun _ => vm rfl) ?_
    refine pp (i := 1) rfl (wanted_0 rfl) rfl (ptr a3 a2) (fun _ => vf TyTC.fld24_0 (b := a3) (o := a2) rfl) ?_
    obtain ⟨a9, j0, H⟩ := H
    refine pr (i := 2) rfl (wanted_0 rfl) rfl (.int .i64 a9) (fun _ he => vl TyTC.agg3 rfl (Ext.cell he j0)) ?_
    obtain ⟨n1, H⟩ := H
    refine pp (i := 3) rfl (wanted_0 rfl) rfl (.int .i64 (IntKind.i64.wrap (Int.tdiv a0 a9))) (fun _ => hv_quo rfl rfl n1) ?_
    refine pp (i := 4) rfl (wanted_0 rfl) rfl (.int .i64 (IntKind.i64.wrap ((IntKind.i64.wrap (Int.tdiv a0 a9)) + 1))) (fun _ => vr rfl rfl rfl) ?_
    refine pp (i := 5) rfl (wanted_0 rfl) rfl (ptr a3 a2) (fun _ => vf TyTC.fld24_0 (b := a3) (o := a2) rfl) ?_
    refine pr (i := 6) rfl (wanted_0 rfl) rfl (.int .i64 a9) (fun _ he => vl TyTC.agg3 rfl (Ext.cell he j0)) ?_
    refine pp (i := 7) rfl (wanted_0 rfl) rfl (.int .i64 (IntKind.i64.wrap ((IntKind.i64.wrap ((IntKind.i64.wrap (Int.tdiv a0 a9)) + 1)) * a9))) (fun _ => vr rfl rfl rfl) ?_
    refine pp (i := 8) rfl (wanted_0 rfl) rfl (.int .i64 (IntKind.i64.wrap ((IntKind.i64.wrap ((IntKind.i64.wrap (Int.tdiv a0 a9)) + 1)) * a9))) (fun _ => va rfl) ?_
    refine hp_nil ?_
    refine qn (xe (bp rfl (qe (bh (qn ?_)))))
    exact ⟨IntKind.i64.wrap ((IntKind.i64.wrap ((IntKind.i64.wrap (Int.tdiv a0 a9)) + 1)) * a9), ⟨⟨H.1, b4, trivial⟩, H.2⟩, (hc rfl (hc rfl (hc rfl (hc rfl (hc rfl (hc rfl (hc rfl hn)))))))⟩
   ·replace H := H.2 g2
    refine xs (xr ?_)
    refine lv rfl rfl (vr rfl rfl rfl) (lv rfl rfl (va rfl) ?_)
    refine ln (qn ?_)
    refine xc (b := c8 == 255) rfl (fun g6 => ?_) (fun g6 => ?_)
    ·replace H := H.1 g6
     refine xs (xr ?_)
     obtain ⟨a9, m4, H⟩ := H
     refine lv rfl rfl (vl TyTC.agg85 rfl m4) (lv rfl rfl (vm rfl) (lv rfl rfl (v := (.agg #[(.int .i64 a0), (.int .i64 2)])) (vb (vs := [(0, (.int .i64 a0)), (1, (.int .i64 2))]) (cs := #[(.int .i64 a0), (.int .i64 2)]) TyTC.z34 TyTC.pl34 rfl (by kernel_rfl)) ?_))
     obtain ⟨b8, c7, e7, Hq⟩ := H
     subst e7
     have H := Hq; clear Hq
     refine lv rfl rfl (v := (ptr b8 c7)) (hv_nil rfl) ?_
     obtain ⟨k8, m7, H⟩ := H
     refine lp rfl rfl (hn_stores (vs := [(.int .i64 a0), (.int .i64 2)]) rfl rfl TyTC.sz34 rfl k8 ?_)
     intro h7 i4
     replace H := H h7 i4
     replace b4 := row_hsets_ne i4 (m7 _ (by simp)) b4
     refine ln (qn (xt (br (qr (br (qr (br (qr ?_))))))))
     exact endQ_ret _ (res_none Tryd.results64 ) H
    ·replace H := H.2 g6
     refine xi (bn (qn (xs (xr ?_))))
     obtain ⟨d0, c0, b2, c1, j6, m0, k1, k6, H⟩ := H
     refine lv rfl rfl (vL (vs := [(.int .i64 d0), (.int .i64 c0), (.int .i64 b2), (.int .i64 c1)]) TyTC.agg24 TyTC.sz24 rfl (cc j6 (cc m0 (cc k1 (cc k6 cn))))) (lv rfl rfl (vm rfl) (lv rfl rfl (vl TyTC.agg25 rfl g0) (lv rfl rfl (vm rfl) ?_)))
     refine lp rfl rfl (sc TyTC.cb65 rfl (HC.mono H ?_))
     rintro _ h8 ⟨j7, a7, a1, a8, a6, b5, r2, rfl, H⟩
     replace b4 := Ext.row j7 b4
     refine lv rfl rfl (vm rfl) (lv rfl rfl (vx rfl rfl) (lv rfl rfl (vx rfl rfl) (lv rfl rfl (vx rfl rfl) ?_)))
     refine lp rfl rfl (hn_alloc TyTC.z43 ?_)
     intro f3 h9 g7 j1
     have i9 := ext_pushed_f64_sh j1
     have j9 := Nat.ne_of_lt (Nat.lt_of_lt_of_eq (row_lt b4) (Eq.symm g7))
     have i7 : Array.size h8 ≤ f3 := Nat.le_of_eq (Eq.symm g7)
     have i8 : h9[f3]? = some (.cells #[(.int .i64 0), (.int .u64 0), (.string ByteArray.empty), (.string ByteArray.empty)] 43 (0, 0)) := by rw [j1]; exact push_new g7
     replace b4 := Ext.row i9 b4
     refine lp rfl rfl (hn_stores (vs := [(.int .i64 a7), (.int .u64 a1), (.string a8), (.string a6)]) rfl rfl TyTC.sz43 rfl (HWs_row i8 (by simp)) ?_)
     intro e1 g8
     replace b4 := row_hsets_ne g8 j9 b4
     have d9 : e1[f3]? = some (.cells #[(.int .i64 a7), (.int .u64 a1), (.string a8), (.string a6)] 43 (0, 0)) := row_hsets_eq g8 i8 rfl
     have g1 := ext_hsets g8 i9 i7
     refine lv rfl rfl (va rfl) (lv rfl rfl (va rfl) ?_)
     refine ln (qn (xs (xs (xr ?_))))
     refine lv rfl rfl (vm rfl) (lv rfl rfl (vr rfl rfl rfl) ?_)
     refine ln (qn ?_)
     refine xc (b := r2 != 0) rfl (fun g3 => ?_) (fun g3 => ?_)
     ·replace H := H.1 g3
      refine xs (xr ?_)
      obtain ⟨a9, m6, H⟩ := H
      refine lv rfl rfl (vl TyTC.agg85 rfl (Ext.cell g1 m6)) (lv rfl rfl (vm rfl) (lv rfl rfl (v := (.agg #[(.int .i64 a0), (.int .i64 3)])) (vb (vs := [(0, (.int .i64 a0)), (1, (.int .i64 3))]) (cs := #[(.int .i64 a0), (.int .i64 3)]) TyTC.z34 TyTC.pl34 rfl (by kernel_rfl)) ?_))
      obtain ⟨b8, c7, e7, Hq⟩ := H
      subst e7
      have H := Hq; clear Hq
      refine lv rfl rfl (v := (ptr b8 c7)) (hv_nil rfl) ?_
      replace H := H f3 e1 i7 (row_lt d9) g1
      obtain ⟨k2, j2, H⟩ := H
      refine lp rfl rfl (hn_stores (vs := [(.int .i64 a0), (.int .i64 3)]) rfl rfl TyTC.sz34 rfl k2 ?_)
      intro i2 g5
      replace H := H i2 g5
      replace b4 := row_hsets_ne g5 (j2 _ (by simp)) b4
      replace d9 := row_hsets_ne g5 (j2 _ (by simp)) d9
      refine ln (qn (xt (qr (br (qr (br (qr ?_)))))))
      exact endQ_ret _ (res_none Tryd.results64 ) H
     ·replace H := H.2 g3
      refine xi (qn (xs (xs (xr ?_))))
      refine lv rfl rfl (vm rfl) (lv rfl rfl (v := (ptr hv 2)) (vf TyTC.fld31_2 (b := hv) (o := 0) rfl) (lv rfl rfl (vl TyTC.agg3 rfl (rc b4 rfl)) (lv rfl rfl (vm rfl) (lv rfl rfl (vm rfl) (lv rfl rfl (vL (vs := [(.int .i64 a7), (.int .u64 a1), (.string a8), (.string a6)]) TyTC.agg43 TyTC.sz43 rfl (cc (rc d9 rfl) (cc (rc d9 rfl) (cc (rc d9 rfl) (cc (rc d9 rfl) cn))))) ?_)))))
      refine lv rfl rfl (v := (.agg #[(.int .i64 a4), (.int .i64 a0), (.int .i64 b5), (.int .i64 a7), (.int .u64 a1), (.string a8), (.string a6)])) (vb (vs := [(0, (.int .i64 a4)), (1, (.int .i64 a0)), (2, (.int .i64 b5)), (3, (.agg #[(.int .i64 a7), (.int .u64 a1), (.string a8), (.string a6)]))]) (cs := #[(.int .i64 a4), (.int .i64 a0), (.int .i64 b5), (.int .i64 a7), (.int .u64 a1), (.string a8), (.string a6)]) TyTC.z45 TyTC.pl45 rfl (by kernel_rfl)) ?_
      replace H := H e1 g1
      refine lp rfl rfl (hs_callF (vs := [(.agg #[(.int .i64 a4), (.int .i64 a0), (.int .i64 b5), (.int .i64 a7), (.int .u64 a1), (.string a8), (.string a6)])]) rfl rfl (HCV.mono H ?_))
      rintro _ e9 ⟨l5, f4, rfl, H⟩
      replace b4 := Kp.row l5 (by simp) b4
      refine lv rfl rfl (v := (.bool (!f4))) (hv_not (b := f4) rfl) ?_
      refine ln (qn ?_)
      refine xc (b := !f4) rfl (fun i0 => ?_) (fun i0 => ?_)
      ·replace H := H.1 i0
       refine xt (qr (br (qr (br (qr ?_)))))
       exact endQ_ret _ (res_none Tryd.results64 ) H
      ·replace H := H.2 i0
       refine xi (qn (xr ?_))
       obtain ⟨d1, c6, b3, c2, n0, m9, l7, l3, H⟩ := H
       refine lv rfl rfl (vL (vs := [(.int .i64 d1), (.int .i64 c6), (.int .i64 b3), (.int .i64 c2)]) TyTC.agg24 TyTC.sz24 rfl (cc n0 (cc m9 (cc l7 (cc l3 cn))))) (lv rfl rfl (vm rfl) (lv rfl rfl (vm rfl) (lv rfl rfl (vr rfl rfl rfl) ?_)))
       refine lp rfl rfl (sc TyTC.cb33 rfl (HC.mono H ?_))
       rintro _ i1 ⟨m5, d7, f1, rfl, H⟩
       replace b4 := Ext.row m5 b4
       refine lv rfl rfl (vm rfl) (lv rfl rfl (vx rfl rfl) (lv rfl rfl (vx rfl rfl) (lv rfl rfl (va rfl) ?_)))
       refine ln (bn (qn ?_))
       exact ⟨d7, ⟨⟨H.1, b4, trivial⟩, H.2⟩, (hc rfl (hc rfl (hc rfl (hc rfl (hc rfl (hc rfl (hc rfl hn)))))))⟩
  ·replace H := H.2 g4
   refine xe (qe (qe (bh (qn (xr ?_)))))
   obtain ⟨c8, m2, H⟩ := H
   refine lv rfl rfl (vl TyTC.agg85 rfl m2) (lv rfl rfl (vm rfl) (lv rfl rfl (v := (.agg #[(.int .i64 a0), (.int .i64 4)])) (vb (vs := [(0, (.int .i64 a0)), (1, (.int .i64 4))]) (cs := #[(.int .i64 a0), (.int .i64 4)]) TyTC.z34 TyTC.pl34 rfl (by kernel_rfl)) ?_))
   obtain ⟨e8, f0, e7, Hq⟩ := H
   subst e7
   have H := Hq; clear Hq
   refine lv rfl rfl (v := (ptr e8 f0)) (hv_nil rfl) ?_
   obtain ⟨k0, H⟩ := H
   refine lp rfl rfl (hn_stores (vs := [(.int .i64 a0), (.int .i64 4)]) rfl rfl TyTC.sz34 rfl k0 ?_)
   intro i3 l2
   replace H := H i3 l2
   refine ln ?_
   exact endQ_n _ (res_none Tryd.results64 ) H
end Go.Proofs.YthjehlocmikchaaDoor
