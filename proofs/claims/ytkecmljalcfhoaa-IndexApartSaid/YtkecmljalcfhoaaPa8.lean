import Derived.Test.YtkecmljalcfhoaaProg
import Derived.Test.YtkecmljalcfhoaaPa1
import Derived.Test.YtkecmljalcfhoaaPa5
import Derived.Test.YtkecmljalcfhoaaPa6
import Derived.Test.YtkecmljalcfhoaaPa7
namespace Go.Proofs.Ytkecmljalcfhoaa
open Go
open Go.Proofs.Ytkecmljalcfhoaa renaming hl_val → lv, hl_step → lp, hl_nil → ln, hl_yes → ly, hl_no → lo, hx_seq → xs, hx_region → xr, hx_cond → xc, hx_block → xb, hx_loopT → xl, hx_cut → xk, hx_has → xh, hx_skip → xi, hx_ret → xt, hx_exit → xe, seqQ_n → qn, seqQ_ret → qr, seqQ_exit → qe, blockQ_n → bn, blockQ_ret → br, blockQ_here → bh, hv_move → vm, hv_assign → va, hv_arith → vr, hv_load → vl, hv_loads → vL, hv_extract → vx, hv_index → vi, hp_pure → pp, hp_read → pr, hp_no → pn, has_cons → hc, has_nil → hn, hcells_cons → cc, hcells_nil → cn, hs_call → sc, ht_one → to
set_option maxRecDepth 100000
set_option maxHeartbeats 4000000
theorem TyShZ.agg24 : aggB Try.prog 24 = some true := by kernel_rfl
theorem TyShZ.agg31 : aggB Try.prog 31 = some true := by kernel_rfl
theorem TyShZ.agg33 : aggB Try.prog 33 = some true := by kernel_rfl
theorem TyShZ.agg38 : aggB Try.prog 38 = some true := by kernel_rfl
theorem TyShZ.agg4 : aggB Try.prog 4 = some false := by kernel_rfl
theorem TyShZ.agg47 : aggB Try.prog 47 = some false := by kernel_rfl
theorem TyShZ.cb12 : CallB Try.prog 12 := fun _ _ => Try.call12 _ _
theorem TyShZ.cb15 : CallB Try.prog 15 := fun _ _ => Try.call15 _ _
theorem TyShZ.cb16 : CallB Try.prog 16 := fun _ _ => Try.call16 _ _
theorem TyShZ.cb17 : CallB Try.prog 17 := fun _ _ => Try.call17 _ _
theorem TyShZ.cb18 : CallB Try.prog 18 := fun _ _ => Try.call18 _ _
theorem TyShZ.el47 : elB Try.prog 47 = some 4 := by kernel_rfl
theorem TyShZ.gd38 : Try.prog.eqGuardType Try.prog.depth 38 = false := by kernel_rfl
theorem TyShZ.mixed : Try.prog.follows .mixedOrders = true := by kernel_rfl
theorem TyShZ.se31 : seB Try.prog 31 = some [(29, 0), (29, 1), (29, 2), (5, 3)] := by kernel_rfl
theorem TyShZ.sz24 : szB Try.prog 24 = some 4 := by kernel_rfl
theorem TyShZ.sz31 : szB Try.prog 31 = some 4 := by kernel_rfl
theorem TyShZ.sz33 : szB Try.prog 33 = some 8 := by kernel_rfl
theorem TyShZ.sz38 : szB Try.prog 38 = some 13 := by kernel_rfl
theorem TyShZ.sz4 : szB Try.prog 4 = some 1 := by kernel_rfl
theorem TyShZ.sz47 : szB Try.prog 47 = some 1 := by kernel_rfl
theorem TyShZ.u47 : Try.prog.underlying 47 = some (.slice 31) := by kernel_rfl
theorem TyShZ.up25 : Try.prog.underlying 25 = some (.pointer 61) := by kernel_rfl
theorem TyShZ.z31 : zeroB Try.prog 31 (.agg #[(.int .u64 0), (.int .u64 0), (.int .u64 0), (.int .u8 0)]) := by unfold zeroB; kernel_rfl
theorem TyShZ.z38 : zeroB Try.prog 38 (.agg #[(.int .u64 0), (.int .u64 0), (.int .u64 0), (.int .u8 0), (.int .u64 0), (.int .u64 0), (.int .u64 0), (.int .u8 0), (.bool false), (.bool false), (.int .i64 0), (.int .i64 0), (.int .i64 0)]) := by unfold zeroB; kernel_rfl
theorem TyShZ.z4 : zeroB Try.prog 4 (.bool false) := by unfold zeroB; kernel_rfl
theorem TyShZ.z47 : zeroB Try.prog 47 (.slice none 0 0) := by unfold zeroB; kernel_rfl
theorem ext_pushed_f6_sh {h h1 : Heap} {o : Obj} (e : h1 = Array.push h o) : Ext h h1 := by rw [e]; exact Ext.push _ _
theorem f6_sh (v9 : Int) (z3 : Int) (z2 : Int) (b10 : Option Addr) (z1 : Nat) (y3 : Nat) (y4 : Int) (q4 : Int) (u3 : Int) (o6 : Int) (q8 : Int) (a80 : Int) (o_N : Int) (o_M : Int) (y5 : Int) (s0 : Int) (u5 : Int) (o5 : Int) (r3 : Int) (a92 : Int) (p_N : Int) (p_M : Int) (h : Heap) (R : Value → Heap → Prop)
  (H : (∀ sv h1, sv = Array.size h → h1 = Array.push h (.cells #[(.int .i64 v9), (.int .i64 z3), (.int .i64 z2), (.slice b10 z1 y3)] 24) → (∀ o h2, o = Array.size h1 → h2 = Array.push h1 (.cells #[(.int .i64 y4), (.int .u64 q4), (.int .u64 u3), (.int .u64 o6), (.int .u8 q8), (.int .u64 a80), (.int .i64 o_N), (.int .i64 o_M)] 33) → (∀ p h3, p = Array.size h2 → h3 = Array.push h2 (.cells #[(.int .i64 y5), (.int .u64 s0), (.int .u64 u5), (.int .u64 o5), (.int .u8 r3), (.int .u64 a92), (.int .i64 p_N), (.int .i64 p_M)] 33) → (∀ nb h4, nb = Array.size h3 → h4 = Array.push h3 (.cells #[(.bool false)] 4) → (∃ q2 w6 w0 : Int, ∃ z4 : Option Addr, ∃ w2 w5 : Nat, hcell h4 sv 0 = some (.int .i64 q2) ∧ hcell h4 sv 1 = some (.int .i64 w6) ∧ hcell h4 sv 2 = some (.int .i64 w0) ∧ hcell h4 sv 3 = some (.slice z4 w2 w5) ∧ HC Try.prog 15 #[(.agg #[(.int .i64 q2), (.int .i64 w6), (.int .i64 w0), (.slice z4 w2 w5)])] h4 (fun vv h5 => ∃ r0 : Option Addr, ∃ r1 : Bool, vv = (.tuple #[(.pointer r0), (.bool r1)]) ∧ (∃ o1 s6 s9 : Int, ∃ w4 : Option Addr, ∃ t1 t0 : Nat, hcell h5 sv 0 = some (.int .i64 o1) ∧ hcell h5 sv 1 = some (.int .i64 s6) ∧ hcell h5 sv 2 = some (.int .i64 s9) ∧ hcell h5 sv 3 = some (.slice w4 t1 t0) ∧ HC Try.prog 15 #[(.agg #[(.int .i64 o1), (.int .i64 s6), (.int .i64 s9), (.slice w4 t1 t0)])] h5 (fun vv h6 => ∃ f0 : Option Addr, ∃ k6 : Bool, vv = (.tuple #[(.pointer f0), (.bool k6)]) ∧ ((((!r1) || ((!k6) || (r0.isNone || f0.isNone))) = true → (∃ A29 : Heap → Prop, ((r1 = true → (HW h6 nb 0 ∧ ∀ h8, h8 = hset h6 nb 0 (.bool k6) → (A29 h8))) ∧ (r1 = false → (HW h6 nb 0 ∧ ∀ h9, h9 = hset h6 nb 0 (.bool false) → (A29 h9)))) ∧ (∀ (h7 : Heap), A29 h7 → (∃ r4 : Bool, hcell h7 nb 0 = some (.bool r4) ∧ (∀ h10, Shut' (Array.size h) h7 h10 → R (.bool r4) h10))))) ∧ (((!r1) || ((!k6) || (r0.isNone || f0.isNone))) = false → (∃ x1 : Heap → Heap → Prop, Fit x1 ∧ (∃ w3 m6 p3 k7 m9 a16 x_N x_M : Int, hcell h6 o 0 = some (.int .i64 w3) ∧ hcell h6 o 1 = some (.int .u64 m6) ∧ hcell h6 o 2 = some (.int .u64 p3) ∧ hcell h6 o 3 = some (.int .u64 k7) ∧ hcell h6 o 4 = some (.int .u8 m9) ∧ hcell h6 o 5 = some (.int .u64 a16) ∧ hcell h6 o 6 = some (.int .i64 x_N) ∧ hcell h6 o 7 = some (.int .i64 x_M) ∧ (∃ s7 l7 m7 k0 l6 w1 x7 x9 : Int, (∀ hx, x1 h6 hx → hcell hx p 0 = some (.int .i64 s7)) ∧ (∀ hx, x1 h6 hx → hcell hx p 1 = some (.int .u64 l7)) ∧ (∀ hx, x1 h6 hx → hcell hx p 2 = some (.int .u64 m7)) ∧ (∀ hx, x1 h6 hx → hcell hx p 3 = some (.int .u64 k0)) ∧ (∀ hx, x1 h6 hx → hcell hx p 4 = some (.int .u8 l6)) ∧ (∀ hx, x1 h6 hx → hcell hx p 5 = some (.int .u64 w1)) ∧ (∀ hx, x1 h6 hx → hcell hx p 6 = some (.int .i64 x7)) ∧ (∀ hx, x1 h6 hx → hcell hx p 7 = some (.int .i64 x9)) ∧ HC Try.prog 16 #[(.pointer r0), (.agg #[(.int .i64 w3), (.int .u64 m6), (.int .u64 p3), (.int .u64 k7), (.int .u8 m9), (.int .u64 a16), (.int .i64 x_N), (.int .i64 x_M)])] h6 (fun vv h11 => x1 h6 h11 ∧ ∃ r : Int, vv = (.int .i64 r) ∧ HC Try.prog 16 #[(.pointer r0), (.agg #[(.int .i64 s7), (.int .u64 l7), (.int .u64 m7), (.int .u64 k0), (.int .u8 l6), (.int .u64 w1), (.int .i64 x7), (.int .i64 x9)])] h11 (fun vv m8 => ∃ r_1 : Int, vv = (.int .i64 r_1) ∧ (((r == r_1) = true → (HW m8 nb 0 ∧ ∀ h13, h13 = hset m8 nb 0 (.bool true) → (∃ r4 : Bool, hcell h13 nb 0 = some (.bool r4) ∧ (∀ h14, Shut' (Array.size h) h13 h14 → R (.bool r4) h14)))) ∧ ((r == r_1) = false → (∃ v3 : Nat → Nat → Nat → Nat → Heap → Prop, (∃ t5 : Heap → Heap → Prop, Fit t5 ∧ (∃ j5 g0 g6 e9 f7 m4 o3 o4 : Int, hcell m8 o 0 = some (.int .i64 j5) ∧ hcell m8 o 1 = some (.int .u64 g0) ∧ hcell m8 o 2 = some (.int .u64 g6) ∧ hcell m8 o 3 = some (.int .u64 e9) ∧ hcell m8 o 4 = some (.int .u8 f7) ∧ hcell m8 o 5 = some (.int .u64 m4) ∧ hcell m8 o 6 = some (.int .i64 o3) ∧ hcell m8 o 7 = some (.int .i64 o4) ∧ (∃ f6 c6 d4 b5 c8 g8 i3 i5 : Int, (∀ hx, t5 m8 hx → hcell hx p 0 = some (.int .i64 f6)) ∧ (∀ hx, t5 m8 hx → hcell hx p 1 = some (.int .u64 c6)) ∧ (∀ hx, t5 m8 hx → hcell hx p 2 = some (.int .u64 d4)) ∧ (∀ hx, t5 m8 hx → hcell hx p 3 = some (.int .u64 b5)) ∧ (∀ hx, t5 m8 hx → hcell hx p 4 = some (.int .u8 c8)) ∧ (∀ hx, t5 m8 hx → hcell hx p 5 = some (.int .u64 g8)) ∧ (∀ hx, t5 m8 hx → hcell hx p 6 = some (.int .i64 i3)) ∧ (∀ hx, t5 m8 hx → hcell hx p 7 = some (.int .i64 i5)) ∧ ((HC Try.prog 12 #[(.pointer r0), (.agg #[(.int .i64 j5), (.int .u64 g0), (.int .u64 g6), (.int .u64 e9), (.int .u8 f7), (.int .u64 m4), (.int .i64 o3), (.int .i64 o4)])] m8 (fun vv y9 => t5 m8 y9 ∧ ∃ d7 f4 c0 e0 e1 f1 c1 d6 : Int, ∃ i2 g9 : Bool, ∃ k3 k2 k1 : Int, vv = (.agg #[(.int .u64 d7), (.int .u64 f4), (.int .u64 c0), (.int .u8 e0), (.int .u64 e1), (.int .u64 f1), (.int .u64 c1), (.int .u8 d6), (.bool i2), (.bool g9), (.int .i64 k3), (.int .i64 k2), (.int .i64 k1)]) ∧ ((HC Try.prog 12 #[(.pointer r0), (.agg #[(.int .i64 f6), (.int .u64 c6), (.int .u64 d4), (.int .u64 b5), (.int .u8 c8), (.int .u64 g8), (.int .i64 i3), (.int .i64 i5)])] y9 (fun vv h17 => ∃ a9 b9 a0 b1 a5 b8 a1 a6 : Int, ∃ d1 d3 : Bool, ∃ e6 e4 e2 : Int, vv = (.agg #[(.int .u64 a9), (.int .u64 b9), (.int .u64 a0), (.int .u8 b1), (.int .u64 a5), (.int .u64 b8), (.int .u64 a1), (.int .u8 a6), (.bool d1), (.bool d3), (.int .i64 e6), (.int .i64 e4), (.int .i64 e2)]) ∧ (((∀ a h18, a = Array.size h17 → h18 = Array.push h17 (.cells #[(.int .u64 0), (.int .u64 0), (.int .u64 0), (.int .u8 0), (.int .u64 0), (.int .u64 0), (.int .u64 0), (.int .u8 0), (.bool false), (.bool false), (.int .i64 0), (.int .i64 0), (.int .i64 0)] 38) → (∀ b h19, b = Array.size h18 → h19 = Array.push h18 (.cells #[(.int .u64 0), (.int .u64 0), (.int .u64 0), (.int .u8 0), (.int .u64 0), (.int .u64 0), (.int .u64 0), (.int .u8 0), (.bool false), (.bool false), (.int .i64 0), (.int .i64 0), (.int .i64 0)] 38) → (HWs h19 a 0 13 ∧ ∀ h20, h20 = hsets h19 a 0 [(.int .u64 d7), (.int .u64 f4), (.int .u64 c0), (.int .u8 e0), (.int .u64 e1), (.int .u64 f1), (.int .u64 c1), (.int .u8 d6), (.bool i2), (.bool g9), (.int .i64 k3), (.int .i64 k2), (.int .i64 k1)] → (HWs h20 b 0 13 ∧ ∀ h21, h21 = hsets h20 b 0 [(.int .u64 a9), (.int .u64 b9), (.int .u64 a0), (.int .u8 b1), (.int .u64 a5), (.int .u64 b8), (.int .u64 a1), (.int .u8 a6), (.bool d1), (.bool d3), (.int .i64 e6), (.int .i64 e4), (.int .i64 e2)] → (v3 a 0 b 0 h21)))))) ∧ ((∀ b h22, b = Array.size h17 → h22 = Array.push h17 (.cells #[(.int .u64 0), (.int .u64 0), (.int .u64 0), (.int .u8 0), (.int .u64 0), (.int .u64 0), (.int .u64 0), (.int .u8 0), (.bool false), (.bool false), (.int .i64 0), (.int .i64 0), (.int .i64 0)] 38) → (∀ a h23, a = Array.size h22 → h23 = Array.push h22 (.cells #[(.int .u64 0), (.int .u64 0), (.int .u64 0), (.int .u8 0), (.int .u64 0), (.int .u64 0), (.int .u64 0), (.int .u8 0), (.bool false), (.bool false), (.int .i64 0), (.int .i64 0), (.int .i64 0)] 38) → (HWs h23 a 0 13 ∧ ∀ h24, h24 = hsets h23 a 0 [(.int .u64 d7), (.int .u64 f4), (.int .u64 c0), (.int .u8 e0), (.int .u64 e1), (.int .u64 f1), (.int .u64 c1), (.int .u8 d6), (.bool i2), (.bool g9), (.int .i64 k3), (.int .i64 k2), (.int .i64 k1)] → (HWs h24 b 0 13 ∧ ∀ h25, h25 = hsets h24 b 0 [(.int .u64 a9), (.int .u64 b9), (.int .u64 a0), (.int .u8 b1), (.int .u64 a5), (.int .u64 b8), (.int .u64 a1), (.int .u8 a6), (.bool d1), (.bool d3), (.int .i64 e6), (.int .i64 e4), (.int .i64 e2)] → (v3 a 0 b 0 h25))))))))) ∧ ((∀ a h26, a = Array.size y9 → h26 = Array.push y9 (.cells #[(.int .u64 0), (.int .u64 0), (.int .u64 0), (.int .u8 0), (.int .u64 0), (.int .u64 0), (.int .u64 0), (.int .u8 0), (.bool false), (.bool false), (.int .i64 0), (.int .i64 0), (.int .i64 0)] 38) → ((HC Try.prog 12 #[(.pointer r0), (.agg #[(.int .i64 f6), (.int .u64 c6), (.int .u64 d4), (.int .u64 b5), (.int .u8 c8), (.int .u64 g8), (.int .i64 i3), (.int .i64 i5)])] h26 (fun vv h27 => ∃ a9 b9 a0 b1 a5 b8 a1 a6 : Int, ∃ d1 d3 : Bool, ∃ e6 e4 e2 : Int, vv = (.agg #[(.int .u64 a9), (.int .u64 b9), (.int .u64 a0), (.int .u8 b1), (.int .u64 a5), (.int .u64 b8), (.int .u64 a1), (.int .u8 a6), (.bool d1), (.bool d3), (.int .i64 e6), (.int .i64 e4), (.int .i64 e2)]) ∧ (∀ b h28, b = Array.size h27 → h28 = Array.push h27 (.cells #[(.int .u64 0), (.int .u64 0), (.int .u64 0), (.int .u8 0), (.int .u64 0), (.int .u64 0), (.int .u64 0), (.int .u8 0), (.bool false), (.bool false), (.int .i64 0), (.int .i64 0), (.int .i64 0)] 38) → (HWs h28 a 0 13 ∧ ∀ h29, h29 = hsets h28 a 0 [(.int .u64 d7), (.int .u64 f4), (.int .u64 c0), (.int .u8 e0), (.int .u64 e1), (.int .u64 f1), (.int .u64 c1), (.int .u8 d6), (.bool i2), (.bool g9), (.int .i64 k3), (.int .i64 k2), (.int .i64 k1)] → (HWs h29 b 0 13 ∧ ∀ h30, h30 = hsets h29 b 0 [(.int .u64 a9), (.int .u64 b9), (.int .u64 a0), (.int .u8 b1), (.int .u64 a5), (.int .u64 b8), (.int .u64 a1), (.int .u8 a6), (.bool d1), (.bool d3), (.int .i64 e6), (.int .i64 e4), (.int .i64 e2)] → (v3 a 0 b 0 h30)))))) ∧ ((∀ b h31, b = Array.size h26 → h31 = Array.push h26 (.cells #[(.int .u64 0), (.int .u64 0), (.int .u64 0), (.int .u8 0), (.int .u64 0), (.int .u64 0), (.int .u64 0), (.int .u8 0), (.bool false), (.bool false), (.int .i64 0), (.int .i64 0), (.int .i64 0)] 38) → HC Try.prog 12 #[(.pointer r0), (.agg #[(.int .i64 f6), (.int .u64 c6), (.int .u64 d4), (.int .u64 b5), (.int .u8 c8), (.int .u64 g8), (.int .i64 i3), (.int .i64 i5)])] h31 (fun vv h32 => ∃ a9 b9 a0 b1 a5 b8 a1 a6 : Int, ∃ d1 d3 : Bool, ∃ e6 e4 e2 : Int, vv = (.agg #[(.int .u64 a9), (.int .u64 b9), (.int .u64 a0), (.int .u8 b1), (.int .u64 a5), (.int .u64 b8), (.int .u64 a1), (.int .u8 a6), (.bool d1), (.bool d3), (.int .i64 e6), (.int .i64 e4), (.int .i64 e2)]) ∧ (HWs h32 a 0 13 ∧ ∀ h33, h33 = hsets h32 a 0 [(.int .u64 d7), (.int .u64 f4), (.int .u64 c0), (.int .u8 e0), (.int .u64 e1), (.int .u64 f1), (.int .u64 c1), (.int .u8 d6), (.bool i2), (.bool g9), (.int .i64 k3), (.int .i64 k2), (.int .i64 k1)] → (HWs h33 b 0 13 ∧ ∀ h34, h34 = hsets h33 b 0 [(.int .u64 a9), (.int .u64 b9), (.int .u64 a0), (.int .u8 b1), (.int .u64 a5), (.int .u64 b8), (.int .u64 a1), (.int .u8 a6), (.bool d1), (.bool d3), (.int .i64 e6), (.int .i64 e4), (.int .i64 e2)] → (v3 a 0 b 0 h34))))))))) ∧ ((∀ b h35, b = Array.size y9 → h35 = Array.push y9 (.cells #[(.int .u64 0), (.int .u64 0), (.int .u64 0), (.int .u8 0), (.int .u64 0), (.int .u64 0), (.int .u64 0), (.int .u8 0), (.bool false), (.bool false), (.int .i64 0), (.int .i64 0), (.int .i64 0)] 38) → ((HC Try.prog 12 #[(.pointer r0), (.agg #[(.int .i64 f6), (.int .u64 c6), (.int .u64 d4), (.int .u64 b5), (.int .u8 c8), (.int .u64 g8), (.int .i64 i3), (.int .i64 i5)])] h35 (fun vv h36 => ∃ a9 b9 a0 b1 a5 b8 a1 a6 : Int, ∃ d1 d3 : Bool, ∃ e6 e4 e2 : Int, vv = (.agg #[(.int .u64 a9), (.int .u64 b9), (.int .u64 a0), (.int .u8 b1), (.int .u64 a5), (.int .u64 b8), (.int .u64 a1), (.int .u8 a6), (.bool d1), (.bool d3), (.int .i64 e6), (.int .i64 e4), (.int .i64 e2)]) ∧ (∀ a h37, a = Array.size h36 → h37 = Array.push h36 (.cells #[(.int .u64 0), (.int .u64 0), (.int .u64 0), (.int .u8 0), (.int .u64 0), (.int .u64 0), (.int .u64 0), (.int .u8 0), (.bool false), (.bool false), (.int .i64 0), (.int .i64 0), (.int .i64 0)] 38) → (HWs h37 a 0 13 ∧ ∀ h38, h38 = hsets h37 a 0 [(.int .u64 d7), (.int .u64 f4), (.int .u64 c0), (.int .u8 e0), (.int .u64 e1), (.int .u64 f1), (.int .u64 c1), (.int .u8 d6), (.bool i2), (.bool g9), (.int .i64 k3), (.int .i64 k2), (.int .i64 k1)] → (HWs h38 b 0 13 ∧ ∀ h39, h39 = hsets h38 b 0 [(.int .u64 a9), (.int .u64 b9), (.int .u64 a0), (.int .u8 b1), (.int .u64 a5), (.int .u64 b8), (.int .u64 a1), (.int .u8 a6), (.bool d1), (.bool d3), (.int .i64 e6), (.int .i64 e4), (.int .i64 e2)] → (v3 a 0 b 0 h39)))))) ∧ ((∀ a h40, a = Array.size h35 → h40 = Array.push h35 (.cells #[(.int .u64 0), (.int .u64 0), (.int .u64 0), (.int .u8 0), (.int .u64 0), (.int .u64 0), (.int .u64 0), (.int .u8 0), (.bool false), (.bool false), (.int .i64 0), (.int .i64 0), (.int .i64 0)] 38) → HC Try.prog 12 #[(.pointer r0), (.agg #[(.int .i64 f6), (.int .u64 c6), (.int .u64 d4), (.int .u64 b5), (.int .u8 c8), (.int .u64 g8), (.int .i64 i3), (.int .i64 i5)])] h40 (fun vv h41 => ∃ a9 b9 a0 b1 a5 b8 a1 a6 : Int, ∃ d1 d3 : Bool, ∃ e6 e4 e2 : Int, vv = (.agg #[(.int .u64 a9), (.int .u64 b9), (.int .u64 a0), (.int .u8 b1), (.int .u64 a5), (.int .u64 b8), (.int .u64 a1), (.int .u8 a6), (.bool d1), (.bool d3), (.int .i64 e6), (.int .i64 e4), (.int .i64 e2)]) ∧ (HWs h41 a 0 13 ∧ ∀ h42, h42 = hsets h41 a 0 [(.int .u64 d7), (.int .u64 f4), (.int .u64 c0), (.int .u8 e0), (.int .u64 e1), (.int .u64 f1), (.int .u64 c1), (.int .u8 d6), (.bool i2), (.bool g9), (.int .i64 k3), (.int .i64 k2), (.int .i64 k1)] → (HWs h42 b 0 13 ∧ ∀ h43, h43 = hsets h42 b 0 [(.int .u64 a9), (.int .u64 b9), (.int .u64 a0), (.int .u8 b1), (.int .u64 a5), (.int .u64 b8), (.int .u64 a1), (.int .u8 a6), (.bool d1), (.bool d3), (.int .i64 e6), (.int .i64 e4), (.int .i64 e2)] → (v3 a 0 b 0 h43)))))))))))) ∧ ((∀ a z0, a = Array.size m8 → z0 = Array.push m8 (.cells #[(.int .u64 0), (.int .u64 0), (.int .u64 0), (.int .u8 0), (.int .u64 0), (.int .u64 0), (.int .u64 0), (.int .u8 0), (.bool false), (.bool false), (.int .i64 0), (.int .i64 0), (.int .i64 0)] 38) → ((HC Try.prog 12 #[(.pointer r0), (.agg #[(.int .i64 j5), (.int .u64 g0), (.int .u64 g6), (.int .u64 e9), (.int .u8 f7), (.int .u64 m4), (.int .i64 o3), (.int .i64 o4)])] z0 (fun vv h45 => t5 z0 h45 ∧ ∃ d7 f4 c0 e0 e1 f1 c1 d6 : Int, ∃ i2 g9 : Bool, ∃ k3 k2 k1 : Int, vv = (.agg #[(.int .u64 d7), (.int .u64 f4), (.int .u64 c0), (.int .u8 e0), (.int .u64 e1), (.int .u64 f1), (.int .u64 c1), (.int .u8 d6), (.bool i2), (.bool g9), (.int .i64 k3), (.int .i64 k2), (.int .i64 k1)]) ∧ ((HC Try.prog 12 #[(.pointer r0), (.agg #[(.int .i64 f6), (.int .u64 c6), (.int .u64 d4), (.int .u64 b5), (.int .u8 c8), (.int .u64 g8), (.int .i64 i3), (.int .i64 i5)])] h45 (fun vv h46 => ∃ a9 b9 a0 b1 a5 b8 a1 a6 : Int, ∃ d1 d3 : Bool, ∃ e6 e4 e2 : Int, vv = (.agg #[(.int .u64 a9), (.int .u64 b9), (.int .u64 a0), (.int .u8 b1), (.int .u64 a5), (.int .u64 b8), (.int .u64 a1), (.int .u8 a6), (.bool d1), (.bool d3), (.int .i64 e6), (.int .i64 e4), (.int .i64 e2)]) ∧ (∀ b h47, b = Array.size h46 → h47 = Array.push h46 (.cells #[(.int .u64 0), (.int .u64 0), (.int .u64 0), (.int .u8 0), (.int .u64 0), (.int .u64 0), (.int .u64 0), (.int .u8 0), (.bool false), (.bool false), (.int .i64 0), (.int .i64 0), (.int .i64 0)] 38) → (HWs h47 a 0 13 ∧ ∀ h48, h48 = hsets h47 a 0 [(.int .u64 d7), (.int .u64 f4), (.int .u64 c0), (.int .u8 e0), (.int .u64 e1), (.int .u64 f1), (.int .u64 c1), (.int .u8 d6), (.bool i2), (.bool g9), (.int .i64 k3), (.int .i64 k2), (.int .i64 k1)] → (HWs h48 b 0 13 ∧ ∀ h49, h49 = hsets h48 b 0 [(.int .u64 a9), (.int .u64 b9), (.int .u64 a0), (.int .u8 b1), (.int .u64 a5), (.int .u64 b8), (.int .u64 a1), (.int .u8 a6), (.bool d1), (.bool d3), (.int .i64 e6), (.int .i64 e4), (.int .i64 e2)] → (v3 a 0 b 0 h49)))))) ∧ ((∀ b h50, b = Array.size h45 → h50 = Array.push h45 (.cells #[(.int .u64 0), (.int .u64 0), (.int .u64 0), (.int .u8 0), (.int .u64 0), (.int .u64 0), (.int .u64 0), (.int .u8 0), (.bool false), (.bool false), (.int .i64 0), (.int .i64 0), (.int .i64 0)] 38) → HC Try.prog 12 #[(.pointer r0), (.agg #[(.int .i64 f6), (.int .u64 c6), (.int .u64 d4), (.int .u64 b5), (.int .u8 c8), (.int .u64 g8), (.int .i64 i3), (.int .i64 i5)])] h50 (fun vv h51 => ∃ a9 b9 a0 b1 a5 b8 a1 a6 : Int, ∃ d1 d3 : Bool, ∃ e6 e4 e2 : Int, vv = (.agg #[(.int .u64 a9), (.int .u64 b9), (.int .u64 a0), (.int .u8 b1), (.int .u64 a5), (.int .u64 b8), (.int .u64 a1), (.int .u8 a6), (.bool d1), (.bool d3), (.int .i64 e6), (.int .i64 e4), (.int .i64 e2)]) ∧ (HWs h51 a 0 13 ∧ ∀ h52, h52 = hsets h51 a 0 [(.int .u64 d7), (.int .u64 f4), (.int .u64 c0), (.int .u8 e0), (.int .u64 e1), (.int .u64 f1), (.int .u64 c1), (.int .u8 d6), (.bool i2), (.bool g9), (.int .i64 k3), (.int .i64 k2), (.int .i64 k1)] → (HWs h52 b 0 13 ∧ ∀ h53, h53 = hsets h52 b 0 [(.int .u64 a9), (.int .u64 b9), (.int .u64 a0), (.int .u8 b1), (.int .u64 a5), (.int .u64 b8), (.int .u64 a1), (.int .u8 a6), (.bool d1), (.bool d3), (.int .i64 e6), (.int .i64 e4), (.int .i64 e2)] → (v3 a 0 b 0 h53))))))))) ∧ ((∀ b h54, b = Array.size z0 → h54 = Array.push z0 (.cells #[(.int .u64 0), (.int .u64 0), (.int .u64 0), (.int .u8 0), (.int .u64 0), (.int .u64 0), (.int .u64 0), (.int .u8 0), (.bool false), (.bool false), (.int .i64 0), (.int .i64 0), (.int .i64 0)] 38) → HC Try.prog 12 #[(.pointer r0), (.agg #[(.int .i64 j5), (.int .u64 g0), (.int .u64 g6), (.int .u64 e9), (.int .u8 f7), (.int .u64 m4), (.int .i64 o3), (.int .i64 o4)])] h54 (fun vv h55 => t5 h54 h55 ∧ ∃ d7 f4 c0 e0 e1 f1 c1 d6 : Int, ∃ i2 g9 : Bool, ∃ k3 k2 k1 : Int, vv = (.agg #[(.int .u64 d7), (.int .u64 f4), (.int .u64 c0), (.int .u8 e0), (.int .u64 e1), (.int .u64 f1), (.int .u64 c1), (.int .u8 d6), (.bool i2), (.bool g9), (.int .i64 k3), (.int .i64 k2), (.int .i64 k1)]) ∧ HC Try.prog 12 #[(.pointer r0), (.agg #[(.int .i64 f6), (.int .u64 c6), (.int .u64 d4), (.int .u64 b5), (.int .u8 c8), (.int .u64 g8), (.int .i64 i3), (.int .i64 i5)])] h55 (fun vv h56 => ∃ a9 b9 a0 b1 a5 b8 a1 a6 : Int, ∃ d1 d3 : Bool, ∃ e6 e4 e2 : Int, vv = (.agg #[(.int .u64 a9), (.int .u64 b9), (.int .u64 a0), (.int .u8 b1), (.int .u64 a5), (.int .u64 b8), (.int .u64 a1), (.int .u8 a6), (.bool d1), (.bool d3), (.int .i64 e6), (.int .i64 e4), (.int .i64 e2)]) ∧ (HWs h56 a 0 13 ∧ ∀ h57, h57 = hsets h56 a 0 [(.int .u64 d7), (.int .u64 f4), (.int .u64 c0), (.int .u8 e0), (.int .u64 e1), (.int .u64 f1), (.int .u64 c1), (.int .u8 d6), (.bool i2), (.bool g9), (.int .i64 k3), (.int .i64 k2), (.int .i64 k1)] → (HWs h57 b 0 13 ∧ ∀ h58, h58 = hsets h57 b 0 [(.int .u64 a9), (.int .u64 b9), (.int .u64 a0), (.int .u8 b1), (.int .u64 a5), (.int .u64 b8), (.int .u64 a1), (.int .u8 a6), (.bool d1), (.bool d3), (.int .i64 e6), (.int .i64 e4), (.int .i64 e2)] → (v3 a 0 b 0 h58)))))))))) ∧ ((∀ b y6, b = Array.size m8 → y6 = Array.push m8 (.cells #[(.int .u64 0), (.int .u64 0), (.int .u64 0), (.int .u8 0), (.int .u64 0), (.int .u64 0), (.int .u64 0), (.int .u8 0), (.bool false), (.bool false), (.int .i64 0), (.int .i64 0), (.int .i64 0)] 38) → ((HC Try.prog 12 #[(.pointer r0), (.agg #[(.int .i64 j5), (.int .u64 g0), (.int .u64 g6), (.int .u64 e9), (.int .u8 f7), (.int .u64 m4), (.int .i64 o3), (.int .i64 o4)])] y6 (fun vv h60 => t5 y6 h60 ∧ ∃ d7 f4 c0 e0 e1 f1 c1 d6 : Int, ∃ i2 g9 : Bool, ∃ k3 k2 k1 : Int, vv = (.agg #[(.int .u64 d7), (.int .u64 f4), (.int .u64 c0), (.int .u8 e0), (.int .u64 e1), (.int .u64 f1), (.int .u64 c1), (.int .u8 d6), (.bool i2), (.bool g9), (.int .i64 k3), (.int .i64 k2), (.int .i64 k1)]) ∧ ((HC Try.prog 12 #[(.pointer r0), (.agg #[(.int .i64 f6), (.int .u64 c6), (.int .u64 d4), (.int .u64 b5), (.int .u8 c8), (.int .u64 g8), (.int .i64 i3), (.int .i64 i5)])] h60 (fun vv h61 => ∃ a9 b9 a0 b1 a5 b8 a1 a6 : Int, ∃ d1 d3 : Bool, ∃ e6 e4 e2 : Int, vv = (.agg #[(.int .u64 a9), (.int .u64 b9), (.int .u64 a0), (.int .u8 b1), (.int .u64 a5), (.int .u64 b8), (.int .u64 a1), (.int .u8 a6), (.bool d1), (.bool d3), (.int .i64 e6), (.int .i64 e4), (.int .i64 e2)]) ∧ (∀ a h62, a = Array.size h61 → h62 = Array.push h61 (.cells #[(.int .u64 0), (.int .u64 0), (.int .u64 0), (.int .u8 0), (.int .u64 0), (.int .u64 0), (.int .u64 0), (.int .u8 0), (.bool false), (.bool false), (.int .i64 0), (.int .i64 0), (.int .i64 0)] 38) → (HWs h62 a 0 13 ∧ ∀ h63, h63 = hsets h62 a 0 [(.int .u64 d7), (.int .u64 f4), (.int .u64 c0), (.int .u8 e0), (.int .u64 e1), (.int .u64 f1), (.int .u64 c1), (.int .u8 d6), (.bool i2), (.bool g9), (.int .i64 k3), (.int .i64 k2), (.int .i64 k1)] → (HWs h63 b 0 13 ∧ ∀ h64, h64 = hsets h63 b 0 [(.int .u64 a9), (.int .u64 b9), (.int .u64 a0), (.int .u8 b1), (.int .u64 a5), (.int .u64 b8), (.int .u64 a1), (.int .u8 a6), (.bool d1), (.bool d3), (.int .i64 e6), (.int .i64 e4), (.int .i64 e2)] → (v3 a 0 b 0 h64)))))) ∧ ((∀ a h65, a = Array.size h60 → h65 = Array.push h60 (.cells #[(.int .u64 0), (.int .u64 0), (.int .u64 0), (.int .u8 0), (.int .u64 0), (.int .u64 0), (.int .u64 0), (.int .u8 0), (.bool false), (.bool false), (.int .i64 0), (.int .i64 0), (.int .i64 0)] 38) → HC Try.prog 12 #[(.pointer r0), (.agg #[(.int .i64 f6), (.int .u64 c6), (.int .u64 d4), (.int .u64 b5), (.int .u8 c8), (.int .u64 g8), (.int .i64 i3), (.int .i64 i5)])] h65 (fun vv h66 => ∃ a9 b9 a0 b1 a5 b8 a1 a6 : Int, ∃ d1 d3 : Bool, ∃ e6 e4 e2 : Int, vv = (.agg #[(.int .u64 a9), (.int .u64 b9), (.int .u64 a0), (.int .u8 b1), (.int .u64 a5), (.int .u64 b8), (.int .u64 a1), (.int .u8 a6), (.bool d1), (.bool d3), (.int .i64 e6), (.int .i64 e4), (.int .i64 e2)]) ∧ (HWs h66 a 0 13 ∧ ∀ h67, h67 = hsets h66 a 0 [(.int .u64 d7), (.int .u64 f4), (.int .u64 c0), (.int .u8 e0), (.int .u64 e1), (.int .u64 f1), (.int .u64 c1), (.int .u8 d6), (.bool i2), (.bool g9), (.int .i64 k3), (.int .i64 k2), (.int .i64 k1)] → (HWs h67 b 0 13 ∧ ∀ h68, h68 = hsets h67 b 0 [(.int .u64 a9), (.int .u64 b9), (.int .u64 a0), (.int .u8 b1), (.int .u64 a5), (.int .u64 b8), (.int .u64 a1), (.int .u8 a6), (.bool d1), (.bool d3), (.int .i64 e6), (.int .i64 e4), (.int .i64 e2)] → (v3 a 0 b 0 h68))))))))) ∧ ((∀ a h69, a = Array.size y6 → h69 = Array.push y6 (.cells #[(.int .u64 0), (.int .u64 0), (.int .u64 0), (.int .u8 0), (.int .u64 0), (.int .u64 0), (.int .u64 0), (.int .u8 0), (.bool false), (.bool false), (.int .i64 0), (.int .i64 0), (.int .i64 0)] 38) → HC Try.prog 12 #[(.pointer r0), (.agg #[(.int .i64 j5), (.int .u64 g0), (.int .u64 g6), (.int .u64 e9), (.int .u8 f7), (.int .u64 m4), (.int .i64 o3), (.int .i64 o4)])] h69 (fun vv h70 => t5 h69 h70 ∧ ∃ d7 f4 c0 e0 e1 f1 c1 d6 : Int, ∃ i2 g9 : Bool, ∃ k3 k2 k1 : Int, vv = (.agg #[(.int .u64 d7), (.int .u64 f4), (.int .u64 c0), (.int .u8 e0), (.int .u64 e1), (.int .u64 f1), (.int .u64 c1), (.int .u8 d6), (.bool i2), (.bool g9), (.int .i64 k3), (.int .i64 k2), (.int .i64 k1)]) ∧ HC Try.prog 12 #[(.pointer r0), (.agg #[(.int .i64 f6), (.int .u64 c6), (.int .u64 d4), (.int .u64 b5), (.int .u8 c8), (.int .u64 g8), (.int .i64 i3), (.int .i64 i5)])] h70 (fun vv h71 => ∃ a9 b9 a0 b1 a5 b8 a1 a6 : Int, ∃ d1 d3 : Bool, ∃ e6 e4 e2 : Int, vv = (.agg #[(.int .u64 a9), (.int .u64 b9), (.int .u64 a0), (.int .u8 b1), (.int .u64 a5), (.int .u64 b8), (.int .u64 a1), (.int .u8 a6), (.bool d1), (.bool d3), (.int .i64 e6), (.int .i64 e4), (.int .i64 e2)]) ∧ (HWs h71 a 0 13 ∧ ∀ h72, h72 = hsets h71 a 0 [(.int .u64 d7), (.int .u64 f4), (.int .u64 c0), (.int .u8 e0), (.int .u64 e1), (.int .u64 f1), (.int .u64 c1), (.int .u8 d6), (.bool i2), (.bool g9), (.int .i64 k3), (.int .i64 k2), (.int .i64 k1)] → (HWs h72 b 0 13 ∧ ∀ h73, h73 = hsets h72 b 0 [(.int .u64 a9), (.int .u64 b9), (.int .u64 a0), (.int .u8 b1), (.int .u64 a5), (.int .u64 b8), (.int .u64 a1), (.int .u8 a6), (.bool d1), (.bool d3), (.int .i64 e6), (.int .i64 e4), (.int .i64 e2)] → (v3 a 0 b 0 h73)))))))))))))) ∧ (∀ (q0 : Nat) (q1 : Nat) (p9 : Nat) (q3 : Nat) (n0 : Heap), v3 q0 q1 p9 q3 n0 → (∃ p8 : Nat → Nat → Nat → Nat → Heap → Prop, (∃ p4 : Heap → Heap → Prop, Fit p4 ∧ (∃ j9 f9 g5 e8 f8 m5 o7 o2 : Int, hcell n0 p 0 = some (.int .i64 j9) ∧ hcell n0 p 1 = some (.int .u64 f9) ∧ hcell n0 p 2 = some (.int .u64 g5) ∧ hcell n0 p 3 = some (.int .u64 e8) ∧ hcell n0 p 4 = some (.int .u8 f8) ∧ hcell n0 p 5 = some (.int .u64 m5) ∧ hcell n0 p 6 = some (.int .i64 o7) ∧ hcell n0 p 7 = some (.int .i64 o2) ∧ (∃ f5 c7 d5 b4 c9 g7 i4 i6 : Int, (∀ hx, p4 n0 hx → hcell hx o 0 = some (.int .i64 f5)) ∧ (∀ hx, p4 n0 hx → hcell hx o 1 = some (.int .u64 c7)) ∧ (∀ hx, p4 n0 hx → hcell hx o 2 = some (.int .u64 d5)) ∧ (∀ hx, p4 n0 hx → hcell hx o 3 = some (.int .u64 b4)) ∧ (∀ hx, p4 n0 hx → hcell hx o 4 = some (.int .u8 c9)) ∧ (∀ hx, p4 n0 hx → hcell hx o 5 = some (.int .u64 g7)) ∧ (∀ hx, p4 n0 hx → hcell hx o 6 = some (.int .i64 i4)) ∧ (∀ hx, p4 n0 hx → hcell hx o 7 = some (.int .i64 i6)) ∧ ((HC Try.prog 12 #[(.pointer f0), (.agg #[(.int .i64 j9), (.int .u64 f9), (.int .u64 g5), (.int .u64 e8), (.int .u8 f8), (.int .u64 m5), (.int .i64 o7), (.int .i64 o2)])] n0 (fun vv y7 => p4 n0 y7 ∧ ∃ c4 d9 b2 c2 c5 d8 b3 c3 : Int, ∃ f2 f3 : Bool, ∃ g2 g1 g3 : Int, vv = (.agg #[(.int .u64 c4), (.int .u64 d9), (.int .u64 b2), (.int .u8 c2), (.int .u64 c5), (.int .u64 d8), (.int .u64 b3), (.int .u8 c3), (.bool f2), (.bool f3), (.int .i64 g2), (.int .i64 g1), (.int .i64 g3)]) ∧ ((HC Try.prog 12 #[(.pointer f0), (.agg #[(.int .i64 f5), (.int .u64 c7), (.int .u64 d5), (.int .u64 b4), (.int .u8 c9), (.int .u64 g7), (.int .i64 i4), (.int .i64 i6)])] y7 (fun vv h76 => ∃ a4 b7 a3 a7 b0 b6 a2 a8 : Int, ∃ d0 d2 : Bool, ∃ e3 e7 e5 : Int, vv = (.agg #[(.int .u64 a4), (.int .u64 b7), (.int .u64 a3), (.int .u8 a7), (.int .u64 b0), (.int .u64 b6), (.int .u64 a2), (.int .u8 a8), (.bool d0), (.bool d2), (.int .i64 e3), (.int .i64 e7), (.int .i64 e5)]) ∧ (((∀ d h77, d = Array.size h76 → h77 = Array.push h76 (.cells #[(.int .u64 0), (.int .u64 0), (.int .u64 0), (.int .u8 0), (.int .u64 0), (.int .u64 0), (.int .u64 0), (.int .u8 0), (.bool false), (.bool false), (.int .i64 0), (.int .i64 0), (.int .i64 0)] 38) → (∀ c h78, c = Array.size h77 → h78 = Array.push h77 (.cells #[(.int .u64 0), (.int .u64 0), (.int .u64 0), (.int .u8 0), (.int .u64 0), (.int .u64 0), (.int .u64 0), (.int .u8 0), (.bool false), (.bool false), (.int .i64 0), (.int .i64 0), (.int .i64 0)] 38) → (HWs h78 d 0 13 ∧ ∀ h79, h79 = hsets h78 d 0 [(.int .u64 c4), (.int .u64 d9), (.int .u64 b2), (.int .u8 c2), (.int .u64 c5), (.int .u64 d8), (.int .u64 b3), (.int .u8 c3), (.bool f2), (.bool f3), (.int .i64 g2), (.int .i64 g1), (.int .i64 g3)] → (HWs h79 c 0 13 ∧ ∀ h80, h80 = hsets h79 c 0 [(.int .u64 a4), (.int .u64 b7), (.int .u64 a3), (.int .u8 a7), (.int .u64 b0), (.int .u64 b6), (.int .u64 a2), (.int .u8 a8), (.bool d0), (.bool d2), (.int .i64 e3), (.int .i64 e7), (.int .i64 e5)] → (p8 d 0 c 0 h80)))))) ∧ ((∀ c h81, c = Array.size h76 → h81 = Array.push h76 (.cells #[(.int .u64 0), (.int .u64 0), (.int .u64 0), (.int .u8 0), (.int .u64 0), (.int .u64 0), (.int .u64 0), (.int .u8 0), (.bool false), (.bool false), (.int .i64 0), (.int .i64 0), (.int .i64 0)] 38) → (∀ d h82, d = Array.size h81 → h82 = Array.push h81 (.cells #[(.int .u64 0), (.int .u64 0), (.int .u64 0), (.int .u8 0), (.int .u64 0), (.int .u64 0), (.int .u64 0), (.int .u8 0), (.bool false), (.bool false), (.int .i64 0), (.int .i64 0), (.int .i64 0)] 38) → (HWs h82 d 0 13 ∧ ∀ h83, h83 = hsets h82 d 0 [(.int .u64 c4), (.int .u64 d9), (.int .u64 b2), (.int .u8 c2), (.int .u64 c5), (.int .u64 d8), (.int .u64 b3), (.int .u8 c3), (.bool f2), (.bool f3), (.int .i64 g2), (.int .i64 g1), (.int .i64 g3)] → (HWs h83 c 0 13 ∧ ∀ h84, h84 = hsets h83 c 0 [(.int .u64 a4), (.int .u64 b7), (.int .u64 a3), (.int .u8 a7), (.int .u64 b0), (.int .u64 b6), (.int .u64 a2), (.int .u8 a8), (.bool d0), (.bool d2), (.int .i64 e3), (.int .i64 e7), (.int .i64 e5)] → (p8 d 0 c 0 h84))))))))) ∧ ((∀ d h85, d = Array.size y7 → h85 = Array.push y7 (.cells #[(.int .u64 0), (.int .u64 0), (.int .u64 0), (.int .u8 0), (.int .u64 0), (.int .u64 0), (.int .u64 0), (.int .u8 0), (.bool false), (.bool false), (.int .i64 0), (.int .i64 0), (.int .i64 0)] 38) → ((HC Try.prog 12 #[(.pointer f0), (.agg #[(.int .i64 f5), (.int .u64 c7), (.int .u64 d5), (.int .u64 b4), (.int .u8 c9), (.int .u64 g7), (.int .i64 i4), (.int .i64 i6)])] h85 (fun vv h86 => ∃ a4 b7 a3 a7 b0 b6 a2 a8 : Int, ∃ d0 d2 : Bool, ∃ e3 e7 e5 : Int, vv = (.agg #[(.int .u64 a4), (.int .u64 b7), (.int .u64 a3), (.int .u8 a7), (.int .u64 b0), (.int .u64 b6), (.int .u64 a2), (.int .u8 a8), (.bool d0), (.bool d2), (.int .i64 e3), (.int .i64 e7), (.int .i64 e5)]) ∧ (∀ c h87, c = Array.size h86 → h87 = Array.push h86 (.cells #[(.int .u64 0), (.int .u64 0), (.int .u64 0), (.int .u8 0), (.int .u64 0), (.int .u64 0), (.int .u64 0), (.int .u8 0), (.bool false), (.bool false), (.int .i64 0), (.int .i64 0), (.int .i64 0)] 38) → (HWs h87 d 0 13 ∧ ∀ h88, h88 = hsets h87 d 0 [(.int .u64 c4), (.int .u64 d9), (.int .u64 b2), (.int .u8 c2), (.int .u64 c5), (.int .u64 d8), (.int .u64 b3), (.int .u8 c3), (.bool f2), (.bool f3), (.int .i64 g2), (.int .i64 g1), (.int .i64 g3)] → (HWs h88 c 0 13 ∧ ∀ h89, h89 = hsets h88 c 0 [(.int .u64 a4), (.int .u64 b7), (.int .u64 a3), (.int .u8 a7), (.int .u64 b0), (.int .u64 b6), (.int .u64 a2), (.int .u8 a8), (.bool d0), (.bool d2), (.int .i64 e3), (.int .i64 e7), (.int .i64 e5)] → (p8 d 0 c 0 h89)))))) ∧ ((∀ c h90, c = Array.size h85 → h90 = Array.push h85 (.cells #[(.int .u64 0), (.int .u64 0), (.int .u64 0), (.int .u8 0), (.int .u64 0), (.int .u64 0), (.int .u64 0), (.int .u8 0), (.bool false), (.bool false), (.int .i64 0), (.int .i64 0), (.int .i64 0)] 38) → HC Try.prog 12 #[(.pointer f0), (.agg #[(.int .i64 f5), (.int .u64 c7), (.int .u64 d5), (.int .u64 b4), (.int .u8 c9), (.int .u64 g7), (.int .i64 i4), (.int .i64 i6)])] h90 (fun vv h91 => ∃ a4 b7 a3 a7 b0 b6 a2 a8 : Int, ∃ d0 d2 : Bool, ∃ e3 e7 e5 : Int, vv = (.agg #[(.int .u64 a4), (.int .u64 b7), (.int .u64 a3), (.int .u8 a7), (.int .u64 b0), (.int .u64 b6), (.int .u64 a2), (.int .u8 a8), (.bool d0), (.bool d2), (.int .i64 e3), (.int .i64 e7), (.int .i64 e5)]) ∧ (HWs h91 d 0 13 ∧ ∀ h92, h92 = hsets h91 d 0 [(.int .u64 c4), (.int .u64 d9), (.int .u64 b2), (.int .u8 c2), (.int .u64 c5), (.int .u64 d8), (.int .u64 b3), (.int .u8 c3), (.bool f2), (.bool f3), (.int .i64 g2), (.int .i64 g1), (.int .i64 g3)] → (HWs h92 c 0 13 ∧ ∀ h93, h93 = hsets h92 c 0 [(.int .u64 a4), (.int .u64 b7), (.int .u64 a3), (.int .u8 a7), (.int .u64 b0), (.int .u64 b6), (.int .u64 a2), (.int .u8 a8), (.bool d0), (.bool d2), (.int .i64 e3), (.int .i64 e7), (.int .i64 e5)] → (p8 d 0 c 0 h93))))))))) ∧ ((∀ c h94, c = Array.size y7 → h94 = Array.push y7 (.cells #[(.int .u64 0), (.int .u64 0), (.int .u64 0), (.int .u8 0), (.int .u64 0), (.int .u64 0), (.int .u64 0), (.int .u8 0), (.bool false), (.bool false), (.int .i64 0), (.int .i64 0), (.int .i64 0)] 38) → ((HC Try.prog 12 #[(.pointer f0), (.agg #[(.int .i64 f5), (.int .u64 c7), (.int .u64 d5), (.int .u64 b4), (.int .u8 c9), (.int .u64 g7), (.int .i64 i4), (.int .i64 i6)])] h94 (fun vv h95 => ∃ a4 b7 a3 a7 b0 b6 a2 a8 : Int, ∃ d0 d2 : Bool, ∃ e3 e7 e5 : Int, vv = (.agg #[(.int .u64 a4), (.int .u64 b7), (.int .u64 a3), (.int .u8 a7), (.int .u64 b0), (.int .u64 b6), (.int .u64 a2), (.int .u8 a8), (.bool d0), (.bool d2), (.int .i64 e3), (.int .i64 e7), (.int .i64 e5)]) ∧ (∀ d h96, d = Array.size h95 → h96 = Array.push h95 (.cells #[(.int .u64 0), (.int .u64 0), (.int .u64 0), (.int .u8 0), (.int .u64 0), (.int .u64 0), (.int .u64 0), (.int .u8 0), (.bool false), (.bool false), (.int .i64 0), (.int .i64 0), (.int .i64 0)] 38) → (HWs h96 d 0 13 ∧ ∀ h97, h97 = hsets h96 d 0 [(.int .u64 c4), (.int .u64 d9), (.int .u64 b2), (.int .u8 c2), (.int .u64 c5), (.int .u64 d8), (.int .u64 b3), (.int .u8 c3), (.bool f2), (.bool f3), (.int .i64 g2), (.int .i64 g1), (.int .i64 g3)] → (HWs h97 c 0 13 ∧ ∀ h98, h98 = hsets h97 c 0 [(.int .u64 a4), (.int .u64 b7), (.int .u64 a3), (.int .u8 a7), (.int .u64 b0), (.int .u64 b6), (.int .u64 a2), (.int .u8 a8), (.bool d0), (.bool d2), (.int .i64 e3), (.int .i64 e7), (.int .i64 e5)] → (p8 d 0 c 0 h98)))))) ∧ ((∀ d h99, d = Array.size h94 → h99 = Array.push h94 (.cells #[(.int .u64 0), (.int .u64 0), (.int .u64 0), (.int .u8 0), (.int .u64 0), (.int .u64 0), (.int .u64 0), (.int .u8 0), (.bool false), (.bool false), (.int .i64 0), (.int .i64 0), (.int .i64 0)] 38) → HC Try.prog 12 #[(.pointer f0), (.agg #[(.int .i64 f5), (.int .u64 c7), (.int .u64 d5), (.int .u64 b4), (.int .u8 c9), (.int .u64 g7), (.int .i64 i4), (.int .i64 i6)])] h99 (fun vv b40 => ∃ a4 b7 a3 a7 b0 b6 a2 a8 : Int, ∃ d0 d2 : Bool, ∃ e3 e7 e5 : Int, vv = (.agg #[(.int .u64 a4), (.int .u64 b7), (.int .u64 a3), (.int .u8 a7), (.int .u64 b0), (.int .u64 b6), (.int .u64 a2), (.int .u8 a8), (.bool d0), (.bool d2), (.int .i64 e3), (.int .i64 e7), (.int .i64 e5)]) ∧ (HWs b40 d 0 13 ∧ ∀ a53, a53 = hsets b40 d 0 [(.int .u64 c4), (.int .u64 d9), (.int .u64 b2), (.int .u8 c2), (.int .u64 c5), (.int .u64 d8), (.int .u64 b3), (.int .u8 c3), (.bool f2), (.bool f3), (.int .i64 g2), (.int .i64 g1), (.int .i64 g3)] → (HWs a53 c 0 13 ∧ ∀ a78, a78 = hsets a53 c 0 [(.int .u64 a4), (.int .u64 b7), (.int .u64 a3), (.int .u8 a7), (.int .u64 b0), (.int .u64 b6), (.int .u64 a2), (.int .u8 a8), (.bool d0), (.bool d2), (.int .i64 e3), (.int .i64 e7), (.int .i64 e5)] → (p8 d 0 c 0 a78)))))))))))) ∧ ((∀ d w8, d = Array.size n0 → w8 = Array.push n0 (.cells #[(.int .u64 0), (.int .u64 0), (.int .u64 0), (.int .u8 0), (.int .u64 0), (.int .u64 0), (.int .u64 0), (.int .u8 0), (.bool false), (.bool false), (.int .i64 0), (.int .i64 0), (.int .i64 0)] 38) → ((HC Try.prog 12 #[(.pointer f0), (.agg #[(.int .i64 j9), (.int .u64 f9), (.int .u64 g5), (.int .u64 e8), (.int .u8 f8), (.int .u64 m5), (.int .i64 o7), (.int .i64 o2)])] w8 (fun vv a13 => p4 w8 a13 ∧ ∃ c4 d9 b2 c2 c5 d8 b3 c3 : Int, ∃ f2 f3 : Bool, ∃ g2 g1 g3 : Int, vv = (.agg #[(.int .u64 c4), (.int .u64 d9), (.int .u64 b2), (.int .u8 c2), (.int .u64 c5), (.int .u64 d8), (.int .u64 b3), (.int .u8 c3), (.bool f2), (.bool f3), (.int .i64 g2), (.int .i64 g1), (.int .i64 g3)]) ∧ ((HC Try.prog 12 #[(.pointer f0), (.agg #[(.int .i64 f5), (.int .u64 c7), (.int .u64 d5), (.int .u64 b4), (.int .u8 c9), (.int .u64 g7), (.int .i64 i4), (.int .i64 i6)])] a13 (fun vv b12 => ∃ a4 b7 a3 a7 b0 b6 a2 a8 : Int, ∃ d0 d2 : Bool, ∃ e3 e7 e5 : Int, vv = (.agg #[(.int .u64 a4), (.int .u64 b7), (.int .u64 a3), (.int .u8 a7), (.int .u64 b0), (.int .u64 b6), (.int .u64 a2), (.int .u8 a8), (.bool d0), (.bool d2), (.int .i64 e3), (.int .i64 e7), (.int .i64 e5)]) ∧ (∀ c a17, c = Array.size b12 → a17 = Array.push b12 (.cells #[(.int .u64 0), (.int .u64 0), (.int .u64 0), (.int .u8 0), (.int .u64 0), (.int .u64 0), (.int .u64 0), (.int .u8 0), (.bool false), (.bool false), (.int .i64 0), (.int .i64 0), (.int .i64 0)] 38) → (HWs a17 d 0 13 ∧ ∀ a46, a46 = hsets a17 d 0 [(.int .u64 c4), (.int .u64 d9), (.int .u64 b2), (.int .u8 c2), (.int .u64 c5), (.int .u64 d8), (.int .u64 b3), (.int .u8 c3), (.bool f2), (.bool f3), (.int .i64 g2), (.int .i64 g1), (.int .i64 g3)] → (HWs a46 c 0 13 ∧ ∀ a96, a96 = hsets a46 c 0 [(.int .u64 a4), (.int .u64 b7), (.int .u64 a3), (.int .u8 a7), (.int .u64 b0), (.int .u64 b6), (.int .u64 a2), (.int .u8 a8), (.bool d0), (.bool d2), (.int .i64 e3), (.int .i64 e7), (.int .i64 e5)] → (p8 d 0 c 0 a96)))))) ∧ ((∀ c a29, c = Array.size a13 → a29 = Array.push a13 (.cells #[(.int .u64 0), (.int .u64 0), (.int .u64 0), (.int .u8 0), (.int .u64 0), (.int .u64 0), (.int .u64 0), (.int .u8 0), (.bool false), (.bool false), (.int .i64 0), (.int .i64 0), (.int .i64 0)] 38) → HC Try.prog 12 #[(.pointer f0), (.agg #[(.int .i64 f5), (.int .u64 c7), (.int .u64 d5), (.int .u64 b4), (.int .u8 c9), (.int .u64 g7), (.int .i64 i4), (.int .i64 i6)])] a29 (fun vv b45 => ∃ a4 b7 a3 a7 b0 b6 a2 a8 : Int, ∃ d0 d2 : Bool, ∃ e3 e7 e5 : Int, vv = (.agg #[(.int .u64 a4), (.int .u64 b7), (.int .u64 a3), (.int .u8 a7), (.int .u64 b0), (.int .u64 b6), (.int .u64 a2), (.int .u8 a8), (.bool d0), (.bool d2), (.int .i64 e3), (.int .i64 e7), (.int .i64 e5)]) ∧ (HWs b45 d 0 13 ∧ ∀ a52, a52 = hsets b45 d 0 [(.int .u64 c4), (.int .u64 d9), (.int .u64 b2), (.int .u8 c2), (.int .u64 c5), (.int .u64 d8), (.int .u64 b3), (.int .u8 c3), (.bool f2), (.bool f3), (.int .i64 g2), (.int .i64 g1), (.int .i64 g3)] → (HWs a52 c 0 13 ∧ ∀ a85, a85 = hsets a52 c 0 [(.int .u64 a4), (.int .u64 b7), (.int .u64 a3), (.int .u8 a7), (.int .u64 b0), (.int .u64 b6), (.int .u64 a2), (.int .u8 a8), (.bool d0), (.bool d2), (.int .i64 e3), (.int .i64 e7), (.int .i64 e5)] → (p8 d 0 c 0 a85))))))))) ∧ ((∀ c z9, c = Array.size w8 → z9 = Array.push w8 (.cells #[(.int .u64 0), (.int .u64 0), (.int .u64 0), (.int .u8 0), (.int .u64 0), (.int .u64 0), (.int .u64 0), (.int .u8 0), (.bool false), (.bool false), (.int .i64 0), (.int .i64 0), (.int .i64 0)] 38) → HC Try.prog 12 #[(.pointer f0), (.agg #[(.int .i64 j9), (.int .u64 f9), (.int .u64 g5), (.int .u64 e8), (.int .u8 f8), (.int .u64 m5), (.int .i64 o7), (.int .i64 o2)])] z9 (fun vv b53 => p4 z9 b53 ∧ ∃ c4 d9 b2 c2 c5 d8 b3 c3 : Int, ∃ f2 f3 : Bool, ∃ g2 g1 g3 : Int, vv = (.agg #[(.int .u64 c4), (.int .u64 d9), (.int .u64 b2), (.int .u8 c2), (.int .u64 c5), (.int .u64 d8), (.int .u64 b3), (.int .u8 c3), (.bool f2), (.bool f3), (.int .i64 g2), (.int .i64 g1), (.int .i64 g3)]) ∧ HC Try.prog 12 #[(.pointer f0), (.agg #[(.int .i64 f5), (.int .u64 c7), (.int .u64 d5), (.int .u64 b4), (.int .u8 c9), (.int .u64 g7), (.int .i64 i4), (.int .i64 i6)])] b53 (fun vv b42 => ∃ a4 b7 a3 a7 b0 b6 a2 a8 : Int, ∃ d0 d2 : Bool, ∃ e3 e7 e5 : Int, vv = (.agg #[(.int .u64 a4), (.int .u64 b7), (.int .u64 a3), (.int .u8 a7), (.int .u64 b0), (.int .u64 b6), (.int .u64 a2), (.int .u8 a8), (.bool d0), (.bool d2), (.int .i64 e3), (.int .i64 e7), (.int .i64 e5)]) ∧ (HWs b42 d 0 13 ∧ ∀ a28, a28 = hsets b42 d 0 [(.int .u64 c4), (.int .u64 d9), (.int .u64 b2), (.int .u8 c2), (.int .u64 c5), (.int .u64 d8), (.int .u64 b3), (.int .u8 c3), (.bool f2), (.bool f3), (.int .i64 g2), (.int .i64 g1), (.int .i64 g3)] → (HWs a28 c 0 13 ∧ ∀ a75, a75 = hsets a28 c 0 [(.int .u64 a4), (.int .u64 b7), (.int .u64 a3), (.int .u8 a7), (.int .u64 b0), (.int .u64 b6), (.int .u64 a2), (.int .u8 a8), (.bool d0), (.bool d2), (.int .i64 e3), (.int .i64 e7), (.int .i64 e5)] → (p8 d 0 c 0 a75)))))))))) ∧ ((∀ c w9, c = Array.size n0 → w9 = Array.push n0 (.cells #[(.int .u64 0), (.int .u64 0), (.int .u64 0), (.int .u8 0), (.int .u64 0), (.int .u64 0), (.int .u64 0), (.int .u8 0), (.bool false), (.bool false), (.int .i64 0), (.int .i64 0), (.int .i64 0)] 38) → ((HC Try.prog 12 #[(.pointer f0), (.agg #[(.int .i64 j9), (.int .u64 f9), (.int .u64 g5), (.int .u64 e8), (.int .u8 f8), (.int .u64 m5), (.int .i64 o7), (.int .i64 o2)])] w9 (fun vv a11 => p4 w9 a11 ∧ ∃ c4 d9 b2 c2 c5 d8 b3 c3 : Int, ∃ f2 f3 : Bool, ∃ g2 g1 g3 : Int, vv = (.agg #[(.int .u64 c4), (.int .u64 d9), (.int .u64 b2), (.int .u8 c2), (.int .u64 c5), (.int .u64 d8), (.int .u64 b3), (.int .u8 c3), (.bool f2), (.bool f3), (.int .i64 g2), (.int .i64 g1), (.int .i64 g3)]) ∧ ((HC Try.prog 12 #[(.pointer f0), (.agg #[(.int .i64 f5), (.int .u64 c7), (.int .u64 d5), (.int .u64 b4), (.int .u8 c9), (.int .u64 g7), (.int .i64 i4), (.int .i64 i6)])] a11 (fun vv a91 => ∃ a4 b7 a3 a7 b0 b6 a2 a8 : Int, ∃ d0 d2 : Bool, ∃ e3 e7 e5 : Int, vv = (.agg #[(.int .u64 a4), (.int .u64 b7), (.int .u64 a3), (.int .u8 a7), (.int .u64 b0), (.int .u64 b6), (.int .u64 a2), (.int .u8 a8), (.bool d0), (.bool d2), (.int .i64 e3), (.int .i64 e7), (.int .i64 e5)]) ∧ (∀ d z8, d = Array.size a91 → z8 = Array.push a91 (.cells #[(.int .u64 0), (.int .u64 0), (.int .u64 0), (.int .u8 0), (.int .u64 0), (.int .u64 0), (.int .u64 0), (.int .u8 0), (.bool false), (.bool false), (.int .i64 0), (.int .i64 0), (.int .i64 0)] 38) → (HWs z8 d 0 13 ∧ ∀ a43, a43 = hsets z8 d 0 [(.int .u64 c4), (.int .u64 d9), (.int .u64 b2), (.int .u8 c2), (.int .u64 c5), (.int .u64 d8), (.int .u64 b3), (.int .u8 c3), (.bool f2), (.bool f3), (.int .i64 g2), (.int .i64 g1), (.int .i64 g3)] → (HWs a43 c 0 13 ∧ ∀ a97, a97 = hsets a43 c 0 [(.int .u64 a4), (.int .u64 b7), (.int .u64 a3), (.int .u8 a7), (.int .u64 b0), (.int .u64 b6), (.int .u64 a2), (.int .u8 a8), (.bool d0), (.bool d2), (.int .i64 e3), (.int .i64 e7), (.int .i64 e5)] → (p8 d 0 c 0 a97)))))) ∧ ((∀ d a30, d = Array.size a11 → a30 = Array.push a11 (.cells #[(.int .u64 0), (.int .u64 0), (.int .u64 0), (.int .u8 0), (.int .u64 0), (.int .u64 0), (.int .u64 0), (.int .u8 0), (.bool false), (.bool false), (.int .i64 0), (.int .i64 0), (.int .i64 0)] 38) → HC Try.prog 12 #[(.pointer f0), (.agg #[(.int .i64 f5), (.int .u64 c7), (.int .u64 d5), (.int .u64 b4), (.int .u8 c9), (.int .u64 g7), (.int .i64 i4), (.int .i64 i6)])] a30 (fun vv b43 => ∃ a4 b7 a3 a7 b0 b6 a2 a8 : Int, ∃ d0 d2 : Bool, ∃ e3 e7 e5 : Int, vv = (.agg #[(.int .u64 a4), (.int .u64 b7), (.int .u64 a3), (.int .u8 a7), (.int .u64 b0), (.int .u64 b6), (.int .u64 a2), (.int .u8 a8), (.bool d0), (.bool d2), (.int .i64 e3), (.int .i64 e7), (.int .i64 e5)]) ∧ (HWs b43 d 0 13 ∧ ∀ a49, a49 = hsets b43 d 0 [(.int .u64 c4), (.int .u64 d9), (.int .u64 b2), (.int .u8 c2), (.int .u64 c5), (.int .u64 d8), (.int .u64 b3), (.int .u8 c3), (.bool f2), (.bool f3), (.int .i64 g2), (.int .i64 g1), (.int .i64 g3)] → (HWs a49 c 0 13 ∧ ∀ b11, b11 = hsets a49 c 0 [(.int .u64 a4), (.int .u64 b7), (.int .u64 a3), (.int .u8 a7), (.int .u64 b0), (.int .u64 b6), (.int .u64 a2), (.int .u8 a8), (.bool d0), (.bool d2), (.int .i64 e3), (.int .i64 e7), (.int .i64 e5)] → (p8 d 0 c 0 b11))))))))) ∧ ((∀ d z7, d = Array.size w9 → z7 = Array.push w9 (.cells #[(.int .u64 0), (.int .u64 0), (.int .u64 0), (.int .u8 0), (.int .u64 0), (.int .u64 0), (.int .u64 0), (.int .u8 0), (.bool false), (.bool false), (.int .i64 0), (.int .i64 0), (.int .i64 0)] 38) → HC Try.prog 12 #[(.pointer f0), (.agg #[(.int .i64 j9), (.int .u64 f9), (.int .u64 g5), (.int .u64 e8), (.int .u8 f8), (.int .u64 m5), (.int .i64 o7), (.int .i64 o2)])] z7 (fun vv b55 => p4 z7 b55 ∧ ∃ c4 d9 b2 c2 c5 d8 b3 c3 : Int, ∃ f2 f3 : Bool, ∃ g2 g1 g3 : Int, vv = (.agg #[(.int .u64 c4), (.int .u64 d9), (.int .u64 b2), (.int .u8 c2), (.int .u64 c5), (.int .u64 d8), (.int .u64 b3), (.int .u8 c3), (.bool f2), (.bool f3), (.int .i64 g2), (.int .i64 g1), (.int .i64 g3)]) ∧ HC Try.prog 12 #[(.pointer f0), (.agg #[(.int .i64 f5), (.int .u64 c7), (.int .u64 d5), (.int .u64 b4), (.int .u8 c9), (.int .u64 g7), (.int .i64 i4), (.int .i64 i6)])] b55 (fun vv b44 => ∃ a4 b7 a3 a7 b0 b6 a2 a8 : Int, ∃ d0 d2 : Bool, ∃ e3 e7 e5 : Int, vv = (.agg #[(.int .u64 a4), (.int .u64 b7), (.int .u64 a3), (.int .u8 a7), (.int .u64 b0), (.int .u64 b6), (.int .u64 a2), (.int .u8 a8), (.bool d0), (.bool d2), (.int .i64 e3), (.int .i64 e7), (.int .i64 e5)]) ∧ (HWs b44 d 0 13 ∧ ∀ a33, a33 = hsets b44 d 0 [(.int .u64 c4), (.int .u64 d9), (.int .u64 b2), (.int .u8 c2), (.int .u64 c5), (.int .u64 d8), (.int .u64 b3), (.int .u8 c3), (.bool f2), (.bool f3), (.int .i64 g2), (.int .i64 g1), (.int .i64 g3)] → (HWs a33 c 0 13 ∧ ∀ a84, a84 = hsets a33 c 0 [(.int .u64 a4), (.int .u64 b7), (.int .u64 a3), (.int .u8 a7), (.int .u64 b0), (.int .u64 b6), (.int .u64 a2), (.int .u8 a8), (.bool d0), (.bool d2), (.int .i64 e3), (.int .i64 e7), (.int .i64 e5)] → (p8 d 0 c 0 a84)))))))))))))) ∧ (∀ (r5 : Nat) (s3 : Nat) (r6 : Nat) (r9 : Nat) (g4 : Heap), p8 r5 s3 r6 r9 g4 → (∃ j_1 : Bool, (∃ l9 p1 i8 m1 l8 o8 i9 m2 : Int, ∃ v1 v5 : Bool, ∃ x4 x5 x3 : Int, hcell g4 q0 q1 = some (.int .u64 l9) ∧ hcell g4 q0 (q1 + 1) = some (.int .u64 p1) ∧ hcell g4 q0 (q1 + 2) = some (.int .u64 i8) ∧ hcell g4 q0 (q1 + 3) = some (.int .u8 m1) ∧ hcell g4 q0 (q1 + 4) = some (.int .u64 l8) ∧ hcell g4 q0 (q1 + 5) = some (.int .u64 o8) ∧ hcell g4 q0 (q1 + 6) = some (.int .u64 i9) ∧ hcell g4 q0 (q1 + 7) = some (.int .u8 m2) ∧ hcell g4 q0 (q1 + 8) = some (.bool v1) ∧ hcell g4 q0 (q1 + 9) = some (.bool v5) ∧ hcell g4 q0 (q1 + 10) = some (.int .i64 x4) ∧ hcell g4 q0 (q1 + 11) = some (.int .i64 x5) ∧ hcell g4 q0 (q1 + 12) = some (.int .i64 x3) ∧ (∃ j8 m0 i1 j4 j7 m3 i0 j6 : Int, ∃ o9 p2 : Bool, ∃ q5 r8 q6 : Int, hcell g4 r6 r9 = some (.int .u64 j8) ∧ hcell g4 r6 (r9 + 1) = some (.int .u64 m0) ∧ hcell g4 r6 (r9 + 2) = some (.int .u64 i1) ∧ hcell g4 r6 (r9 + 3) = some (.int .u8 j4) ∧ hcell g4 r6 (r9 + 4) = some (.int .u64 j7) ∧ hcell g4 r6 (r9 + 5) = some (.int .u64 m3) ∧ hcell g4 r6 (r9 + 6) = some (.int .u64 i0) ∧ hcell g4 r6 (r9 + 7) = some (.int .u8 j6) ∧ hcell g4 r6 (r9 + 8) = some (.bool o9) ∧ hcell g4 r6 (r9 + 9) = some (.bool p2) ∧ hcell g4 r6 (r9 + 10) = some (.int .i64 q5) ∧ hcell g4 r6 (r9 + 11) = some (.int .i64 r8) ∧ hcell g4 r6 (r9 + 12) = some (.int .i64 q6) ∧ (((!(((l9 == j8 && (p1 == m0 && (i8 == i1 && (m1 == j4 && true)))) && ((l8 == j7 && (o8 == m3 && (i9 == i0 && (m2 == j6 && true)))) && (v1 == o9 && (v5 == p2 && (x4 == q5 && (x5 == r8 && (x3 == q6 && true))))))))) = true → (j_1 = true)) ∧ ((!(((l9 == j8 && (p1 == m0 && (i8 == i1 && (m1 == j4 && true)))) && ((l8 == j7 && (o8 == m3 && (i9 == i0 && (m2 == j6 && true)))) && (v1 == o9 && (v5 == p2 && (x4 == q5 && (x5 == r8 && (x3 == q6 && true))))))))) = false → (∃ l0 n8 j1 l2 l5 n9 j3 l4 : Int, ∃ s5 q9 : Bool, ∃ u6 t7 t6 : Int, hcell g4 p9 q3 = some (.int .u64 l0) ∧ hcell g4 p9 (q3 + 1) = some (.int .u64 n8) ∧ hcell g4 p9 (q3 + 2) = some (.int .u64 j1) ∧ hcell g4 p9 (q3 + 3) = some (.int .u8 l2) ∧ hcell g4 p9 (q3 + 4) = some (.int .u64 l5) ∧ hcell g4 p9 (q3 + 5) = some (.int .u64 n9) ∧ hcell g4 p9 (q3 + 6) = some (.int .u64 j3) ∧ hcell g4 p9 (q3 + 7) = some (.int .u8 l4) ∧ hcell g4 p9 (q3 + 8) = some (.bool s5) ∧ hcell g4 p9 (q3 + 9) = some (.bool q9) ∧ hcell g4 p9 (q3 + 10) = some (.int .i64 u6) ∧ hcell g4 p9 (q3 + 11) = some (.int .i64 t7) ∧ hcell g4 p9 (q3 + 12) = some (.int .i64 t6) ∧ (∃ k8 n6 j2 k9 l1 n7 j0 l3 : Int, ∃ r7 q7 : Bool, ∃ u2 t9 t8 : Int, hcell g4 r5 s3 = some (.int .u64 k8) ∧ hcell g4 r5 (s3 + 1) = some (.int .u64 n6) ∧ hcell g4 r5 (s3 + 2) = some (.int .u64 j2) ∧ hcell g4 r5 (s3 + 3) = some (.int .u8 k9) ∧ hcell g4 r5 (s3 + 4) = some (.int .u64 l1) ∧ hcell g4 r5 (s3 + 5) = some (.int .u64 n7) ∧ hcell g4 r5 (s3 + 6) = some (.int .u64 j0) ∧ hcell g4 r5 (s3 + 7) = some (.int .u8 l3) ∧ hcell g4 r5 (s3 + 8) = some (.bool r7) ∧ hcell g4 r5 (s3 + 9) = some (.bool q7) ∧ hcell g4 r5 (s3 + 10) = some (.int .i64 u2) ∧ hcell g4 r5 (s3 + 11) = some (.int .i64 t9) ∧ hcell g4 r5 (s3 + 12) = some (.int .i64 t8) ∧ (j_1 = (!(((l0 == k8 && (n8 == n6 && (j1 == j2 && (l2 == k9 && true)))) && ((l5 == l1 && (n9 == n7 && (j3 == j0 && (l4 == l3 && true)))) && (s5 == r7 && (q9 == q7 && (u6 == u2 && (t7 == t9 && (t6 == t8 && true)))))))))))))))) ∧ ((j_1 = true → (HW g4 nb 0 ∧ ∀ a48, a48 = hset g4 nb 0 (.bool false) → (∃ r4 : Bool, hcell a48 nb 0 = some (.bool r4) ∧ (∀ c52, Shut' (Array.size h) a48 c52 → R (.bool r4) c52)))) ∧ (j_1 = false → (∃ (a34 : Int → Heap → Prop) (a25 : Int → Heap → Nat), a34 0 g4 ∧ (∀ (i7 : Int) (v6 : Heap), a34 i7 v6 → (∃ r_2 : Int, HC Try.prog 17 #[(.pointer r0)] v6 (fun vv h' => vv = (.int .i64 r_2) ∧ h' = v6) ∧ (((decide (i7 < r_2)) = true → (∀ x2 a27, x2 = Array.size v6 → a27 = Array.push v6 (.cells #[(.slice none 0 0)] 47) → HC Try.prog 18 #[(.pointer r0), (.int .i64 i7)] a27 (fun vv a94 => ∃ r_3 : Value, vv = r_3 ∧ (∀ (t2 : LoopState → Option Code → Heap → Prop) (l : Nat) (z5 : Heap) (y : Value), (∀ s p h h', t2 s p h → h'[l]? = h[l]? → t2 s p h') → l = Array.size a94 + 1 → Ext a94 z5 → Array.size z5 = Array.size a94 + 2 → t2 .ready none z5 → (∀ (x8 : Int) (a23 : Int) (u7 : Int) (x6 : Int) (a14 : Heap) (b41 : Value → Heap → Prop), t2 .ready none a14 → (∀ e z6, e = Array.size a14 → z6 = Array.push a14 (.cells #[(.int .u64 0), (.int .u64 0), (.int .u64 0), (.int .u8 0)] 31) → (HWs z6 e 0 4 ∧ ∀ a40, a40 = hsets z6 e 0 [(.int .u64 x8), (.int .u64 a23), (.int .u64 u7), (.int .u8 x6)] → (t2 .ready none a40 ∧ ∀ t3, Only l a40 t3 → t2 .busy none t3 → (∃ x : Option Addr, ∃ a22 x_c : Nat, hcell t3 x2 0 = some (.slice x a22 x_c) ∧ (∃ v4 u8 p0 u9 : Int, hcell t3 e 0 = some (.int .u64 v4) ∧ hcell t3 e 1 = some (.int .u64 u8) ∧ hcell t3 e 2 = some (.int .u64 p0) ∧ hcell t3 e 3 = some (.int .u8 u9) ∧ (∀ a73 a47, a73 = Array.size t3 → a47 = Array.push t3 (.cells #[(.int .u64 v4), (.int .u64 u8), (.int .u64 p0), (.int .u8 u9)] 31) → HAppend Try.prog 47 47 (.slice x a22 x_c) (.slice (some ⟨a73, 0, none⟩) 1 1) a47 (fun vv b50 => ∃ ap : Option Addr, ∃ a79 a93 : Nat, vv = (.slice ap a79 a93) ∧ (HW b50 x2 0 ∧ ∀ a44, a44 = hset b50 x2 0 (.slice ap a79 a93) → (t2 .busy none a44 ∧ ∀ b59, Only l a44 b59 → t2 .ready none b59 → b41 (.bool true) b59))))))))) → HCV Try.prog y [(.agg #[(.int .u64 x8), (.int .u64 a23), (.int .u64 u7), (.int .u8 x6)])] a14 b41) → HCF Try.prog r_3 [y] z5 (fun _ b49 => ∃ (st : LoopState) (t4 : Option Code), t2 st t4 b49 ∧ st ≠ .busy ∧ ∀ a37, Only l b49 a37 → t2 .exhausted t4 a37 → ((t4 = none ∧ HC Try.prog 18 #[(.pointer f0), (.int .i64 i7)] a37 (fun vv a90 => ∃ r_4 : Value, vv = r_4 ∧ (∀ (p5 : LoopState → Option Code → Heap → Prop) (y1 : Nat) (a10 : Heap) (y_1 : Value), (∀ s p h h', p5 s p h → h'[y1]? = h[y1]? → p5 s p h') → y1 = Array.size a90 + 1 → Ext a90 a10 → Array.size a10 = Array.size a90 + 2 → p5 .ready none a10 → (∀ (v8 : Int) (y0 : Int) (r2 : Int) (v7 : Int) (a12 : Heap) (a82 : Value → Heap → Prop), p5 .ready none a12 → (∀ y8 a15, y8 = Array.size a12 → a15 = Array.push a12 (.cells #[(.int .u64 0), (.int .u64 0), (.int .u64 0), (.int .u8 0)] 31) → (HWs a15 y8 0 4 ∧ ∀ a55, a55 = hsets a15 y8 0 [(.int .u64 v8), (.int .u64 y0), (.int .u64 r2), (.int .u8 v7)] → (p5 .ready none a55 ∧ ∀ o0, Only y1 a55 o0 → p5 .busy none o0 → (∃ j_2 : Bool, (∃ x_1 : Option Addr, ∃ p6 a24 : Nat, hcell o0 x2 0 = some (.slice x_1 p6 a24) ∧ ((((p6 : Int) == 0) = true → (j_2 = true)) ∧ (((p6 : Int) == 0) = false → (∃ w7 x0 : Nat, x_1 = some ⟨w7, x0, none⟩ ∧ (0 : Int) ≤ 0 ∧ 0 < (p6 : Int) ∧ (∃ n2 s4 k4 n3 : Int, hcell o0 w7 (x0 + (Int.toNat 0) * 4) = some (.int .u64 n2) ∧ hcell o0 w7 ((x0 + (Int.toNat 0) * 4) + 1) = some (.int .u64 s4) ∧ hcell o0 w7 ((x0 + (Int.toNat 0) * 4) + 2) = some (.int .u64 k4) ∧ hcell o0 w7 ((x0 + (Int.toNat 0) * 4) + 3) = some (.int .u8 n3) ∧ (∃ n4 s1 k5 n5 : Int, hcell o0 y8 0 = some (.int .u64 n4) ∧ hcell o0 y8 1 = some (.int .u64 s1) ∧ hcell o0 y8 2 = some (.int .u64 k5) ∧ hcell o0 y8 3 = some (.int .u8 n5) ∧ (j_2 = (!((n2 == n4 && (s4 == s1 && (k4 == k5 && (n3 == n5 && true))))))))))))) ∧ ((j_2 = true → (HW o0 nb 0 ∧ ∀ a36, a36 = hset o0 nb 0 (.bool false) → (p5 .busy none a36 ∧ ∀ b47, Only y1 a36 b47 → p5 .done (some .ret) b47 → a82 (.bool false) b47))) ∧ (j_2 = false → (∃ x_2 : Option Addr, ∃ u4 u1 : Nat, hcell o0 x2 0 = some (.slice x_2 u4 u1) ∧ (0 ≤ ((1 : Int) : Int) ∧ (1 : Int) ≤ (u4 : Int) ∧ (u4 : Int) ≤ (u1 : Int) ∧ ∀ sl : Option Addr, sl = slA x_2 (Int.toNat 1) 4 u1 → (HW o0 x2 0 ∧ ∀ a45, a45 = hset o0 x2 0 (.slice sl (Int.toNat (u4 : Int) - Int.toNat 1) (u1 - Int.toNat 1)) → (p5 .busy none a45 ∧ ∀ b46, Only y1 a45 b46 → p5 .ready none b46 → a82 (.bool true) b46)))))))))) → HCV Try.prog y_1 [(.agg #[(.int .u64 v8), (.int .u64 y0), (.int .u64 r2), (.int .u8 v7)])] a12 a82) → HCF Try.prog r_4 [y_1] a10 (fun _ b57 => ∃ (st : LoopState) (t4 : Option Code), p5 st t4 b57 ∧ st ≠ .busy ∧ ∀ v0, Only y1 b57 v0 → p5 .exhausted t4 v0 → ((t4 = none ∧ (∃ x_3 : Option Addr, ∃ u0 a83 : Nat, hcell v0 x2 0 = some (.slice x_3 u0 a83) ∧ (((decide ((u0 : Int) > 0)) = true → (HW v0 nb 0 ∧ ∀ a31, a31 = hset v0 nb 0 (.bool false) → (∃ r4 : Bool, hcell a31 nb 0 = some (.bool r4) ∧ (∀ c37, Shut' (Array.size h) a31 c37 → R (.bool r4) c37)))) ∧ ((decide ((u0 : Int) > 0)) = false → (a34 (IntKind.i64.wrap (i7 + 1)) v0 ∧ a25 (IntKind.i64.wrap (i7 + 1)) v0 < a25 i7 v6))))) ∨ (t4 = some .ret ∧ (∃ a77 : Bool, hcell v0 nb 0 = some (.bool a77) ∧ (∀ c39, Shut' (Array.size h) v0 c39 → R (.bool a77) c39)))))))))))))) ∧ ((decide (i7 < r_2)) = false → (HW v6 nb 0 ∧ ∀ a26, a26 = hset v6 nb 0 (.bool true) → (∃ r4 : Bool, hcell a26 nb 0 = some (.bool r4) ∧ (∀ c55, Shut' (Array.size h) a26 c55 → R (.bool r4) c55))))))))))))))))))))))))))))))))) :
  HC Try.prog 6 #[(.agg #[(.int .i64 v9), (.int .i64 z3), (.int .i64 z2), (.slice b10 z1 y3)]), (.agg #[(.int .i64 y4), (.int .u64 q4), (.int .u64 u3), (.int .u64 o6), (.int .u8 q8), (.int .u64 a80), (.int .i64 o_N), (.int .i64 o_M)]), (.agg #[(.int .i64 y5), (.int .u64 s0), (.int .u64 u5), (.int .u64 o5), (.int .u8 r3), (.int .u64 a92), (.int .i64 p_N), (.int .i64 p_M)])] h R := by
 refine hc_ofM (args := [(.agg #[(.int .i64 v9), (.int .i64 z3), (.int .i64 z2), (.slice b10 z1 y3)]), (.agg #[(.int .i64 y4), (.int .u64 q4), (.int .u64 u3), (.int .u64 o6), (.int .u8 q8), (.int .u64 a80), (.int .i64 o_N), (.int .i64 o_M)]), (.agg #[(.int .i64 y5), (.int .u64 s0), (.int .u64 u5), (.int .u64 o5), (.int .u8 r3), (.int .u64 a92), (.int .i64 p_N), (.int .i64 p_M)])]) Try.func6 rfl Try.ntmps6 (Nat.le_of_ble_eq_true rfl) ?_
 refine xs (xr ?_)
 refine lp rfl rfl (hn_box (v := (.agg #[(.int .i64 v9), (.int .i64 z3), (.int .i64 z2), (.slice b10 z1 y3)])) rfl ?_)
 intro sv h1 eb1 eh2
 replace H := H sv h1 eb1 eh2
 have xx3 := ext_pushed_f6_sh eh2
 refine lp rfl rfl (hn_box (v := (.agg #[(.int .i64 y4), (.int .u64 q4), (.int .u64 u3), (.int .u64 o6), (.int .u8 q8), (.int .u64 a80), (.int .i64 o_N), (.int .i64 o_M)])) rfl ?_)
 intro o h2 eb4 eh5
 replace H := H o h2 eb4 eh5
 have xx6 := ext_pushed_f6_sh eh5
 refine lp rfl rfl (hn_box (v := (.agg #[(.int .i64 y5), (.int .u64 s0), (.int .u64 u5), (.int .u64 o5), (.int .u8 r3), (.int .u64 a92), (.int .i64 p_N), (.int .i64 p_M)])) rfl ?_)
 intro p h3 eb7 eh8
 replace H := H p h3 eb7 eh8
 have xx9 := ext_pushed_f6_sh eh8
 refine lp rfl rfl (hn_alloc TyShZ.z4 ?_)
 intro nb h4 g62 c43
 replace H := H nb h4 g62 c43
 have g85 := ext_pushed_f6_sh c43
 refine ln (qn (xs (xr ?_)))
 obtain ⟨q2, w6, w0, z4, w2, w5, g71, g33, g52, g31, H⟩ := H
 refine lv rfl rfl (vL (vs := [(.int .i64 q2), (.int .i64 w6), (.int .i64 w0), (.slice z4 w2 w5)]) TyShZ.agg24 TyShZ.sz24 rfl (cc g71 (cc g33 (cc g52 (cc g31 cn))))) ?_
 refine lp rfl rfl (sc TyShZ.cb15 rfl (HC.mono H ?_))
 rintro _ h5 ⟨r0, r1, rfl, H⟩
 refine lv rfl rfl (vm rfl) (lv rfl rfl (vx rfl rfl) (lv rfl rfl (vx rfl rfl) (lv rfl rfl (va rfl) (lv rfl rfl (va rfl) ?_))))
 refine ln (qn (xs (xr ?_)))
 obtain ⟨o1, s6, s9, w4, t1, t0, g70, g29, g57, g18, H⟩ := H
 refine lv rfl rfl (vL (vs := [(.int .i64 o1), (.int .i64 s6), (.int .i64 s9), (.slice w4 t1 t0)]) TyShZ.agg24 TyShZ.sz24 rfl (cc g70 (cc g29 (cc g57 (cc g18 cn))))) ?_
 refine lp rfl rfl (sc TyShZ.cb15 rfl (HC.mono H ?_))
 rintro _ h6 ⟨f0, k6, rfl, H⟩
 refine lv rfl rfl (vm rfl) (lv rfl rfl (vx rfl rfl) (lv rfl rfl (vx rfl rfl) (lv rfl rfl (va rfl) (lv rfl rfl (va rfl) ?_))))
 refine ln (qn (xs ?_))
 refine xk (fun ρ h' => h6 = h' ∧ Has ρ [(4, (ptr o 0)), (5, (ptr p 0)), (6, (ptr nb 0)), (7, (.pointer r0)), (8, (.bool r1)), (9, (.pointer f0)), (10, (.bool k6)), (42, (.bool ((!r1) || ((!k6) || (r0.isNone || f0.isNone)))))]) ?_ ?_
 ·refine xr ?_
  refine lv rfl rfl (vm rfl) (lv rfl rfl (v := (.bool (!r1))) (hv_not (b := r1) rfl) (lv rfl rfl (vm rfl) ?_))
  rcases bool_or (!r1) with p7 | p7
  ·refine lo (wanted_n rfl rfl rfl p7) rfl ?_
   refine lo (wanted_n rfl rfl rfl p7) rfl ?_
   refine lv rfl rfl (v := (.bool true)) (hv_pick_t rfl p7 rfl) (lv rfl rfl (vm rfl) ?_)
   refine lo (wanted_n rfl rfl (c := true) rfl rfl) rfl ?_
   refine lo (wanted_n rfl rfl (c := true) rfl rfl) rfl ?_
   refine lv rfl rfl (v := (.bool true)) (hv_pick (t := true) rfl rfl) (lv rfl rfl (vm rfl) ?_)
   refine lo (wanted_n rfl rfl (c := true) rfl rfl) rfl ?_
   refine lo (wanted_n rfl rfl (c := true) rfl rfl) rfl ?_
   refine lv rfl rfl (v := (.bool true)) (hv_pick (t := true) rfl rfl) ?_
   refine ln (qn ?_)
   exact ⟨rfl, (hc rfl (hc rfl (hc rfl (hc rfl (hc rfl (hc rfl (hc rfl (hc (show ((.bool true) : Value) = (.bool ((!r1) || ((!k6) || (r0.isNone || f0.isNone)))) from (by first | rfl | ((try rw [p7]); all_goals first | rfl | (simp only [Bool.true_or, Bool.or_true, Bool.false_or, Bool.or_false, Bool.true_and, Bool.and_true, Bool.false_and, Bool.and_false, Bool.not_true, Bool.not_false, Bool.cond_true, Bool.cond_false]; done)) | simp [p7])) hn))))))))⟩
  ·refine ly (wanted_y rfl rfl rfl p7) rfl (HStep.of_val (v := (.bool k6)) (vm rfl) ?_)
   refine ly (wanted_y rfl rfl rfl p7) rfl (HStep.of_val (v := (.bool (!k6))) (hv_not (b := k6) rfl) ?_)
   refine lv rfl rfl (v := (.bool (!k6))) (hv_pick_f rfl p7 rfl) (lv rfl rfl (vm rfl) ?_)
   rcases bool_or (!k6) with s8 | s8
   ·refine lo (wanted_n rfl rfl rfl s8) rfl ?_
    refine lo (wanted_n rfl rfl rfl s8) rfl ?_
    refine lv rfl rfl (v := (.bool true)) (hv_pick_t rfl s8 rfl) (lv rfl rfl (vm rfl) ?_)
    refine lo (wanted_n rfl rfl (c := true) rfl rfl) rfl ?_
    refine lo (wanted_n rfl rfl (c := true) rfl rfl) rfl ?_
    refine lv rfl rfl (v := (.bool true)) (hv_pick (t := true) rfl rfl) ?_
    refine ln (qn ?_)
    exact ⟨rfl, (hc rfl (hc rfl (hc rfl (hc rfl (hc rfl (hc rfl (hc rfl (hc (show ((.bool true) : Value) = (.bool ((!r1) || ((!k6) || (r0.isNone || f0.isNone)))) from (by first | rfl | ((try rw [p7]); (try rw [s8]); all_goals first | rfl | (simp only [Bool.true_or, Bool.or_true, Bool.false_or, Bool.or_false, Bool.true_and, Bool.and_true, Bool.false_and, Bool.and_false, Bool.not_true, Bool.not_false, Bool.cond_true, Bool.cond_false]; done)) | simp [p7, s8])) hn))))))))⟩
   ·refine ly (wanted_y rfl rfl rfl s8) rfl (HStep.of_val (v := (.pointer r0)) (vm rfl) ?_)
    refine ly (wanted_y rfl rfl rfl s8) rfl (HStep.of_val (v := (.bool r0.isNone)) (hv_ptrNil TyShZ.up25 rfl rfl) ?_)
    refine lv rfl rfl (v := (.bool r0.isNone)) (hv_pick_f rfl s8 rfl) (lv rfl rfl (vm rfl) ?_)
    rcases bool_or (r0.isNone) with v2 | v2
    ·refine lo (wanted_n rfl rfl rfl v2) rfl ?_
     refine lo (wanted_n rfl rfl rfl v2) rfl ?_
     refine lv rfl rfl (v := (.bool true)) (hv_pick_t rfl v2 rfl) ?_
     refine ln (qn ?_)
     exact ⟨rfl, (hc rfl (hc rfl (hc rfl (hc rfl (hc rfl (hc rfl (hc rfl (hc (show ((.bool true) : Value) = (.bool ((!r1) || ((!k6) || (r0.isNone || f0.isNone)))) from (by first | rfl | ((try rw [p7]); (try rw [s8]); (try rw [v2]); all_goals first | rfl | (simp only [Bool.true_or, Bool.or_true, Bool.false_or, Bool.or_false, Bool.true_and, Bool.and_true, Bool.false_and, Bool.and_false, Bool.not_true, Bool.not_false, Bool.cond_true, Bool.cond_false]; done)) | simp [p7, s8, v2])) hn))))))))⟩
    ·refine ly (wanted_y rfl rfl rfl v2) rfl (HStep.of_val (v := (.pointer f0)) (vm rfl) ?_)
     refine ly (wanted_y rfl rfl rfl v2) rfl (HStep.of_val (v := (.bool f0.isNone)) (hv_ptrNil TyShZ.up25 rfl rfl) ?_)
     refine lv rfl rfl (v := (.bool f0.isNone)) (hv_pick_f rfl v2 rfl) ?_
     refine ln (qn ?_)
     exact ⟨rfl, (hc rfl (hc rfl (hc rfl (hc rfl (hc rfl (hc rfl (hc rfl (hc (show ((.bool f0.isNone) : Value) = (.bool ((!r1) || ((!k6) || (r0.isNone || f0.isNone)))) from (by first | rfl | ((try rw [p7]); (try rw [s8]); (try rw [v2]); all_goals first | rfl | (simp only [Bool.true_or, Bool.or_true, Bool.false_or, Bool.or_false, Bool.true_and, Bool.and_true, Bool.false_and, Bool.and_false, Bool.not_true, Bool.not_false, Bool.cond_true, Bool.cond_false]; done)) | simp [p7, s8, v2])) hn))))))))⟩
 ·rintro ρ _ ⟨rfl, hH⟩
  refine xh _ hH ?_
  refine xc (b := ((!r1) || ((!k6) || (r0.isNone || f0.isNone)))) rfl (fun b54 => ?_) (fun b54 => ?_)
  ·replace H := H.1 b54
   obtain ⟨A29, b52, b56⟩ := H
   refine xk (fun ρ h' => (A29 h' ∧ True) ∧ Has ρ [(6, (ptr nb 0))]) ?_ ?_
   ·have H := b52; clear b52 b56
    refine xr ?_
    refine lv rfl rfl (vm rfl) (lv rfl rfl (vm rfl) ?_)
    rcases bool_or (r1) with y2 | y2
    ·replace H := H.1 y2
     refine ly (wanted_y rfl rfl rfl y2) rfl (HStep.of_val (v := (.bool k6)) (vm rfl) ?_)
     refine lv rfl rfl (v := (.bool k6)) (hv_pick_t rfl y2 rfl) ?_
     obtain ⟨g55, H⟩ := H
     refine lp rfl rfl (hn_store (v := (.bool k6)) rfl rfl TyShZ.sz4 rfl g55 ?_)
     intro h8 g32
     replace H := H h8 g32
     refine ln (qn ?_)
     exact ⟨⟨H, trivial⟩, (hc rfl hn)⟩
    ·replace H := H.2 y2
     refine lo (wanted_n rfl rfl rfl y2) rfl ?_
     refine lv rfl rfl (v := (.bool false)) (hv_pick_f rfl y2 rfl) ?_
     obtain ⟨g39, H⟩ := H
     refine lp rfl rfl (hn_store (v := (.bool false)) rfl rfl TyShZ.sz4 rfl g39 ?_)
     intro h9 g40
     replace H := H h9 g40
     refine ln (qn ?_)
     exact ⟨⟨H, trivial⟩, (hc rfl hn)⟩
   ·rintro ρ h7 ⟨⟨g67, -⟩, hH⟩
    have H := b56 h7 g67; clear b52 b56
    refine xh _ hH ?_
    refine xt (qr ?_)
    obtain ⟨r4, g28, H⟩ := H
    exact endQM_ret _ (fun h' hs => ⟨res_one Try.results6 (rv_cell1 TyShZ.agg4 rfl (shut_cell hs g28)), H h' hs⟩)
  ·replace H := H.2 b54
   refine xi (qn (xs (xs ?_)))
   obtain ⟨x1, g21, H⟩ := H
   refine hx_drawT TyShZ.mixed x1 g21 [.pure, .read, .tame, .pure, .stay, .wild, .pure] [0, 1, 3, 4, 2, 5, 6] (by kernel_rfl) ?_
   refine pp (i := 0) rfl (wanted_0 rfl) rfl (.pointer r0) (fun _ => vm rfl) ?_
   obtain ⟨w3, m6, p3, k7, m9, a16, x_N, x_M, g20, g36, g23, g41, g22, g14, g73, g34, H⟩ := H
   refine pr (i := 1) rfl (wanted_0 rfl) rfl (.agg #[(.int .i64 w3), (.int .u64 m6), (.int .u64 p3), (.int .u64 k7), (.int .u8 m9), (.int .u64 a16), (.int .i64 x_N), (.int .i64 x_M)]) (fun _ he => vL (vs := [(.int .i64 w3), (.int .u64 m6), (.int .u64 p3), (.int .u64 k7), (.int .u8 m9), (.int .u64 a16), (.int .i64 x_N), (.int .i64 x_M)]) TyShZ.agg33 TyShZ.sz33 rfl (cc (Ext.cell he g20) (cc (Ext.cell he g36) (cc (Ext.cell he g23) (cc (Ext.cell he g41) (cc (Ext.cell he g22) (cc (Ext.cell he g14) (cc (Ext.cell he g73) (cc (Ext.cell he g34) cn))))))))) ?_
   refine pp (i := 3) rfl (wanted_0 rfl) rfl (.pointer r0) (fun _ => vm rfl) ?_
   obtain ⟨s7, l7, m7, k0, l6, w1, x7, x9, g44, g43, g69, g16, g46, g50, g72, g27, H⟩ := H
   refine hp_stay (i := 4) rfl (wanted_0 rfl) rfl (.agg #[(.int .i64 s7), (.int .u64 l7), (.int .u64 m7), (.int .u64 k0), (.int .u8 l6), (.int .u64 w1), (.int .i64 x7), (.int .i64 x9)]) (fun _ he => vL (vs := [(.int .i64 s7), (.int .u64 l7), (.int .u64 m7), (.int .u64 k0), (.int .u8 l6), (.int .u64 w1), (.int .i64 x7), (.int .i64 x9)]) TyShZ.agg33 TyShZ.sz33 rfl (cc (g44 _ he) (cc (g43 _ he) (cc (g69 _ he) (cc (g16 _ he) (cc (g46 _ he) (cc (g50 _ he) (cc (g72 _ he) (cc (g27 _ he) cn))))))))) ?_
   refine hp_tame (i := 2) rfl (wanted_0 rfl) rfl (sc TyShZ.cb16 rfl (HC.mono H ?_))
   rintro _ h11 ⟨g19, r, rfl, H⟩
   refine ⟨g19, ?_⟩
   refine hp_wild (i := 5) rfl (wanted_0 rfl) rfl (sc TyShZ.cb16 rfl (HC.mono H ?_))
   rintro _ m8 ⟨r_1, rfl, H⟩
   refine pp (i := 6) rfl (wanted_0 rfl) rfl (.bool (r == r_1)) (fun _ => vr rfl rfl rfl) ?_
   refine hp_nil ?_
   refine qn ?_
   refine xc (b := r == r_1) rfl (fun b58 => ?_) (fun b58 => ?_)
   ·replace H := H.1 b58
    refine xs (xr ?_)
    obtain ⟨f99, H⟩ := H
    refine lp rfl rfl (hn_store (v := (.bool true)) rfl rfl TyShZ.sz4 rfl f99 ?_)
    intro h13 g24
    replace H := H h13 g24
    refine ln (qn (xt (qr ?_)))
    obtain ⟨r4, g64, H⟩ := H
    exact endQM_ret _ (fun h' hs => ⟨res_one Try.results6 (rv_cell1 TyShZ.agg4 rfl (shut_cell hs g64)), H h' hs⟩)
   ·replace H := H.2 b58
    refine xi (qn ?_)
    obtain ⟨v3, b48, b51⟩ := H
    refine xk (fun ρ h' => ∃ q0 q1 p9 q3 : Nat, (v3 q0 q1 p9 q3 h' ∧ True) ∧ Has ρ [(4, (ptr o 0)), (5, (ptr p 0)), (6, (ptr nb 0)), (7, (.pointer r0)), (9, (.pointer f0)), (11, (ptr q0 q1)), (12, (ptr p9 q3))]) ?_ ?_
    ·have H := b48; clear b48 b51
     obtain ⟨t5, g38, H⟩ := H
     refine hx_tree TyShZ.mixed t5 g38 [.pure, .read, .tame, .pure, .stay, .wild, .ext, .ext, .wild, .wild] (.one 0 (.one 1 (.one 3 (.one 4 (.fork [2, 6, 7] fun k => bif k == 2 then (.fork [5, 6, 7] fun k => bif k == 5 then (.fork [6, 7] fun k => bif k == 6 then (.one 7 (.one 8 (.one 9 .done))) else (.one 6 (.one 8 (.one 9 .done)))) else bif k == 6 then (.fork [5, 7] fun k => bif k == 5 then (.one 7 (.one 8 (.one 9 .done))) else (.one 5 (.one 8 (.one 9 .done)))) else (.fork [5, 6] fun k => bif k == 5 then (.one 6 (.one 8 (.one 9 .done))) else (.one 5 (.one 8 (.one 9 .done))))) else bif k == 6 then (.fork [2, 7] fun k => bif k == 2 then (.fork [5, 7] fun k => bif k == 5 then (.one 7 (.one 8 (.one 9 .done))) else (.one 5 (.one 8 (.one 9 .done)))) else (.one 2 (.one 5 (.one 8 (.one 9 .done))))) else (.fork [2, 6] fun k => bif k == 2 then (.fork [5, 6] fun k => bif k == 5 then (.one 6 (.one 8 (.one 9 .done))) else (.one 5 (.one 8 (.one 9 .done)))) else (.one 2 (.one 5 (.one 8 (.one 9 .done)))))))))) (by kernel_rfl) ?_
     refine to (ho_pure (i := 0) rfl (wanted_0 rfl) rfl (.pointer r0) (fun _ => vm rfl) ?_)
     obtain ⟨j5, g0, g6, e9, f7, m4, o3, o4, g47, g56, g17, g35, g10, g59, g68, g37, H⟩ := H
     refine to (ho_read (i := 1) rfl (wanted_0 rfl) rfl (.agg #[(.int .i64 j5), (.int .u64 g0), (.int .u64 g6), (.int .u64 e9), (.int .u8 f7), (.int .u64 m4), (.int .i64 o3), (.int .i64 o4)]) (fun _ he => vL (vs := [(.int .i64 j5), (.int .u64 g0), (.int .u64 g6), (.int .u64 e9), (.int .u8 f7), (.int .u64 m4), (.int .i64 o3), (.int .i64 o4)]) TyShZ.agg33 TyShZ.sz33 rfl (cc (Ext.cell he g47) (cc (Ext.cell he g56) (cc (Ext.cell he g17) (cc (Ext.cell he g35) (cc (Ext.cell he g10) (cc (Ext.cell he g59) (cc (Ext.cell he g68) (cc (Ext.cell he g37) cn))))))))) ?_)
     refine to (ho_pure (i := 3) rfl (wanted_0 rfl) rfl (.pointer r0) (fun _ => vm rfl) ?_)
     obtain ⟨f6, c6, d4, b5, c8, g8, i3, i5, g53, g12, g30, g74, g11, g75, g48, g61, H⟩ := H
     refine to (ho_stay (i := 4) rfl (wanted_0 rfl) rfl (.agg #[(.int .i64 f6), (.int .u64 c6), (.int .u64 d4), (.int .u64 b5), (.int .u8 c8), (.int .u64 g8), (.int .i64 i3), (.int .i64 i5)]) (fun _ he => vL (vs := [(.int .i64 f6), (.int .u64 c6), (.int .u64 d4), (.int .u64 b5), (.int .u8 c8), (.int .u64 g8), (.int .i64 i3), (.int .i64 i5)]) TyShZ.agg33 TyShZ.sz33 rfl (cc (g53 _ he) (cc (g12 _ he) (cc (g30 _ he) (cc (g74 _ he) (cc (g11 _ he) (cc (g75 _ he) (cc (g48 _ he) (cc (g61 _ he) cn))))))))) ?_)
     refine ht_fork3 rfl rfl rfl ?_ ?_ ?_
     ·replace H := H.1
      refine ho_tame (i := 2) rfl (wanted_0 rfl) rfl (sc TyShZ.cb12 rfl (HC.mono H ?_))
      rintro _ y9 ⟨g51, d7, f4, c0, e0, e1, f1, c1, d6, i2, g9, k3, k2, k1, rfl, H⟩
      refine ⟨g51, ?_⟩
      refine ht_fork3 rfl rfl rfl ?_ ?_ ?_
      ·replace H := H.1
       refine ho_wild (i := 5) rfl (wanted_0 rfl) rfl (sc TyShZ.cb12 rfl (HC.mono H ?_))
       rintro _ h17 ⟨a9, b9, a0, b1, a5, b8, a1, a6, d1, d3, e6, e4, e2, rfl, H⟩
       refine ht_fork2 rfl rfl ?_ ?_
       ·replace H := H.1
        refine ho_ext (i := 6) rfl (wanted_0 rfl) rfl (hn_alloc TyShZ.z38 ?_)
        intro a h18 g58 c51
        replace H := H a h18 g58 c51
        have g76 := ext_pushed_f6_sh c51
        refine ⟨g76, ?_⟩
        refine to (ho_ext (i := 7) rfl (wanted_0 rfl) rfl (hn_alloc TyShZ.z38 ?_))
        intro b h19 g15 c53
        replace H := H b h19 g15 c53
        have g60 := ext_pushed_f6_sh c53
        refine ⟨g60, ?_⟩
        obtain ⟨g26, H⟩ := H
        refine to (ho_wild (i := 8) rfl (wanted_0 rfl) rfl (hn_stores (vs := [(.int .u64 d7), (.int .u64 f4), (.int .u64 c0), (.int .u8 e0), (.int .u64 e1), (.int .u64 f1), (.int .u64 c1), (.int .u8 d6), (.bool i2), (.bool g9), (.int .i64 k3), (.int .i64 k2), (.int .i64 k1)]) rfl rfl TyShZ.sz38 rfl g26 ?_))
        intro h20 g42
        replace H := H h20 g42
        obtain ⟨g66, H⟩ := H
        refine to (ho_wild (i := 9) rfl (wanted_0 rfl) rfl (hn_stores (vs := [(.int .u64 a9), (.int .u64 b9), (.int .u64 a0), (.int .u8 b1), (.int .u64 a5), (.int .u64 b8), (.int .u64 a1), (.int .u8 a6), (.bool d1), (.bool d3), (.int .i64 e6), (.int .i64 e4), (.int .i64 e2)]) rfl rfl TyShZ.sz38 rfl g66 ?_))
        intro h21 g45
        replace H := H h21 g45
        refine ht_done ?_
        refine qn ?_
        exact ⟨_, _, _, _, ⟨H, trivial⟩, (hc rfl (hc rfl (hc rfl (hc rfl (hc rfl (hc rfl (hc rfl hn)))))))⟩
       ·replace H := H.2
        refine ho_ext (i := 7) rfl (wanted_0 rfl) rfl (hn_alloc TyShZ.z38 ?_)
        intro b h22 g13 c42
        replace H := H b h22 g13 c42
        have g65 := ext_pushed_f6_sh c42
        refine ⟨g65, ?_⟩
        refine to (ho_ext (i := 6) rfl (wanted_0 rfl) rfl (hn_alloc TyShZ.z38 ?_))
        intro a h23 g54 c45
        replace H := H a h23 g54 c45
        have g49 := ext_pushed_f6_sh c45
        refine ⟨g49, ?_⟩
        obtain ⟨f73, H⟩ := H
        refine to (ho_wild (i := 8) rfl (wanted_0 rfl) rfl (hn_stores (vs := [(.int .u64 d7), (.int .u64 f4), (.int .u64 c0), (.int .u8 e0), (.int .u64 e1), (.int .u64 f1), (.int .u64 c1), (.int .u8 d6), (.bool i2), (.bool g9), (.int .i64 k3), (.int .i64 k2), (.int .i64 k1)]) rfl rfl TyShZ.sz38 rfl f73 ?_))
        intro h24 g63
        replace H := H h24 g63
        obtain ⟨e26, H⟩ := H
        refine to (ho_wild (i := 9) rfl (wanted_0 rfl) rfl (hn_stores (vs := [(.int .u64 a9), (.int .u64 b9), (.int .u64 a0), (.int .u8 b1), (.int .u64 a5), (.int .u64 b8), (.int .u64 a1), (.int .u8 a6), (.bool d1), (.bool d3), (.int .i64 e6), (.int .i64 e4), (.int .i64 e2)]) rfl rfl TyShZ.sz38 rfl e26 ?_))
        intro h25 e83
        replace H := H h25 e83
        refine ht_done ?_
        refine qn ?_
        exact ⟨_, _, _, _, ⟨H, trivial⟩, (hc rfl (hc rfl (hc rfl (hc rfl (hc rfl (hc rfl (hc rfl hn)))))))⟩
      ·replace H := H.2.1
       refine ho_ext (i := 6) rfl (wanted_0 rfl) rfl (hn_alloc TyShZ.z38 ?_)
       intro a h26 e56 b72
       replace H := H a h26 e56 b72
       have f87 := ext_pushed_f6_sh b72
       refine ⟨f87, ?_⟩
       refine ht_fork2 rfl rfl ?_ ?_
       ·replace H := H.1
        refine ho_wild (i := 5) rfl (wanted_0 rfl) rfl (sc TyShZ.cb12 rfl (HC.mono H ?_))
        rintro _ h27 ⟨a9, b9, a0, b1, a5, b8, a1, a6, d1, d3, e6, e4, e2, rfl, H⟩
        refine to (ho_ext (i := 7) rfl (wanted_0 rfl) rfl (hn_alloc TyShZ.z38 ?_))
        intro b h28 f48 b83
        replace H := H b h28 f48 b83
        have f62 := ext_pushed_f6_sh b83
        refine ⟨f62, ?_⟩
        obtain ⟨e37, H⟩ := H
        refine to (ho_wild (i := 8) rfl (wanted_0 rfl) rfl (hn_stores (vs := [(.int .u64 d7), (.int .u64 f4), (.int .u64 c0), (.int .u8 e0), (.int .u64 e1), (.int .u64 f1), (.int .u64 c1), (.int .u8 d6), (.bool i2), (.bool g9), (.int .i64 k3), (.int .i64 k2), (.int .i64 k1)]) rfl rfl TyShZ.sz38 rfl e37 ?_))
        intro h29 f30
        replace H := H h29 f30
        obtain ⟨d10, H⟩ := H
        refine to (ho_wild (i := 9) rfl (wanted_0 rfl) rfl (hn_stores (vs := [(.int .u64 a9), (.int .u64 b9), (.int .u64 a0), (.int .u8 b1), (.int .u64 a5), (.int .u64 b8), (.int .u64 a1), (.int .u8 a6), (.bool d1), (.bool d3), (.int .i64 e6), (.int .i64 e4), (.int .i64 e2)]) rfl rfl TyShZ.sz38 rfl d10 ?_))
        intro h30 e33
        replace H := H h30 e33
        refine ht_done ?_
        refine qn ?_
        exact ⟨_, _, _, _, ⟨H, trivial⟩, (hc rfl (hc rfl (hc rfl (hc rfl (hc rfl (hc rfl (hc rfl hn)))))))⟩
       ·replace H := H.2
        refine ho_ext (i := 7) rfl (wanted_0 rfl) rfl (hn_alloc TyShZ.z38 ?_)
        intro b h31 f15 b70
        replace H := H b h31 f15 b70
        have d69 := ext_pushed_f6_sh b70
        refine ⟨d69, ?_⟩
        refine to (ho_wild (i := 5) rfl (wanted_0 rfl) rfl (sc TyShZ.cb12 rfl (HC.mono H ?_)))
        rintro _ h32 ⟨a9, b9, a0, b1, a5, b8, a1, a6, d1, d3, e6, e4, e2, rfl, H⟩
        obtain ⟨d41, H⟩ := H
        refine to (ho_wild (i := 8) rfl (wanted_0 rfl) rfl (hn_stores (vs := [(.int .u64 d7), (.int .u64 f4), (.int .u64 c0), (.int .u8 e0), (.int .u64 e1), (.int .u64 f1), (.int .u64 c1), (.int .u8 d6), (.bool i2), (.bool g9), (.int .i64 k3), (.int .i64 k2), (.int .i64 k1)]) rfl rfl TyShZ.sz38 rfl d41 ?_))
        intro h33 e53
        replace H := H h33 e53
        obtain ⟨d57, H⟩ := H
        refine to (ho_wild (i := 9) rfl (wanted_0 rfl) rfl (hn_stores (vs := [(.int .u64 a9), (.int .u64 b9), (.int .u64 a0), (.int .u8 b1), (.int .u64 a5), (.int .u64 b8), (.int .u64 a1), (.int .u8 a6), (.bool d1), (.bool d3), (.int .i64 e6), (.int .i64 e4), (.int .i64 e2)]) rfl rfl TyShZ.sz38 rfl d57 ?_))
        intro h34 f61
        replace H := H h34 f61
        refine ht_done ?_
        refine qn ?_
        exact ⟨_, _, _, _, ⟨H, trivial⟩, (hc rfl (hc rfl (hc rfl (hc rfl (hc rfl (hc rfl (hc rfl hn)))))))⟩
      ·replace H := H.2.2
       refine ho_ext (i := 7) rfl (wanted_0 rfl) rfl (hn_alloc TyShZ.z38 ?_)
       intro b h35 e43 c23
       replace H := H b h35 e43 c23
       have f88 := ext_pushed_f6_sh c23
       refine ⟨f88, ?_⟩
       refine ht_fork2 rfl rfl ?_ ?_
       ·replace H := H.1
        refine ho_wild (i := 5) rfl (wanted_0 rfl) rfl (sc TyShZ.cb12 rfl (HC.mono H ?_))
        rintro _ h36 ⟨a9, b9, a0, b1, a5, b8, a1, a6, d1, d3, e6, e4, e2, rfl, H⟩
        refine to (ho_ext (i := 6) rfl (wanted_0 rfl) rfl (hn_alloc TyShZ.z38 ?_))
        intro a h37 e99 b73
        replace H := H a h37 e99 b73
        have f29 := ext_pushed_f6_sh b73
        refine ⟨f29, ?_⟩
        obtain ⟨c95, H⟩ := H
        refine to (ho_wild (i := 8) rfl (wanted_0 rfl) rfl (hn_stores (vs := [(.int .u64 d7), (.int .u64 f4), (.int .u64 c0), (.int .u8 e0), (.int .u64 e1), (.int .u64 f1), (.int .u64 c1), (.int .u8 d6), (.bool i2), (.bool g9), (.int .i64 k3), (.int .i64 k2), (.int .i64 k1)]) rfl rfl TyShZ.sz38 rfl c95 ?_))
        intro h38 c96
        replace H := H h38 c96
        obtain ⟨e45, H⟩ := H
        refine to (ho_wild (i := 9) rfl (wanted_0 rfl) rfl (hn_stores (vs := [(.int .u64 a9), (.int .u64 b9), (.int .u64 a0), (.int .u8 b1), (.int .u64 a5), (.int .u64 b8), (.int .u64 a1), (.int .u8 a6), (.bool d1), (.bool d3), (.int .i64 e6), (.int .i64 e4), (.int .i64 e2)]) rfl rfl TyShZ.sz38 rfl e45 ?_))
        intro h39 e89
        replace H := H h39 e89
        refine ht_done ?_
        refine qn ?_
        exact ⟨_, _, _, _, ⟨H, trivial⟩, (hc rfl (hc rfl (hc rfl (hc rfl (hc rfl (hc rfl (hc rfl hn)))))))⟩
       ·replace H := H.2
        refine ho_ext (i := 6) rfl (wanted_0 rfl) rfl (hn_alloc TyShZ.z38 ?_)
        intro a h40 e87 b85
        replace H := H a h40 e87 b85
        have d11 := ext_pushed_f6_sh b85
        refine ⟨d11, ?_⟩
        refine to (ho_wild (i := 5) rfl (wanted_0 rfl) rfl (sc TyShZ.cb12 rfl (HC.mono H ?_)))
        rintro _ h41 ⟨a9, b9, a0, b1, a5, b8, a1, a6, d1, d3, e6, e4, e2, rfl, H⟩
        obtain ⟨d29, H⟩ := H
        refine to (ho_wild (i := 8) rfl (wanted_0 rfl) rfl (hn_stores (vs := [(.int .u64 d7), (.int .u64 f4), (.int .u64 c0), (.int .u8 e0), (.int .u64 e1), (.int .u64 f1), (.int .u64 c1), (.int .u8 d6), (.bool i2), (.bool g9), (.int .i64 k3), (.int .i64 k2), (.int .i64 k1)]) rfl rfl TyShZ.sz38 rfl d29 ?_))
        intro h42 e97
        replace H := H h42 e97
        obtain ⟨e77, H⟩ := H
        refine to (ho_wild (i := 9) rfl (wanted_0 rfl) rfl (hn_stores (vs := [(.int .u64 a9), (.int .u64 b9), (.int .u64 a0), (.int .u8 b1), (.int .u64 a5), (.int .u64 b8), (.int .u64 a1), (.int .u8 a6), (.bool d1), (.bool d3), (.int .i64 e6), (.int .i64 e4), (.int .i64 e2)]) rfl rfl TyShZ.sz38 rfl e77 ?_))
        intro h43 e64
        replace H := H h43 e64
        refine ht_done ?_
        refine qn ?_
        exact ⟨_, _, _, _, ⟨H, trivial⟩, (hc rfl (hc rfl (hc rfl (hc rfl (hc rfl (hc rfl (hc rfl hn)))))))⟩
     ·replace H := H.2.1
      refine ho_ext (i := 6) rfl (wanted_0 rfl) rfl (hn_alloc TyShZ.z38 ?_)
      intro a z0 e67 c24
      replace H := H a z0 e67 c24
      have e21 := ext_pushed_f6_sh c24
      refine ⟨e21, ?_⟩
      refine ht_fork2 rfl rfl ?_ ?_
      ·replace H := H.1
       refine ho_tame (i := 2) rfl (wanted_0 rfl) rfl (sc TyShZ.cb12 rfl (HC.mono H ?_))
       rintro _ h45 ⟨d16, d7, f4, c0, e0, e1, f1, c1, d6, i2, g9, k3, k2, k1, rfl, H⟩
       refine ⟨d16, ?_⟩
       refine ht_fork2 rfl rfl ?_ ?_
       ·replace H := H.1
        refine ho_wild (i := 5) rfl (wanted_0 rfl) rfl (sc TyShZ.cb12 rfl (HC.mono H ?_))
        rintro _ h46 ⟨a9, b9, a0, b1, a5, b8, a1, a6, d1, d3, e6, e4, e2, rfl, H⟩
        refine to (ho_ext (i := 7) rfl (wanted_0 rfl) rfl (hn_alloc TyShZ.z38 ?_))
        intro b h47 e35 b88
        replace H := H b h47 e35 b88
        have e55 := ext_pushed_f6_sh b88
        refine ⟨e55, ?_⟩
        obtain ⟨e90, H⟩ := H
        refine to (ho_wild (i := 8) rfl (wanted_0 rfl) rfl (hn_stores (vs := [(.int .u64 d7), (.int .u64 f4), (.int .u64 c0), (.int .u8 e0), (.int .u64 e1), (.int .u64 f1), (.int .u64 c1), (.int .u8 d6), (.bool i2), (.bool g9), (.int .i64 k3), (.int .i64 k2), (.int .i64 k1)]) rfl rfl TyShZ.sz38 rfl e90 ?_))
        intro h48 d56
        replace H := H h48 d56
        obtain ⟨f28, H⟩ := H
        refine to (ho_wild (i := 9) rfl (wanted_0 rfl) rfl (hn_stores (vs := [(.int .u64 a9), (.int .u64 b9), (.int .u64 a0), (.int .u8 b1), (.int .u64 a5), (.int .u64 b8), (.int .u64 a1), (.int .u8 a6), (.bool d1), (.bool d3), (.int .i64 e6), (.int .i64 e4), (.int .i64 e2)]) rfl rfl TyShZ.sz38 rfl f28 ?_))
        intro h49 f57
        replace H := H h49 f57
        refine ht_done ?_
        refine qn ?_
        exact ⟨_, _, _, _, ⟨H, trivial⟩, (hc rfl (hc rfl (hc rfl (hc rfl (hc rfl (hc rfl (hc rfl hn)))))))⟩
       ·replace H := H.2
        refine ho_ext (i := 7) rfl (wanted_0 rfl) rfl (hn_alloc TyShZ.z38 ?_)
        intro b h50 d64 c33
        replace H := H b h50 d64 c33
        have e14 := ext_pushed_f6_sh c33
        refine ⟨e14, ?_⟩
        refine to (ho_wild (i := 5) rfl (wanted_0 rfl) rfl (sc TyShZ.cb12 rfl (HC.mono H ?_)))
        rintro _ h51 ⟨a9, b9, a0, b1, a5, b8, a1, a6, d1, d3, e6, e4, e2, rfl, H⟩
        obtain ⟨e39, H⟩ := H
        refine to (ho_wild (i := 8) rfl (wanted_0 rfl) rfl (hn_stores (vs := [(.int .u64 d7), (.int .u64 f4), (.int .u64 c0), (.int .u8 e0), (.int .u64 e1), (.int .u64 f1), (.int .u64 c1), (.int .u8 d6), (.bool i2), (.bool g9), (.int .i64 k3), (.int .i64 k2), (.int .i64 k1)]) rfl rfl TyShZ.sz38 rfl e39 ?_))
        intro h52 c90
        replace H := H h52 c90
        obtain ⟨c89, H⟩ := H
        refine to (ho_wild (i := 9) rfl (wanted_0 rfl) rfl (hn_stores (vs := [(.int .u64 a9), (.int .u64 b9), (.int .u64 a0), (.int .u8 b1), (.int .u64 a5), (.int .u64 b8), (.int .u64 a1), (.int .u8 a6), (.bool d1), (.bool d3), (.int .i64 e6), (.int .i64 e4), (.int .i64 e2)]) rfl rfl TyShZ.sz38 rfl c89 ?_))
        intro h53 f17
        replace H := H h53 f17
        refine ht_done ?_
        refine qn ?_
        exact ⟨_, _, _, _, ⟨H, trivial⟩, (hc rfl (hc rfl (hc rfl (hc rfl (hc rfl (hc rfl (hc rfl hn)))))))⟩
      ·replace H := H.2
       refine ho_ext (i := 7) rfl (wanted_0 rfl) rfl (hn_alloc TyShZ.z38 ?_)
       intro b h54 d99 b62
       replace H := H b h54 d99 b62
       have c73 := ext_pushed_f6_sh b62
       refine ⟨c73, ?_⟩
       refine to (ho_tame (i := 2) rfl (wanted_0 rfl) rfl (sc TyShZ.cb12 rfl (HC.mono H ?_)))
       rintro _ h55 ⟨e44, d7, f4, c0, e0, e1, f1, c1, d6, i2, g9, k3, k2, k1, rfl, H⟩
       refine ⟨e44, ?_⟩
       refine to (ho_wild (i := 5) rfl (wanted_0 rfl) rfl (sc TyShZ.cb12 rfl (HC.mono H ?_)))
       rintro _ h56 ⟨a9, b9, a0, b1, a5, b8, a1, a6, d1, d3, e6, e4, e2, rfl, H⟩
       obtain ⟨f46, H⟩ := H
       refine to (ho_wild (i := 8) rfl (wanted_0 rfl) rfl (hn_stores (vs := [(.int .u64 d7), (.int .u64 f4), (.int .u64 c0), (.int .u8 e0), (.int .u64 e1), (.int .u64 f1), (.int .u64 c1), (.int .u8 d6), (.bool i2), (.bool g9), (.int .i64 k3), (.int .i64 k2), (.int .i64 k1)]) rfl rfl TyShZ.sz38 rfl f46 ?_))
       intro h57 e57
       replace H := H h57 e57
       obtain ⟨f75, H⟩ := H
       refine to (ho_wild (i := 9) rfl (wanted_0 rfl) rfl (hn_stores (vs := [(.int .u64 a9), (.int .u64 b9), (.int .u64 a0), (.int .u8 b1), (.int .u64 a5), (.int .u64 b8), (.int .u64 a1), (.int .u8 a6), (.bool d1), (.bool d3), (.int .i64 e6), (.int .i64 e4), (.int .i64 e2)]) rfl rfl TyShZ.sz38 rfl f75 ?_))
       intro h58 e79
       replace H := H h58 e79
       refine ht_done ?_
       refine qn ?_
       exact ⟨_, _, _, _, ⟨H, trivial⟩, (hc rfl (hc rfl (hc rfl (hc rfl (hc rfl (hc rfl (hc rfl hn)))))))⟩
     ·replace H := H.2.2
      refine ho_ext (i := 7) rfl (wanted_0 rfl) rfl (hn_alloc TyShZ.z38 ?_)
      intro b y6 c91 b66
      replace H := H b y6 c91 b66
      have f80 := ext_pushed_f6_sh b66
      refine ⟨f80, ?_⟩
      refine ht_fork2 rfl rfl ?_ ?_
      ·replace H := H.1
       refine ho_tame (i := 2) rfl (wanted_0 rfl) rfl (sc TyShZ.cb12 rfl (HC.mono H ?_))
       rintro _ h60 ⟨d98, d7, f4, c0, e0, e1, f1, c1, d6, i2, g9, k3, k2, k1, rfl, H⟩
       refine ⟨d98, ?_⟩
       refine ht_fork2 rfl rfl ?_ ?_
       ·replace H := H.1
        refine ho_wild (i := 5) rfl (wanted_0 rfl) rfl (sc TyShZ.cb12 rfl (HC.mono H ?_))
        rintro _ h61 ⟨a9, b9, a0, b1, a5, b8, a1, a6, d1, d3, e6, e4, e2, rfl, H⟩
        refine to (ho_ext (i := 6) rfl (wanted_0 rfl) rfl (hn_alloc TyShZ.z38 ?_))
        intro a h62 f86 b93
        replace H := H a h62 f86 b93
        have e72 := ext_pushed_f6_sh b93
        refine ⟨e72, ?_⟩
        obtain ⟨e85, H⟩ := H
        refine to (ho_wild (i := 8) rfl (wanted_0 rfl) rfl (hn_stores (vs := [(.int .u64 d7), (.int .u64 f4), (.int .u64 c0), (.int .u8 e0), (.int .u64 e1), (.int .u64 f1), (.int .u64 c1), (.int .u8 d6), (.bool i2), (.bool g9), (.int .i64 k3), (.int .i64 k2), (.int .i64 k1)]) rfl rfl TyShZ.sz38 rfl e85 ?_))
        intro h63 f44
        replace H := H h63 f44
        obtain ⟨f37, H⟩ := H
        refine to (ho_wild (i := 9) rfl (wanted_0 rfl) rfl (hn_stores (vs := [(.int .u64 a9), (.int .u64 b9), (.int .u64 a0), (.int .u8 b1), (.int .u64 a5), (.int .u64 b8), (.int .u64 a1), (.int .u8 a6), (.bool d1), (.bool d3), (.int .i64 e6), (.int .i64 e4), (.int .i64 e2)]) rfl rfl TyShZ.sz38 rfl f37 ?_))
        intro h64 f40
        replace H := H h64 f40
        refine ht_done ?_
        refine qn ?_
        exact ⟨_, _, _, _, ⟨H, trivial⟩, (hc rfl (hc rfl (hc rfl (hc rfl (hc rfl (hc rfl (hc rfl hn)))))))⟩
       ·replace H := H.2
        refine ho_ext (i := 6) rfl (wanted_0 rfl) rfl (hn_alloc TyShZ.z38 ?_)
        intro a h65 d22 b65
        replace H := H a h65 d22 b65
        have e46 := ext_pushed_f6_sh b65
        refine ⟨e46, ?_⟩
        refine to (ho_wild (i := 5) rfl (wanted_0 rfl) rfl (sc TyShZ.cb12 rfl (HC.mono H ?_)))
        rintro _ h66 ⟨a9, b9, a0, b1, a5, b8, a1, a6, d1, d3, e6, e4, e2, rfl, H⟩
        obtain ⟨d26, H⟩ := H
        refine to (ho_wild (i := 8) rfl (wanted_0 rfl) rfl (hn_stores (vs := [(.int .u64 d7), (.int .u64 f4), (.int .u64 c0), (.int .u8 e0), (.int .u64 e1), (.int .u64 f1), (.int .u64 c1), (.int .u8 d6), (.bool i2), (.bool g9), (.int .i64 k3), (.int .i64 k2), (.int .i64 k1)]) rfl rfl TyShZ.sz38 rfl d26 ?_))
        intro h67 c82
        replace H := H h67 c82
        obtain ⟨e61, H⟩ := H
        refine to (ho_wild (i := 9) rfl (wanted_0 rfl) rfl (hn_stores (vs := [(.int .u64 a9), (.int .u64 b9), (.int .u64 a0), (.int .u8 b1), (.int .u64 a5), (.int .u64 b8), (.int .u64 a1), (.int .u8 a6), (.bool d1), (.bool d3), (.int .i64 e6), (.int .i64 e4), (.int .i64 e2)]) rfl rfl TyShZ.sz38 rfl e61 ?_))
        intro h68 d65
        replace H := H h68 d65
        refine ht_done ?_
        refine qn ?_
        exact ⟨_, _, _, _, ⟨H, trivial⟩, (hc rfl (hc rfl (hc rfl (hc rfl (hc rfl (hc rfl (hc rfl hn)))))))⟩
      ·replace H := H.2
       refine ho_ext (i := 6) rfl (wanted_0 rfl) rfl (hn_alloc TyShZ.z38 ?_)
       intro a h69 f64 c18
       replace H := H a h69 f64 c18
       have f38 := ext_pushed_f6_sh c18
       refine ⟨f38, ?_⟩
       refine to (ho_tame (i := 2) rfl (wanted_0 rfl) rfl (sc TyShZ.cb12 rfl (HC.mono H ?_)))
       rintro _ h70 ⟨c70, d7, f4, c0, e0, e1, f1, c1, d6, i2, g9, k3, k2, k1, rfl, H⟩
       refine ⟨c70, ?_⟩
       refine to (ho_wild (i := 5) rfl (wanted_0 rfl) rfl (sc TyShZ.cb12 rfl (HC.mono H ?_)))
       rintro _ h71 ⟨a9, b9, a0, b1, a5, b8, a1, a6, d1, d3, e6, e4, e2, rfl, H⟩
       obtain ⟨e78, H⟩ := H
       refine to (ho_wild (i := 8) rfl (wanted_0 rfl) rfl (hn_stores (vs := [(.int .u64 d7), (.int .u64 f4), (.int .u64 c0), (.int .u8 e0), (.int .u64 e1), (.int .u64 f1), (.int .u64 c1), (.int .u8 d6), (.bool i2), (.bool g9), (.int .i64 k3), (.int .i64 k2), (.int .i64 k1)]) rfl rfl TyShZ.sz38 rfl e78 ?_))
       intro h72 d73
       replace H := H h72 d73
       obtain ⟨d95, H⟩ := H
       refine to (ho_wild (i := 9) rfl (wanted_0 rfl) rfl (hn_stores (vs := [(.int .u64 a9), (.int .u64 b9), (.int .u64 a0), (.int .u8 b1), (.int .u64 a5), (.int .u64 b8), (.int .u64 a1), (.int .u8 a6), (.bool d1), (.bool d3), (.int .i64 e6), (.int .i64 e4), (.int .i64 e2)]) rfl rfl TyShZ.sz38 rfl d95 ?_))
       intro h73 d78
       replace H := H h73 d78
       refine ht_done ?_
       refine qn ?_
       exact ⟨_, _, _, _, ⟨H, trivial⟩, (hc rfl (hc rfl (hc rfl (hc rfl (hc rfl (hc rfl (hc rfl hn)))))))⟩
    ·rintro ρ n0 ⟨q0, q1, p9, q3, ⟨g25, -⟩, hH⟩
     have H := b51 q0 q1 p9 q3 n0 g25; clear b48 b51
     refine xh _ hH ?_
     obtain ⟨p8, a76, a89⟩ := H
     refine xk (fun ρ h' => ∃ r5 s3 r6 r9 : Nat, (p8 r5 s3 r6 r9 h' ∧ True) ∧ Has ρ [(6, (ptr nb 0)), (7, (.pointer r0)), (9, (.pointer f0)), (11, (ptr q0 q1)), (12, (ptr p9 q3)), (13, (ptr r5 s3)), (14, (ptr r6 r9))]) ?_ ?_
     ·have H := a76; clear a76 a89
      obtain ⟨p4, f23, H⟩ := H
      refine hx_tree TyShZ.mixed p4 f23 [.pure, .read, .tame, .pure, .stay, .wild, .ext, .ext, .wild, .wild] (.one 0 (.one 1 (.one 3 (.one 4 (.fork [2, 6, 7] fun k => bif k == 2 then (.fork [5, 6, 7] fun k => bif k == 5 then (.fork [6, 7] fun k => bif k == 6 then (.one 7 (.one 8 (.one 9 .done))) else (.one 6 (.one 8 (.one 9 .done)))) else bif k == 6 then (.fork [5, 7] fun k => bif k == 5 then (.one 7 (.one 8 (.one 9 .done))) else (.one 5 (.one 8 (.one 9 .done)))) else (.fork [5, 6] fun k => bif k == 5 then (.one 6 (.one 8 (.one 9 .done))) else (.one 5 (.one 8 (.one 9 .done))))) else bif k == 6 then (.fork [2, 7] fun k => bif k == 2 then (.fork [5, 7] fun k => bif k == 5 then (.one 7 (.one 8 (.one 9 .done))) else (.one 5 (.one 8 (.one 9 .done)))) else (.one 2 (.one 5 (.one 8 (.one 9 .done))))) else (.fork [2, 6] fun k => bif k == 2 then (.fork [5, 6] fun k => bif k == 5 then (.one 6 (.one 8 (.one 9 .done))) else (.one 5 (.one 8 (.one 9 .done)))) else (.one 2 (.one 5 (.one 8 (.one 9 .done)))))))))) (by kernel_rfl) ?_
      refine to (ho_pure (i := 0) rfl (wanted_0 rfl) rfl (.pointer f0) (fun _ => vm rfl) ?_)
      obtain ⟨j9, f9, g5, e8, f8, m5, o7, o2, d76, d34, c98, c87, d44, e68, e62, e48, H⟩ := H
      refine to (ho_read (i := 1) rfl (wanted_0 rfl) rfl (.agg #[(.int .i64 j9), (.int .u64 f9), (.int .u64 g5), (.int .u64 e8), (.int .u8 f8), (.int .u64 m5), (.int .i64 o7), (.int .i64 o2)]) (fun _ he => vL (vs := [(.int .i64 j9), (.int .u64 f9), (.int .u64 g5), (.int .u64 e8), (.int .u8 f8), (.int .u64 m5), (.int .i64 o7), (.int .i64 o2)]) TyShZ.agg33 TyShZ.sz33 rfl (cc (Ext.cell he d76) (cc (Ext.cell he d34) (cc (Ext.cell he c98) (cc (Ext.cell he c87) (cc (Ext.cell he d44) (cc (Ext.cell he e68) (cc (Ext.cell he e62) (cc (Ext.cell he e48) cn))))))))) ?_)
      refine to (ho_pure (i := 3) rfl (wanted_0 rfl) rfl (.pointer f0) (fun _ => vm rfl) ?_)
      obtain ⟨f5, c7, d5, b4, c9, g7, i4, i6, f42, d96, d52, f45, e42, e28, e29, f55, H⟩ := H
      refine to (ho_stay (i := 4) rfl (wanted_0 rfl) rfl (.agg #[(.int .i64 f5), (.int .u64 c7), (.int .u64 d5), (.int .u64 b4), (.int .u8 c9), (.int .u64 g7), (.int .i64 i4), (.int .i64 i6)]) (fun _ he => vL (vs := [(.int .i64 f5), (.int .u64 c7), (.int .u64 d5), (.int .u64 b4), (.int .u8 c9), (.int .u64 g7), (.int .i64 i4), (.int .i64 i6)]) TyShZ.agg33 TyShZ.sz33 rfl (cc (f42 _ he) (cc (d96 _ he) (cc (d52 _ he) (cc (f45 _ he) (cc (e42 _ he) (cc (e28 _ he) (cc (e29 _ he) (cc (f55 _ he) cn))))))))) ?_)
      refine ht_fork3 rfl rfl rfl ?_ ?_ ?_
      ·replace H := H.1
       refine ho_tame (i := 2) rfl (wanted_0 rfl) rfl (sc TyShZ.cb12 rfl (HC.mono H ?_))
       rintro _ y7 ⟨f72, c4, d9, b2, c2, c5, d8, b3, c3, f2, f3, g2, g1, g3, rfl, H⟩
       refine ⟨f72, ?_⟩
       refine ht_fork3 rfl rfl rfl ?_ ?_ ?_
       ·replace H := H.1
        refine ho_wild (i := 5) rfl (wanted_0 rfl) rfl (sc TyShZ.cb12 rfl (HC.mono H ?_))
        rintro _ h76 ⟨a4, b7, a3, a7, b0, b6, a2, a8, d0, d2, e3, e7, e5, rfl, H⟩
        refine ht_fork2 rfl rfl ?_ ?_
        ·replace H := H.1
         refine ho_ext (i := 6) rfl (wanted_0 rfl) rfl (hn_alloc TyShZ.z38 ?_)
         intro d h77 d18 c10
         replace H := H d h77 d18 c10
         have c94 := ext_pushed_f6_sh c10
         refine ⟨c94, ?_⟩
         refine to (ho_ext (i := 7) rfl (wanted_0 rfl) rfl (hn_alloc TyShZ.z38 ?_))
         intro c h78 f49 c14
         replace H := H c h78 f49 c14
         have c69 := ext_pushed_f6_sh c14
         refine ⟨c69, ?_⟩
         obtain ⟨e82, H⟩ := H
         refine to (ho_wild (i := 8) rfl (wanted_0 rfl) rfl (hn_stores (vs := [(.int .u64 c4), (.int .u64 d9), (.int .u64 b2), (.int .u8 c2), (.int .u64 c5), (.int .u64 d8), (.int .u64 b3), (.int .u8 c3), (.bool f2), (.bool f3), (.int .i64 g2), (.int .i64 g1), (.int .i64 g3)]) rfl rfl TyShZ.sz38 rfl e82 ?_))
         intro h79 c86
         replace H := H h79 c86
         obtain ⟨e84, H⟩ := H
         refine to (ho_wild (i := 9) rfl (wanted_0 rfl) rfl (hn_stores (vs := [(.int .u64 a4), (.int .u64 b7), (.int .u64 a3), (.int .u8 a7), (.int .u64 b0), (.int .u64 b6), (.int .u64 a2), (.int .u8 a8), (.bool d0), (.bool d2), (.int .i64 e3), (.int .i64 e7), (.int .i64 e5)]) rfl rfl TyShZ.sz38 rfl e84 ?_))
         intro h80 f71
         replace H := H h80 f71
         refine ht_done ?_
         refine qn ?_
         exact ⟨_, _, _, _, ⟨H, trivial⟩, (hc rfl (hc rfl (hc rfl (hc rfl (hc rfl (hc rfl (hc rfl hn)))))))⟩
        ·replace H := H.2
         refine ho_ext (i := 7) rfl (wanted_0 rfl) rfl (hn_alloc TyShZ.z38 ?_)
         intro c h81 d88 b74
         replace H := H c h81 d88 b74
         have c88 := ext_pushed_f6_sh b74
         refine ⟨c88, ?_⟩
         refine to (ho_ext (i := 6) rfl (wanted_0 rfl) rfl (hn_alloc TyShZ.z38 ?_))
         intro d h82 d47 b96
         replace H := H d h82 d47 b96
         have d80 := ext_pushed_f6_sh b96
         refine ⟨d80, ?_⟩
         obtain ⟨f41, H⟩ := H
         refine to (ho_wild (i := 8) rfl (wanted_0 rfl) rfl (hn_stores (vs := [(.int .u64 c4), (.int .u64 d9), (.int .u64 b2), (.int .u8 c2), (.int .u64 c5), (.int .u64 d8), (.int .u64 b3), (.int .u8 c3), (.bool f2), (.bool f3), (.int .i64 g2), (.int .i64 g1), (.int .i64 g3)]) rfl rfl TyShZ.sz38 rfl f41 ?_))
         intro h83 e91
         replace H := H h83 e91
         obtain ⟨e86, H⟩ := H
         refine to (ho_wild (i := 9) rfl (wanted_0 rfl) rfl (hn_stores (vs := [(.int .u64 a4), (.int .u64 b7), (.int .u64 a3), (.int .u8 a7), (.int .u64 b0), (.int .u64 b6), (.int .u64 a2), (.int .u8 a8), (.bool d0), (.bool d2), (.int .i64 e3), (.int .i64 e7), (.int .i64 e5)]) rfl rfl TyShZ.sz38 rfl e86 ?_))
         intro h84 e75
         replace H := H h84 e75
         refine ht_done ?_
         refine qn ?_
         exact ⟨_, _, _, _, ⟨H, trivial⟩, (hc rfl (hc rfl (hc rfl (hc rfl (hc rfl (hc rfl (hc rfl hn)))))))⟩
       ·replace H := H.2.1
        refine ho_ext (i := 6) rfl (wanted_0 rfl) rfl (hn_alloc TyShZ.z38 ?_)
        intro d h85 f51 c29
        replace H := H d h85 f51 c29
        have d36 := ext_pushed_f6_sh c29
        refine ⟨d36, ?_⟩
        refine ht_fork2 rfl rfl ?_ ?_
        ·replace H := H.1
         refine ho_wild (i := 5) rfl (wanted_0 rfl) rfl (sc TyShZ.cb12 rfl (HC.mono H ?_))
         rintro _ h86 ⟨a4, b7, a3, a7, b0, b6, a2, a8, d0, d2, e3, e7, e5, rfl, H⟩
         refine to (ho_ext (i := 7) rfl (wanted_0 rfl) rfl (hn_alloc TyShZ.z38 ?_))
         intro c h87 e32 b89
         replace H := H c h87 e32 b89
         have f65 := ext_pushed_f6_sh b89
         refine ⟨f65, ?_⟩
         obtain ⟨d31, H⟩ := H
         refine to (ho_wild (i := 8) rfl (wanted_0 rfl) rfl (hn_stores (vs := [(.int .u64 c4), (.int .u64 d9), (.int .u64 b2), (.int .u8 c2), (.int .u64 c5), (.int .u64 d8), (.int .u64 b3), (.int .u8 c3), (.bool f2), (.bool f3), (.int .i64 g2), (.int .i64 g1), (.int .i64 g3)]) rfl rfl TyShZ.sz38 rfl d31 ?_))
         intro h88 c92
         replace H := H h88 c92
         obtain ⟨c97, H⟩ := H
         refine to (ho_wild (i := 9) rfl (wanted_0 rfl) rfl (hn_stores (vs := [(.int .u64 a4), (.int .u64 b7), (.int .u64 a3), (.int .u8 a7), (.int .u64 b0), (.int .u64 b6), (.int .u64 a2), (.int .u8 a8), (.bool d0), (.bool d2), (.int .i64 e3), (.int .i64 e7), (.int .i64 e5)]) rfl rfl TyShZ.sz38 rfl c97 ?_))
         intro h89 c75
         replace H := H h89 c75
         refine ht_done ?_
         refine qn ?_
         exact ⟨_, _, _, _, ⟨H, trivial⟩, (hc rfl (hc rfl (hc rfl (hc rfl (hc rfl (hc rfl (hc rfl hn)))))))⟩
        ·replace H := H.2
         refine ho_ext (i := 7) rfl (wanted_0 rfl) rfl (hn_alloc TyShZ.z38 ?_)
         intro c h90 f31 b63
         replace H := H c h90 f31 b63
         have e51 := ext_pushed_f6_sh b63
         refine ⟨e51, ?_⟩
         refine to (ho_wild (i := 5) rfl (wanted_0 rfl) rfl (sc TyShZ.cb12 rfl (HC.mono H ?_)))
         rintro _ h91 ⟨a4, b7, a3, a7, b0, b6, a2, a8, d0, d2, e3, e7, e5, rfl, H⟩
         obtain ⟨e80, H⟩ := H
         refine to (ho_wild (i := 8) rfl (wanted_0 rfl) rfl (hn_stores (vs := [(.int .u64 c4), (.int .u64 d9), (.int .u64 b2), (.int .u8 c2), (.int .u64 c5), (.int .u64 d8), (.int .u64 b3), (.int .u8 c3), (.bool f2), (.bool f3), (.int .i64 g2), (.int .i64 g1), (.int .i64 g3)]) rfl rfl TyShZ.sz38 rfl e80 ?_))
         intro h92 e40
         replace H := H h92 e40
         obtain ⟨d23, H⟩ := H
         refine to (ho_wild (i := 9) rfl (wanted_0 rfl) rfl (hn_stores (vs := [(.int .u64 a4), (.int .u64 b7), (.int .u64 a3), (.int .u8 a7), (.int .u64 b0), (.int .u64 b6), (.int .u64 a2), (.int .u8 a8), (.bool d0), (.bool d2), (.int .i64 e3), (.int .i64 e7), (.int .i64 e5)]) rfl rfl TyShZ.sz38 rfl d23 ?_))
         intro h93 f25
         replace H := H h93 f25
         refine ht_done ?_
         refine qn ?_
         exact ⟨_, _, _, _, ⟨H, trivial⟩, (hc rfl (hc rfl (hc rfl (hc rfl (hc rfl (hc rfl (hc rfl hn)))))))⟩
       ·replace H := H.2.2
        refine ho_ext (i := 7) rfl (wanted_0 rfl) rfl (hn_alloc TyShZ.z38 ?_)
        intro c h94 d24 b80
        replace H := H c h94 d24 b80
        have f76 := ext_pushed_f6_sh b80
        refine ⟨f76, ?_⟩
        refine ht_fork2 rfl rfl ?_ ?_
        ·replace H := H.1
         refine ho_wild (i := 5) rfl (wanted_0 rfl) rfl (sc TyShZ.cb12 rfl (HC.mono H ?_))
         rintro _ h95 ⟨a4, b7, a3, a7, b0, b6, a2, a8, d0, d2, e3, e7, e5, rfl, H⟩
         refine to (ho_ext (i := 6) rfl (wanted_0 rfl) rfl (hn_alloc TyShZ.z38 ?_))
         intro d h96 e20 b87
         replace H := H d h96 e20 b87
         have f33 := ext_pushed_f6_sh b87
         refine ⟨f33, ?_⟩
         obtain ⟨e38, H⟩ := H
         refine to (ho_wild (i := 8) rfl (wanted_0 rfl) rfl (hn_stores (vs := [(.int .u64 c4), (.int .u64 d9), (.int .u64 b2), (.int .u8 c2), (.int .u64 c5), (.int .u64 d8), (.int .u64 b3), (.int .u8 c3), (.bool f2), (.bool f3), (.int .i64 g2), (.int .i64 g1), (.int .i64 g3)]) rfl rfl TyShZ.sz38 rfl e38 ?_))
         intro h97 c74
         replace H := H h97 c74
         obtain ⟨d48, H⟩ := H
         refine to (ho_wild (i := 9) rfl (wanted_0 rfl) rfl (hn_stores (vs := [(.int .u64 a4), (.int .u64 b7), (.int .u64 a3), (.int .u8 a7), (.int .u64 b0), (.int .u64 b6), (.int .u64 a2), (.int .u8 a8), (.bool d0), (.bool d2), (.int .i64 e3), (.int .i64 e7), (.int .i64 e5)]) rfl rfl TyShZ.sz38 rfl d48 ?_))
         intro h98 e69
         replace H := H h98 e69
         refine ht_done ?_
         refine qn ?_
         exact ⟨_, _, _, _, ⟨H, trivial⟩, (hc rfl (hc rfl (hc rfl (hc rfl (hc rfl (hc rfl (hc rfl hn)))))))⟩
        ·replace H := H.2
         refine ho_ext (i := 6) rfl (wanted_0 rfl) rfl (hn_alloc TyShZ.z38 ?_)
         intro d h99 d66 b95
         replace H := H d h99 d66 b95
         have e10 := ext_pushed_f6_sh b95
         refine ⟨e10, ?_⟩
         refine to (ho_wild (i := 5) rfl (wanted_0 rfl) rfl (sc TyShZ.cb12 rfl (HC.mono H ?_)))
         rintro _ b40 ⟨a4, b7, a3, a7, b0, b6, a2, a8, d0, d2, e3, e7, e5, rfl, H⟩
         obtain ⟨c65, H⟩ := H
         refine to (ho_wild (i := 8) rfl (wanted_0 rfl) rfl (hn_stores (vs := [(.int .u64 c4), (.int .u64 d9), (.int .u64 b2), (.int .u8 c2), (.int .u64 c5), (.int .u64 d8), (.int .u64 b3), (.int .u8 c3), (.bool f2), (.bool f3), (.int .i64 g2), (.int .i64 g1), (.int .i64 g3)]) rfl rfl TyShZ.sz38 rfl c65 ?_))
         intro a53 f81
         replace H := H a53 f81
         obtain ⟨e73, H⟩ := H
         refine to (ho_wild (i := 9) rfl (wanted_0 rfl) rfl (hn_stores (vs := [(.int .u64 a4), (.int .u64 b7), (.int .u64 a3), (.int .u8 a7), (.int .u64 b0), (.int .u64 b6), (.int .u64 a2), (.int .u8 a8), (.bool d0), (.bool d2), (.int .i64 e3), (.int .i64 e7), (.int .i64 e5)]) rfl rfl TyShZ.sz38 rfl e73 ?_))
         intro a78 f47
         replace H := H a78 f47
         refine ht_done ?_
         refine qn ?_
         exact ⟨_, _, _, _, ⟨H, trivial⟩, (hc rfl (hc rfl (hc rfl (hc rfl (hc rfl (hc rfl (hc rfl hn)))))))⟩
      ·replace H := H.2.1
       refine ho_ext (i := 6) rfl (wanted_0 rfl) rfl (hn_alloc TyShZ.z38 ?_)
       intro d w8 c93 c26
       replace H := H d w8 c93 c26
       have f35 := ext_pushed_f6_sh c26
       refine ⟨f35, ?_⟩
       refine ht_fork2 rfl rfl ?_ ?_
       ·replace H := H.1
        refine ho_tame (i := 2) rfl (wanted_0 rfl) rfl (sc TyShZ.cb12 rfl (HC.mono H ?_))
        rintro _ a13 ⟨d50, c4, d9, b2, c2, c5, d8, b3, c3, f2, f3, g2, g1, g3, rfl, H⟩
        refine ⟨d50, ?_⟩
        refine ht_fork2 rfl rfl ?_ ?_
        ·replace H := H.1
         refine ho_wild (i := 5) rfl (wanted_0 rfl) rfl (sc TyShZ.cb12 rfl (HC.mono H ?_))
         rintro _ b12 ⟨a4, b7, a3, a7, b0, b6, a2, a8, d0, d2, e3, e7, e5, rfl, H⟩
         refine to (ho_ext (i := 7) rfl (wanted_0 rfl) rfl (hn_alloc TyShZ.z38 ?_))
         intro c a17 d37 b99
         replace H := H c a17 d37 b99
         have e59 := ext_pushed_f6_sh b99
         refine ⟨e59, ?_⟩
         obtain ⟨e31, H⟩ := H
         refine to (ho_wild (i := 8) rfl (wanted_0 rfl) rfl (hn_stores (vs := [(.int .u64 c4), (.int .u64 d9), (.int .u64 b2), (.int .u8 c2), (.int .u64 c5), (.int .u64 d8), (.int .u64 b3), (.int .u8 c3), (.bool f2), (.bool f3), (.int .i64 g2), (.int .i64 g1), (.int .i64 g3)]) rfl rfl TyShZ.sz38 rfl e31 ?_))
         intro a46 f26
         replace H := H a46 f26
         obtain ⟨d54, H⟩ := H
         refine to (ho_wild (i := 9) rfl (wanted_0 rfl) rfl (hn_stores (vs := [(.int .u64 a4), (.int .u64 b7), (.int .u64 a3), (.int .u8 a7), (.int .u64 b0), (.int .u64 b6), (.int .u64 a2), (.int .u8 a8), (.bool d0), (.bool d2), (.int .i64 e3), (.int .i64 e7), (.int .i64 e5)]) rfl rfl TyShZ.sz38 rfl d54 ?_))
         intro a96 d81
         replace H := H a96 d81
         refine ht_done ?_
         refine qn ?_
         exact ⟨_, _, _, _, ⟨H, trivial⟩, (hc rfl (hc rfl (hc rfl (hc rfl (hc rfl (hc rfl (hc rfl hn)))))))⟩
        ·replace H := H.2
         refine ho_ext (i := 7) rfl (wanted_0 rfl) rfl (hn_alloc TyShZ.z38 ?_)
         intro c a29 f36 b86
         replace H := H c a29 f36 b86
         have e11 := ext_pushed_f6_sh b86
         refine ⟨e11, ?_⟩
         refine to (ho_wild (i := 5) rfl (wanted_0 rfl) rfl (sc TyShZ.cb12 rfl (HC.mono H ?_)))
         rintro _ b45 ⟨a4, b7, a3, a7, b0, b6, a2, a8, d0, d2, e3, e7, e5, rfl, H⟩
         obtain ⟨f84, H⟩ := H
         refine to (ho_wild (i := 8) rfl (wanted_0 rfl) rfl (hn_stores (vs := [(.int .u64 c4), (.int .u64 d9), (.int .u64 b2), (.int .u8 c2), (.int .u64 c5), (.int .u64 d8), (.int .u64 b3), (.int .u8 c3), (.bool f2), (.bool f3), (.int .i64 g2), (.int .i64 g1), (.int .i64 g3)]) rfl rfl TyShZ.sz38 rfl f84 ?_))
         intro a52 f91
         replace H := H a52 f91
         obtain ⟨f63, H⟩ := H
         refine to (ho_wild (i := 9) rfl (wanted_0 rfl) rfl (hn_stores (vs := [(.int .u64 a4), (.int .u64 b7), (.int .u64 a3), (.int .u8 a7), (.int .u64 b0), (.int .u64 b6), (.int .u64 a2), (.int .u8 a8), (.bool d0), (.bool d2), (.int .i64 e3), (.int .i64 e7), (.int .i64 e5)]) rfl rfl TyShZ.sz38 rfl f63 ?_))
         intro a85 f58
         replace H := H a85 f58
         refine ht_done ?_
         refine qn ?_
         exact ⟨_, _, _, _, ⟨H, trivial⟩, (hc rfl (hc rfl (hc rfl (hc rfl (hc rfl (hc rfl (hc rfl hn)))))))⟩
       ·replace H := H.2
        refine ho_ext (i := 7) rfl (wanted_0 rfl) rfl (hn_alloc TyShZ.z38 ?_)
        intro c z9 d46 c21
        replace H := H c z9 d46 c21
        have e70 := ext_pushed_f6_sh c21
        refine ⟨e70, ?_⟩
        refine to (ho_tame (i := 2) rfl (wanted_0 rfl) rfl (sc TyShZ.cb12 rfl (HC.mono H ?_)))
        rintro _ b53 ⟨e47, c4, d9, b2, c2, c5, d8, b3, c3, f2, f3, g2, g1, g3, rfl, H⟩
        refine ⟨e47, ?_⟩
        refine to (ho_wild (i := 5) rfl (wanted_0 rfl) rfl (sc TyShZ.cb12 rfl (HC.mono H ?_)))
        rintro _ b42 ⟨a4, b7, a3, a7, b0, b6, a2, a8, d0, d2, e3, e7, e5, rfl, H⟩
        obtain ⟨c67, H⟩ := H
        refine to (ho_wild (i := 8) rfl (wanted_0 rfl) rfl (hn_stores (vs := [(.int .u64 c4), (.int .u64 d9), (.int .u64 b2), (.int .u8 c2), (.int .u64 c5), (.int .u64 d8), (.int .u64 b3), (.int .u8 c3), (.bool f2), (.bool f3), (.int .i64 g2), (.int .i64 g1), (.int .i64 g3)]) rfl rfl TyShZ.sz38 rfl c67 ?_))
        intro a28 c78
        replace H := H a28 c78
        obtain ⟨d63, H⟩ := H
        refine to (ho_wild (i := 9) rfl (wanted_0 rfl) rfl (hn_stores (vs := [(.int .u64 a4), (.int .u64 b7), (.int .u64 a3), (.int .u8 a7), (.int .u64 b0), (.int .u64 b6), (.int .u64 a2), (.int .u8 a8), (.bool d0), (.bool d2), (.int .i64 e3), (.int .i64 e7), (.int .i64 e5)]) rfl rfl TyShZ.sz38 rfl d63 ?_))
        intro a75 e50
        replace H := H a75 e50
        refine ht_done ?_
        refine qn ?_
        exact ⟨_, _, _, _, ⟨H, trivial⟩, (hc rfl (hc rfl (hc rfl (hc rfl (hc rfl (hc rfl (hc rfl hn)))))))⟩
      ·replace H := H.2.2
       refine ho_ext (i := 7) rfl (wanted_0 rfl) rfl (hn_alloc TyShZ.z38 ?_)
       intro c w9 f11 b75
       replace H := H c w9 f11 b75
       have d84 := ext_pushed_f6_sh b75
       refine ⟨d84, ?_⟩
       refine ht_fork2 rfl rfl ?_ ?_
       ·replace H := H.1
        refine ho_tame (i := 2) rfl (wanted_0 rfl) rfl (sc TyShZ.cb12 rfl (HC.mono H ?_))
        rintro _ a11 ⟨e23, c4, d9, b2, c2, c5, d8, b3, c3, f2, f3, g2, g1, g3, rfl, H⟩
        refine ⟨e23, ?_⟩
        refine ht_fork2 rfl rfl ?_ ?_
        ·replace H := H.1
         refine ho_wild (i := 5) rfl (wanted_0 rfl) rfl (sc TyShZ.cb12 rfl (HC.mono H ?_))
         rintro _ a91 ⟨a4, b7, a3, a7, b0, b6, a2, a8, d0, d2, e3, e7, e5, rfl, H⟩
         refine to (ho_ext (i := 6) rfl (wanted_0 rfl) rfl (hn_alloc TyShZ.z38 ?_))
         intro d z8 e27 c32
         replace H := H d z8 e27 c32
         have d30 := ext_pushed_f6_sh c32
         refine ⟨d30, ?_⟩
         obtain ⟨e24, H⟩ := H
         refine to (ho_wild (i := 8) rfl (wanted_0 rfl) rfl (hn_stores (vs := [(.int .u64 c4), (.int .u64 d9), (.int .u64 b2), (.int .u8 c2), (.int .u64 c5), (.int .u64 d8), (.int .u64 b3), (.int .u8 c3), (.bool f2), (.bool f3), (.int .i64 g2), (.int .i64 g1), (.int .i64 g3)]) rfl rfl TyShZ.sz38 rfl e24 ?_))
         intro a43 d32
         replace H := H a43 d32
         obtain ⟨f12, H⟩ := H
         refine to (ho_wild (i := 9) rfl (wanted_0 rfl) rfl (hn_stores (vs := [(.int .u64 a4), (.int .u64 b7), (.int .u64 a3), (.int .u8 a7), (.int .u64 b0), (.int .u64 b6), (.int .u64 a2), (.int .u8 a8), (.bool d0), (.bool d2), (.int .i64 e3), (.int .i64 e7), (.int .i64 e5)]) rfl rfl TyShZ.sz38 rfl f12 ?_))
         intro a97 d14
         replace H := H a97 d14
         refine ht_done ?_
         refine qn ?_
         exact ⟨_, _, _, _, ⟨H, trivial⟩, (hc rfl (hc rfl (hc rfl (hc rfl (hc rfl (hc rfl (hc rfl hn)))))))⟩
        ·replace H := H.2
         refine ho_ext (i := 6) rfl (wanted_0 rfl) rfl (hn_alloc TyShZ.z38 ?_)
         intro d a30 d51 b69
         replace H := H d a30 d51 b69
         have d93 := ext_pushed_f6_sh b69
         refine ⟨d93, ?_⟩
         refine to (ho_wild (i := 5) rfl (wanted_0 rfl) rfl (sc TyShZ.cb12 rfl (HC.mono H ?_)))
         rintro _ b43 ⟨a4, b7, a3, a7, b0, b6, a2, a8, d0, d2, e3, e7, e5, rfl, H⟩
         obtain ⟨f24, H⟩ := H
         refine to (ho_wild (i := 8) rfl (wanted_0 rfl) rfl (hn_stores (vs := [(.int .u64 c4), (.int .u64 d9), (.int .u64 b2), (.int .u8 c2), (.int .u64 c5), (.int .u64 d8), (.int .u64 b3), (.int .u8 c3), (.bool f2), (.bool f3), (.int .i64 g2), (.int .i64 g1), (.int .i64 g3)]) rfl rfl TyShZ.sz38 rfl f24 ?_))
         intro a49 f18
         replace H := H a49 f18
         obtain ⟨f59, H⟩ := H
         refine to (ho_wild (i := 9) rfl (wanted_0 rfl) rfl (hn_stores (vs := [(.int .u64 a4), (.int .u64 b7), (.int .u64 a3), (.int .u8 a7), (.int .u64 b0), (.int .u64 b6), (.int .u64 a2), (.int .u8 a8), (.bool d0), (.bool d2), (.int .i64 e3), (.int .i64 e7), (.int .i64 e5)]) rfl rfl TyShZ.sz38 rfl f59 ?_))
         intro b11 d38
         replace H := H b11 d38
         refine ht_done ?_
         refine qn ?_
         exact ⟨_, _, _, _, ⟨H, trivial⟩, (hc rfl (hc rfl (hc rfl (hc rfl (hc rfl (hc rfl (hc rfl hn)))))))⟩
       ·replace H := H.2
        refine ho_ext (i := 6) rfl (wanted_0 rfl) rfl (hn_alloc TyShZ.z38 ?_)
        intro d z7 f92 c19
        replace H := H d z7 f92 c19
        have e12 := ext_pushed_f6_sh c19
        refine ⟨e12, ?_⟩
        refine to (ho_tame (i := 2) rfl (wanted_0 rfl) rfl (sc TyShZ.cb12 rfl (HC.mono H ?_)))
        rintro _ b55 ⟨d35, c4, d9, b2, c2, c5, d8, b3, c3, f2, f3, g2, g1, g3, rfl, H⟩
        refine ⟨d35, ?_⟩
        refine to (ho_wild (i := 5) rfl (wanted_0 rfl) rfl (sc TyShZ.cb12 rfl (HC.mono H ?_)))
        rintro _ b44 ⟨a4, b7, a3, a7, b0, b6, a2, a8, d0, d2, e3, e7, e5, rfl, H⟩
        obtain ⟨e52, H⟩ := H
        refine to (ho_wild (i := 8) rfl (wanted_0 rfl) rfl (hn_stores (vs := [(.int .u64 c4), (.int .u64 d9), (.int .u64 b2), (.int .u8 c2), (.int .u64 c5), (.int .u64 d8), (.int .u64 b3), (.int .u8 c3), (.bool f2), (.bool f3), (.int .i64 g2), (.int .i64 g1), (.int .i64 g3)]) rfl rfl TyShZ.sz38 rfl e52 ?_))
        intro a33 c76
        replace H := H a33 c76
        obtain ⟨c83, H⟩ := H
        refine to (ho_wild (i := 9) rfl (wanted_0 rfl) rfl (hn_stores (vs := [(.int .u64 a4), (.int .u64 b7), (.int .u64 a3), (.int .u8 a7), (.int .u64 b0), (.int .u64 b6), (.int .u64 a2), (.int .u8 a8), (.bool d0), (.bool d2), (.int .i64 e3), (.int .i64 e7), (.int .i64 e5)]) rfl rfl TyShZ.sz38 rfl c83 ?_))
        intro a84 f53
        replace H := H a84 f53
        refine ht_done ?_
        refine qn ?_
        exact ⟨_, _, _, _, ⟨H, trivial⟩, (hc rfl (hc rfl (hc rfl (hc rfl (hc rfl (hc rfl (hc rfl hn)))))))⟩
     ·rintro ρ g4 ⟨r5, s3, r6, r9, ⟨d89, -⟩, hH⟩
      have H := a89 r5 s3 r6 r9 g4 d89; clear a76 a89
      refine xh _ hH ?_
      refine xs ?_
      obtain ⟨j_1, a81, a95⟩ := H
      refine xk (fun ρ h' => g4 = h' ∧ Has ρ [(6, (ptr nb 0)), (7, (.pointer r0)), (9, (.pointer f0)), (73, (.bool j_1))]) ?_ ?_
      ·have H := a81; clear a81 a95
       refine xr ?_
       obtain ⟨l9, p1, i8, m1, l8, o8, i9, m2, v1, v5, x4, x5, x3, c63, d87, f32, f22, e41, c64, d77, e94, e30, d91, d94, f66, d45, H⟩ := H
       refine lv rfl rfl (vL (vs := [(.int .u64 l9), (.int .u64 p1), (.int .u64 i8), (.int .u8 m1), (.int .u64 l8), (.int .u64 o8), (.int .u64 i9), (.int .u8 m2), (.bool v1), (.bool v5), (.int .i64 x4), (.int .i64 x5), (.int .i64 x3)]) TyShZ.agg38 TyShZ.sz38 rfl (cc c63 (cc d87 (cc f32 (cc f22 (cc e41 (cc c64 (cc d77 (cc e94 (cc e30 (cc d91 (cc d94 (cc f66 (cc d45 cn)))))))))))))) ?_
       obtain ⟨j8, m0, i1, j4, j7, m3, i0, j6, o9, p2, q5, r8, q6, d97, e88, e92, d90, d85, c66, d83, f20, f67, d20, f39, c72, d25, H⟩ := H
       refine lv rfl rfl (vL (vs := [(.int .u64 j8), (.int .u64 m0), (.int .u64 i1), (.int .u8 j4), (.int .u64 j7), (.int .u64 m3), (.int .u64 i0), (.int .u8 j6), (.bool o9), (.bool p2), (.int .i64 q5), (.int .i64 r8), (.int .i64 q6)]) TyShZ.agg38 TyShZ.sz38 rfl (cc d97 (cc e88 (cc e92 (cc d90 (cc d85 (cc c66 (cc d83 (cc f20 (cc f67 (cc d20 (cc f39 (cc c72 (cc d25 cn)))))))))))))) (lv rfl rfl (v := (.bool (!(((l9 == j8 && (p1 == m0 && (i8 == i1 && (m1 == j4 && true)))) && ((l8 == j7 && (o8 == m3 && (i9 == i0 && (m2 == j6 && true)))) && (v1 == o9 && (v5 == p2 && (x4 == q5 && (x5 == r8 && (x3 == q6 && true))))))))))) (hv_structEqD (xs := [(.int .u64 l9), (.int .u64 p1), (.int .u64 i8), (.int .u8 m1), (.int .u64 l8), (.int .u64 o8), (.int .u64 i9), (.int .u8 m2), (.bool v1), (.bool v5), (.int .i64 x4), (.int .i64 x5), (.int .i64 x3)]) (ys := [(.int .u64 j8), (.int .u64 m0), (.int .u64 i1), (.int .u8 j4), (.int .u64 j7), (.int .u64 m3), (.int .u64 i0), (.int .u8 j6), (.bool o9), (.bool p2), (.int .i64 q5), (.int .i64 r8), (.int .i64 q6)]) (b := ((l9 == j8 && (p1 == m0 && (i8 == i1 && (m1 == j4 && true)))) && ((l8 == j7 && (o8 == m3 && (i9 == i0 && (m2 == j6 && true)))) && (v1 == o9 && (v5 == p2 && (x4 == q5 && (x5 == r8 && (x3 == q6 && true)))))))) TyShZ.gd38 rfl rfl (by kernel_rfl) rfl) (lv rfl rfl (vm rfl) ?_))
       rcases bool_or (!(((l9 == j8 && (p1 == m0 && (i8 == i1 && (m1 == j4 && true)))) && ((l8 == j7 && (o8 == m3 && (i9 == i0 && (m2 == j6 && true)))) && (v1 == o9 && (v5 == p2 && (x4 == q5 && (x5 == r8 && (x3 == q6 && true))))))))) with s2 | s2
       ·replace H := H.1 s2
        refine lo (wanted_n rfl rfl rfl s2) rfl ?_
        refine lo (wanted_n rfl rfl rfl s2) rfl ?_
        refine lo (wanted_n rfl rfl rfl s2) rfl ?_
        refine lv rfl rfl (v := (.bool true)) (hv_pick_t rfl s2 rfl) ?_
        refine ln (qn ?_)
        obtain rfl := H
        exact ⟨rfl, (hc rfl (hc rfl (hc rfl (hc rfl hn))))⟩
       ·replace H := H.2 s2
        obtain ⟨l0, n8, j1, l2, l5, n9, j3, l4, s5, q9, u6, t7, t6, e36, d67, f19, f60, d17, e76, f52, e81, e95, e93, f14, d55, d70, H⟩ := H
        refine ly (wanted_y rfl rfl rfl s2) rfl (HStep.of_val (v := (.agg #[(.int .u64 l0), (.int .u64 n8), (.int .u64 j1), (.int .u8 l2), (.int .u64 l5), (.int .u64 n9), (.int .u64 j3), (.int .u8 l4), (.bool s5), (.bool q9), (.int .i64 u6), (.int .i64 t7), (.int .i64 t6)])) (vL (vs := [(.int .u64 l0), (.int .u64 n8), (.int .u64 j1), (.int .u8 l2), (.int .u64 l5), (.int .u64 n9), (.int .u64 j3), (.int .u8 l4), (.bool s5), (.bool q9), (.int .i64 u6), (.int .i64 t7), (.int .i64 t6)]) TyShZ.agg38 TyShZ.sz38 rfl (cc e36 (cc d67 (cc f19 (cc f60 (cc d17 (cc e76 (cc f52 (cc e81 (cc e95 (cc e93 (cc f14 (cc d55 (cc d70 cn)))))))))))))) ?_)
        obtain ⟨k8, n6, j2, k9, l1, n7, j0, l3, r7, q7, u2, t9, t8, e65, d61, c80, f54, d68, e22, d15, f34, e71, f69, f83, c60, d82, H⟩ := H
        refine ly (wanted_y rfl rfl rfl s2) rfl (HStep.of_val (v := (.agg #[(.int .u64 k8), (.int .u64 n6), (.int .u64 j2), (.int .u8 k9), (.int .u64 l1), (.int .u64 n7), (.int .u64 j0), (.int .u8 l3), (.bool r7), (.bool q7), (.int .i64 u2), (.int .i64 t9), (.int .i64 t8)])) (vL (vs := [(.int .u64 k8), (.int .u64 n6), (.int .u64 j2), (.int .u8 k9), (.int .u64 l1), (.int .u64 n7), (.int .u64 j0), (.int .u8 l3), (.bool r7), (.bool q7), (.int .i64 u2), (.int .i64 t9), (.int .i64 t8)]) TyShZ.agg38 TyShZ.sz38 rfl (cc e65 (cc d61 (cc c80 (cc f54 (cc d68 (cc e22 (cc d15 (cc f34 (cc e71 (cc f69 (cc f83 (cc c60 (cc d82 cn)))))))))))))) ?_)
        refine ly (wanted_y rfl rfl rfl s2) rfl (HStep.of_val (v := (.bool (!(((l0 == k8 && (n8 == n6 && (j1 == j2 && (l2 == k9 && true)))) && ((l5 == l1 && (n9 == n7 && (j3 == j0 && (l4 == l3 && true)))) && (s5 == r7 && (q9 == q7 && (u6 == u2 && (t7 == t9 && (t6 == t8 && true))))))))))) (hv_structEqD (xs := [(.int .u64 l0), (.int .u64 n8), (.int .u64 j1), (.int .u8 l2), (.int .u64 l5), (.int .u64 n9), (.int .u64 j3), (.int .u8 l4), (.bool s5), (.bool q9), (.int .i64 u6), (.int .i64 t7), (.int .i64 t6)]) (ys := [(.int .u64 k8), (.int .u64 n6), (.int .u64 j2), (.int .u8 k9), (.int .u64 l1), (.int .u64 n7), (.int .u64 j0), (.int .u8 l3), (.bool r7), (.bool q7), (.int .i64 u2), (.int .i64 t9), (.int .i64 t8)]) (b := ((l0 == k8 && (n8 == n6 && (j1 == j2 && (l2 == k9 && true)))) && ((l5 == l1 && (n9 == n7 && (j3 == j0 && (l4 == l3 && true)))) && (s5 == r7 && (q9 == q7 && (u6 == u2 && (t7 == t9 && (t6 == t8 && true)))))))) TyShZ.gd38 rfl rfl (by kernel_rfl) rfl) ?_)
        refine lv rfl rfl (v := (.bool (!(((l0 == k8 && (n8 == n6 && (j1 == j2 && (l2 == k9 && true)))) && ((l5 == l1 && (n9 == n7 && (j3 == j0 && (l4 == l3 && true)))) && (s5 == r7 && (q9 == q7 && (u6 == u2 && (t7 == t9 && (t6 == t8 && true))))))))))) (hv_pick_f rfl s2 rfl) ?_
        refine ln (qn ?_)
        obtain rfl := H
        exact ⟨rfl, (hc rfl (hc rfl (hc rfl (hc rfl hn))))⟩
      ·have H := a95; clear a81 a95
       rintro ρ _ ⟨rfl, hH⟩
       refine xh _ hH ?_
       refine xc (b := j_1) rfl (fun a87 => ?_) (fun a87 => ?_)
       ·replace H := H.1 a87
        refine xs (xr ?_)
        obtain ⟨e16, H⟩ := H
        refine lp rfl rfl (hn_store (v := (.bool false)) rfl rfl TyShZ.sz4 rfl e16 ?_)
        intro a48 d71
        replace H := H a48 d71
        refine ln (qn (xt (qr ?_)))
        obtain ⟨r4, e49, H⟩ := H
        exact endQM_ret _ (fun h' hs => ⟨res_one Try.results6 (rv_cell1 TyShZ.agg4 rfl (shut_cell hs e49)), H h' hs⟩)
       ·replace H := H.2 a87
        refine xi (qn (xs (xs (xr ?_))))
        refine lv rfl rfl (va rfl) ?_
        refine ln (qn (xb ?_))
        obtain ⟨a34, a25, c84, d72⟩ := H
        refine xl (σ := Int) (fun s => [(6, (ptr nb 0)), (7, (.pointer r0)), (9, (.pointer f0)), (15, (.int .i64 s))]) (fun s h' => a34 s h' ∧ True) (fun s h' => a25 s h') 0 ⟨c84, trivial⟩ (hc rfl (hc rfl (hc rfl (hc rfl hn)))) ?_
        rintro i7 ρ v6 ⟨f27, -⟩
        have H := d72 i7 v6 f27
        refine xs (xs (xr ?_))
        refine lv rfl rfl (vm rfl) (lv rfl rfl (vm rfl) ?_)
        obtain ⟨r_2, d74, H⟩ := H
        refine lv rfl rfl (hv_call TyShZ.cb17 (vs := [(.pointer r0)]) rfl d74) (lv rfl rfl (vr rfl rfl rfl) ?_)
        refine ln (qn ?_)
        refine xc (b := decide (i7 < r_2)) rfl (fun a86 => ?_) (fun a86 => ?_)
        ·replace H := H.1 a86
         refine xi (qn (xs (xb (xs (xr ?_)))))
         refine lp rfl rfl (hn_alloc TyShZ.z47 ?_)
         intro x2 a27 d13 b97
         replace H := H x2 a27 d13 b97
         have g83 := ext_pushed_f6_sh b97
         refine ln (qn (xs (xs (xr ?_))))
         refine lv rfl rfl (vm rfl) (lv rfl rfl (vm rfl) ?_)
         refine lp rfl rfl (sc TyShZ.cb18 rfl (HC.mono H ?_))
         rintro r_3 a94 ⟨_, rfl, H⟩
         refine ln (qn (xb ?_))
         refine hx_range rfl rfl rfl (fun z5 l d27 f90 f82 d49 => ?_)
         refine HCF.mono (H (fun st p h => LoopAt h l _ _ _ _ _ st p) l z5 _ (fun s p h h' k e => k.same e) d27 f90 f82 d49 ?_) ?_
         ·intro x8 a23 u7 x6 a14 b41 d75 H
          refine hcv_yield d75 rfl rfl ?_
          refine xr ?_
          refine lp rfl rfl (hn_alloc TyShZ.z31 ?_)
          intro e z6 f43 c31
          replace H := H e z6 f43 c31
          have g81 := ext_pushed_f6_sh c31
          obtain ⟨c71, H⟩ := H
          refine lp rfl rfl (hn_stores (vs := [(.int .u64 x8), (.int .u64 a23), (.int .u64 u7), (.int .u8 x6)]) rfl rfl TyShZ.sz31 rfl c71 ?_)
          intro a40 f56
          replace H := H a40 f56
          refine ln ?_
          obtain ⟨e13, H⟩ := H
          refine ⟨rfl, e13, ?_⟩
          intro t3 d40 f78
          replace H := H t3 d40 f78
          refine xb (xr ?_)
          obtain ⟨x, a22, x_c, c79, H⟩ := H
          refine lv rfl rfl (vl TyShZ.agg47 rfl c79) ?_
          obtain ⟨v4, u8, p0, u9, d21, d59, c77, e15, H⟩ := H
          refine lv rfl rfl (vL (vs := [(.int .u64 v4), (.int .u64 u8), (.int .u64 p0), (.int .u8 u9)]) TyShZ.agg31 TyShZ.sz31 rfl (cc d21 (cc d59 (cc c77 (cc e15 cn))))) ?_
          refine lp rfl rfl (hn_buildSlice (n := 1) (vs := [(0, (.agg #[(.int .u64 v4), (.int .u64 u8), (.int .u64 p0), (.int .u8 u9)]))]) (cs := #[(.int .u64 v4), (.int .u64 u8), (.int .u64 p0), (.int .u8 u9)]) TyShZ.u47 TyShZ.sz31 TyShZ.z31 rfl rfl (by kernel_rfl) ?_)
          intro a73 a47 f13 b81
          replace H := H a73 a47 f13 b81
          have g84 := ext_pushed_f6_sh b81
          refine lp rfl rfl (hs_append rfl rfl (HAppend.mono H ?_))
          rintro _ b50 ⟨ap, a79, a93, rfl, H⟩
          obtain ⟨d53, H⟩ := H
          refine lp rfl rfl (hn_store (v := (.slice ap a79 a93)) rfl rfl TyShZ.sz47 rfl d53 ?_)
          intro a44 d42
          replace H := H a44 d42
          refine ln (bn ?_)
          exact H
         ·rintro _ b49 ⟨st, t4, f74, c44, H⟩
          refine ⟨st, t4, f74, c44, ?_⟩
          intro a37 f50 f85
          replace H := H a37 f50 f85
          obtain ⟨rfl, H⟩ := H
          refine jumpQ_n ?_
          refine bn (qn (xs (xs (xr ?_))))
          refine lv rfl rfl (vm rfl) (lv rfl rfl (vm rfl) ?_)
          refine lp rfl rfl (sc TyShZ.cb18 rfl (HC.mono H ?_))
          rintro r_4 a90 ⟨_, rfl, H⟩
          refine ln (qn (xb ?_))
          refine hx_range rfl rfl rfl (fun a10 y1 c68 c81 e98 e96 => ?_)
          refine HCF.mono (H (fun st p h => LoopAt h y1 _ _ _ _ _ st p) y1 a10 _ (fun s p h h' k e => k.same e) c68 c81 e98 e96 ?_) ?_
          ·intro v8 y0 r2 v7 a12 a82 f68 H
           refine hcv_yield f68 rfl rfl ?_
           refine xr ?_
           refine lp rfl rfl (hn_alloc TyShZ.z31 ?_)
           intro y8 a15 f77 c20
           replace H := H y8 a15 f77 c20
           have g82 := ext_pushed_f6_sh c20
           obtain ⟨e18, H⟩ := H
           refine lp rfl rfl (hn_stores (vs := [(.int .u64 v8), (.int .u64 y0), (.int .u64 r2), (.int .u8 v7)]) rfl rfl TyShZ.sz31 rfl e18 ?_)
           intro a55 d19
           replace H := H a55 d19
           refine ln ?_
           obtain ⟨d43, H⟩ := H
           refine ⟨rfl, d43, ?_⟩
           intro o0 d92 d39
           replace H := H o0 d92 d39
           refine xb (xs ?_)
           obtain ⟨j_2, a88, a98⟩ := H
           refine xk (fun ρ h' => o0 = h' ∧ Has ρ [(6, (ptr nb 0)), (16, (ptr x2 0)), (101, (.bool j_2))]) ?_ ?_
           ·have H := a88; clear a88 a98
            refine hx_draw TyShZ.mixed [.read, .pure, .pure, .pure, .read, .pure, .read, .read, .pure, .pure] [0, 1, 2, 3, 4, 5, 6, 7, 8, 9] (by kernel_rfl) ?_
            obtain ⟨x_1, p6, a24, c15, H⟩ := H
            refine pr (i := 0) rfl (wanted_0 rfl) rfl (.slice x_1 p6 a24) (fun _ he => vl TyShZ.agg47 rfl (Ext.cell he c15)) ?_
            refine pp (i := 1) rfl (wanted_0 rfl) rfl (.int .i64 (p6 : Int)) (fun _ => hv_len (n := p6) TyShZ.u47 rfl) ?_
            refine pp (i := 2) rfl (wanted_0 rfl) rfl (.bool ((p6 : Int) == 0)) (fun _ => vr rfl rfl rfl) ?_
            refine pp (i := 3) rfl (wanted_0 rfl) rfl (.bool ((p6 : Int) == 0)) (fun _ => vm rfl) ?_
            rcases bool_or ((p6 : Int) == 0) with n1 | n1
            ·replace H := H.1 n1
             refine pn (i := 4) rfl (wanted_n rfl rfl rfl n1) ?_
             refine pn (i := 5) rfl (wanted_n rfl rfl rfl n1) ?_
             refine pn (i := 6) rfl (wanted_n rfl rfl rfl n1) ?_
             refine pn (i := 7) rfl (wanted_n rfl rfl rfl n1) ?_
             refine pn (i := 8) rfl (wanted_n rfl rfl rfl n1) ?_
             refine pp (i := 9) rfl (wanted_0 rfl) rfl (.bool true) (fun _ => hv_pick_t rfl n1 rfl) ?_
             refine hp_nil ?_
             refine qn ?_
             obtain rfl := H
             exact ⟨rfl, (hc rfl (hc rfl (hc rfl hn)))⟩
            ·replace H := H.2 n1
             refine pr (i := 4) rfl (wanted_y rfl rfl rfl n1) rfl (.slice x_1 p6 a24) (fun _ he => vl TyShZ.agg47 rfl (Ext.cell he c15)) ?_
             obtain ⟨w7, x0, hqe, e58, d12, Hq⟩ := H
             subst hqe
             have H := Hq; clear Hq
             refine pp (i := 5) rfl (wanted_y rfl rfl rfl n1) rfl (ptr w7 (x0 + (Int.toNat 0) * 4)) (fun _ => vi TyShZ.el47 rfl rfl e58 d12) ?_
             obtain ⟨n2, s4, k4, n3, d58, d33, e63, d28, H⟩ := H
             refine pr (i := 6) rfl (wanted_y rfl rfl rfl n1) rfl (.agg #[(.int .u64 n2), (.int .u64 s4), (.int .u64 k4), (.int .u8 n3)]) (fun _ he => vL (vs := [(.int .u64 n2), (.int .u64 s4), (.int .u64 k4), (.int .u8 n3)]) TyShZ.agg31 TyShZ.sz31 rfl (cc (Ext.cell he d58) (cc (Ext.cell he d33) (cc (Ext.cell he e63) (cc (Ext.cell he d28) cn))))) ?_
             obtain ⟨n4, s1, k5, n5, d79, e25, c61, e60, H⟩ := H
             refine pr (i := 7) rfl (wanted_y rfl rfl rfl n1) rfl (.agg #[(.int .u64 n4), (.int .u64 s1), (.int .u64 k5), (.int .u8 n5)]) (fun _ he => vL (vs := [(.int .u64 n4), (.int .u64 s1), (.int .u64 k5), (.int .u8 n5)]) TyShZ.agg31 TyShZ.sz31 rfl (cc (Ext.cell he d79) (cc (Ext.cell he e25) (cc (Ext.cell he c61) (cc (Ext.cell he e60) cn))))) ?_
             refine pp (i := 8) rfl (wanted_y rfl rfl rfl n1) rfl (.bool (!((n2 == n4 && (s4 == s1 && (k4 == k5 && (n3 == n5 && true))))))) (fun _ => hv_structEq (xs := [(.int .u64 n2), (.int .u64 s4), (.int .u64 k4), (.int .u8 n3)]) (ys := [(.int .u64 n4), (.int .u64 s1), (.int .u64 k5), (.int .u8 n5)]) (b := (n2 == n4 && (s4 == s1 && (k4 == k5 && (n3 == n5 && true))))) TyShZ.se31 rfl rfl (by kernel_rfl) rfl) ?_
             refine pp (i := 9) rfl (wanted_0 rfl) rfl (.bool (!((n2 == n4 && (s4 == s1 && (k4 == k5 && (n3 == n5 && true))))))) (fun _ => hv_pick_f rfl n1 rfl) ?_
             refine hp_nil ?_
             refine qn ?_
             obtain rfl := H
             exact ⟨rfl, (hc rfl (hc rfl (hc rfl hn)))⟩
           ·have H := a98; clear a88 a98
            rintro ρ _ ⟨rfl, hH⟩
            refine xh _ hH ?_
            refine xc (b := j_2) rfl (fun a74 => ?_) (fun a74 => ?_)
            ·replace H := H.1 a74
             refine xs (xr ?_)
             obtain ⟨e34, H⟩ := H
             refine lp rfl rfl (hn_store (v := (.bool false)) rfl rfl TyShZ.sz4 rfl e34 ?_)
             intro a36 c62
             replace H := H a36 c62
             refine ln (qn (xt (qr (br ?_))))
             exact H
            ·replace H := H.2 a74
             refine xi (qn (xr ?_))
             obtain ⟨x_2, u4, u1, c85, H⟩ := H
             refine lv rfl rfl (vl TyShZ.agg47 rfl c85) ?_
             obtain ⟨d60, e66, e19, H⟩ := H
             obtain ⟨sl, hq456⟩ : ∃ q, q = slA x_2 (Int.toNat 1) 4 u1 := ⟨_, rfl⟩
             replace H := H sl hq456
             refine lv rfl rfl (v := (.slice sl (Int.toNat (u4 : Int) - Int.toNat 1) (u1 - Int.toNat 1))) (hv_slice (l := 1) (r := (u4 : Int)) TyShZ.u47 TyShZ.sz31 rfl (sl_some rfl) sh_none d60 e66 e19 hq456) ?_
             obtain ⟨f16, H⟩ := H
             refine lp rfl rfl (hn_store (v := (.slice sl (Int.toNat (u4 : Int) - Int.toNat 1) (u1 - Int.toNat 1))) rfl rfl TyShZ.sz47 rfl f16 ?_)
             intro a45 f79
             replace H := H a45 f79
             refine ln (bn ?_)
             exact H
          ·rintro _ b57 ⟨st, t4, f70, c58, H⟩
           refine ⟨st, t4, f70, c58, ?_⟩
           intro v0 f89 f21
           replace H := H v0 f89 f21
           rcases H with ⟨rfl, H⟩ | ⟨rfl, H⟩
           ·refine jumpQ_n ?_
            refine bn (qn (xs (xr ?_)))
            obtain ⟨x_3, u0, a83, c59, H⟩ := H
            refine lv rfl rfl (vl TyShZ.agg47 rfl c59) (lv rfl rfl (v := (.int .i64 (u0 : Int))) (hv_len (n := u0) TyShZ.u47 rfl) (lv rfl rfl (vr rfl rfl rfl) ?_))
            refine ln (qn ?_)
            refine xc (b := decide ((u0 : Int) > 0)) rfl (fun a99 => ?_) (fun a99 => ?_)
            ·replace H := H.1 a99
             refine xs (xr ?_)
             obtain ⟨c99, H⟩ := H
             refine lp rfl rfl (hn_store (v := (.bool false)) rfl rfl TyShZ.sz4 rfl c99 ?_)
             intro a31 e17
             replace H := H a31 e17
             refine ln (qn (xt (br (qr (qr (br (qr ?_)))))))
             obtain ⟨r4, f10, H⟩ := H
             exact endQM_ret _ (fun h' hs => ⟨res_one Try.results6 (rv_cell1 TyShZ.agg4 rfl (shut_cell hs f10)), H h' hs⟩)
            ·replace H := H.2 a99
             refine xi (bn (qn (xr ?_)))
             refine lv rfl rfl (vm rfl) (lv rfl rfl (vr rfl rfl rfl) (lv rfl rfl (va rfl) ?_))
             refine ln (qn ?_)
             exact ⟨IntKind.i64.wrap (i7 + 1), ⟨⟨H.1, trivial⟩, H.2⟩, (hc rfl (hc rfl (hc rfl (hc rfl hn))))⟩
           ·refine jumpQ_ret ?_
            refine br (qr (br (qr (qr (br (qr ?_))))))
            obtain ⟨a77, d86, H⟩ := H
            exact endQM_ret _ (fun h' hs => ⟨res_one Try.results6 (rv_cell1 TyShZ.agg4 rfl (shut_cell hs d86)), H h' hs⟩)
        ·replace H := H.2 a86
         refine xe (qe (qe (bh (qn (xs (xr ?_))))))
         obtain ⟨d62, H⟩ := H
         refine lp rfl rfl (hn_store (v := (.bool true)) rfl rfl TyShZ.sz4 rfl d62 ?_)
         intro a26 e74
         replace H := H a26 e74
         refine ln (qn (xt ?_))
         obtain ⟨r4, e54, H⟩ := H
         exact endQM_ret _ (fun h' hs => ⟨res_one Try.results6 (rv_cell1 TyShZ.agg4 rfl (shut_cell hs e54)), H h' hs⟩)
end Go.Proofs.Ytkecmljalcfhoaa
namespace Go.Proofs.Ytkecmljalcfhoaa
namespace Ix
open Go RH
theorem stripe_xo {W : Nat → Prop} {h : Heap} {x m : Nat} {Ls : List (List Ent)} (hx : Has W h x m Ls) {o : Op} (ho : okOp o) :
    HC Try.prog 16 #[.pointer (some ⟨x, 0, none⟩), .agg #[.int .i64 o.kind, .int .u64 o.entry.h, .int .u64 o.entry.a, .int .u64 o.entry.v, .int .u8 o.entry.k, .int .u64 o.at_, .int .i64 o.n, .int .i64 o.m]] h fun v h' => v = .int .i64 (sO Ls.length o) ∧ Ext h h' := by
  obtain ⟨kind, ⟨eh, ea, ev, ek⟩, at_, n, mm⟩ := o
  obtain ⟨h1, h2, h3, h4, h5, h6⟩ := ho
  simp only at h1
  obtain ⟨eh, rfl⟩ : ∃ k : Nat, eh = k := ⟨eh.toNat, by omega⟩
  refine f16_sh _ _ _ _ _ _ _ _ _ _ _ _ ⟨fun g h1 x1 => ⟨?_, x1⟩, fun g h1 x1 => ⟨_, stripe_l (hx.ext x1) eh, ?_, x1⟩⟩
  · obtain rfl := eq_of_beq g
    rfl
  · have hk : kind ≠ 6 := fun q => by simp [q] at g
    unfold sO sOf
    rw [if_neg hk]; rfl
def opRow (o : Op) : Obj := .cells #[.int .i64 o.kind, .int .u64 o.entry.h, .int .u64 o.entry.a, .int .u64 o.entry.v, .int .u8 o.entry.k, .int .u64 o.at_, .int .i64 o.n, .int .i64 o.m] 33 (0, 0)
theorem op_read {h : Heap} {a : Nat} {o : Op} (hr : h[a]? = some (opRow o)) {Q : Int → Int → Int → Int → Int → Int → Int → Int → Prop} (q : Q o.kind o.entry.h o.entry.a o.entry.v o.entry.k o.at_ o.n o.m) :
    ∃ c0 c1 c2 c3 c4 c5 c6 c7 : Int, hcell h a 0 = some (.int .i64 c0) ∧ hcell h a 1 = some (.int .u64 c1) ∧ hcell h a 2 = some (.int .u64 c2) ∧ hcell h a 3 = some (.int .u64 c3) ∧
      hcell h a 4 = some (.int .u8 c4) ∧ hcell h a 5 = some (.int .u64 c5) ∧ hcell h a 6 = some (.int .i64 c6) ∧ hcell h a 7 = some (.int .i64 c7) ∧ Q c0 c1 c2 c3 c4 c5 c6 c7 := by
  unfold opRow at hr
  exact ⟨_, _, _, _, _, _, _, _, by rw [hcell_row hr]; rfl, by rw [hcell_row hr]; rfl, by rw [hcell_row hr]; rfl, by rw [hcell_row hr]; rfl, by rw [hcell_row hr]; rfl, by rw [hcell_row hr]; rfl, by rw [hcell_row hr]; rfl, by rw [hcell_row hr]; rfl, q⟩
theorem op_stay {T : Heap → Heap → Prop} {h : Heap} {a : Nat} {o : Op} (hr : ∀ hx, T h hx → hx[a]? = some (opRow o)) {Q : Int → Int → Int → Int → Int → Int → Int → Int → Prop} (q : Q o.kind o.entry.h o.entry.a o.entry.v o.entry.k o.at_ o.n o.m) :
    ∃ c0 c1 c2 c3 c4 c5 c6 c7 : Int, (∀ hx, T h hx → hcell hx a 0 = some (.int .i64 c0)) ∧ (∀ hx, T h hx → hcell hx a 1 = some (.int .u64 c1)) ∧ (∀ hx, T h hx → hcell hx a 2 = some (.int .u64 c2)) ∧ (∀ hx, T h hx → hcell hx a 3 = some (.int .u64 c3)) ∧
      (∀ hx, T h hx → hcell hx a 4 = some (.int .u8 c4)) ∧ (∀ hx, T h hx → hcell hx a 5 = some (.int .u64 c5)) ∧ (∀ hx, T h hx → hcell hx a 6 = some (.int .i64 c6)) ∧ (∀ hx, T h hx → hcell hx a 7 = some (.int .i64 c7)) ∧ Q c0 c1 c2 c3 c4 c5 c6 c7 := by
  unfold opRow at hr
  exact ⟨_, _, _, _, _, _, _, _, fun _ t => by rw [hcell_row (hr _ t)]; rfl, fun _ t => by rw [hcell_row (hr _ t)]; rfl, fun _ t => by rw [hcell_row (hr _ t)]; rfl, fun _ t => by rw [hcell_row (hr _ t)]; rfl, fun _ t => by rw [hcell_row (hr _ t)]; rfl, fun _ t => by rw [hcell_row (hr _ t)]; rfl, fun _ t => by rw [hcell_row (hr _ t)]; rfl, fun _ t => by rw [hcell_row (hr _ t)]; rfl, q⟩
theorem apartO {m : Nat} {Ls : List (List Ent)} {o p : Op} (h : sO Ls.length o ≠ sO Ls.length p) : tellsO m (stepO m Ls o) p = tellsO m Ls p ∧ stepO m (stepO m Ls o) p = stepO m (stepO m Ls p) o := apart h
theorem played_y {h : Heap} {a : Option Addr} {c : Nat} {L : List Op} {n bits most : Int} (s : Sl eOp h a c L) (hl : L.length ≤ 9223372036854775807) (hok : ∀ o ∈ L, okOp o) :
    HC Try.prog 15 #[.agg #[.int .i64 n, .int .i64 bits, .int .i64 most, .slice a L.length c]] h fun v h' => Ext h h' ∧ ∃ r : Option Addr, v = .tuple #[.pointer r, .bool true] ∧ (r = none ∨
      ∃ x W, r = some ⟨x, 0, none⟩ ∧ Has W h' x most.toNat (plays most.toNat n.toNat L) ∧ ∀ b, W b → h.size ≤ b ∧ b < h'.size) := by
  refine (played_x s hl hok).mono ?_
  rintro v h' ⟨x1, rfl | ⟨x, W, rfl, k1, k2⟩⟩
  · exact ⟨x1, _, rfl, .inl rfl⟩
  · exact ⟨x1, _, rfl, .inr ⟨x, W, rfl, k1, k2⟩⟩
set_option maxHeartbeats 16000000 in
theorem law_apart {h : Heap} {a : Option Addr} {c : Nat} {L : List Op} {n bits most : Int} (s : Sl eOp h a c L) (hl : L.length ≤ 9223372036854775807) (hok : ∀ o ∈ L, okOp o) {o p : Op} (ho : okOp o) (hp : okOp p) :
    HC Try.prog 6 #[.agg #[.int .i64 n, .int .i64 bits, .int .i64 most, .slice a L.length c],
      .agg #[.int .i64 o.kind, .int .u64 o.entry.h, .int .u64 o.entry.a, .int .u64 o.entry.v, .int .u8 o.entry.k, .int .u64 o.at_, .int .i64 o.n, .int .i64 o.m],
      .agg #[.int .i64 p.kind, .int .u64 p.entry.h, .int .u64 p.entry.a, .int .u64 p.entry.v, .int .u8 p.entry.k, .int .u64 p.at_, .int .i64 p.n, .int .i64 p.m]] h fun v h' => v = .bool true ∧ Ext h h' := by
  refine f6_sh _ _ _ _ _ _ _ _ _ _ _ _ _ _ _ _ _ _ _ _ _ _ _ _ fun sv h1 e1 eh1 ob h2 e2 eh2 pb h3 e3 eh3 nb h4 e4 eh4 => ?_
  have x1 : Ext h h1 := by rw [eh1]; exact Ext.push _ _
  have r1 := push_new (o := .cells #[.int .i64 n, .int .i64 bits, .int .i64 most, .slice a L.length c] 24) e1
  rw [← eh1] at r1
  have x2 : Ext h1 h2 := by rw [eh2]; exact Ext.push _ _
  have r2 : h2[ob]? = some (opRow o) := by rw [eh2]; exact push_new e2
  have x3 : Ext h2 h3 := by rw [eh3]; exact Ext.push _ _
  have r3 : h3[pb]? = some (opRow p) := by rw [eh3]; exact push_new e3
  have x4 : Ext h3 h4 := by rw [eh4]; exact Ext.push _ _
  have r4 : h4[nb]? = some (.cells #[.bool false] 4 (0, 0)) := by rw [eh4]; exact push_new e4
  clear eh1 eh2 eh3 eh4
  have x04 := x1.trans (x2.trans (x3.trans x4))
  have r14 := (x2.trans (x3.trans x4)).row r1
  have r24 := (x3.trans x4).row r2
  have r34 := x4.row r3
  have s1 := x1.size
  have lt1 := row_lt r1
  have lt2 := row_lt r2
  have lt3 := row_lt r3
  have lt4 := row_lt r4
  refine ⟨n, bits, most, a, L.length, c, by rw [hcell_row r14]; rfl, by rw [hcell_row r14]; rfl, by rw [hcell_row r14]; rfl, by rw [hcell_row r14]; rfl, (played_y (s.ext x04) hl hok).mono ?_⟩
  rintro _ h5 ⟨x5, p5, rfl, H5⟩
  have r15 := x5.row r14
  have x05 := x04.trans x5
  refine ⟨p5, true, rfl, n, bits, most, a, L.length, c, by rw [hcell_row r15]; rfl, by rw [hcell_row r15]; rfl, by rw [hcell_row r15]; rfl, by rw [hcell_row r15]; rfl, (played_y (s.ext x05) hl hok).mono ?_⟩
  rintro _ h6 ⟨x6, p6, rfl, H6⟩
  have x06 := x05.trans x6
  have stop : ∀ {h5 : Heap}, Ext h h5 → h5[nb]? = some (.cells #[.bool true] 4 (0, 0)) → ∃ res : Bool, hcell h5 nb 0 = some (.bool res) ∧ (∀ h6, Shut' (Array.size h) h5 h6 → (Value.bool res = .bool true ∧ Ext h h6)) := fun x r => ⟨true, by rw [hcell_row r]; rfl, fun h6 s6 => ⟨rfl, shut_ext x s6⟩⟩
  have put : ∀ {h4 h5 : Heap} {b : Bool}, Ext h h4 → h4[nb]? = some (.cells #[.bool false] 4 (0, 0)) → h5 = hset h4 nb 0 (.bool b) → Ext h h5 ∧ h5[nb]? = some (.cells #[.bool b] 4 (0, 0)) := fun x r e => ⟨ext_hset e x (by omega), by rw [e, hset_row r]; rfl⟩
  have r46 := (x5.trans x6).row r4
  refine ⟨p6, true, rfl, fun _ => ⟨fun hh => hh[nb]? = some (.cells #[.bool true] 4 (0, 0)) ∧ Ext h hh, ⟨fun _ => ⟨HW_row r46 (by simp), fun h8 e8 => (put x06 r46 e8).symm⟩, fun g => by cases g⟩, fun h7 g7 => stop g7.2 g7.1⟩, fun g => ?_⟩
  rcases H5 with rfl | ⟨x, Wx, rfl, hx5, hwx⟩
  · simp at g
  rcases H6 with rfl | ⟨y, Wy, rfl, hy6, hwy⟩
  · simp at g
  clear g
  generalize hLp : plays most.toNat n.toNat L = Lp at *
  generalize most.toNat = m at *
  have s4 := x04.size
  have s5 := x5.size
  have c6 : Cor h x y m [(nb, .cells #[.bool false] 4 (0, 0)), (ob, opRow o), (pb, opRow p)] Wx Wy Lp Lp h6 := by
    refine ⟨hx5.ext x6, hy6, fun b g q => ?_, fun b g => ?_, fun b g => ?_, fun e he => ?_, ?_, x06⟩
    · have := hwx b g; have := hwy b q; omega
    · have := hwx b g; omega
    · have := hwy b g; omega
    · have nw : ∀ {b}, b < h4.size → ¬ Wx b ∧ ¬ Wy b := fun hb => ⟨fun g => by have := hwx _ g; omega, fun g => by have := hwy _ g; omega⟩
      simp only [List.mem_cons, List.not_mem_nil, or_false] at he
      rcases he with rfl | rfl | rfl
      · exact ⟨r46, by show h.size ≤ nb; omega, nw lt4⟩
      · exact ⟨(x5.trans x6).row r24, by show h.size ≤ ob; omega, nw (row_lt r24)⟩
      · exact ⟨(x5.trans x6).row r34, by show h.size ≤ pb; omega, nw (row_lt r34)⟩
    · simp only [List.map_cons, List.map_nil, List.nodup_cons, List.mem_cons, List.not_mem_nil, or_false, not_or, not_false_eq_true, List.nodup_nil, and_true]
      omega
  have ro6 : h6[ob]? = some (opRow o) := (c6.kr (ob, opRow o) (by simp)).1
  have rp6 : h6[pb]? = some (opRow p) := (c6.kr (pb, opRow p) (by simp)).1
  refine ⟨Fr fun _ => False, fit_fr _, op_read ro6 (op_stay (fun hx f => f.row rp6 id) ((stripe_xo c6.hx ho).mono ?_))⟩
  rintro _ h11 ⟨rfl, x11⟩
  have c11 := c6.ext x11
  refine ⟨x11.fr _, _, rfl, (stripe_xo c11.hx hp).mono ?_⟩
  rintro _ h12 ⟨rfl, x12⟩
  have c12 := c11.ext x12
  have rn12 : h12[nb]? = some (.cells #[.bool false] 4 (0, 0)) := (c12.kr (nb, _) (by simp)).1
  refine ⟨_, rfl, fun _ => ⟨HW_row rn12 (by simp), fun h13 e13 => ?_⟩, fun hne => ?_⟩
  · obtain ⟨k1, k2⟩ := put c12.x0 rn12 e13
    exact stop k1 k2
  have hne' : sO Lp.length o ≠ sO Lp.length p := fun q => by simp [q] at hne
  obtain ⟨ap1, ap2⟩ := apartO (m := m) hne'
  obtain ⟨ap3, _⟩ := apartO (m := m) hne'.symm
  generalize hK : [(nb, Obj.cells #[.bool false] 4 (0, 0)), (ob, opRow o), (pb, opRow p)] = K at *
  have ro12 : h12[ob]? = some (opRow o) := (c12.kr (ob, opRow o) (by rw [← hK]; simp)).1
  have rp12 : h12[pb]? = some (opRow p) ∧ ¬ Wx pb := ⟨(c12.kr (pb, opRow p) (by rw [← hK]; simp)).1, (c12.kr (pb, opRow p) (by rw [← hK]; simp)).2.2.1⟩
  refine ⟨Fin h x y m K (tellsO m Lp o) (tellsO m (stepO m Lp o) p) (stepO m (stepO m Lp o) p) Lp, ⟨Fr Wx, fit_fr _, op_read ro12 (op_stay (fun hx f => f.row rp12.1 rp12.2)
    ⟨c12.one ho fun _ f c => ⟨f, _, _, _, _, _, _, _, _, _, _, _, _, _, rfl,
        ⟨c.one hp fun _ _ c => ⟨_, _, _, _, _, _, _, _, _, _, _, _, _, rfl, ⟨c.al fun _ _ c => c.al fun _ _ c => c.ab, c.al fun _ _ c => c.al fun _ _ c => c.ba⟩⟩,
          c.al fun _ _ c => ⟨c.one hp fun _ _ c => ⟨_, _, _, _, _, _, _, _, _, _, _, _, _, rfl, c.al fun _ _ c => c.ab⟩, c.al fun _ _ c => c.one hp fun _ _ c => ⟨_, _, _, _, _, _, _, _, _, _, _, _, _, rfl, c.ab⟩⟩,
          c.al fun _ _ c => ⟨c.one hp fun _ _ c => ⟨_, _, _, _, _, _, _, _, _, _, _, _, _, rfl, c.al fun _ _ c => c.ba⟩, c.al fun _ _ c => c.one hp fun _ _ c => ⟨_, _, _, _, _, _, _, _, _, _, _, _, _, rfl, c.ba⟩⟩⟩⟩,
      c12.al fun _ _ c => ⟨c.one ho fun _ f c => ⟨f, _, _, _, _, _, _, _, _, _, _, _, _, _, rfl, ⟨c.one hp fun _ _ c => ⟨_, _, _, _, _, _, _, _, _, _, _, _, _, rfl, c.al fun _ _ c => c.ab⟩, c.al fun _ _ c => c.one hp fun _ _ c => ⟨_, _, _, _, _, _, _, _, _, _, _, _, _, rfl, c.ab⟩⟩⟩,
        c.al fun _ _ c => c.one ho fun _ f c => ⟨f, _, _, _, _, _, _, _, _, _, _, _, _, _, rfl, c.one hp fun _ _ c => ⟨_, _, _, _, _, _, _, _, _, _, _, _, _, rfl, c.ab⟩⟩⟩,
      c12.al fun _ _ c => ⟨c.one ho fun _ f c => ⟨f, _, _, _, _, _, _, _, _, _, _, _, _, _, rfl, ⟨c.one hp fun _ _ c => ⟨_, _, _, _, _, _, _, _, _, _, _, _, _, rfl, c.al fun _ _ c => c.ba⟩, c.al fun _ _ c => c.one hp fun _ _ c => ⟨_, _, _, _, _, _, _, _, _, _, _, _, _, rfl, c.ba⟩⟩⟩,
        c.al fun _ _ c => c.one ho fun _ f c => ⟨f, _, _, _, _, _, _, _, _, _, _, _, _, _, rfl, c.one hp fun _ _ c => ⟨_, _, _, _, _, _, _, _, _, _, _, _, _, rfl, c.ba⟩⟩⟩⟩)⟩, ?_⟩
  rintro ab ao bb bo h15 ⟨rfl, rfl, Wx1, Wy1, c15⟩
  have c15' := c15.symm
  have rp15 : h15[pb]? = some (opRow p) := (c15.kr (pb, opRow p) (by rw [← hK]; simp)).1
  have ro15 : h15[ob]? = some (opRow o) ∧ ¬ Wy1 ob := ⟨(c15.kr (ob, opRow o) (by rw [← hK]; simp)).1, (c15.kr (ob, opRow o) (by rw [← hK]; simp)).2.2.2⟩
  refine ⟨Fin h y x m _ (tellsO m Lp p) (tellsO m (stepO m Lp p) o) (stepO m (stepO m Lp p) o) _, ⟨Fr Wy1, fit_fr _, op_read rp15 (op_stay (fun hx f => f.row ro15.1 ro15.2)
    ⟨c15'.one hp fun _ f c => ⟨f, _, _, _, _, _, _, _, _, _, _, _, _, _, rfl,
        ⟨c.one ho fun _ _ c => ⟨_, _, _, _, _, _, _, _, _, _, _, _, _, rfl, ⟨c.al fun _ _ c => c.al fun _ _ c => c.ab, c.al fun _ _ c => c.al fun _ _ c => c.ba⟩⟩,
          c.al fun _ _ c => ⟨c.one ho fun _ _ c => ⟨_, _, _, _, _, _, _, _, _, _, _, _, _, rfl, c.al fun _ _ c => c.ab⟩, c.al fun _ _ c => c.one ho fun _ _ c => ⟨_, _, _, _, _, _, _, _, _, _, _, _, _, rfl, c.ab⟩⟩,
          c.al fun _ _ c => ⟨c.one ho fun _ _ c => ⟨_, _, _, _, _, _, _, _, _, _, _, _, _, rfl, c.al fun _ _ c => c.ba⟩, c.al fun _ _ c => c.one ho fun _ _ c => ⟨_, _, _, _, _, _, _, _, _, _, _, _, _, rfl, c.ba⟩⟩⟩⟩,
      c15'.al fun _ _ c => ⟨c.one hp fun _ f c => ⟨f, _, _, _, _, _, _, _, _, _, _, _, _, _, rfl, ⟨c.one ho fun _ _ c => ⟨_, _, _, _, _, _, _, _, _, _, _, _, _, rfl, c.al fun _ _ c => c.ab⟩, c.al fun _ _ c => c.one ho fun _ _ c => ⟨_, _, _, _, _, _, _, _, _, _, _, _, _, rfl, c.ab⟩⟩⟩,
        c.al fun _ _ c => c.one hp fun _ f c => ⟨f, _, _, _, _, _, _, _, _, _, _, _, _, _, rfl, c.one ho fun _ _ c => ⟨_, _, _, _, _, _, _, _, _, _, _, _, _, rfl, c.ab⟩⟩⟩,
      c15'.al fun _ _ c => ⟨c.one hp fun _ f c => ⟨f, _, _, _, _, _, _, _, _, _, _, _, _, _, rfl, ⟨c.one ho fun _ _ c => ⟨_, _, _, _, _, _, _, _, _, _, _, _, _, rfl, c.al fun _ _ c => c.ba⟩, c.al fun _ _ c => c.one ho fun _ _ c => ⟨_, _, _, _, _, _, _, _, _, _, _, _, _, rfl, c.ba⟩⟩⟩,
        c.al fun _ _ c => c.one hp fun _ f c => ⟨f, _, _, _, _, _, _, _, _, _, _, _, _, _, rfl, c.one ho fun _ _ c => ⟨_, _, _, _, _, _, _, _, _, _, _, _, _, rfl, c.ba⟩⟩⟩⟩)⟩, ?_⟩
  rintro db d_o cb co h74 ⟨rfl, rfl, Wy2, Wx2, c74⟩
  have ra : h74[ab]? = some (tRow (tellsO m Lp o)) := (c74.kr (ab, tRow (tellsO m Lp o)) (by simp)).1
  have rb : h74[bb]? = some (tRow (tellsO m Lp p)) := by rw [← ap1]; exact (c74.kr (bb, tRow (tellsO m (stepO m Lp o) p)) (by simp)).1
  have rc : h74[cb]? = some (tRow (tellsO m Lp o)) := by rw [← ap3]; exact (c74.kr (cb, tRow (tellsO m (stepO m Lp p) o)) (by simp)).1
  have rd : h74[db]? = some (tRow (tellsO m Lp p)) := (c74.kr (db, tRow (tellsO m Lp p)) (by simp)).1
  have rn : h74[nb]? = some (.cells #[.bool false] 4 (0, 0)) := (c74.kr (nb, Obj.cells #[.bool false] 4 (0, 0)) (by rw [← hK]; simp)).1
  have hy := c74.hx
  have hx := c74.hy
  have x74 := c74.x0
  rw [ap2] at hx
  generalize stepO m (stepO m Lp p) o = LL at *
  refine ⟨false, told_read ra (told_read rc ⟨fun g => by simp at g, fun _ => told_read rb (told_read rd (by simp))⟩), fun g => (by cases g), fun _ => ?_⟩
  have hm := hx.lens
  have hsm := hx.small
  have lnb : h.size ≤ nb := by omega
  clear c74 c15 c15' c12 c11 c6 ra rb rc rd ap1 ap2 ap3
  refine ⟨fun st hh => ∃ k : Nat, st = k ∧ k ≤ LL.length ∧ Ext h74 hh, fun st _ => LL.length - st.toNat, ⟨0, rfl, Nat.zero_le _, Ext.refl _⟩, ?_⟩
  rintro _ h135 ⟨k, rfl, hk, x135⟩
  refine ⟨_, stripes_l (hx.ext x135), fun hlt => ?_, fun hge => ?_⟩
  · have hkl := lt_of_dec hlt
    intro lf h136 e136 eh136
    have x136 : Ext h135 h136 := by rw [eh136]; exact Ext.push _ _
    have r136 : h136[lf]? = some (.cells #[.slice none 0 0] 47 (0, 0)) := by rw [eh136]; exact push_new e136
    clear eh136
    have d136 : Pad (fun _ => False) h135 h136 lf [] := ⟨none, 0, r136, Sl.nil _ _, Own.nil _ _ _ _, x136, ⟨id, fun _ _ => id⟩, by omega⟩
    refine (all_l (hx.ext (x135.trans x136)) k).mono ?_
    rintro _ h137 ⟨x137, tb, ta, rfl, lotb, rtb, opt⟩
    rw [ent_at hkl] at opt
    have hLk := hsm _ (List.getElem_mem hkl)
    have hek : ent LL (k : Int) = LL[k] := ent_at hkl
    generalize hLL : LL[k] = L1 at *
    refine ⟨_, rfl, fun Lq l h138 yy stay el x138 z138 L138 hyld => ?_⟩
    have s136 := x136.size
    have s137 := x137.size
    have d137 := d136.ext x137
    refine range_all stay el x138 z138 L138 (opt.ext x138) (by rw [hcell_row (x138.row rtb)]; rfl) (fun Z j h' => Pad Z h135 h' lf (L1.take j))
      (fun h3' x3' => by simpa using ((d137.z' (Z' := fun b => b = l ∨ (h138.size ≤ b ∧ b < h3'.size)) fun b g => by rcases g with g | g <;> omega).ext x138).ext x3') (fun Z j h' h'' zl d f => d.fr f (fun b g => by rw [g]; exact zl) fun b g => by omega) ?_ ?_
    · intro Z j hj h139 K2 zl zlt lp139 d139 hK2
      refine hyld _ _ _ _ h139 K2 lp139 fun eb h142 ee e142 => ?_
      have r142 : h142[eb]? = some (.cells #[.int .u64 0, .int .u64 0, .int .u64 0, .int .u8 0] 31 (0, 0)) := by rw [e142]; exact push_new ee
      have x142 : Ext h139 h142 := by rw [e142]; exact Ext.push _ _
      refine ⟨HWs_row r142 (by simp), ?_⟩
      rintro h143 e143
      have r143 : h143[eb]? = some (.cells #[.int .u64 L1[j].h, .int .u64 L1[j].a, .int .u64 L1[j].v, .int .u8 L1[j].k] 31 (0, 0)) := by rw [e143, hsets_row _ r142]; rfl
      have x143 : Ext h139 h143 := ext_hsets e143 x142 (by omega)
      clear e143 e142
      have hl139 := zlt l zl
      refine ⟨stay _ _ _ _ lp139 (x143.block l hl139), fun h144 o144 lp144 => ?_⟩
      have s143 := x143.size
      have s144 := o144.size
      have r144 := o144.fr.row r143 (by omega)
      have d144 := (d139.ext x143).fr o144.fr (fun b g => by rw [g]; exact zl) fun b g => by omega
      have f144 : Fr (fun b => ¬ Z b ∨ b = l) h139 h144 := (x143.fr _).trans o144.fr fun _ _ g => .inr g
      obtain ⟨a144, c144, dw⟩ := id d144
      have htk := take_next hj
      refine ⟨_, _, _, by rw [hcell_row dw.rl]; rfl, _, _, _, _, by rw [hcell_row r144]; rfl, by rw [hcell_row r144]; rfl, by rw [hcell_row r144]; rfl, by rw [hcell_row r144]; rfl, fun nb1 h145 en1 eh145 => ?_⟩
      have hlen : (L1.take j).length ≤ 65536 := by rw [List.length_take]; omega
      refine app_one (x := L1[j]) aEnt en1 eh145 rfl dw.x dw.s dw.w rfl (by omega) fun a' c' h146 _ f146 s146 w146 b146 => ⟨_, _, _, rfl, ?_⟩
      obtain ⟨k1, k2⟩ := PadW.swap dw (n' := (L1.take j).length + 1) f146 s146 w146 b146 (by rw [List.length_append]; rfl) fun b g => by have := zlt b g; omega
      refine ⟨k1, fun h147 e147 => ?_⟩
      obtain ⟨d147, f147⟩ := k2 _ e147
      refine ⟨stay _ _ _ _ lp144 (f147.block l (by omega) fun q => q zl), fun h148 o148 lp148 => hK2 h148 ?_ lp148 ((f144.trans f147 fun _ _ g => .inl g).trans o148.fr fun _ _ g => .inr g)⟩
      rw [htk]
      exact d147.fr o148.fr (fun b g => by rw [g]; exact zl) fun b g => by omega
    · intro Z h141 hs141 d141
      rw [List.take_of_length_le (Nat.le_refl _)] at d141
      have d141 := d141.z' (Z' := fun _ => False) fun _ g => g.elim
      obtain ⟨a141, c141, dw141⟩ := id d141
      have x141 : Ext h135 h141 := dw141.x
      refine ⟨rfl, (all_l (hy.ext (x135.trans x141)) k).mono ?_⟩
      rintro _ h149 ⟨x149, tb2, ta2, rfl, lotb2, rtb2, opt2⟩
      rw [hek] at opt2
      refine ⟨_, rfl, fun Lq2 l2 h150 y2 stay2 el2 x150 z150 L150 hyld2 => ?_⟩
      have s141 := x141.size
      have s149 := x149.size
      have d149 := d141.ext x149
      refine range_all (OUT := fun pend h153 => (pend = none ∧ _) ∨ (pend = some .ret ∧ _)) stay2 el2 x150 z150 L150 (opt2.ext x150) (by rw [hcell_row (x150.row rtb2)]; rfl) (fun Z j h' => Pad Z h135 h' lf (L1.drop j))
        (fun h3' x3' => by rw [List.drop_zero]; exact ((d149.z' (Z' := fun b => b = l2 ∨ (h150.size ≤ b ∧ b < h3'.size)) fun b g => by rcases g with g | g <;> omega).ext x150).ext x3') (fun Z j h' h'' zl d f => d.fr f (fun b g => by rw [g]; exact zl) fun b g => by omega) ?_ ?_
      · intro Z j hj h151 K2 zl zlt lp151 d151 hK2
        refine hyld2 _ _ _ _ h151 K2 lp151 fun eb h154 ee e154 => ?_
        have r154 : h154[eb]? = some (.cells #[.int .u64 0, .int .u64 0, .int .u64 0, .int .u8 0] 31 (0, 0)) := by rw [e154]; exact push_new ee
        have x154 : Ext h151 h154 := by rw [e154]; exact Ext.push _ _
        refine ⟨HWs_row r154 (by simp), ?_⟩
        rintro h155 e155
        have r155 : h155[eb]? = some (.cells #[.int .u64 L1[j].h, .int .u64 L1[j].a, .int .u64 L1[j].v, .int .u8 L1[j].k] 31 (0, 0)) := by rw [e155, hsets_row _ r154]; rfl
        have x155 : Ext h151 h155 := ext_hsets e155 x154 (by omega)
        clear e155 e154
        have hl151 := zlt l2 zl
        refine ⟨stay2 _ _ _ _ lp151 (x155.block l2 hl151), fun h156 o156 lp156 => ?_⟩
        have s155 := x155.size
        have s156 := o156.size
        have r156 := o156.fr.row r155 (by omega)
        have d156 := (d151.ext x155).fr o156.fr (fun b g => by rw [g]; exact zl) fun b g => by omega
        have f156 : Fr (fun b => ¬ Z b ∨ b = l2) h151 h156 := (x155.fr _).trans o156.fr fun _ _ g => .inr g
        have hdr : L1.drop j = L1[j] :: L1.drop (j + 1) := (List.getElem_cons_drop hj).symm
        rw [hdr] at d156
        obtain ⟨a156, c156, dw⟩ := id d156
        obtain ⟨b, oo, ea, d⟩ := dw.s.at (i := 0) (x := L1[j]) rfl
        refine ⟨false, ⟨_, _, _, by rw [hcell_row dw.rl]; rfl, fun g => ?_, fun _ => ⟨b, oo, ea, by omega, by simp only [List.length_cons]; omega, _, _, _, _, d.1, d.2.1, d.2.2.1, d.2.2.2.1, _, _, _, _, by rw [hcell_row r156]; rfl, by rw [hcell_row r156]; rfl, by rw [hcell_row r156]; rfl, by rw [hcell_row r156]; rfl, by simp⟩⟩, fun g => (by cases g), fun _ => ⟨_, _, _, by rw [hcell_row dw.rl]; rfl, by omega, by simp only [List.length_cons]; omega, by have := dw.s.le; omega, fun sl esl => ?_⟩⟩
        · simp only [List.length_cons, beq_iff_eq] at g; omega
        · have hcut := dw.s.cut (l := 1) (r := (L1[j] :: L1.drop (j + 1)).length) (by rw [List.length_cons]; omega) (Nat.le_refl _)
          have hle := dw.s.le
          have hwcut := dw.w.cut (l := 1) (by simp only [List.length_cons] at hle; omega)
          rw [List.take_of_length_le (Nat.le_refl _), List.drop_succ_cons, List.drop_zero] at hcut
          have esl' : sl = slA a156 1 eEnt.k c156 := esl
          rw [← esl'] at hcut hwcut
          obtain ⟨k1, k2⟩ := PadW.swap dw (n' := (((L1[j] :: L1.drop (j + 1)).length : Nat) : Int).toNat - Int.toNat 1) (Fr.refl _ _) hcut hwcut (fun b' hb' => .inl (slA_blk (by rw [← esl']; exact hb'))) (by show (_ : Int).toNat - 1 = _; rw [Int.toNat_natCast]; rfl) fun b g => by have := zlt b g; omega
          refine ⟨k1, fun h159 e159 => ?_⟩
          obtain ⟨d159, f159⟩ := k2 _ e159
          refine ⟨stay2 _ _ _ _ lp156 (f159.block l2 (by omega) fun q => q zl), fun h160 o160 lp160 => hK2 h160 ?_ lp160 ((f156.trans f159 fun _ _ g => .inl g).trans o160.fr fun _ _ g => .inr g)⟩
          exact d159.fr o160.fr (fun b g => by rw [g]; exact zl) fun b g => by omega
      · intro Z h153 hs153 d153
        rw [List.drop_of_length_le (Nat.le_refl _)] at d153
        obtain ⟨a153, c153, dw153⟩ := d153
        rw [wadd k (by omega)]
        exact .inl ⟨rfl, _, _, _, by rw [hcell_row dw153.rl]; rfl, fun g => by simp at g, fun _ => ⟨⟨k + 1, rfl, hkl, x135.trans dw153.x⟩, by simp only [Int.toNat_natCast]; omega⟩⟩
  · have rn135 := x135.row rn
    refine ⟨HW_row rn135 (by simp), fun h164 e164 => ?_⟩
    obtain ⟨k1, k2⟩ := put (x74.trans x135) rn135 e164
    exact stop k1 k2
end Ix
end Go.Proofs.Ytkecmljalcfhoaa
namespace Go.Proofs.Ytkecmljalcfhoaa
namespace Ix
open Go Go.ChangeShapes Go.WideShapes Go.Deep
theorem oOp1 {H : Type} {enc : TypeId × Value → H} {W : World} {cs : Array Value} {d : DataW H} {p : List MemPlace}
    (h : DataW.Trod enc Try.prog W 0 (fun _ => true) true 33 (.agg cs) d p) : ∃ o : Op, cs = (eOp.enc o).toArray ∧ okOp o := by
  obtain ⟨fuel, h⟩ := h
  obtain ⟨o, ho, _, hw⟩ := oOp _ _ _ h
  refine ⟨o, ?_, ok_of hw⟩
  have : cs.toList = eOp.enc o := by simpa [Value.cells] using ho
  rw [← this]
end Ix
end Go.Proofs.Ytkecmljalcfhoaa
