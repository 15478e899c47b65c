import Derived.Maps.RangeRun
import Derived.Test.YtcdpapdefdnknaaProg
import Derived.Test.YtcdpapdefdnknaaPd1
import Derived.Test.YtcdpapdefdnknaaPd2
namespace Go.Proofs.Ytcdpapdefdnknaa
open Go
open Go.Proofs.Ytcdpapdefdnknaa renaming hl_val → lv, hl_step → lp, hl_nil → ln, hl_yes → ly, hl_no → lo, hx_seq → xs, hx_region → xr, hx_cond → xc, hx_block → xb, hx_loopT → xl, hx_cut → xk, hx_has → xh, hx_skip → xi, hx_ret → xt, hx_exit → xe, seqQ_n → qn, seqQ_ret → qr, seqQ_exit → qe, blockQ_n → bn, blockQ_here → bh, hv_move → vm, hv_assign → va, hv_arith → vr, hv_load → vl, hv_field → vf, hv_index → vi, hp_pure → pp, hp_read → pr, hp_no → pn, has_cons → hc, has_nil → hn, hs_call → sc
set_option maxRecDepth 100000
set_option maxHeartbeats 4000000
theorem TyTB.agg22 : aggB Try.prog 22 = some false := by kernel_rfl
theorem TyTB.agg3 : aggB Try.prog 3 = some false := by kernel_rfl
theorem TyTB.agg31 : aggB Try.prog 31 = some false := by kernel_rfl
theorem TyTB.cb44 : CallB Try.prog 44 := fun _ _ => Try.call44 _ _
theorem TyTB.cb46 : CallB Try.prog 46 := fun _ _ => Try.call46 _ _
theorem TyTB.cb57 : CallB Try.prog 57 := fun _ _ => Try.call57 _ _
theorem TyTB.cb72 : CallB Try.prog 72 := fun _ _ => Try.call72 _ _
theorem TyTB.cb73 : CallB Try.prog 73 := fun _ _ => Try.call73 _ _
theorem TyTB.cb90 : CallB Try.prog 90 := fun _ _ => Try.call90 _ _
theorem TyTB.cb97 : CallB Try.prog 97 := fun _ _ => Try.call97 _ _
theorem TyTB.el22 : elB Try.prog 22 = some 2 := by kernel_rfl
theorem TyTB.el38 : elB Try.prog 38 = some 1 := by kernel_rfl
theorem TyTB.fld34_0 : fldB Try.prog 34 0 = some 0 := by kernel_rfl
theorem TyTB.mixed : Try.prog.follows .mixedOrders = true := by kernel_rfl
theorem TyTB.sz3 : szB Try.prog 3 = some 1 := by kernel_rfl
theorem TyTB.u115 : Try.prog.underlying 115 = some (.int .u64) := by kernel_rfl
theorem TyTB.u22 : Try.prog.underlying 22 = some (.slice 34) := by kernel_rfl
theorem TyTB.u3 : Try.prog.underlying 3 = some (.int .i64) := by kernel_rfl
theorem TyTB.u38 : Try.prog.underlying 38 = some (.slice 3) := by kernel_rfl
theorem TyTB.z3 : zeroB Try.prog 3 (.int .i64 0) := by unfold zeroB; kernel_rfl
theorem ext_pushed_f25_sh {h h1 : Heap} {o : Obj} (e : h1 = Array.push h o) : Ext h h1 := by rw [e]; exact Ext.push _ _
theorem f44_sh (x : Option Addr) (a0 : Nat) (a1 : Nat) (a2 : Value) (h : Heap) (R : Value → Heap → Prop)
  (H : HC Try.prog 57 #[(.slice x a0 a1), (.int .i64 (a0 : Int)), a2] h (fun vv h1 => vv = (.tuple #[]) ∧ R (.tuple #[]) h1)) :
  HC Try.prog 44 #[(.slice x a0 a1), a2] h R := by
 refine hc_of (args := [(.slice x a0 a1), a2]) Try.func44 rfl Try.ntmps44 (Nat.le_of_ble_eq_true rfl) ?_
 refine xr ?_
 refine lv rfl rfl (vm rfl) (lv rfl rfl (vm rfl) (lv rfl rfl (v := (.int .i64 (a0 : Int))) (hv_len (n := a0) TyTB.u38 rfl) (lv rfl rfl (vm rfl) ?_)))
 refine lp rfl rfl (sc TyTB.cb57 rfl (HC.mono H ?_))
 rintro _ h1 ⟨rfl, H⟩
 refine ln ?_
 exact endQ_n _ (res_none Try.results44 ) H
theorem f57_sh (a4 : Option Addr) (a2 : Nat) (a1 : Nat) (n : Int) (a6 : Value) (h : Heap) (R : Value → Heap → Prop)
  (H : (∃ (I1 : Int → Int → Heap → Prop) (b6 : Int → Int → Heap → Nat), I1 0 20 h ∧ (∀ (a : Int) (b : Int) (h1 : Heap), I1 a b h1 → (((decide (b ≤ n)) = true → HC Try.prog 72 #[(.slice a4 a2 a1), (.int .i64 a), (.int .i64 b), a6] h1 (fun vv h2 => vv = (.tuple #[]) ∧ (I1 b (IntKind.i64.wrap (b + 20)) h2 ∧ b6 b (IntKind.i64.wrap (b + 20)) h2 < b6 a b h1))) ∧ ((decide (b ≤ n)) = false → HC Try.prog 72 #[(.slice a4 a2 a1), (.int .i64 a), (.int .i64 n), a6] h1 (fun vv h3 => vv = (.tuple #[]) ∧ (∃ (I7 : Int → Heap → Prop) (b5 : Int → Heap → Nat), I7 20 h3 ∧ (∀ (a0 : Int) (h4 : Heap), I7 a0 h4 → (((decide (a0 < n)) = true → (∃ (a8 : Int → Int → Heap → Prop) (a7 : Int → Int → Heap → Nat), a8 0 (IntKind.i64.wrap (2 * a0)) h4 ∧ (∀ (a3 : Int) (a5 : Int) (h5 : Heap), a8 a3 a5 h5 → (((decide (a5 ≤ n)) = true → HC Try.prog 73 #[(.slice a4 a2 a1), (.int .i64 a3), (.int .i64 (IntKind.i64.wrap (a3 + a0))), (.int .i64 a5), a6] h5 (fun vv h6 => vv = (.tuple #[]) ∧ (a8 a5 (IntKind.i64.wrap (a5 + (IntKind.i64.wrap (2 * a0)))) h6 ∧ a7 a5 (IntKind.i64.wrap (a5 + (IntKind.i64.wrap (2 * a0)))) h6 < a7 a3 a5 h5))) ∧ ((decide (a5 ≤ n)) = false → (∃ a9 : Heap → Prop, (((decide ((IntKind.i64.wrap (a3 + a0)) < n)) = true → HC Try.prog 73 #[(.slice a4 a2 a1), (.int .i64 a3), (.int .i64 (IntKind.i64.wrap (a3 + a0))), (.int .i64 n), a6] h5 (fun vv h8 => vv = (.tuple #[]) ∧ (a9 h8))) ∧ ((decide ((IntKind.i64.wrap (a3 + a0)) < n)) = false → (a9 h5))) ∧ (∀ (h7 : Heap), a9 h7 → (I7 (IntKind.i64.wrap (a0 * 2)) h7 ∧ b5 (IntKind.i64.wrap (a0 * 2)) h7 < b5 a0 h4)))))))) ∧ ((decide (a0 < n)) = false → R (.tuple #[]) h4)))))))))) :
  HC Try.prog 57 #[(.slice a4 a2 a1), (.int .i64 n), a6] h R := by
 refine hc_of (args := [(.slice a4 a2 a1), (.int .i64 n), a6]) Try.func57 rfl Try.ntmps57 (Nat.le_of_ble_eq_true rfl) ?_
 refine xs (xr ?_)
 refine lv rfl rfl (va rfl) ?_
 refine ln (qn (xs (xr ?_)))
 refine lv rfl rfl (vm rfl) (lv rfl rfl (va rfl) (lv rfl rfl (va rfl) ?_))
 refine ln (qn (xs (xb ?_)))
 obtain ⟨I1, b6, c5, c4⟩ := H
 refine xl (σ := Int × Int) (fun s => [(0, (.slice a4 a2 a1)), (1, (.int .i64 n)), (2, a6), (6, (.int .i64 20)), (7, (.int .i64 s.1)), (8, (.int .i64 s.2))]) (fun s h' => I1 s.1 s.2 h' ∧ True) (fun s h' => b6 s.1 s.2 h') (0, 20) ⟨c5, trivial⟩ (hc rfl (hc rfl (hc rfl (hc rfl (hc rfl (hc rfl hn)))))) ?_
 rintro ⟨a, b⟩ ρ h1 ⟨c6, -⟩
 have H := c4 a b h1 c6
 refine xs (xs (xr ?_))
 refine lv rfl rfl (vm rfl) (lv rfl rfl (vm rfl) (lv rfl rfl (vr rfl rfl rfl) ?_))
 refine ln (qn ?_)
 refine xc (b := decide (b ≤ n)) rfl (fun b7 => ?_) (fun b7 => ?_)
 ·replace H := H.1 b7
  refine xi (qn (xb (xs (xr ?_))))
  refine lv rfl rfl (vm rfl) (lv rfl rfl (vm rfl) (lv rfl rfl (vm rfl) (lv rfl rfl (vm rfl) ?_)))
  refine lp rfl rfl (sc TyTB.cb72 rfl (HC.mono H ?_))
  rintro _ h2 ⟨rfl, H⟩
  refine ln (qn (xs (xr ?_)))
  refine lv rfl rfl (vm rfl) (lv rfl rfl (va rfl) ?_)
  refine ln (qn (xr ?_))
  refine lv rfl rfl (vm rfl) (lv rfl rfl (vm rfl) (lv rfl rfl (vr rfl rfl rfl) (lv rfl rfl (va rfl) ?_)))
  refine ln (bn (qn ?_))
  exact ⟨(b, IntKind.i64.wrap (b + 20)), ⟨⟨H.1, trivial⟩, H.2⟩, (hc rfl (hc rfl (hc rfl (hc rfl (hc rfl (hc rfl hn))))))⟩
 ·replace H := H.2 b7
  refine xe (qe (qe (bh (qn (xs (xr ?_))))))
  refine lv rfl rfl (vm rfl) (lv rfl rfl (vm rfl) (lv rfl rfl (vm rfl) (lv rfl rfl (vm rfl) ?_)))
  refine lp rfl rfl (sc TyTB.cb72 rfl (HC.mono H ?_))
  rintro _ h3 ⟨rfl, H⟩
  refine ln (qn (xb ?_))
  obtain ⟨I7, b5, c7, c1⟩ := H
  refine xl (σ := Int) (fun s => [(0, (.slice a4 a2 a1)), (1, (.int .i64 n)), (2, a6), (6, (.int .i64 s))]) (fun s h' => I7 s h' ∧ True) (fun s h' => b5 s h') 20 ⟨c7, trivial⟩ (hc rfl (hc rfl (hc rfl (hc rfl hn)))) ?_
  rintro a0 ρ h4 ⟨b8, -⟩
  have H := c1 a0 h4 b8
  refine xs (xs (xr ?_))
  refine lv rfl rfl (vm rfl) (lv rfl rfl (vm rfl) (lv rfl rfl (vr rfl rfl rfl) ?_))
  refine ln (qn ?_)
  refine xc (b := decide (a0 < n)) rfl (fun b4 => ?_) (fun b4 => ?_)
  ·replace H := H.1 b4
   refine xi (qn (xb (xs (xr ?_))))
   refine lv rfl rfl (vm rfl) (lv rfl rfl (vr rfl rfl rfl) (lv rfl rfl (va rfl) (lv rfl rfl (va rfl) ?_)))
   refine ln (qn (xs (xb ?_)))
   obtain ⟨a8, a7, b9, c2⟩ := H
   refine xl (σ := Int × Int) (fun s => [(0, (.slice a4 a2 a1)), (1, (.int .i64 n)), (2, a6), (6, (.int .i64 a0)), (7, (.int .i64 s.1)), (8, (.int .i64 s.2))]) (fun s h' => a8 s.1 s.2 h' ∧ True) (fun s h' => a7 s.1 s.2 h') (0, IntKind.i64.wrap (2 * a0)) ⟨b9, trivial⟩ (hc rfl (hc rfl (hc rfl (hc rfl (hc rfl (hc rfl hn)))))) ?_
   rintro ⟨a3, a5⟩ ρ h5 ⟨c3, -⟩
   have H := c2 a3 a5 h5 c3
   refine xs (xs (xr ?_))
   refine lv rfl rfl (vm rfl) (lv rfl rfl (vm rfl) (lv rfl rfl (vr rfl rfl rfl) ?_))
   refine ln (qn ?_)
   refine xc (b := decide (a5 ≤ n)) rfl (fun b1 => ?_) (fun b1 => ?_)
   ·replace H := H.1 b1
    refine xi (qn (xb (xs (xr ?_))))
    refine lv rfl rfl (vm rfl) (lv rfl rfl (vm rfl) (lv rfl rfl (vm rfl) (lv rfl rfl (vm rfl) (lv rfl rfl (vr rfl rfl rfl) (lv rfl rfl (vm rfl) ?_)))))
    refine lv rfl rfl (vm rfl) ?_
    refine lp rfl rfl (sc TyTB.cb73 rfl (HC.mono H ?_))
    rintro _ h6 ⟨rfl, H⟩
    refine ln (qn (xs (xr ?_)))
    refine lv rfl rfl (vm rfl) (lv rfl rfl (va rfl) ?_)
    refine ln (qn (xr ?_))
    refine lv rfl rfl (vm rfl) (lv rfl rfl (vm rfl) (lv rfl rfl (vr rfl rfl rfl) (lv rfl rfl (vr rfl rfl rfl) (lv rfl rfl (va rfl) ?_))))
    refine ln (bn (qn ?_))
    exact ⟨(a5, IntKind.i64.wrap (a5 + (IntKind.i64.wrap (2 * a0)))), ⟨⟨H.1, trivial⟩, H.2⟩, (hc rfl (hc rfl (hc rfl (hc rfl (hc rfl (hc rfl hn))))))⟩
   ·replace H := H.2 b1
    refine xe (qe (qe (bh (qn ?_))))
    obtain ⟨a9, b2, b3⟩ := H
    refine xk (fun ρ h' => (a9 h' ∧ True) ∧ Has ρ [(0, (.slice a4 a2 a1)), (1, (.int .i64 n)), (2, a6), (6, (.int .i64 a0))]) ?_ ?_
    ·have H := b2; clear b2 b3
     refine xs (xr ?_)
     refine lv rfl rfl (vm rfl) (lv rfl rfl (vm rfl) (lv rfl rfl (vr rfl rfl rfl) (lv rfl rfl (va rfl) ?_)))
     refine ln (qn (xs (xr ?_)))
     refine lv rfl rfl (vm rfl) (lv rfl rfl (vm rfl) (lv rfl rfl (vr rfl rfl rfl) ?_))
     refine ln (qn ?_)
     refine xc (b := decide ((IntKind.i64.wrap (a3 + a0)) < n)) rfl (fun b0 => ?_) (fun b0 => ?_)
     ·replace H := H.1 b0
      refine xr ?_
      refine lv rfl rfl (vm rfl) (lv rfl rfl (vm rfl) (lv rfl rfl (vm rfl) (lv rfl rfl (vm rfl) (lv rfl rfl (vm rfl) ?_))))
      refine lp rfl rfl (sc TyTB.cb73 rfl (HC.mono H ?_))
      rintro _ h8 ⟨rfl, H⟩
      refine ln (qn ?_)
      exact ⟨⟨H, trivial⟩, (hc rfl (hc rfl (hc rfl (hc rfl hn))))⟩
     ·replace H := H.2 b0
      refine xi (qn ?_)
      exact ⟨⟨H, trivial⟩, (hc rfl (hc rfl (hc rfl (hc rfl hn))))⟩
    ·rintro ρ h7 ⟨⟨c0, -⟩, hH⟩
     have H := b3 h7 c0; clear b2 b3
     refine xh _ hH ?_
     refine xr ?_
     refine lv rfl rfl (vm rfl) (lv rfl rfl (vr rfl rfl rfl) (lv rfl rfl (va rfl) ?_))
     refine ln (bn (qn ?_))
     exact ⟨IntKind.i64.wrap (a0 * 2), ⟨⟨H.1, trivial⟩, H.2⟩, (hc rfl (hc rfl (hc rfl (hc rfl hn))))⟩
  ·replace H := H.2 b4
   refine xe (qe (qe (bh ?_)))
   exact endQ_n _ (res_none Try.results57 ) H
theorem f72_sh (a5 : Option Addr) (a3 : Nat) (a4 : Nat) (a : Int) (b : Int) (a9 : Value) (h : Heap) (R : Value → Heap → Prop)
  (H : (∃ (I1 : Int → Heap → Prop) (b8 : Int → Heap → Nat), I1 (IntKind.i64.wrap (a + 1)) h ∧ (∀ (i : Int) (h1 : Heap), I1 i h1 → (((decide (i < b)) = true → (∃ (I7 : Int → Heap → Prop) (b7 : Int → Heap → Nat), I7 i h1 ∧ (∀ (j : Int) (h2 : Heap), I7 j h2 → (∃ b3 : Bool → Heap → Prop, (((decide (j > a)) = true → (∃ a7 a6 : Nat, a5 = some ⟨a7, a6, none⟩ ∧ (0 : Int) ≤ j ∧ j < (a3 : Int) ∧ (∃ x : Int, hcell h2 a7 (a6 + (Int.toNat j) * 1) = some (.int .i64 x) ∧ ((0 : Int) ≤ IntKind.i64.wrap (j - 1) ∧ IntKind.i64.wrap (j - 1) < (a3 : Int) ∧ (∃ b1 : Int, hcell h2 a7 (a6 + (Int.toNat (IntKind.i64.wrap (j - 1))) * 1) = some (.int .i64 b1) ∧ HCV Try.prog a9 [(.int .i64 x), (.int .i64 b1)] h2 (fun vv h4 => ∃ r : Int, vv = (.int .i64 r) ∧ (b3 (decide (r < 0)) h4))))))) ∧ ((decide (j > a)) = false → (b3 false h2))) ∧ (∀ (a8 : Bool) (h3 : Heap), b3 a8 h3 → ((a8 = true → (∃ a2 a1 : Nat, a5 = some ⟨a2, a1, none⟩ ∧ (0 : Int) ≤ IntKind.i64.wrap (j - 1) ∧ IntKind.i64.wrap (j - 1) < (a3 : Int) ∧ (∃ b2 : Int, hcell h3 a2 (a1 + (Int.toNat (IntKind.i64.wrap (j - 1))) * 1) = some (.int .i64 b2) ∧ ((0 : Int) ≤ j ∧ j < (a3 : Int) ∧ (∃ b0 : Int, hcell h3 a2 (a1 + (Int.toNat j) * 1) = some (.int .i64 b0) ∧ (HW h3 a2 (a1 + (Int.toNat j) * 1) ∧ ∀ h5, h5 = hset h3 a2 (a1 + (Int.toNat j) * 1) (.int .i64 b2) → (HW h5 a2 (a1 + (Int.toNat (IntKind.i64.wrap (j - 1))) * 1) ∧ ∀ h6, h6 = hset h5 a2 (a1 + (Int.toNat (IntKind.i64.wrap (j - 1))) * 1) (.int .i64 b0) → (I7 (IntKind.i64.wrap (j - 1)) h6 ∧ b7 (IntKind.i64.wrap (j - 1)) h6 < b7 j h2)))))))) ∧ (a8 = false → (I1 (IntKind.i64.wrap (i + 1)) h3 ∧ b8 (IntKind.i64.wrap (i + 1)) h3 < b8 i h1)))))))) ∧ ((decide (i < b)) = false → R (.tuple #[]) h1))))) :
  HC Try.prog 72 #[(.slice a5 a3 a4), (.int .i64 a), (.int .i64 b), a9] h R := by
 refine hc_of (args := [(.slice a5 a3 a4), (.int .i64 a), (.int .i64 b), a9]) Try.func72 rfl Try.ntmps72 (Nat.le_of_ble_eq_true rfl) ?_
 refine xs (xr ?_)
 refine lv rfl rfl (vm rfl) (lv rfl rfl (vr rfl rfl rfl) (lv rfl rfl (va rfl) ?_))
 refine ln (qn (xb ?_))
 obtain ⟨I1, b8, e1, e0⟩ := H
 refine xl (σ := Int) (fun s => [(0, (.slice a5 a3 a4)), (1, (.int .i64 a)), (2, (.int .i64 b)), (3, a9), (8, (.int .i64 s))]) (fun s h' => I1 s h' ∧ True) (fun s h' => b8 s h') (IntKind.i64.wrap (a + 1)) ⟨e1, trivial⟩ (hc rfl (hc rfl (hc rfl (hc rfl (hc rfl hn))))) ?_
 rintro i ρ h1 ⟨e2, -⟩
 have H := e0 i h1 e2
 refine xs (xs (xr ?_))
 refine lv rfl rfl (vm rfl) (lv rfl rfl (vm rfl) (lv rfl rfl (vr rfl rfl rfl) ?_))
 refine ln (qn ?_)
 refine xc (b := decide (i < b)) rfl (fun c3 => ?_) (fun c3 => ?_)
 ·replace H := H.1 c3
  refine xi (qn (xs (xb (xs (xr ?_)))))
  refine lv rfl rfl (vm rfl) (lv rfl rfl (va rfl) ?_)
  refine ln (qn (xb ?_))
  obtain ⟨I7, b7, e3, d0⟩ := H
  refine xl (σ := Int) (fun s => [(0, (.slice a5 a3 a4)), (1, (.int .i64 a)), (2, (.int .i64 b)), (3, a9), (8, (.int .i64 i)), (9, (.int .i64 s))]) (fun s h' => I7 s h' ∧ True) (fun s h' => b7 s h') i ⟨e3, trivial⟩ (hc rfl (hc rfl (hc rfl (hc rfl (hc rfl (hc rfl hn)))))) ?_
  rintro j ρ h2 ⟨c7, -⟩
  have H := d0 j h2 c7
  refine xs ?_
  obtain ⟨b3, b6, b5⟩ := H
  refine xk (fun ρ h' => ∃ a8 : Bool, (b3 a8 h' ∧ True) ∧ Has ρ [(0, (.slice a5 a3 a4)), (1, (.int .i64 a)), (2, (.int .i64 b)), (3, a9), (8, (.int .i64 i)), (9, (.int .i64 j)), (34, (.bool a8))]) ?_ ?_
  ·have H := b6; clear b6 b5
   refine hx_draw TyTB.mixed [.pure, .pure, .pure, .pure, .pure, .pure, .pure, .pure, .read, .pure, .pure, .pure, .pure, .read, .wild, .pure, .pure] [0, 1, 2, 3, 4, 5, 6, 7, 8, 9, 10, 11, 12, 13, 14, 15, 16] (by kernel_rfl) ?_
   refine pp (i := 0) rfl (wanted_0 rfl) rfl (.int .i64 j) (fun _ => vm rfl) ?_
   refine pp (i := 1) rfl (wanted_0 rfl) rfl (.int .i64 a) (fun _ => vm rfl) ?_
   refine pp (i := 2) rfl (wanted_0 rfl) rfl (.bool (decide (j > a))) (fun _ => vr rfl rfl rfl) ?_
   refine pp (i := 3) rfl (wanted_0 rfl) rfl (.bool (decide (j > a))) (fun _ => vm rfl) ?_
   rcases bool_or (decide (j > a)) with a0 | a0
   ·replace H := H.1 a0
    refine pp (i := 4) rfl (wanted_y rfl rfl rfl a0) rfl a9 (fun _ => vm rfl) ?_
    refine pp (i := 5) rfl (wanted_y rfl rfl rfl a0) rfl (.slice a5 a3 a4) (fun _ => vm rfl) ?_
    refine pp (i := 6) rfl (wanted_y rfl rfl rfl a0) rfl (.int .i64 j) (fun _ => vm rfl) ?_
    obtain ⟨a7, a6, c2, d1, d4, Hq⟩ := H
    subst c2
    have H := Hq; clear Hq
    refine pp (i := 7) rfl (wanted_y rfl rfl rfl a0) rfl (ptr a7 (a6 + (Int.toNat j) * 1)) (fun _ => vi TyTB.el38 rfl rfl d1 d4) ?_
    obtain ⟨x, c5, H⟩ := H
    refine pr (i := 8) rfl (wanted_y rfl rfl rfl a0) rfl (.int .i64 x) (fun _ he => vl TyTB.agg3 rfl (Ext.cell he c5)) ?_
    refine pp (i := 9) rfl (wanted_y rfl rfl rfl a0) rfl (.slice (some ⟨a7, a6, none⟩) a3 a4) (fun _ => vm rfl) ?_
    refine pp (i := 10) rfl (wanted_y rfl rfl rfl a0) rfl (.int .i64 j) (fun _ => vm rfl) ?_
    refine pp (i := 11) rfl (wanted_y rfl rfl rfl a0) rfl (.int .i64 (IntKind.i64.wrap (j - 1))) (fun _ => vr rfl rfl rfl) ?_
    obtain ⟨d7, c6, H⟩ := H
    refine pp (i := 12) rfl (wanted_y rfl rfl rfl a0) rfl (ptr a7 (a6 + (Int.toNat (IntKind.i64.wrap (j - 1))) * 1)) (fun _ => vi TyTB.el38 rfl rfl d7 c6) ?_
    obtain ⟨b1, d8, H⟩ := H
    refine pr (i := 13) rfl (wanted_y rfl rfl rfl a0) rfl (.int .i64 b1) (fun _ he => vl TyTB.agg3 rfl (Ext.cell he d8)) ?_
    refine hp_wild (i := 14) rfl (wanted_y rfl rfl rfl a0) rfl (hs_callF (vs := [(.int .i64 x), (.int .i64 b1)]) rfl rfl (HCV.mono H ?_))
    rintro _ h4 ⟨r, rfl, H⟩
    refine pp (i := 15) rfl (wanted_y rfl rfl rfl a0) rfl (.bool (decide (r < 0))) (fun _ => vr rfl rfl rfl) ?_
    refine pp (i := 16) rfl (wanted_0 rfl) rfl (.bool (decide (r < 0))) (fun _ => hv_pick_t rfl a0 rfl) ?_
    refine hp_nil ?_
    refine qn ?_
    exact ⟨_, ⟨H, trivial⟩, (hc rfl (hc rfl (hc rfl (hc rfl (hc rfl (hc rfl (hc rfl hn)))))))⟩
   ·replace H := H.2 a0
    refine pn (i := 4) rfl (wanted_n rfl rfl rfl a0) ?_
    refine pn (i := 5) rfl (wanted_n rfl rfl rfl a0) ?_
    refine pn (i := 6) rfl (wanted_n rfl rfl rfl a0) ?_
    refine pn (i := 7) rfl (wanted_n rfl rfl rfl a0) ?_
    refine pn (i := 8) rfl (wanted_n rfl rfl rfl a0) ?_
    refine pn (i := 9) rfl (wanted_n rfl rfl rfl a0) ?_
    refine pn (i := 10) rfl (wanted_n rfl rfl rfl a0) ?_
    refine pn (i := 11) rfl (wanted_n rfl rfl rfl a0) ?_
    refine pn (i := 12) rfl (wanted_n rfl rfl rfl a0) ?_
    refine pn (i := 13) rfl (wanted_n rfl rfl rfl a0) ?_
    refine pn (i := 14) rfl (wanted_n rfl rfl rfl a0) ?_
    refine pn (i := 15) rfl (wanted_n rfl rfl rfl a0) ?_
    refine pp (i := 16) rfl (wanted_0 rfl) rfl (.bool false) (fun _ => hv_pick_f rfl a0 rfl) ?_
    refine hp_nil ?_
    refine qn ?_
    exact ⟨_, ⟨H, trivial⟩, (hc rfl (hc rfl (hc rfl (hc rfl (hc rfl (hc rfl (hc rfl hn)))))))⟩
  ·rintro ρ h3 ⟨a8, ⟨c9, -⟩, hH⟩
   have H := b5 a8 h3 c9; clear b6 b5
   refine xh _ hH ?_
   refine xc (b := a8) rfl (fun b4 => ?_) (fun b4 => ?_)
   ·replace H := H.1 b4
    refine xi (qn (xs (xb ?_)))
    refine hx_draw TyTB.mixed [.pure, .pure, .pure, .pure, .pure, .pure, .pure, .pure, .pure, .read, .pure, .pure, .pure, .read, .pure, .wild, .pure, .wild] [0, 1, 2, 3, 4, 5, 6, 7, 8, 9, 10, 11, 12, 13, 14, 15, 16, 17] (by kernel_rfl) ?_
    refine pp (i := 0) rfl (wanted_0 rfl) rfl (.slice a5 a3 a4) (fun _ => vm rfl) ?_
    refine pp (i := 1) rfl (wanted_0 rfl) rfl (.int .i64 j) (fun _ => vm rfl) ?_
    refine pp (i := 2) rfl (wanted_0 rfl) rfl (.slice a5 a3 a4) (fun _ => vm rfl) ?_
    refine pp (i := 3) rfl (wanted_0 rfl) rfl (.int .i64 j) (fun _ => vm rfl) ?_
    refine pp (i := 4) rfl (wanted_0 rfl) rfl (.int .i64 (IntKind.i64.wrap (j - 1))) (fun _ => vr rfl rfl rfl) ?_
    refine pp (i := 5) rfl (wanted_0 rfl) rfl (.slice a5 a3 a4) (fun _ => vm rfl) ?_
    refine pp (i := 6) rfl (wanted_0 rfl) rfl (.int .i64 j) (fun _ => vm rfl) ?_
    refine pp (i := 7) rfl (wanted_0 rfl) rfl (.int .i64 (IntKind.i64.wrap (j - 1))) (fun _ => vr rfl rfl rfl) ?_
    obtain ⟨a2, a1, c2, c0, b9, Hq⟩ := H
    subst c2
    have H := Hq; clear Hq
    refine pp (i := 8) rfl (wanted_0 rfl) rfl (ptr a2 (a1 + (Int.toNat (IntKind.i64.wrap (j - 1))) * 1)) (fun _ => vi TyTB.el38 rfl rfl c0 b9) ?_
    obtain ⟨b2, d9, H⟩ := H
    refine pr (i := 9) rfl (wanted_0 rfl) rfl (.int .i64 b2) (fun _ he => vl TyTB.agg3 rfl (Ext.cell he d9)) ?_
    refine pp (i := 10) rfl (wanted_0 rfl) rfl (.slice (some ⟨a2, a1, none⟩) a3 a4) (fun _ => vm rfl) ?_
    refine pp (i := 11) rfl (wanted_0 rfl) rfl (.int .i64 j) (fun _ => vm rfl) ?_
    obtain ⟨c4, c1, H⟩ := H
    refine pp (i := 12) rfl (wanted_0 rfl) rfl (ptr a2 (a1 + (Int.toNat j) * 1)) (fun _ => vi TyTB.el38 rfl rfl c4 c1) ?_
    obtain ⟨b0, d6, H⟩ := H
    refine pr (i := 13) rfl (wanted_0 rfl) rfl (.int .i64 b0) (fun _ he => vl TyTB.agg3 rfl (Ext.cell he d6)) ?_
    refine pp (i := 14) rfl (wanted_0 rfl) rfl (ptr a2 (a1 + (Int.toNat j) * 1)) (fun _ => vi TyTB.el38 rfl rfl c4 c1) ?_
    obtain ⟨d2, H⟩ := H
    refine hp_wild (i := 15) rfl (wanted_0 rfl) rfl (hn_store (v := (.int .i64 b2)) rfl rfl TyTB.sz3 rfl d2 ?_)
    intro h5 d5
    replace H := H h5 d5
    refine pp (i := 16) rfl (wanted_0 rfl) rfl (ptr a2 (a1 + (Int.toNat (IntKind.i64.wrap (j - 1))) * 1)) (fun _ => vi TyTB.el38 rfl rfl c0 b9) ?_
    obtain ⟨d3, H⟩ := H
    refine hp_wild (i := 17) rfl (wanted_0 rfl) rfl (hn_store (v := (.int .i64 b0)) rfl rfl TyTB.sz3 rfl d3 ?_)
    intro h6 c8
    replace H := H h6 c8
    refine hp_nil ?_
    refine bn (qn (xr ?_))
    refine lv rfl rfl (vm rfl) (lv rfl rfl (vr rfl rfl rfl) (lv rfl rfl (va rfl) ?_))
    refine ln (qn ?_)
    exact ⟨IntKind.i64.wrap (j - 1), ⟨⟨H.1, trivial⟩, H.2⟩, (hc rfl (hc rfl (hc rfl (hc rfl (hc rfl (hc rfl hn))))))⟩
   ·replace H := H.2 b4
    refine xe (qe (qe (bh (bn (qn (xr ?_))))))
    refine lv rfl rfl (vm rfl) (lv rfl rfl (vr rfl rfl rfl) (lv rfl rfl (va rfl) ?_))
    refine ln (qn ?_)
    exact ⟨IntKind.i64.wrap (i + 1), ⟨⟨H.1, trivial⟩, H.2⟩, (hc rfl (hc rfl (hc rfl (hc rfl (hc rfl hn)))))⟩
 ·replace H := H.2 c3
  refine xe (qe (qe (bh ?_)))
  exact endQ_n _ (res_none Try.results72 ) H
theorem f73_sh (a5 : Option Addr) (a3 : Nat) (a4 : Nat) (a : Int) (m : Int) (b : Int) (a8 : Value) (h : Heap) (R : Value → Heap → Prop)
  (H : ((((IntKind.i64.wrap (m - a)) == 1) = true → (∃ (I2 : Int → Int → Heap → Prop) (c2 : Int → Int → Heap → Nat), I2 m b h ∧ (∀ (i : Int) (j : Int) (h1 : Heap), I2 i j h1 → (((decide (i < j)) = true → (∃ a2 a1 : Nat, a5 = some ⟨a2, a1, none⟩ ∧ (0 : Int) ≤ IntKind.i64.wrap (Int.fdiv (IntKind.u64.wrap (IntKind.i64.wrap (i + j))) (2 ^ min (Int.toNat 1) 64)) ∧ IntKind.i64.wrap (Int.fdiv (IntKind.u64.wrap (IntKind.i64.wrap (i + j))) (2 ^ min (Int.toNat 1) 64)) < (a3 : Int) ∧ (∃ x : Int, hcell h1 a2 (a1 + (Int.toNat (IntKind.i64.wrap (Int.fdiv (IntKind.u64.wrap (IntKind.i64.wrap (i + j))) (2 ^ min (Int.toNat 1) 64)))) * 1) = some (.int .i64 x) ∧ ((0 : Int) ≤ a ∧ a < (a3 : Int) ∧ (∃ a7 : Int, hcell h1 a2 (a1 + (Int.toNat a) * 1) = some (.int .i64 a7) ∧ HCV Try.prog a8 [(.int .i64 x), (.int .i64 a7)] h1 (fun vv h2 => ∃ r : Int, vv = (.int .i64 r) ∧ (((decide (r < 0)) = true → (I2 (IntKind.i64.wrap ((IntKind.i64.wrap (Int.fdiv (IntKind.u64.wrap (IntKind.i64.wrap (i + j))) (2 ^ min (Int.toNat 1) 64))) + 1)) j h2 ∧ c2 (IntKind.i64.wrap ((IntKind.i64.wrap (Int.fdiv (IntKind.u64.wrap (IntKind.i64.wrap (i + j))) (2 ^ min (Int.toNat 1) 64))) + 1)) j h2 < c2 i j h1)) ∧ ((decide (r < 0)) = false → (I2 i (IntKind.i64.wrap (Int.fdiv (IntKind.u64.wrap (IntKind.i64.wrap (i + j))) (2 ^ min (Int.toNat 1) 64))) h2 ∧ c2 i (IntKind.i64.wrap (Int.fdiv (IntKind.u64.wrap (IntKind.i64.wrap (i + j))) (2 ^ min (Int.toNat 1) 64))) h2 < c2 i j h1))))))))) ∧ ((decide (i < j)) = false → (∃ (d3 : Int → Heap → Prop) (c4 : Int → Heap → Nat), d3 a h1 ∧ (∀ (k : Int) (h3 : Heap), d3 k h3 → (((decide (k < (IntKind.i64.wrap (i - 1)))) = true → (∃ a2 a1 : Nat, a5 = some ⟨a2, a1, none⟩ ∧ (0 : Int) ≤ IntKind.i64.wrap (k + 1) ∧ IntKind.i64.wrap (k + 1) < (a3 : Int) ∧ (∃ x : Int, hcell h3 a2 (a1 + (Int.toNat (IntKind.i64.wrap (k + 1))) * 1) = some (.int .i64 x) ∧ ((0 : Int) ≤ k ∧ k < (a3 : Int) ∧ (∃ a7 : Int, hcell h3 a2 (a1 + (Int.toNat k) * 1) = some (.int .i64 a7) ∧ (HW h3 a2 (a1 + (Int.toNat k) * 1) ∧ ∀ h4, h4 = hset h3 a2 (a1 + (Int.toNat k) * 1) (.int .i64 x) → (HW h4 a2 (a1 + (Int.toNat (IntKind.i64.wrap (k + 1))) * 1) ∧ ∀ h5, h5 = hset h4 a2 (a1 + (Int.toNat (IntKind.i64.wrap (k + 1))) * 1) (.int .i64 a7) → (d3 (IntKind.i64.wrap (k + 1)) h5 ∧ c4 (IntKind.i64.wrap (k + 1)) h5 < c4 k h3)))))))) ∧ ((decide (k < (IntKind.i64.wrap (i - 1)))) = false → R (.tuple #[]) h3))))))))) ∧ (((IntKind.i64.wrap (m - a)) == 1) = false → ((((IntKind.i64.wrap (b - m)) == 1) = true → (∃ (c3 : Int → Int → Heap → Prop) (b7 : Int → Int → Heap → Nat), c3 a m h ∧ (∀ (i : Int) (j : Int) (h6 : Heap), c3 i j h6 → (((decide (i < j)) = true → (∃ a2 a1 : Nat, a5 = some ⟨a2, a1, none⟩ ∧ (0 : Int) ≤ m ∧ m < (a3 : Int) ∧ (∃ x : Int, hcell h6 a2 (a1 + (Int.toNat m) * 1) = some (.int .i64 x) ∧ ((0 : Int) ≤ IntKind.i64.wrap (Int.fdiv (IntKind.u64.wrap (IntKind.i64.wrap (i + j))) (2 ^ min (Int.toNat 1) 64)) ∧ IntKind.i64.wrap (Int.fdiv (IntKind.u64.wrap (IntKind.i64.wrap (i + j))) (2 ^ min (Int.toNat 1) 64)) < (a3 : Int) ∧ (∃ a7 : Int, hcell h6 a2 (a1 + (Int.toNat (IntKind.i64.wrap (Int.fdiv (IntKind.u64.wrap (IntKind.i64.wrap (i + j))) (2 ^ min (Int.toNat 1) 64)))) * 1) = some (.int .i64 a7) ∧ HCV Try.prog a8 [(.int .i64 x), (.int .i64 a7)] h6 (fun vv h7 => ∃ r : Int, vv = (.int .i64 r) ∧ (((!(decide (r < 0))) = true → (c3 (IntKind.i64.wrap ((IntKind.i64.wrap (Int.fdiv (IntKind.u64.wrap (IntKind.i64.wrap (i + j))) (2 ^ min (Int.toNat 1) 64))) + 1)) j h7 ∧ b7 (IntKind.i64.wrap ((IntKind.i64.wrap (Int.fdiv (IntKind.u64.wrap (IntKind.i64.wrap (i + j))) (2 ^ min (Int.toNat 1) 64))) + 1)) j h7 < b7 i j h6)) ∧ ((!(decide (r < 0))) = false → (c3 i (IntKind.i64.wrap (Int.fdiv (IntKind.u64.wrap (IntKind.i64.wrap (i + j))) (2 ^ min (Int.toNat 1) 64))) h7 ∧ b7 i (IntKind.i64.wrap (Int.fdiv (IntKind.u64.wrap (IntKind.i64.wrap (i + j))) (2 ^ min (Int.toNat 1) 64))) h7 < b7 i j h6))))))))) ∧ ((decide (i < j)) = false → (∃ (d0 : Int → Heap → Prop) (c7 : Int → Heap → Nat), d0 m h6 ∧ (∀ (k : Int) (h8 : Heap), d0 k h8 → (((decide (k > i)) = true → (∃ a2 a1 : Nat, a5 = some ⟨a2, a1, none⟩ ∧ (0 : Int) ≤ IntKind.i64.wrap (k - 1) ∧ IntKind.i64.wrap (k - 1) < (a3 : Int) ∧ (∃ x : Int, hcell h8 a2 (a1 + (Int.toNat (IntKind.i64.wrap (k - 1))) * 1) = some (.int .i64 x) ∧ ((0 : Int) ≤ k ∧ k < (a3 : Int) ∧ (∃ a7 : Int, hcell h8 a2 (a1 + (Int.toNat k) * 1) = some (.int .i64 a7) ∧ (HW h8 a2 (a1 + (Int.toNat k) * 1) ∧ ∀ h9, h9 = hset h8 a2 (a1 + (Int.toNat k) * 1) (.int .i64 x) → (HW h9 a2 (a1 + (Int.toNat (IntKind.i64.wrap (k - 1))) * 1) ∧ ∀ c9, c9 = hset h9 a2 (a1 + (Int.toNat (IntKind.i64.wrap (k - 1))) * 1) (.int .i64 a7) → (d0 (IntKind.i64.wrap (k - 1)) c9 ∧ c7 (IntKind.i64.wrap (k - 1)) c9 < c7 k h8)))))))) ∧ ((decide (k > i)) = false → R (.tuple #[]) h8))))))))) ∧ (((IntKind.i64.wrap (b - m)) == 1) = false → (∀ b3 : Int, b3 = (bif decide (m > (IntKind.i64.wrap (Int.fdiv (IntKind.u64.wrap (IntKind.i64.wrap (a + b))) (2 ^ min (Int.toNat 1) 64)))) then IntKind.i64.wrap ((IntKind.i64.wrap ((IntKind.i64.wrap (Int.fdiv (IntKind.u64.wrap (IntKind.i64.wrap (a + b))) (2 ^ min (Int.toNat 1) 64))) + m)) - b) else a) → (∀ r : Int, r = (bif decide (m > (IntKind.i64.wrap (Int.fdiv (IntKind.u64.wrap (IntKind.i64.wrap (a + b))) (2 ^ min (Int.toNat 1) 64)))) then IntKind.i64.wrap (Int.fdiv (IntKind.u64.wrap (IntKind.i64.wrap (a + b))) (2 ^ min (Int.toNat 1) 64)) else m) → (∃ (c0 : Int → Int → Heap → Prop) (b6 : Int → Int → Heap → Nat), c0 b3 r h ∧ (∀ (a0 : Int) (a6 : Int) (b4 : Heap), c0 a0 a6 b4 → (((decide (a0 < a6)) = true → (∃ a2 a1 : Nat, a5 = some ⟨a2, a1, none⟩ ∧ (0 : Int) ≤ IntKind.i64.wrap ((IntKind.i64.wrap ((IntKind.i64.wrap ((IntKind.i64.wrap (Int.fdiv (IntKind.u64.wrap (IntKind.i64.wrap (a + b))) (2 ^ min (Int.toNat 1) 64))) + m)) - 1)) - (IntKind.i64.wrap (Int.fdiv (IntKind.u64.wrap (IntKind.i64.wrap (a0 + a6))) (2 ^ min (Int.toNat 1) 64)))) ∧ IntKind.i64.wrap ((IntKind.i64.wrap ((IntKind.i64.wrap ((IntKind.i64.wrap (Int.fdiv (IntKind.u64.wrap (IntKind.i64.wrap (a + b))) (2 ^ min (Int.toNat 1) 64))) + m)) - 1)) - (IntKind.i64.wrap (Int.fdiv (IntKind.u64.wrap (IntKind.i64.wrap (a0 + a6))) (2 ^ min (Int.toNat 1) 64)))) < (a3 : Int) ∧ (∃ x : Int, hcell b4 a2 (a1 + (Int.toNat (IntKind.i64.wrap ((IntKind.i64.wrap ((IntKind.i64.wrap ((IntKind.i64.wrap (Int.fdiv (IntKind.u64.wrap (IntKind.i64.wrap (a + b))) (2 ^ min (Int.toNat 1) 64))) + m)) - 1)) - (IntKind.i64.wrap (Int.fdiv (IntKind.u64.wrap (IntKind.i64.wrap (a0 + a6))) (2 ^ min (Int.toNat 1) 64)))))) * 1) = some (.int .i64 x) ∧ ((0 : Int) ≤ IntKind.i64.wrap (Int.fdiv (IntKind.u64.wrap (IntKind.i64.wrap (a0 + a6))) (2 ^ min (Int.toNat 1) 64)) ∧ IntKind.i64.wrap (Int.fdiv (IntKind.u64.wrap (IntKind.i64.wrap (a0 + a6))) (2 ^ min (Int.toNat 1) 64)) < (a3 : Int) ∧ (∃ a7 : Int, hcell b4 a2 (a1 + (Int.toNat (IntKind.i64.wrap (Int.fdiv (IntKind.u64.wrap (IntKind.i64.wrap (a0 + a6))) (2 ^ min (Int.toNat 1) 64)))) * 1) = some (.int .i64 a7) ∧ HCV Try.prog a8 [(.int .i64 x), (.int .i64 a7)] b4 (fun vv d2 => ∃ b8 : Int, vv = (.int .i64 b8) ∧ (((!(decide (b8 < 0))) = true → (c0 (IntKind.i64.wrap ((IntKind.i64.wrap (Int.fdiv (IntKind.u64.wrap (IntKind.i64.wrap (a0 + a6))) (2 ^ min (Int.toNat 1) 64))) + 1)) a6 d2 ∧ b6 (IntKind.i64.wrap ((IntKind.i64.wrap (Int.fdiv (IntKind.u64.wrap (IntKind.i64.wrap (a0 + a6))) (2 ^ min (Int.toNat 1) 64))) + 1)) a6 d2 < b6 a0 a6 b4)) ∧ ((!(decide (b8 < 0))) = false → (c0 a0 (IntKind.i64.wrap (Int.fdiv (IntKind.u64.wrap (IntKind.i64.wrap (a0 + a6))) (2 ^ min (Int.toNat 1) 64))) d2 ∧ b6 a0 (IntKind.i64.wrap (Int.fdiv (IntKind.u64.wrap (IntKind.i64.wrap (a0 + a6))) (2 ^ min (Int.toNat 1) 64))) d2 < b6 a0 a6 b4))))))))) ∧ ((decide (a0 < a6)) = false → (∃ d1 : Heap → Prop, ((((decide (a0 < m)) && (decide (m < (IntKind.i64.wrap ((IntKind.i64.wrap ((IntKind.i64.wrap (Int.fdiv (IntKind.u64.wrap (IntKind.i64.wrap (a + b))) (2 ^ min (Int.toNat 1) 64))) + m)) - a0))))) = true → HC Try.prog 90 #[(.slice a5 a3 a4), (.int .i64 a0), (.int .i64 m), (.int .i64 (IntKind.i64.wrap ((IntKind.i64.wrap ((IntKind.i64.wrap (Int.fdiv (IntKind.u64.wrap (IntKind.i64.wrap (a + b))) (2 ^ min (Int.toNat 1) 64))) + m)) - a0))), a8] b4 (fun vv f8 => vv = (.tuple #[]) ∧ (d1 f8))) ∧ (((decide (a0 < m)) && (decide (m < (IntKind.i64.wrap ((IntKind.i64.wrap ((IntKind.i64.wrap (Int.fdiv (IntKind.u64.wrap (IntKind.i64.wrap (a + b))) (2 ^ min (Int.toNat 1) 64))) + m)) - a0))))) = false → (d1 b4))) ∧ (∀ (b9 : Heap), d1 b9 → (∃ c8 : Heap → Prop, ((((decide (a < a0)) && (decide (a0 < (IntKind.i64.wrap (Int.fdiv (IntKind.u64.wrap (IntKind.i64.wrap (a + b))) (2 ^ min (Int.toNat 1) 64)))))) = true → HC Try.prog 73 #[(.slice a5 a3 a4), (.int .i64 a), (.int .i64 a0), (.int .i64 (IntKind.i64.wrap (Int.fdiv (IntKind.u64.wrap (IntKind.i64.wrap (a + b))) (2 ^ min (Int.toNat 1) 64)))), a8] b9 (fun vv f7 => vv = (.tuple #[]) ∧ (c8 f7))) ∧ (((decide (a < a0)) && (decide (a0 < (IntKind.i64.wrap (Int.fdiv (IntKind.u64.wrap (IntKind.i64.wrap (a + b))) (2 ^ min (Int.toNat 1) 64)))))) = false → (c8 b9))) ∧ (∀ (c1 : Heap), c8 c1 → ((((decide ((IntKind.i64.wrap (Int.fdiv (IntKind.u64.wrap (IntKind.i64.wrap (a + b))) (2 ^ min (Int.toNat 1) 64))) < (IntKind.i64.wrap ((IntKind.i64.wrap ((IntKind.i64.wrap (Int.fdiv (IntKind.u64.wrap (IntKind.i64.wrap (a + b))) (2 ^ min (Int.toNat 1) 64))) + m)) - a0)))) && (decide ((IntKind.i64.wrap ((IntKind.i64.wrap ((IntKind.i64.wrap (Int.fdiv (IntKind.u64.wrap (IntKind.i64.wrap (a + b))) (2 ^ min (Int.toNat 1) 64))) + m)) - a0)) < b))) = true → HC Try.prog 73 #[(.slice a5 a3 a4), (.int .i64 (IntKind.i64.wrap (Int.fdiv (IntKind.u64.wrap (IntKind.i64.wrap (a + b))) (2 ^ min (Int.toNat 1) 64)))), (.int .i64 (IntKind.i64.wrap ((IntKind.i64.wrap ((IntKind.i64.wrap (Int.fdiv (IntKind.u64.wrap (IntKind.i64.wrap (a + b))) (2 ^ min (Int.toNat 1) 64))) + m)) - a0))), (.int .i64 b), a8] c1 (fun vv f9 => vv = (.tuple #[]) ∧ R (.tuple #[]) f9)) ∧ (((decide ((IntKind.i64.wrap (Int.fdiv (IntKind.u64.wrap (IntKind.i64.wrap (a + b))) (2 ^ min (Int.toNat 1) 64))) < (IntKind.i64.wrap ((IntKind.i64.wrap ((IntKind.i64.wrap (Int.fdiv (IntKind.u64.wrap (IntKind.i64.wrap (a + b))) (2 ^ min (Int.toNat 1) 64))) + m)) - a0)))) && (decide ((IntKind.i64.wrap ((IntKind.i64.wrap ((IntKind.i64.wrap (Int.fdiv (IntKind.u64.wrap (IntKind.i64.wrap (a + b))) (2 ^ min (Int.toNat 1) 64))) + m)) - a0)) < b))) = false → R (.tuple #[]) c1))))))))))))))))) :
  HC Try.prog 73 #[(.slice a5 a3 a4), (.int .i64 a), (.int .i64 m), (.int .i64 b), a8] h R := by
 refine hc_of (args := [(.slice a5 a3 a4), (.int .i64 a), (.int .i64 m), (.int .i64 b), a8]) Try.func73 rfl Try.ntmps73 (Nat.le_of_ble_eq_true rfl) ?_
 refine xs (xs (xr ?_))
 refine lv rfl rfl (vm rfl) (lv rfl rfl (vm rfl) (lv rfl rfl (vr rfl rfl rfl) (lv rfl rfl (vr rfl rfl rfl) ?_)))
 refine ln (qn ?_)
 refine xc (b := (IntKind.i64.wrap (m - a)) == 1) rfl (fun f0 => ?_) (fun f0 => ?_)
 ·replace H := H.1 f0
  refine xs (xr ?_)
  refine lv rfl rfl (vm rfl) (lv rfl rfl (va rfl) ?_)
  refine ln (qn (xs (xr ?_)))
  refine lv rfl rfl (vm rfl) (lv rfl rfl (va rfl) ?_)
  refine ln (qn (xs (xb ?_)))
  obtain ⟨I2, c2, l2, l6⟩ := H
  refine xl (σ := Int × Int) (fun s => [(0, (.slice a5 a3 a4)), (1, (.int .i64 a)), (4, a8), (10, (.int .i64 s.1)), (11, (.int .i64 s.2))]) (fun s h' => I2 s.1 s.2 h' ∧ True) (fun s h' => c2 s.1 s.2 h') (m, b) ⟨l2, trivial⟩ (hc rfl (hc rfl (hc rfl (hc rfl (hc rfl hn))))) ?_
  rintro ⟨i, j⟩ ρ h1 ⟨l5, -⟩
  have H := l6 i j h1 l5
  refine xs (xs (xr ?_))
  refine lv rfl rfl (vm rfl) (lv rfl rfl (vm rfl) (lv rfl rfl (vr rfl rfl rfl) ?_))
  refine ln (qn ?_)
  refine xc (b := decide (i < j)) rfl (fun f1 => ?_) (fun f1 => ?_)
  ·replace H := H.1 f1
   refine xi (qn (xb (xs (xr ?_))))
   refine lv rfl rfl (vm rfl) (lv rfl rfl (vm rfl) (lv rfl rfl (vr rfl rfl rfl) (lv rfl rfl (v := (.int .u64 (IntKind.u64.wrap (IntKind.i64.wrap (i + j))))) (hv_convInt TyTB.u3 TyTB.u115 rfl) (lv rfl rfl (v := (.int .u64 (Int.fdiv (IntKind.u64.wrap (IntKind.i64.wrap (i + j))) (2 ^ min (Int.toNat 1) 64)))) (hv_shift rfl rfl (by decide) rfl) (lv rfl rfl (v := (.int .i64 (IntKind.i64.wrap (Int.fdiv (IntKind.u64.wrap (IntKind.i64.wrap (i + j))) (2 ^ min (Int.toNat 1) 64))))) (hv_convInt TyTB.u115 TyTB.u3 rfl) ?_)))))
   refine lv rfl rfl (va rfl) ?_
   refine ln (qn (xs ?_))
   refine hx_draw TyTB.mixed [.pure, .pure, .pure, .pure, .read, .pure, .pure, .pure, .read, .wild, .pure] [0, 1, 2, 3, 4, 5, 6, 7, 8, 9, 10] (by kernel_rfl) ?_
   refine pp (i := 0) rfl (wanted_0 rfl) rfl a8 (fun _ => vm rfl) ?_
   refine pp (i := 1) rfl (wanted_0 rfl) rfl (.slice a5 a3 a4) (fun _ => vm rfl) ?_
   refine pp (i := 2) rfl (wanted_0 rfl) rfl (.int .i64 (IntKind.i64.wrap (Int.fdiv (IntKind.u64.wrap (IntKind.i64.wrap (i + j))) (2 ^ min (Int.toNat 1) 64)))) (fun _ => vm rfl) ?_
   obtain ⟨a2, a1, b5, l4, l3, Hq⟩ := H
   subst b5
   have H := Hq; clear Hq
   refine pp (i := 3) rfl (wanted_0 rfl) rfl (ptr a2 (a1 + (Int.toNat (IntKind.i64.wrap (Int.fdiv (IntKind.u64.wrap (IntKind.i64.wrap (i + j))) (2 ^ min (Int.toNat 1) 64)))) * 1)) (fun _ => vi TyTB.el38 rfl rfl l4 l3) ?_
   obtain ⟨x, i4, H⟩ := H
   refine pr (i := 4) rfl (wanted_0 rfl) rfl (.int .i64 x) (fun _ he => vl TyTB.agg3 rfl (Ext.cell he i4)) ?_
   refine pp (i := 5) rfl (wanted_0 rfl) rfl (.slice (some ⟨a2, a1, none⟩) a3 a4) (fun _ => vm rfl) ?_
   refine pp (i := 6) rfl (wanted_0 rfl) rfl (.int .i64 a) (fun _ => vm rfl) ?_
   obtain ⟨l0, k4, H⟩ := H
   refine pp (i := 7) rfl (wanted_0 rfl) rfl (ptr a2 (a1 + (Int.toNat a) * 1)) (fun _ => vi TyTB.el38 rfl rfl l0 k4) ?_
   obtain ⟨a7, g1, H⟩ := H
   refine pr (i := 8) rfl (wanted_0 rfl) rfl (.int .i64 a7) (fun _ he => vl TyTB.agg3 rfl (Ext.cell he g1)) ?_
   refine hp_wild (i := 9) rfl (wanted_0 rfl) rfl (hs_callF (vs := [(.int .i64 x), (.int .i64 a7)]) rfl rfl (HCV.mono H ?_))
   rintro _ h2 ⟨r, rfl, H⟩
   refine pp (i := 10) rfl (wanted_0 rfl) rfl (.bool (decide (r < 0))) (fun _ => vr rfl rfl rfl) ?_
   refine hp_nil ?_
   refine qn ?_
   refine xc (b := decide (r < 0)) rfl (fun d9 => ?_) (fun d9 => ?_)
   ·replace H := H.1 d9
    refine xr ?_
    refine lv rfl rfl (vm rfl) (lv rfl rfl (vr rfl rfl rfl) (lv rfl rfl (va rfl) ?_))
    refine ln (bn (qn ?_))
    exact ⟨(IntKind.i64.wrap ((IntKind.i64.wrap (Int.fdiv (IntKind.u64.wrap (IntKind.i64.wrap (i + j))) (2 ^ min (Int.toNat 1) 64))) + 1), j), ⟨⟨H.1, trivial⟩, H.2⟩, (hc rfl (hc rfl (hc rfl (hc rfl (hc rfl hn)))))⟩
   ·replace H := H.2 d9
    refine xr ?_
    refine lv rfl rfl (vm rfl) (lv rfl rfl (va rfl) ?_)
    refine ln (bn (qn ?_))
    exact ⟨(i, IntKind.i64.wrap (Int.fdiv (IntKind.u64.wrap (IntKind.i64.wrap (i + j))) (2 ^ min (Int.toNat 1) 64))), ⟨⟨H.1, trivial⟩, H.2⟩, (hc rfl (hc rfl (hc rfl (hc rfl (hc rfl hn)))))⟩
  ·replace H := H.2 f1
   refine xe (qe (qe (bh (qn (xs (xs (xr ?_)))))))
   refine lv rfl rfl (vm rfl) (lv rfl rfl (va rfl) ?_)
   refine ln (qn (xb ?_))
   obtain ⟨d3, c4, j0, j4⟩ := H
   refine xl (σ := Int) (fun s => [(0, (.slice a5 a3 a4)), (10, (.int .i64 i)), (13, (.int .i64 s))]) (fun s h' => d3 s h' ∧ True) (fun s h' => c4 s h') a ⟨j0, trivial⟩ (hc rfl (hc rfl (hc rfl hn))) ?_
   rintro k ρ h3 ⟨j9, -⟩
   have H := j4 k h3 j9
   refine xs (xs (xr ?_))
   refine lv rfl rfl (vm rfl) (lv rfl rfl (vm rfl) (lv rfl rfl (vr rfl rfl rfl) (lv rfl rfl (vr rfl rfl rfl) ?_)))
   refine ln (qn ?_)
   refine xc (b := decide (k < (IntKind.i64.wrap (i - 1)))) rfl (fun e5 => ?_) (fun e5 => ?_)
   ·replace H := H.1 e5
    refine xi (qn (xs (xb ?_)))
    refine hx_draw TyTB.mixed [.pure, .pure, .pure, .pure, .pure, .pure, .pure, .pure, .pure, .read, .pure, .pure, .pure, .read, .pure, .wild, .pure, .wild] [0, 1, 2, 3, 4, 5, 6, 7, 8, 9, 10, 11, 12, 13, 14, 15, 16, 17] (by kernel_rfl) ?_
    refine pp (i := 0) rfl (wanted_0 rfl) rfl (.slice a5 a3 a4) (fun _ => vm rfl) ?_
    refine pp (i := 1) rfl (wanted_0 rfl) rfl (.int .i64 k) (fun _ => vm rfl) ?_
    refine pp (i := 2) rfl (wanted_0 rfl) rfl (.slice a5 a3 a4) (fun _ => vm rfl) ?_
    refine pp (i := 3) rfl (wanted_0 rfl) rfl (.int .i64 k) (fun _ => vm rfl) ?_
    refine pp (i := 4) rfl (wanted_0 rfl) rfl (.int .i64 (IntKind.i64.wrap (k + 1))) (fun _ => vr rfl rfl rfl) ?_
    refine pp (i := 5) rfl (wanted_0 rfl) rfl (.slice a5 a3 a4) (fun _ => vm rfl) ?_
    refine pp (i := 6) rfl (wanted_0 rfl) rfl (.int .i64 k) (fun _ => vm rfl) ?_
    refine pp (i := 7) rfl (wanted_0 rfl) rfl (.int .i64 (IntKind.i64.wrap (k + 1))) (fun _ => vr rfl rfl rfl) ?_
    obtain ⟨a2, a1, b5, e7, f6, Hq⟩ := H
    subst b5
    have H := Hq; clear Hq
    refine pp (i := 8) rfl (wanted_0 rfl) rfl (ptr a2 (a1 + (Int.toNat (IntKind.i64.wrap (k + 1))) * 1)) (fun _ => vi TyTB.el38 rfl rfl e7 f6) ?_
    obtain ⟨x, k2, H⟩ := H
    refine pr (i := 9) rfl (wanted_0 rfl) rfl (.int .i64 x) (fun _ he => vl TyTB.agg3 rfl (Ext.cell he k2)) ?_
    refine pp (i := 10) rfl (wanted_0 rfl) rfl (.slice (some ⟨a2, a1, none⟩) a3 a4) (fun _ => vm rfl) ?_
    refine pp (i := 11) rfl (wanted_0 rfl) rfl (.int .i64 k) (fun _ => vm rfl) ?_
    obtain ⟨f3, e8, H⟩ := H
    refine pp (i := 12) rfl (wanted_0 rfl) rfl (ptr a2 (a1 + (Int.toNat k) * 1)) (fun _ => vi TyTB.el38 rfl rfl f3 e8) ?_
    obtain ⟨a7, i7, H⟩ := H
    refine pr (i := 13) rfl (wanted_0 rfl) rfl (.int .i64 a7) (fun _ he => vl TyTB.agg3 rfl (Ext.cell he i7)) ?_
    refine pp (i := 14) rfl (wanted_0 rfl) rfl (ptr a2 (a1 + (Int.toNat k) * 1)) (fun _ => vi TyTB.el38 rfl rfl f3 e8) ?_
    obtain ⟨i1, H⟩ := H
    refine hp_wild (i := 15) rfl (wanted_0 rfl) rfl (hn_store (v := (.int .i64 x)) rfl rfl TyTB.sz3 rfl i1 ?_)
    intro h4 k8
    replace H := H h4 k8
    refine pp (i := 16) rfl (wanted_0 rfl) rfl (ptr a2 (a1 + (Int.toNat (IntKind.i64.wrap (k + 1))) * 1)) (fun _ => vi TyTB.el38 rfl rfl e7 f6) ?_
    obtain ⟨g6, H⟩ := H
    refine hp_wild (i := 17) rfl (wanted_0 rfl) rfl (hn_store (v := (.int .i64 a7)) rfl rfl TyTB.sz3 rfl g6 ?_)
    intro h5 k3
    replace H := H h5 k3
    refine hp_nil ?_
    refine bn (qn (xr ?_))
    refine lv rfl rfl (vm rfl) (lv rfl rfl (vr rfl rfl rfl) (lv rfl rfl (va rfl) ?_))
    refine ln (qn ?_)
    exact ⟨IntKind.i64.wrap (k + 1), ⟨⟨H.1, trivial⟩, H.2⟩, (hc rfl (hc rfl (hc rfl hn)))⟩
   ·replace H := H.2 e5
    refine xe (qe (qe (bh (qn (xt (qr ?_))))))
    exact endQ_ret _ (res_none Try.results73 ) H
 ·replace H := H.2 f0
  refine xi (qn (xs (xs (xr ?_))))
  refine lv rfl rfl (vm rfl) (lv rfl rfl (vm rfl) (lv rfl rfl (vr rfl rfl rfl) (lv rfl rfl (vr rfl rfl rfl) ?_)))
  refine ln (qn ?_)
  refine xc (b := (IntKind.i64.wrap (b - m)) == 1) rfl (fun e4 => ?_) (fun e4 => ?_)
  ·replace H := H.1 e4
   refine xs (xr ?_)
   refine lv rfl rfl (vm rfl) (lv rfl rfl (va rfl) ?_)
   refine ln (qn (xs (xr ?_)))
   refine lv rfl rfl (vm rfl) (lv rfl rfl (va rfl) ?_)
   refine ln (qn (xs (xb ?_)))
   obtain ⟨c3, b7, j8, j2⟩ := H
   refine xl (σ := Int × Int) (fun s => [(0, (.slice a5 a3 a4)), (2, (.int .i64 m)), (4, a8), (14, (.int .i64 s.1)), (15, (.int .i64 s.2))]) (fun s h' => c3 s.1 s.2 h' ∧ True) (fun s h' => b7 s.1 s.2 h') (a, m) ⟨j8, trivial⟩ (hc rfl (hc rfl (hc rfl (hc rfl (hc rfl hn))))) ?_
   rintro ⟨i, j⟩ ρ h6 ⟨g2, -⟩
   have H := j2 i j h6 g2
   refine xs (xs (xr ?_))
   refine lv rfl rfl (vm rfl) (lv rfl rfl (vm rfl) (lv rfl rfl (vr rfl rfl rfl) ?_))
   refine ln (qn ?_)
   refine xc (b := decide (i < j)) rfl (fun e6 => ?_) (fun e6 => ?_)
   ·replace H := H.1 e6
    refine xi (qn (xb (xs (xr ?_))))
    refine lv rfl rfl (vm rfl) (lv rfl rfl (vm rfl) (lv rfl rfl (vr rfl rfl rfl) (lv rfl rfl (v := (.int .u64 (IntKind.u64.wrap (IntKind.i64.wrap (i + j))))) (hv_convInt TyTB.u3 TyTB.u115 rfl) (lv rfl rfl (v := (.int .u64 (Int.fdiv (IntKind.u64.wrap (IntKind.i64.wrap (i + j))) (2 ^ min (Int.toNat 1) 64)))) (hv_shift rfl rfl (by decide) rfl) (lv rfl rfl (v := (.int .i64 (IntKind.i64.wrap (Int.fdiv (IntKind.u64.wrap (IntKind.i64.wrap (i + j))) (2 ^ min (Int.toNat 1) 64))))) (hv_convInt TyTB.u115 TyTB.u3 rfl) ?_)))))
    refine lv rfl rfl (va rfl) ?_
    refine ln (qn (xs ?_))
    refine hx_draw TyTB.mixed [.pure, .pure, .pure, .pure, .read, .pure, .pure, .pure, .read, .wild, .pure, .pure] [0, 1, 2, 3, 4, 5, 6, 7, 8, 9, 10, 11] (by kernel_rfl) ?_
    refine pp (i := 0) rfl (wanted_0 rfl) rfl a8 (fun _ => vm rfl) ?_
    refine pp (i := 1) rfl (wanted_0 rfl) rfl (.slice a5 a3 a4) (fun _ => vm rfl) ?_
    refine pp (i := 2) rfl (wanted_0 rfl) rfl (.int .i64 m) (fun _ => vm rfl) ?_
    obtain ⟨a2, a1, b5, j6, g7, Hq⟩ := H
    subst b5
    have H := Hq; clear Hq
    refine pp (i := 3) rfl (wanted_0 rfl) rfl (ptr a2 (a1 + (Int.toNat m) * 1)) (fun _ => vi TyTB.el38 rfl rfl j6 g7) ?_
    obtain ⟨x, k7, H⟩ := H
    refine pr (i := 4) rfl (wanted_0 rfl) rfl (.int .i64 x) (fun _ he => vl TyTB.agg3 rfl (Ext.cell he k7)) ?_
    refine pp (i := 5) rfl (wanted_0 rfl) rfl (.slice (some ⟨a2, a1, none⟩) a3 a4) (fun _ => vm rfl) ?_
    refine pp (i := 6) rfl (wanted_0 rfl) rfl (.int .i64 (IntKind.i64.wrap (Int.fdiv (IntKind.u64.wrap (IntKind.i64.wrap (i + j))) (2 ^ min (Int.toNat 1) 64)))) (fun _ => vm rfl) ?_
    obtain ⟨g5, k6, H⟩ := H
    refine pp (i := 7) rfl (wanted_0 rfl) rfl (ptr a2 (a1 + (Int.toNat (IntKind.i64.wrap (Int.fdiv (IntKind.u64.wrap (IntKind.i64.wrap (i + j))) (2 ^ min (Int.toNat 1) 64)))) * 1)) (fun _ => vi TyTB.el38 rfl rfl g5 k6) ?_
    obtain ⟨a7, j5, H⟩ := H
    refine pr (i := 8) rfl (wanted_0 rfl) rfl (.int .i64 a7) (fun _ he => vl TyTB.agg3 rfl (Ext.cell he j5)) ?_
    refine hp_wild (i := 9) rfl (wanted_0 rfl) rfl (hs_callF (vs := [(.int .i64 x), (.int .i64 a7)]) rfl rfl (HCV.mono H ?_))
    rintro _ h7 ⟨r, rfl, H⟩
    refine pp (i := 10) rfl (wanted_0 rfl) rfl (.bool (decide (r < 0))) (fun _ => vr rfl rfl rfl) ?_
    refine pp (i := 11) rfl (wanted_0 rfl) rfl (.bool (!(decide (r < 0)))) (fun _ => hv_not (b := decide (r < 0)) rfl) ?_
    refine hp_nil ?_
    refine qn ?_
    refine xc (b := !(decide (r < 0))) rfl (fun e3 => ?_) (fun e3 => ?_)
    ·replace H := H.1 e3
     refine xr ?_
     refine lv rfl rfl (vm rfl) (lv rfl rfl (vr rfl rfl rfl) (lv rfl rfl (va rfl) ?_))
     refine ln (bn (qn ?_))
     exact ⟨(IntKind.i64.wrap ((IntKind.i64.wrap (Int.fdiv (IntKind.u64.wrap (IntKind.i64.wrap (i + j))) (2 ^ min (Int.toNat 1) 64))) + 1), j), ⟨⟨H.1, trivial⟩, H.2⟩, (hc rfl (hc rfl (hc rfl (hc rfl (hc rfl hn)))))⟩
    ·replace H := H.2 e3
     refine xr ?_
     refine lv rfl rfl (vm rfl) (lv rfl rfl (va rfl) ?_)
     refine ln (bn (qn ?_))
     exact ⟨(i, IntKind.i64.wrap (Int.fdiv (IntKind.u64.wrap (IntKind.i64.wrap (i + j))) (2 ^ min (Int.toNat 1) 64))), ⟨⟨H.1, trivial⟩, H.2⟩, (hc rfl (hc rfl (hc rfl (hc rfl (hc rfl hn)))))⟩
   ·replace H := H.2 e6
    refine xe (qe (qe (bh (qn (xs (xs (xr ?_)))))))
    refine lv rfl rfl (vm rfl) (lv rfl rfl (va rfl) ?_)
    refine ln (qn (xb ?_))
    obtain ⟨d0, c7, j7, k1⟩ := H
    refine xl (σ := Int) (fun s => [(0, (.slice a5 a3 a4)), (14, (.int .i64 i)), (17, (.int .i64 s))]) (fun s h' => d0 s h' ∧ True) (fun s h' => c7 s h') m ⟨j7, trivial⟩ (hc rfl (hc rfl (hc rfl hn))) ?_
    rintro k ρ h8 ⟨g3, -⟩
    have H := k1 k h8 g3
    refine xs (xs (xr ?_))
    refine lv rfl rfl (vm rfl) (lv rfl rfl (vm rfl) (lv rfl rfl (vr rfl rfl rfl) ?_))
    refine ln (qn ?_)
    refine xc (b := decide (k > i)) rfl (fun d4 => ?_) (fun d4 => ?_)
    ·replace H := H.1 d4
     refine xi (qn (xs (xb ?_)))
     refine hx_draw TyTB.mixed [.pure, .pure, .pure, .pure, .pure, .pure, .pure, .pure, .pure, .read, .pure, .pure, .pure, .read, .pure, .wild, .pure, .wild] [0, 1, 2, 3, 4, 5, 6, 7, 8, 9, 10, 11, 12, 13, 14, 15, 16, 17] (by kernel_rfl) ?_
     refine pp (i := 0) rfl (wanted_0 rfl) rfl (.slice a5 a3 a4) (fun _ => vm rfl) ?_
     refine pp (i := 1) rfl (wanted_0 rfl) rfl (.int .i64 k) (fun _ => vm rfl) ?_
     refine pp (i := 2) rfl (wanted_0 rfl) rfl (.slice a5 a3 a4) (fun _ => vm rfl) ?_
     refine pp (i := 3) rfl (wanted_0 rfl) rfl (.int .i64 k) (fun _ => vm rfl) ?_
     refine pp (i := 4) rfl (wanted_0 rfl) rfl (.int .i64 (IntKind.i64.wrap (k - 1))) (fun _ => vr rfl rfl rfl) ?_
     refine pp (i := 5) rfl (wanted_0 rfl) rfl (.slice a5 a3 a4) (fun _ => vm rfl) ?_
     refine pp (i := 6) rfl (wanted_0 rfl) rfl (.int .i64 k) (fun _ => vm rfl) ?_
     refine pp (i := 7) rfl (wanted_0 rfl) rfl (.int .i64 (IntKind.i64.wrap (k - 1))) (fun _ => vr rfl rfl rfl) ?_
     obtain ⟨a2, a1, b5, f2, e9, Hq⟩ := H
     subst b5
     have H := Hq; clear Hq
     refine pp (i := 8) rfl (wanted_0 rfl) rfl (ptr a2 (a1 + (Int.toNat (IntKind.i64.wrap (k - 1))) * 1)) (fun _ => vi TyTB.el38 rfl rfl f2 e9) ?_
     obtain ⟨x, i6, H⟩ := H
     refine pr (i := 9) rfl (wanted_0 rfl) rfl (.int .i64 x) (fun _ he => vl TyTB.agg3 rfl (Ext.cell he i6)) ?_
     refine pp (i := 10) rfl (wanted_0 rfl) rfl (.slice (some ⟨a2, a1, none⟩) a3 a4) (fun _ => vm rfl) ?_
     refine pp (i := 11) rfl (wanted_0 rfl) rfl (.int .i64 k) (fun _ => vm rfl) ?_
     obtain ⟨f5, f4, H⟩ := H
     refine pp (i := 12) rfl (wanted_0 rfl) rfl (ptr a2 (a1 + (Int.toNat k) * 1)) (fun _ => vi TyTB.el38 rfl rfl f5 f4) ?_
     obtain ⟨a7, i2, H⟩ := H
     refine pr (i := 13) rfl (wanted_0 rfl) rfl (.int .i64 a7) (fun _ he => vl TyTB.agg3 rfl (Ext.cell he i2)) ?_
     refine pp (i := 14) rfl (wanted_0 rfl) rfl (ptr a2 (a1 + (Int.toNat k) * 1)) (fun _ => vi TyTB.el38 rfl rfl f5 f4) ?_
     obtain ⟨k9, H⟩ := H
     refine hp_wild (i := 15) rfl (wanted_0 rfl) rfl (hn_store (v := (.int .i64 x)) rfl rfl TyTB.sz3 rfl k9 ?_)
     intro h9 k0
     replace H := H h9 k0
     refine pp (i := 16) rfl (wanted_0 rfl) rfl (ptr a2 (a1 + (Int.toNat (IntKind.i64.wrap (k - 1))) * 1)) (fun _ => vi TyTB.el38 rfl rfl f2 e9) ?_
     obtain ⟨k5, H⟩ := H
     refine hp_wild (i := 17) rfl (wanted_0 rfl) rfl (hn_store (v := (.int .i64 a7)) rfl rfl TyTB.sz3 rfl k5 ?_)
     intro c9 i0
     replace H := H c9 i0
     refine hp_nil ?_
     refine bn (qn (xr ?_))
     refine lv rfl rfl (vm rfl) (lv rfl rfl (vr rfl rfl rfl) (lv rfl rfl (va rfl) ?_))
     refine ln (qn ?_)
     exact ⟨IntKind.i64.wrap (k - 1), ⟨⟨H.1, trivial⟩, H.2⟩, (hc rfl (hc rfl (hc rfl hn)))⟩
    ·replace H := H.2 d4
     refine xe (qe (qe (bh (qn (xt (qr ?_))))))
     exact endQ_ret _ (res_none Try.results73 ) H
  ·replace H := H.2 e4
   refine xi (qn (xs (xr ?_)))
   refine lv rfl rfl (vm rfl) (lv rfl rfl (vm rfl) (lv rfl rfl (vr rfl rfl rfl) (lv rfl rfl (v := (.int .u64 (IntKind.u64.wrap (IntKind.i64.wrap (a + b))))) (hv_convInt TyTB.u3 TyTB.u115 rfl) (lv rfl rfl (v := (.int .u64 (Int.fdiv (IntKind.u64.wrap (IntKind.i64.wrap (a + b))) (2 ^ min (Int.toNat 1) 64)))) (hv_shift rfl rfl (by decide) rfl) (lv rfl rfl (v := (.int .i64 (IntKind.i64.wrap (Int.fdiv (IntKind.u64.wrap (IntKind.i64.wrap (a + b))) (2 ^ min (Int.toNat 1) 64))))) (hv_convInt TyTB.u115 TyTB.u3 rfl) ?_)))))
   refine lv rfl rfl (va rfl) ?_
   refine ln (qn (xs (xr ?_)))
   refine lv rfl rfl (vm rfl) (lv rfl rfl (vm rfl) (lv rfl rfl (vr rfl rfl rfl) (lv rfl rfl (va rfl) ?_)))
   refine ln (qn (xs (xr ?_)))
   refine lv rfl rfl (va rfl) (lv rfl rfl (va rfl) ?_)
   refine ln (qn ?_)
   obtain ⟨b3, hq71⟩ : ∃ q : Int, q = (bif decide (m > (IntKind.i64.wrap (Int.fdiv (IntKind.u64.wrap (IntKind.i64.wrap (a + b))) (2 ^ min (Int.toNat 1) 64)))) then IntKind.i64.wrap ((IntKind.i64.wrap ((IntKind.i64.wrap (Int.fdiv (IntKind.u64.wrap (IntKind.i64.wrap (a + b))) (2 ^ min (Int.toNat 1) 64))) + m)) - b) else a) := ⟨_, rfl⟩
   replace H := H b3 hq71
   obtain ⟨r, hq72⟩ : ∃ q : Int, q = (bif decide (m > (IntKind.i64.wrap (Int.fdiv (IntKind.u64.wrap (IntKind.i64.wrap (a + b))) (2 ^ min (Int.toNat 1) 64)))) then IntKind.i64.wrap (Int.fdiv (IntKind.u64.wrap (IntKind.i64.wrap (a + b))) (2 ^ min (Int.toNat 1) 64)) else m) := ⟨_, rfl⟩
   replace H := H r hq72
   refine xk (fun ρ h' => h = h' ∧ Has ρ [(0, (.slice a5 a3 a4)), (1, (.int .i64 a)), (2, (.int .i64 m)), (3, (.int .i64 b)), (4, a8), (18, (.int .i64 (IntKind.i64.wrap (Int.fdiv (IntKind.u64.wrap (IntKind.i64.wrap (a + b))) (2 ^ min (Int.toNat 1) 64))))), (19, (.int .i64 (IntKind.i64.wrap ((IntKind.i64.wrap (Int.fdiv (IntKind.u64.wrap (IntKind.i64.wrap (a + b))) (2 ^ min (Int.toNat 1) 64))) + m)))), (20, (.int .i64 b3)), (21, (.int .i64 r))]) ?_ ?_
   ·refine xs (xr ?_)
    refine lv rfl rfl (vm rfl) (lv rfl rfl (vm rfl) (lv rfl rfl (vr rfl rfl rfl) ?_))
    refine ln (qn ?_)
    refine xc (b := decide (m > (IntKind.i64.wrap (Int.fdiv (IntKind.u64.wrap (IntKind.i64.wrap (a + b))) (2 ^ min (Int.toNat 1) 64))))) rfl (fun a9 => ?_) (fun a9 => ?_)
    ·refine xs (xr ?_)
     refine lv rfl rfl (vm rfl) (lv rfl rfl (vm rfl) (lv rfl rfl (vr rfl rfl rfl) (lv rfl rfl (va rfl) ?_)))
     refine ln (qn (xr ?_))
     refine lv rfl rfl (vm rfl) (lv rfl rfl (va rfl) ?_)
     refine ln (qn ?_)
     exact ⟨rfl, (hc rfl (hc rfl (hc rfl (hc rfl (hc rfl (hc rfl (hc rfl (hc (show ((.int .i64 (IntKind.i64.wrap ((IntKind.i64.wrap ((IntKind.i64.wrap (Int.fdiv (IntKind.u64.wrap (IntKind.i64.wrap (a + b))) (2 ^ min (Int.toNat 1) 64))) + m)) - b))) : Value) = (.int .i64 b3) from (by first | rfl | ((try rw [a9]); (try rw [hq71]); (try rw [hq72]); (try rw [a9]); all_goals first | rfl | (simp only [Bool.true_or, Bool.or_true, Bool.false_or, Bool.or_false, Bool.true_and, Bool.and_true, Bool.false_and, Bool.and_false, Bool.not_true, Bool.not_false, Bool.cond_true, Bool.cond_false]; done)) | simp [a9, hq71, hq72, a9])) (hc (show ((.int .i64 (IntKind.i64.wrap (Int.fdiv (IntKind.u64.wrap (IntKind.i64.wrap (a + b))) (2 ^ min (Int.toNat 1) 64)))) : Value) = (.int .i64 r) from (by first | rfl | ((try rw [a9]); (try rw [hq71]); (try rw [hq72]); (try rw [a9]); all_goals first | rfl | (simp only [Bool.true_or, Bool.or_true, Bool.false_or, Bool.or_false, Bool.true_and, Bool.and_true, Bool.false_and, Bool.and_false, Bool.not_true, Bool.not_false, Bool.cond_true, Bool.cond_false]; done)) | simp [a9, hq71, hq72, a9])) hn)))))))))⟩
    ·refine xs (xr ?_)
     refine lv rfl rfl (vm rfl) (lv rfl rfl (va rfl) ?_)
     refine ln (qn (xr ?_))
     refine lv rfl rfl (vm rfl) (lv rfl rfl (va rfl) ?_)
     refine ln (qn ?_)
     exact ⟨rfl, (hc rfl (hc rfl (hc rfl (hc rfl (hc rfl (hc rfl (hc rfl (hc (show ((.int .i64 a) : Value) = (.int .i64 b3) from (by first | rfl | ((try rw [a9]); (try rw [hq71]); (try rw [hq72]); (try rw [a9]); all_goals first | rfl | (simp only [Bool.true_or, Bool.or_true, Bool.false_or, Bool.or_false, Bool.true_and, Bool.and_true, Bool.false_and, Bool.and_false, Bool.not_true, Bool.not_false, Bool.cond_true, Bool.cond_false]; done)) | simp [a9, hq71, hq72, a9])) (hc (show ((.int .i64 m) : Value) = (.int .i64 r) from (by first | rfl | ((try rw [a9]); (try rw [hq71]); (try rw [hq72]); (try rw [a9]); all_goals first | rfl | (simp only [Bool.true_or, Bool.or_true, Bool.false_or, Bool.or_false, Bool.true_and, Bool.and_true, Bool.false_and, Bool.and_false, Bool.not_true, Bool.not_false, Bool.cond_true, Bool.cond_false]; done)) | simp [a9, hq71, hq72, a9])) hn)))))))))⟩
   ·rintro ρ _ ⟨rfl, hH⟩
    refine xh _ hH ?_
    refine xs (xr ?_)
    refine lv rfl rfl (vm rfl) (lv rfl rfl (vr rfl rfl rfl) (lv rfl rfl (va rfl) ?_))
    refine ln (qn (xs (xb ?_)))
    obtain ⟨c0, b6, i5, g0⟩ := H
    refine xl (σ := Int × Int) (fun s => [(0, (.slice a5 a3 a4)), (1, (.int .i64 a)), (2, (.int .i64 m)), (3, (.int .i64 b)), (4, a8), (18, (.int .i64 (IntKind.i64.wrap (Int.fdiv (IntKind.u64.wrap (IntKind.i64.wrap (a + b))) (2 ^ min (Int.toNat 1) 64))))), (19, (.int .i64 (IntKind.i64.wrap ((IntKind.i64.wrap (Int.fdiv (IntKind.u64.wrap (IntKind.i64.wrap (a + b))) (2 ^ min (Int.toNat 1) 64))) + m)))), (20, (.int .i64 s.1)), (21, (.int .i64 s.2)), (22, (.int .i64 (IntKind.i64.wrap ((IntKind.i64.wrap ((IntKind.i64.wrap (Int.fdiv (IntKind.u64.wrap (IntKind.i64.wrap (a + b))) (2 ^ min (Int.toNat 1) 64))) + m)) - 1))))]) (fun s h' => c0 s.1 s.2 h' ∧ True) (fun s h' => b6 s.1 s.2 h') (b3, r) ⟨i5, trivial⟩ (hc rfl (hc rfl (hc rfl (hc rfl (hc rfl (hc rfl (hc rfl (hc rfl (hc rfl (hc rfl hn)))))))))) ?_
    rintro ⟨a0, a6⟩ ρ b4 ⟨g9, -⟩
    have H := g0 a0 a6 b4 g9
    refine xs (xs (xr ?_))
    refine lv rfl rfl (vm rfl) (lv rfl rfl (vm rfl) (lv rfl rfl (vr rfl rfl rfl) ?_))
    refine ln (qn ?_)
    refine xc (b := decide (a0 < a6)) rfl (fun d6 => ?_) (fun d6 => ?_)
    ·replace H := H.1 d6
     refine xi (qn (xb (xs (xr ?_))))
     refine lv rfl rfl (vm rfl) (lv rfl rfl (vm rfl) (lv rfl rfl (vr rfl rfl rfl) (lv rfl rfl (v := (.int .u64 (IntKind.u64.wrap (IntKind.i64.wrap (a0 + a6))))) (hv_convInt TyTB.u3 TyTB.u115 rfl) (lv rfl rfl (v := (.int .u64 (Int.fdiv (IntKind.u64.wrap (IntKind.i64.wrap (a0 + a6))) (2 ^ min (Int.toNat 1) 64)))) (hv_shift rfl rfl (by decide) rfl) (lv rfl rfl (v := (.int .i64 (IntKind.i64.wrap (Int.fdiv (IntKind.u64.wrap (IntKind.i64.wrap (a0 + a6))) (2 ^ min (Int.toNat 1) 64))))) (hv_convInt TyTB.u115 TyTB.u3 rfl) ?_)))))
     refine lv rfl rfl (va rfl) ?_
     refine ln (qn (xs ?_))
     refine hx_draw TyTB.mixed [.pure, .pure, .pure, .pure, .pure, .pure, .read, .pure, .pure, .pure, .read, .wild, .pure, .pure] [0, 1, 2, 3, 4, 5, 6, 7, 8, 9, 10, 11, 12, 13] (by kernel_rfl) ?_
     refine pp (i := 0) rfl (wanted_0 rfl) rfl a8 (fun _ => vm rfl) ?_
     refine pp (i := 1) rfl (wanted_0 rfl) rfl (.slice a5 a3 a4) (fun _ => vm rfl) ?_
     refine pp (i := 2) rfl (wanted_0 rfl) rfl (.int .i64 (IntKind.i64.wrap ((IntKind.i64.wrap ((IntKind.i64.wrap (Int.fdiv (IntKind.u64.wrap (IntKind.i64.wrap (a + b))) (2 ^ min (Int.toNat 1) 64))) + m)) - 1))) (fun _ => vm rfl) ?_
     refine pp (i := 3) rfl (wanted_0 rfl) rfl (.int .i64 (IntKind.i64.wrap (Int.fdiv (IntKind.u64.wrap (IntKind.i64.wrap (a0 + a6))) (2 ^ min (Int.toNat 1) 64)))) (fun _ => vm rfl) ?_
     refine pp (i := 4) rfl (wanted_0 rfl) rfl (.int .i64 (IntKind.i64.wrap ((IntKind.i64.wrap ((IntKind.i64.wrap ((IntKind.i64.wrap (Int.fdiv (IntKind.u64.wrap (IntKind.i64.wrap (a + b))) (2 ^ min (Int.toNat 1) 64))) + m)) - 1)) - (IntKind.i64.wrap (Int.fdiv (IntKind.u64.wrap (IntKind.i64.wrap (a0 + a6))) (2 ^ min (Int.toNat 1) 64)))))) (fun _ => vr rfl rfl rfl) ?_
     obtain ⟨a2, a1, b5, g4, g8, Hq⟩ := H
     subst b5
     have H := Hq; clear Hq
     refine pp (i := 5) rfl (wanted_0 rfl) rfl (ptr a2 (a1 + (Int.toNat (IntKind.i64.wrap ((IntKind.i64.wrap ((IntKind.i64.wrap ((IntKind.i64.wrap (Int.fdiv (IntKind.u64.wrap (IntKind.i64.wrap (a + b))) (2 ^ min (Int.toNat 1) 64))) + m)) - 1)) - (IntKind.i64.wrap (Int.fdiv (IntKind.u64.wrap (IntKind.i64.wrap (a0 + a6))) (2 ^ min (Int.toNat 1) 64)))))) * 1)) (fun _ => vi TyTB.el38 rfl rfl g4 g8) ?_
     obtain ⟨x, l1, H⟩ := H
     refine pr (i := 6) rfl (wanted_0 rfl) rfl (.int .i64 x) (fun _ he => vl TyTB.agg3 rfl (Ext.cell he l1)) ?_
     refine pp (i := 7) rfl (wanted_0 rfl) rfl (.slice (some ⟨a2, a1, none⟩) a3 a4) (fun _ => vm rfl) ?_
     refine pp (i := 8) rfl (wanted_0 rfl) rfl (.int .i64 (IntKind.i64.wrap (Int.fdiv (IntKind.u64.wrap (IntKind.i64.wrap (a0 + a6))) (2 ^ min (Int.toNat 1) 64)))) (fun _ => vm rfl) ?_
     obtain ⟨i8, i9, H⟩ := H
     refine pp (i := 9) rfl (wanted_0 rfl) rfl (ptr a2 (a1 + (Int.toNat (IntKind.i64.wrap (Int.fdiv (IntKind.u64.wrap (IntKind.i64.wrap (a0 + a6))) (2 ^ min (Int.toNat 1) 64)))) * 1)) (fun _ => vi TyTB.el38 rfl rfl i8 i9) ?_
     obtain ⟨a7, i3, H⟩ := H
     refine pr (i := 10) rfl (wanted_0 rfl) rfl (.int .i64 a7) (fun _ he => vl TyTB.agg3 rfl (Ext.cell he i3)) ?_
     refine hp_wild (i := 11) rfl (wanted_0 rfl) rfl (hs_callF (vs := [(.int .i64 x), (.int .i64 a7)]) rfl rfl (HCV.mono H ?_))
     rintro _ d2 ⟨b8, rfl, H⟩
     refine pp (i := 12) rfl (wanted_0 rfl) rfl (.bool (decide (b8 < 0))) (fun _ => vr rfl rfl rfl) ?_
     refine pp (i := 13) rfl (wanted_0 rfl) rfl (.bool (!(decide (b8 < 0)))) (fun _ => hv_not (b := decide (b8 < 0)) rfl) ?_
     refine hp_nil ?_
     refine qn ?_
     refine xc (b := !(decide (b8 < 0))) rfl (fun e2 => ?_) (fun e2 => ?_)
     ·replace H := H.1 e2
      refine xr ?_
      refine lv rfl rfl (vm rfl) (lv rfl rfl (vr rfl rfl rfl) (lv rfl rfl (va rfl) ?_))
      refine ln (bn (qn ?_))
      exact ⟨(IntKind.i64.wrap ((IntKind.i64.wrap (Int.fdiv (IntKind.u64.wrap (IntKind.i64.wrap (a0 + a6))) (2 ^ min (Int.toNat 1) 64))) + 1), a6), ⟨⟨H.1, trivial⟩, H.2⟩, (hc rfl (hc rfl (hc rfl (hc rfl (hc rfl (hc rfl (hc rfl (hc rfl (hc rfl (hc rfl hn))))))))))⟩
     ·replace H := H.2 e2
      refine xr ?_
      refine lv rfl rfl (vm rfl) (lv rfl rfl (va rfl) ?_)
      refine ln (bn (qn ?_))
      exact ⟨(a0, IntKind.i64.wrap (Int.fdiv (IntKind.u64.wrap (IntKind.i64.wrap (a0 + a6))) (2 ^ min (Int.toNat 1) 64))), ⟨⟨H.1, trivial⟩, H.2⟩, (hc rfl (hc rfl (hc rfl (hc rfl (hc rfl (hc rfl (hc rfl (hc rfl (hc rfl (hc rfl hn))))))))))⟩
    ·replace H := H.2 d6
     refine xe (qe (qe (bh (qn (xs (xr ?_))))))
     refine lv rfl rfl (vm rfl) (lv rfl rfl (vm rfl) (lv rfl rfl (vr rfl rfl rfl) (lv rfl rfl (va rfl) ?_)))
     refine ln (qn ?_)
     obtain ⟨d1, d7, d5⟩ := H
     refine xk (fun ρ h' => (d1 h' ∧ True) ∧ Has ρ [(0, (.slice a5 a3 a4)), (1, (.int .i64 a)), (3, (.int .i64 b)), (4, a8), (18, (.int .i64 (IntKind.i64.wrap (Int.fdiv (IntKind.u64.wrap (IntKind.i64.wrap (a + b))) (2 ^ min (Int.toNat 1) 64))))), (20, (.int .i64 a0)), (24, (.int .i64 (IntKind.i64.wrap ((IntKind.i64.wrap ((IntKind.i64.wrap (Int.fdiv (IntKind.u64.wrap (IntKind.i64.wrap (a + b))) (2 ^ min (Int.toNat 1) 64))) + m)) - a0))))]) ?_ ?_
     ·have H := d7; clear d7 d5
      refine xk (fun ρ h' => b4 = h' ∧ Has ρ [(0, (.slice a5 a3 a4)), (1, (.int .i64 a)), (2, (.int .i64 m)), (3, (.int .i64 b)), (4, a8), (18, (.int .i64 (IntKind.i64.wrap (Int.fdiv (IntKind.u64.wrap (IntKind.i64.wrap (a + b))) (2 ^ min (Int.toNat 1) 64))))), (20, (.int .i64 a0)), (24, (.int .i64 (IntKind.i64.wrap ((IntKind.i64.wrap ((IntKind.i64.wrap (Int.fdiv (IntKind.u64.wrap (IntKind.i64.wrap (a + b))) (2 ^ min (Int.toNat 1) 64))) + m)) - a0)))), (185, (.bool ((decide (a0 < m)) && (decide (m < (IntKind.i64.wrap ((IntKind.i64.wrap ((IntKind.i64.wrap (Int.fdiv (IntKind.u64.wrap (IntKind.i64.wrap (a + b))) (2 ^ min (Int.toNat 1) 64))) + m)) - a0)))))))]) ?_ ?_
      ·refine xr ?_
       refine lv rfl rfl (vm rfl) (lv rfl rfl (vm rfl) (lv rfl rfl (vr rfl rfl rfl) (lv rfl rfl (vm rfl) ?_)))
       rcases bool_or (decide (a0 < m)) with b2 | b2
       ·refine ly (wanted_y rfl rfl rfl b2) rfl (HStep.of_val (v := (.int .i64 m)) (vm rfl) ?_)
        refine ly (wanted_y rfl rfl rfl b2) rfl (HStep.of_val (v := (.int .i64 (IntKind.i64.wrap ((IntKind.i64.wrap ((IntKind.i64.wrap (Int.fdiv (IntKind.u64.wrap (IntKind.i64.wrap (a + b))) (2 ^ min (Int.toNat 1) 64))) + m)) - a0)))) (vm rfl) ?_)
        refine ly (wanted_y rfl rfl rfl b2) rfl (HStep.of_val (v := (.bool (decide (m < (IntKind.i64.wrap ((IntKind.i64.wrap ((IntKind.i64.wrap (Int.fdiv (IntKind.u64.wrap (IntKind.i64.wrap (a + b))) (2 ^ min (Int.toNat 1) 64))) + m)) - a0)))))) (vr rfl rfl rfl) ?_)
        refine lv rfl rfl (v := (.bool (decide (m < (IntKind.i64.wrap ((IntKind.i64.wrap ((IntKind.i64.wrap (Int.fdiv (IntKind.u64.wrap (IntKind.i64.wrap (a + b))) (2 ^ min (Int.toNat 1) 64))) + m)) - a0)))))) (hv_pick_t rfl b2 rfl) ?_
        refine ln (qn ?_)
        exact ⟨rfl, (hc rfl (hc rfl (hc rfl (hc rfl (hc rfl (hc rfl (hc rfl (hc rfl (hc (show ((.bool (decide (m < (IntKind.i64.wrap ((IntKind.i64.wrap ((IntKind.i64.wrap (Int.fdiv (IntKind.u64.wrap (IntKind.i64.wrap (a + b))) (2 ^ min (Int.toNat 1) 64))) + m)) - a0))))) : Value) = (.bool ((decide (a0 < m)) && (decide (m < (IntKind.i64.wrap ((IntKind.i64.wrap ((IntKind.i64.wrap (Int.fdiv (IntKind.u64.wrap (IntKind.i64.wrap (a + b))) (2 ^ min (Int.toNat 1) 64))) + m)) - a0)))))) from (by first | rfl | ((try rw [b2]); all_goals first | rfl | (simp only [Bool.true_or, Bool.or_true, Bool.false_or, Bool.or_false, Bool.true_and, Bool.and_true, Bool.false_and, Bool.and_false, Bool.not_true, Bool.not_false, Bool.cond_true, Bool.cond_false]; done)) | simp [b2])) hn)))))))))⟩
       ·refine lo (wanted_n rfl rfl rfl b2) rfl ?_
        refine lo (wanted_n rfl rfl rfl b2) rfl ?_
        refine lo (wanted_n rfl rfl rfl b2) rfl ?_
        refine lv rfl rfl (v := (.bool false)) (hv_pick_f rfl b2 rfl) ?_
        refine ln (qn ?_)
        exact ⟨rfl, (hc rfl (hc rfl (hc rfl (hc rfl (hc rfl (hc rfl (hc rfl (hc rfl (hc (show ((.bool false) : Value) = (.bool ((decide (a0 < m)) && (decide (m < (IntKind.i64.wrap ((IntKind.i64.wrap ((IntKind.i64.wrap (Int.fdiv (IntKind.u64.wrap (IntKind.i64.wrap (a + b))) (2 ^ min (Int.toNat 1) 64))) + m)) - a0)))))) from (by first | rfl | ((try rw [b2]); all_goals first | rfl | (simp only [Bool.true_or, Bool.or_true, Bool.false_or, Bool.or_false, Bool.true_and, Bool.and_true, Bool.false_and, Bool.and_false, Bool.not_true, Bool.not_false, Bool.cond_true, Bool.cond_false]; done)) | simp [b2])) hn)))))))))⟩
      ·rintro ρ _ ⟨rfl, hH⟩
       refine xh _ hH ?_
       refine xc (b := ((decide (a0 < m)) && (decide (m < (IntKind.i64.wrap ((IntKind.i64.wrap ((IntKind.i64.wrap (Int.fdiv (IntKind.u64.wrap (IntKind.i64.wrap (a + b))) (2 ^ min (Int.toNat 1) 64))) + m)) - a0)))))) rfl (fun d8 => ?_) (fun d8 => ?_)
       ·replace H := H.1 d8
        refine xr ?_
        refine lv rfl rfl (vm rfl) (lv rfl rfl (vm rfl) (lv rfl rfl (vm rfl) (lv rfl rfl (vm rfl) (lv rfl rfl (vm rfl) ?_))))
        refine lp rfl rfl (sc TyTB.cb90 rfl (HC.mono H ?_))
        rintro _ f8 ⟨rfl, H⟩
        refine ln (qn ?_)
        exact ⟨⟨H, trivial⟩, (hc rfl (hc rfl (hc rfl (hc rfl (hc rfl (hc rfl (hc rfl hn)))))))⟩
       ·replace H := H.2 d8
        refine xi (qn ?_)
        exact ⟨⟨H, trivial⟩, (hc rfl (hc rfl (hc rfl (hc rfl (hc rfl (hc rfl (hc rfl hn)))))))⟩
     ·rintro ρ b9 ⟨⟨j3, -⟩, hH⟩
      have H := d5 b9 j3; clear d7 d5
      refine xh _ hH ?_
      obtain ⟨c8, e1, e0⟩ := H
      refine xk (fun ρ h' => (c8 h' ∧ True) ∧ Has ρ [(0, (.slice a5 a3 a4)), (3, (.int .i64 b)), (4, a8), (18, (.int .i64 (IntKind.i64.wrap (Int.fdiv (IntKind.u64.wrap (IntKind.i64.wrap (a + b))) (2 ^ min (Int.toNat 1) 64))))), (24, (.int .i64 (IntKind.i64.wrap ((IntKind.i64.wrap ((IntKind.i64.wrap (Int.fdiv (IntKind.u64.wrap (IntKind.i64.wrap (a + b))) (2 ^ min (Int.toNat 1) 64))) + m)) - a0))))]) ?_ ?_
      ·have H := e1; clear e1 e0
       refine xk (fun ρ h' => b9 = h' ∧ Has ρ [(0, (.slice a5 a3 a4)), (1, (.int .i64 a)), (3, (.int .i64 b)), (4, a8), (18, (.int .i64 (IntKind.i64.wrap (Int.fdiv (IntKind.u64.wrap (IntKind.i64.wrap (a + b))) (2 ^ min (Int.toNat 1) 64))))), (20, (.int .i64 a0)), (24, (.int .i64 (IntKind.i64.wrap ((IntKind.i64.wrap ((IntKind.i64.wrap (Int.fdiv (IntKind.u64.wrap (IntKind.i64.wrap (a + b))) (2 ^ min (Int.toNat 1) 64))) + m)) - a0)))), (199, (.bool ((decide (a < a0)) && (decide (a0 < (IntKind.i64.wrap (Int.fdiv (IntKind.u64.wrap (IntKind.i64.wrap (a + b))) (2 ^ min (Int.toNat 1) 64))))))))]) ?_ ?_
       ·refine xr ?_
        refine lv rfl rfl (vm rfl) (lv rfl rfl (vm rfl) (lv rfl rfl (vr rfl rfl rfl) (lv rfl rfl (vm rfl) ?_)))
        rcases bool_or (decide (a < a0)) with b1 | b1
        ·refine ly (wanted_y rfl rfl rfl b1) rfl (HStep.of_val (v := (.int .i64 a0)) (vm rfl) ?_)
         refine ly (wanted_y rfl rfl rfl b1) rfl (HStep.of_val (v := (.int .i64 (IntKind.i64.wrap (Int.fdiv (IntKind.u64.wrap (IntKind.i64.wrap (a + b))) (2 ^ min (Int.toNat 1) 64))))) (vm rfl) ?_)
         refine ly (wanted_y rfl rfl rfl b1) rfl (HStep.of_val (v := (.bool (decide (a0 < (IntKind.i64.wrap (Int.fdiv (IntKind.u64.wrap (IntKind.i64.wrap (a + b))) (2 ^ min (Int.toNat 1) 64))))))) (vr rfl rfl rfl) ?_)
         refine lv rfl rfl (v := (.bool (decide (a0 < (IntKind.i64.wrap (Int.fdiv (IntKind.u64.wrap (IntKind.i64.wrap (a + b))) (2 ^ min (Int.toNat 1) 64))))))) (hv_pick_t rfl b1 rfl) ?_
         refine ln (qn ?_)
         exact ⟨rfl, (hc rfl (hc rfl (hc rfl (hc rfl (hc rfl (hc rfl (hc rfl (hc (show ((.bool (decide (a0 < (IntKind.i64.wrap (Int.fdiv (IntKind.u64.wrap (IntKind.i64.wrap (a + b))) (2 ^ min (Int.toNat 1) 64)))))) : Value) = (.bool ((decide (a < a0)) && (decide (a0 < (IntKind.i64.wrap (Int.fdiv (IntKind.u64.wrap (IntKind.i64.wrap (a + b))) (2 ^ min (Int.toNat 1) 64))))))) from (by first | rfl | ((try rw [b1]); all_goals first | rfl | (simp only [Bool.true_or, Bool.or_true, Bool.false_or, Bool.or_false, Bool.true_and, Bool.and_true, Bool.false_and, Bool.and_false, Bool.not_true, Bool.not_false, Bool.cond_true, Bool.cond_false]; done)) | simp [b1])) hn))))))))⟩
        ·refine lo (wanted_n rfl rfl rfl b1) rfl ?_
         refine lo (wanted_n rfl rfl rfl b1) rfl ?_
         refine lo (wanted_n rfl rfl rfl b1) rfl ?_
         refine lv rfl rfl (v := (.bool false)) (hv_pick_f rfl b1 rfl) ?_
         refine ln (qn ?_)
         exact ⟨rfl, (hc rfl (hc rfl (hc rfl (hc rfl (hc rfl (hc rfl (hc rfl (hc (show ((.bool false) : Value) = (.bool ((decide (a < a0)) && (decide (a0 < (IntKind.i64.wrap (Int.fdiv (IntKind.u64.wrap (IntKind.i64.wrap (a + b))) (2 ^ min (Int.toNat 1) 64))))))) from (by first | rfl | ((try rw [b1]); all_goals first | rfl | (simp only [Bool.true_or, Bool.or_true, Bool.false_or, Bool.or_false, Bool.true_and, Bool.and_true, Bool.false_and, Bool.and_false, Bool.not_true, Bool.not_false, Bool.cond_true, Bool.cond_false]; done)) | simp [b1])) hn))))))))⟩
       ·rintro ρ _ ⟨rfl, hH⟩
        refine xh _ hH ?_
        refine xc (b := ((decide (a < a0)) && (decide (a0 < (IntKind.i64.wrap (Int.fdiv (IntKind.u64.wrap (IntKind.i64.wrap (a + b))) (2 ^ min (Int.toNat 1) 64))))))) rfl (fun c5 => ?_) (fun c5 => ?_)
        ·replace H := H.1 c5
         refine xr ?_
         refine lv rfl rfl (vm rfl) (lv rfl rfl (vm rfl) (lv rfl rfl (vm rfl) (lv rfl rfl (vm rfl) (lv rfl rfl (vm rfl) ?_))))
         refine lp rfl rfl (sc TyTB.cb73 rfl (HC.mono H ?_))
         rintro _ f7 ⟨rfl, H⟩
         refine ln (qn ?_)
         exact ⟨⟨H, trivial⟩, (hc rfl (hc rfl (hc rfl (hc rfl (hc rfl hn)))))⟩
        ·replace H := H.2 c5
         refine xi (qn ?_)
         exact ⟨⟨H, trivial⟩, (hc rfl (hc rfl (hc rfl (hc rfl (hc rfl hn)))))⟩
      ·rintro ρ c1 ⟨⟨j1, -⟩, hH⟩
       have H := e0 c1 j1; clear e1 e0
       refine xh _ hH ?_
       refine xk (fun ρ h' => c1 = h' ∧ Has ρ [(0, (.slice a5 a3 a4)), (3, (.int .i64 b)), (4, a8), (18, (.int .i64 (IntKind.i64.wrap (Int.fdiv (IntKind.u64.wrap (IntKind.i64.wrap (a + b))) (2 ^ min (Int.toNat 1) 64))))), (24, (.int .i64 (IntKind.i64.wrap ((IntKind.i64.wrap ((IntKind.i64.wrap (Int.fdiv (IntKind.u64.wrap (IntKind.i64.wrap (a + b))) (2 ^ min (Int.toNat 1) 64))) + m)) - a0)))), (213, (.bool ((decide ((IntKind.i64.wrap (Int.fdiv (IntKind.u64.wrap (IntKind.i64.wrap (a + b))) (2 ^ min (Int.toNat 1) 64))) < (IntKind.i64.wrap ((IntKind.i64.wrap ((IntKind.i64.wrap (Int.fdiv (IntKind.u64.wrap (IntKind.i64.wrap (a + b))) (2 ^ min (Int.toNat 1) 64))) + m)) - a0)))) && (decide ((IntKind.i64.wrap ((IntKind.i64.wrap ((IntKind.i64.wrap (Int.fdiv (IntKind.u64.wrap (IntKind.i64.wrap (a + b))) (2 ^ min (Int.toNat 1) 64))) + m)) - a0)) < b)))))]) ?_ ?_
       ·refine xr ?_
        refine lv rfl rfl (vm rfl) (lv rfl rfl (vm rfl) (lv rfl rfl (vr rfl rfl rfl) (lv rfl rfl (vm rfl) ?_)))
        rcases bool_or (decide ((IntKind.i64.wrap (Int.fdiv (IntKind.u64.wrap (IntKind.i64.wrap (a + b))) (2 ^ min (Int.toNat 1) 64))) < (IntKind.i64.wrap ((IntKind.i64.wrap ((IntKind.i64.wrap (Int.fdiv (IntKind.u64.wrap (IntKind.i64.wrap (a + b))) (2 ^ min (Int.toNat 1) 64))) + m)) - a0)))) with b0 | b0
        ·refine ly (wanted_y rfl rfl rfl b0) rfl (HStep.of_val (v := (.int .i64 (IntKind.i64.wrap ((IntKind.i64.wrap ((IntKind.i64.wrap (Int.fdiv (IntKind.u64.wrap (IntKind.i64.wrap (a + b))) (2 ^ min (Int.toNat 1) 64))) + m)) - a0)))) (vm rfl) ?_)
         refine ly (wanted_y rfl rfl rfl b0) rfl (HStep.of_val (v := (.int .i64 b)) (vm rfl) ?_)
         refine ly (wanted_y rfl rfl rfl b0) rfl (HStep.of_val (v := (.bool (decide ((IntKind.i64.wrap ((IntKind.i64.wrap ((IntKind.i64.wrap (Int.fdiv (IntKind.u64.wrap (IntKind.i64.wrap (a + b))) (2 ^ min (Int.toNat 1) 64))) + m)) - a0)) < b)))) (vr rfl rfl rfl) ?_)
         refine lv rfl rfl (v := (.bool (decide ((IntKind.i64.wrap ((IntKind.i64.wrap ((IntKind.i64.wrap (Int.fdiv (IntKind.u64.wrap (IntKind.i64.wrap (a + b))) (2 ^ min (Int.toNat 1) 64))) + m)) - a0)) < b)))) (hv_pick_t rfl b0 rfl) ?_
         refine ln (qn ?_)
         exact ⟨rfl, (hc rfl (hc rfl (hc rfl (hc rfl (hc rfl (hc (show ((.bool (decide ((IntKind.i64.wrap ((IntKind.i64.wrap ((IntKind.i64.wrap (Int.fdiv (IntKind.u64.wrap (IntKind.i64.wrap (a + b))) (2 ^ min (Int.toNat 1) 64))) + m)) - a0)) < b))) : Value) = (.bool ((decide ((IntKind.i64.wrap (Int.fdiv (IntKind.u64.wrap (IntKind.i64.wrap (a + b))) (2 ^ min (Int.toNat 1) 64))) < (IntKind.i64.wrap ((IntKind.i64.wrap ((IntKind.i64.wrap (Int.fdiv (IntKind.u64.wrap (IntKind.i64.wrap (a + b))) (2 ^ min (Int.toNat 1) 64))) + m)) - a0)))) && (decide ((IntKind.i64.wrap ((IntKind.i64.wrap ((IntKind.i64.wrap (Int.fdiv (IntKind.u64.wrap (IntKind.i64.wrap (a + b))) (2 ^ min (Int.toNat 1) 64))) + m)) - a0)) < b)))) from (by first | rfl | ((try rw [b0]); all_goals first | rfl | (simp only [Bool.true_or, Bool.or_true, Bool.false_or, Bool.or_false, Bool.true_and, Bool.and_true, Bool.false_and, Bool.and_false, Bool.not_true, Bool.not_false, Bool.cond_true, Bool.cond_false]; done)) | simp [b0])) hn))))))⟩
        ·refine lo (wanted_n rfl rfl rfl b0) rfl ?_
         refine lo (wanted_n rfl rfl rfl b0) rfl ?_
         refine lo (wanted_n rfl rfl rfl b0) rfl ?_
         refine lv rfl rfl (v := (.bool false)) (hv_pick_f rfl b0 rfl) ?_
         refine ln (qn ?_)
         exact ⟨rfl, (hc rfl (hc rfl (hc rfl (hc rfl (hc rfl (hc (show ((.bool false) : Value) = (.bool ((decide ((IntKind.i64.wrap (Int.fdiv (IntKind.u64.wrap (IntKind.i64.wrap (a + b))) (2 ^ min (Int.toNat 1) 64))) < (IntKind.i64.wrap ((IntKind.i64.wrap ((IntKind.i64.wrap (Int.fdiv (IntKind.u64.wrap (IntKind.i64.wrap (a + b))) (2 ^ min (Int.toNat 1) 64))) + m)) - a0)))) && (decide ((IntKind.i64.wrap ((IntKind.i64.wrap ((IntKind.i64.wrap (Int.fdiv (IntKind.u64.wrap (IntKind.i64.wrap (a + b))) (2 ^ min (Int.toNat 1) 64))) + m)) - a0)) < b)))) from (by first | rfl | ((try rw [b0]); all_goals first | rfl | (simp only [Bool.true_or, Bool.or_true, Bool.false_or, Bool.or_false, Bool.true_and, Bool.and_true, Bool.false_and, Bool.and_false, Bool.not_true, Bool.not_false, Bool.cond_true, Bool.cond_false]; done)) | simp [b0])) hn))))))⟩
       ·rintro ρ _ ⟨rfl, hH⟩
        refine xh _ hH ?_
        refine xc (b := ((decide ((IntKind.i64.wrap (Int.fdiv (IntKind.u64.wrap (IntKind.i64.wrap (a + b))) (2 ^ min (Int.toNat 1) 64))) < (IntKind.i64.wrap ((IntKind.i64.wrap ((IntKind.i64.wrap (Int.fdiv (IntKind.u64.wrap (IntKind.i64.wrap (a + b))) (2 ^ min (Int.toNat 1) 64))) + m)) - a0)))) && (decide ((IntKind.i64.wrap ((IntKind.i64.wrap ((IntKind.i64.wrap (Int.fdiv (IntKind.u64.wrap (IntKind.i64.wrap (a + b))) (2 ^ min (Int.toNat 1) 64))) + m)) - a0)) < b)))) rfl (fun c6 => ?_) (fun c6 => ?_)
        ·replace H := H.1 c6
         refine xr ?_
         refine lv rfl rfl (vm rfl) (lv rfl rfl (vm rfl) (lv rfl rfl (vm rfl) (lv rfl rfl (vm rfl) (lv rfl rfl (vm rfl) ?_))))
         refine lp rfl rfl (sc TyTB.cb73 rfl (HC.mono H ?_))
         rintro _ f9 ⟨rfl, H⟩
         refine ln ?_
         exact endQ_n _ (res_none Try.results73 ) H
        ·replace H := H.2 c6
         refine xi ?_
         exact endQ_n _ (res_none Try.results73 ) H
theorem f90_sh (a2 : Option Addr) (a1 : Nat) (a0 : Nat) (a : Int) (m : Int) (b : Int) (a3 : Value) (h : Heap) (R : Value → Heap → Prop)
  (H : (∃ (I1 : Int → Int → Heap → Prop) (a4 : Int → Int → Heap → Nat), I1 (IntKind.i64.wrap (m - a)) (IntKind.i64.wrap (b - m)) h ∧ (∀ (i : Int) (j : Int) (h1 : Heap), I1 i j h1 → (((i != j) = true → (((decide (i > j)) = true → HC Try.prog 97 #[(.slice a2 a1 a0), (.int .i64 (IntKind.i64.wrap (m - i))), (.int .i64 m), (.int .i64 j), a3] h1 (fun vv h2 => vv = (.tuple #[]) ∧ (I1 (IntKind.i64.wrap (i - j)) j h2 ∧ a4 (IntKind.i64.wrap (i - j)) j h2 < a4 i j h1))) ∧ ((decide (i > j)) = false → HC Try.prog 97 #[(.slice a2 a1 a0), (.int .i64 (IntKind.i64.wrap (m - i))), (.int .i64 (IntKind.i64.wrap ((IntKind.i64.wrap (m + j)) - i))), (.int .i64 i), a3] h1 (fun vv h3 => vv = (.tuple #[]) ∧ (I1 i (IntKind.i64.wrap (j - i)) h3 ∧ a4 i (IntKind.i64.wrap (j - i)) h3 < a4 i j h1))))) ∧ ((i != j) = false → HC Try.prog 97 #[(.slice a2 a1 a0), (.int .i64 (IntKind.i64.wrap (m - i))), (.int .i64 m), (.int .i64 i), a3] h1 (fun vv h4 => vv = (.tuple #[]) ∧ R (.tuple #[]) h4)))))) :
  HC Try.prog 90 #[(.slice a2 a1 a0), (.int .i64 a), (.int .i64 m), (.int .i64 b), a3] h R := by
 refine hc_of (args := [(.slice a2 a1 a0), (.int .i64 a), (.int .i64 m), (.int .i64 b), a3]) Try.func90 rfl Try.ntmps90 (Nat.le_of_ble_eq_true rfl) ?_
 refine xs (xr ?_)
 refine lv rfl rfl (vm rfl) (lv rfl rfl (vm rfl) (lv rfl rfl (vr rfl rfl rfl) (lv rfl rfl (va rfl) ?_)))
 refine ln (qn (xs (xr ?_)))
 refine lv rfl rfl (vm rfl) (lv rfl rfl (vm rfl) (lv rfl rfl (vr rfl rfl rfl) (lv rfl rfl (va rfl) ?_)))
 refine ln (qn (xs (xb ?_)))
 obtain ⟨I1, a4, a7, a9⟩ := H
 refine xl (σ := Int × Int) (fun s => [(0, (.slice a2 a1 a0)), (2, (.int .i64 m)), (4, a3), (10, (.int .i64 s.1)), (11, (.int .i64 s.2))]) (fun s h' => I1 s.1 s.2 h' ∧ True) (fun s h' => a4 s.1 s.2 h') (IntKind.i64.wrap (m - a), IntKind.i64.wrap (b - m)) ⟨a7, trivial⟩ (hc rfl (hc rfl (hc rfl (hc rfl (hc rfl hn))))) ?_
 rintro ⟨i, j⟩ ρ h1 ⟨a8, -⟩
 have H := a9 i j h1 a8
 refine xs (xs (xr ?_))
 refine lv rfl rfl (vm rfl) (lv rfl rfl (vm rfl) (lv rfl rfl (vr rfl rfl rfl) ?_))
 refine ln (qn ?_)
 refine xc (b := i != j) rfl (fun a6 => ?_) (fun a6 => ?_)
 ·replace H := H.1 a6
  refine xi (qn (xb (xs (xr ?_))))
  refine lv rfl rfl (vm rfl) (lv rfl rfl (vm rfl) (lv rfl rfl (vr rfl rfl rfl) ?_))
  refine ln (qn ?_)
  refine xc (b := decide (i > j)) rfl (fun a5 => ?_) (fun a5 => ?_)
  ·replace H := H.1 a5
   refine xs (xr ?_)
   refine lv rfl rfl (vm rfl) (lv rfl rfl (vm rfl) (lv rfl rfl (vm rfl) (lv rfl rfl (vr rfl rfl rfl) (lv rfl rfl (vm rfl) (lv rfl rfl (vm rfl) ?_)))))
   refine lv rfl rfl (vm rfl) ?_
   refine lp rfl rfl (sc TyTB.cb97 rfl (HC.mono H ?_))
   rintro _ h2 ⟨rfl, H⟩
   refine ln (qn (xr ?_))
   refine lv rfl rfl (vm rfl) (lv rfl rfl (vm rfl) (lv rfl rfl (vr rfl rfl rfl) (lv rfl rfl (va rfl) ?_)))
   refine ln (bn (qn ?_))
   exact ⟨(IntKind.i64.wrap (i - j), j), ⟨⟨H.1, trivial⟩, H.2⟩, (hc rfl (hc rfl (hc rfl (hc rfl (hc rfl hn)))))⟩
  ·replace H := H.2 a5
   refine xs (xr ?_)
   refine lv rfl rfl (vm rfl) (lv rfl rfl (vm rfl) (lv rfl rfl (vm rfl) (lv rfl rfl (vr rfl rfl rfl) (lv rfl rfl (vm rfl) (lv rfl rfl (vm rfl) ?_)))))
   refine lv rfl rfl (vr rfl rfl rfl) (lv rfl rfl (vm rfl) (lv rfl rfl (vr rfl rfl rfl) (lv rfl rfl (vm rfl) (lv rfl rfl (vm rfl) ?_))))
   refine lp rfl rfl (sc TyTB.cb97 rfl (HC.mono H ?_))
   rintro _ h3 ⟨rfl, H⟩
   refine ln (qn (xr ?_))
   refine lv rfl rfl (vm rfl) (lv rfl rfl (vm rfl) (lv rfl rfl (vr rfl rfl rfl) (lv rfl rfl (va rfl) ?_)))
   refine ln (bn (qn ?_))
   exact ⟨(i, IntKind.i64.wrap (j - i)), ⟨⟨H.1, trivial⟩, H.2⟩, (hc rfl (hc rfl (hc rfl (hc rfl (hc rfl hn)))))⟩
 ·replace H := H.2 a6
  refine xe (qe (qe (bh (qn (xr ?_)))))
  refine lv rfl rfl (vm rfl) (lv rfl rfl (vm rfl) (lv rfl rfl (vm rfl) (lv rfl rfl (vr rfl rfl rfl) (lv rfl rfl (vm rfl) (lv rfl rfl (vm rfl) ?_)))))
  refine lv rfl rfl (vm rfl) ?_
  refine lp rfl rfl (sc TyTB.cb97 rfl (HC.mono H ?_))
  rintro _ h4 ⟨rfl, H⟩
  refine ln ?_
  exact endQ_n _ (res_none Try.results90 ) H
theorem f97_sh (a4 : Option Addr) (a2 : Nat) (a3 : Nat) (a : Int) (b : Int) (n : Int) (b1 : Value) (h : Heap) (R : Value → Heap → Prop)
  (H : (∃ (I1 : Int → Heap → Prop) (a6 : Int → Heap → Nat), I1 0 h ∧ (∀ (i : Int) (h1 : Heap), I1 i h1 → (((decide (i < n)) = true → (∃ a1 a0 : Nat, a4 = some ⟨a1, a0, none⟩ ∧ (0 : Int) ≤ IntKind.i64.wrap (b + i) ∧ IntKind.i64.wrap (b + i) < (a2 : Int) ∧ (∃ x : Int, hcell h1 a1 (a0 + (Int.toNat (IntKind.i64.wrap (b + i))) * 1) = some (.int .i64 x) ∧ ((0 : Int) ≤ IntKind.i64.wrap (a + i) ∧ IntKind.i64.wrap (a + i) < (a2 : Int) ∧ (∃ a5 : Int, hcell h1 a1 (a0 + (Int.toNat (IntKind.i64.wrap (a + i))) * 1) = some (.int .i64 a5) ∧ (HW h1 a1 (a0 + (Int.toNat (IntKind.i64.wrap (a + i))) * 1) ∧ ∀ h2, h2 = hset h1 a1 (a0 + (Int.toNat (IntKind.i64.wrap (a + i))) * 1) (.int .i64 x) → (HW h2 a1 (a0 + (Int.toNat (IntKind.i64.wrap (b + i))) * 1) ∧ ∀ h3, h3 = hset h2 a1 (a0 + (Int.toNat (IntKind.i64.wrap (b + i))) * 1) (.int .i64 a5) → (I1 (IntKind.i64.wrap (i + 1)) h3 ∧ a6 (IntKind.i64.wrap (i + 1)) h3 < a6 i h1)))))))) ∧ ((decide (i < n)) = false → R (.tuple #[]) h1))))) :
  HC Try.prog 97 #[(.slice a4 a2 a3), (.int .i64 a), (.int .i64 b), (.int .i64 n), b1] h R := by
 refine hc_of (args := [(.slice a4 a2 a3), (.int .i64 a), (.int .i64 b), (.int .i64 n), b1]) Try.func97 rfl Try.ntmps97 (Nat.le_of_ble_eq_true rfl) ?_
 refine xs (xr ?_)
 refine lv rfl rfl (va rfl) ?_
 refine ln (qn (xb ?_))
 obtain ⟨I1, a6, b8, c2⟩ := H
 refine xl (σ := Int) (fun s => [(0, (.slice a4 a2 a3)), (1, (.int .i64 a)), (2, (.int .i64 b)), (3, (.int .i64 n)), (10, (.int .i64 s))]) (fun s h' => I1 s h' ∧ True) (fun s h' => a6 s h') 0 ⟨b8, trivial⟩ (hc rfl (hc rfl (hc rfl (hc rfl (hc rfl hn))))) ?_
 rintro i ρ h1 ⟨c1, -⟩
 have H := c2 i h1 c1
 refine xs (xs (xr ?_))
 refine lv rfl rfl (vm rfl) (lv rfl rfl (vm rfl) (lv rfl rfl (vr rfl rfl rfl) ?_))
 refine ln (qn ?_)
 refine xc (b := decide (i < n)) rfl (fun a9 => ?_) (fun a9 => ?_)
 ·replace H := H.1 a9
  refine xi (qn (xs (xb ?_)))
  refine hx_draw TyTB.mixed [.pure, .pure, .pure, .pure, .pure, .pure, .pure, .pure, .pure, .pure, .pure, .pure, .pure, .read, .pure, .pure, .pure, .pure, .pure, .read, .pure, .wild, .pure, .wild] [0, 1, 2, 3, 4, 5, 6, 7, 8, 9, 10, 11, 12, 13, 14, 15, 16, 17, 18, 19, 20, 21, 22, 23] (by kernel_rfl) ?_
  refine pp (i := 0) rfl (wanted_0 rfl) rfl (.slice a4 a2 a3) (fun _ => vm rfl) ?_
  refine pp (i := 1) rfl (wanted_0 rfl) rfl (.int .i64 a) (fun _ => vm rfl) ?_
  refine pp (i := 2) rfl (wanted_0 rfl) rfl (.int .i64 i) (fun _ => vm rfl) ?_
  refine pp (i := 3) rfl (wanted_0 rfl) rfl (.int .i64 (IntKind.i64.wrap (a + i))) (fun _ => vr rfl rfl rfl) ?_
  refine pp (i := 4) rfl (wanted_0 rfl) rfl (.slice a4 a2 a3) (fun _ => vm rfl) ?_
  refine pp (i := 5) rfl (wanted_0 rfl) rfl (.int .i64 b) (fun _ => vm rfl) ?_
  refine pp (i := 6) rfl (wanted_0 rfl) rfl (.int .i64 i) (fun _ => vm rfl) ?_
  refine pp (i := 7) rfl (wanted_0 rfl) rfl (.int .i64 (IntKind.i64.wrap (b + i))) (fun _ => vr rfl rfl rfl) ?_
  refine pp (i := 8) rfl (wanted_0 rfl) rfl (.slice a4 a2 a3) (fun _ => vm rfl) ?_
  refine pp (i := 9) rfl (wanted_0 rfl) rfl (.int .i64 b) (fun _ => vm rfl) ?_
  refine pp (i := 10) rfl (wanted_0 rfl) rfl (.int .i64 i) (fun _ => vm rfl) ?_
  refine pp (i := 11) rfl (wanted_0 rfl) rfl (.int .i64 (IntKind.i64.wrap (b + i))) (fun _ => vr rfl rfl rfl) ?_
  obtain ⟨a1, a0, b9, b0, b2, Hq⟩ := H
  subst b9
  have H := Hq; clear Hq
  refine pp (i := 12) rfl (wanted_0 rfl) rfl (ptr a1 (a0 + (Int.toNat (IntKind.i64.wrap (b + i))) * 1)) (fun _ => vi TyTB.el38 rfl rfl b0 b2) ?_
  obtain ⟨x, c0, H⟩ := H
  refine pr (i := 13) rfl (wanted_0 rfl) rfl (.int .i64 x) (fun _ he => vl TyTB.agg3 rfl (Ext.cell he c0)) ?_
  refine pp (i := 14) rfl (wanted_0 rfl) rfl (.slice (some ⟨a1, a0, none⟩) a2 a3) (fun _ => vm rfl) ?_
  refine pp (i := 15) rfl (wanted_0 rfl) rfl (.int .i64 a) (fun _ => vm rfl) ?_
  refine pp (i := 16) rfl (wanted_0 rfl) rfl (.int .i64 i) (fun _ => vm rfl) ?_
  refine pp (i := 17) rfl (wanted_0 rfl) rfl (.int .i64 (IntKind.i64.wrap (a + i))) (fun _ => vr rfl rfl rfl) ?_
  obtain ⟨a7, a8, H⟩ := H
  refine pp (i := 18) rfl (wanted_0 rfl) rfl (ptr a1 (a0 + (Int.toNat (IntKind.i64.wrap (a + i))) * 1)) (fun _ => vi TyTB.el38 rfl rfl a7 a8) ?_
  obtain ⟨a5, b4, H⟩ := H
  refine pr (i := 19) rfl (wanted_0 rfl) rfl (.int .i64 a5) (fun _ he => vl TyTB.agg3 rfl (Ext.cell he b4)) ?_
  refine pp (i := 20) rfl (wanted_0 rfl) rfl (ptr a1 (a0 + (Int.toNat (IntKind.i64.wrap (a + i))) * 1)) (fun _ => vi TyTB.el38 rfl rfl a7 a8) ?_
  obtain ⟨b7, H⟩ := H
  refine hp_wild (i := 21) rfl (wanted_0 rfl) rfl (hn_store (v := (.int .i64 x)) rfl rfl TyTB.sz3 rfl b7 ?_)
  intro h2 b6
  replace H := H h2 b6
  refine pp (i := 22) rfl (wanted_0 rfl) rfl (ptr a1 (a0 + (Int.toNat (IntKind.i64.wrap (b + i))) * 1)) (fun _ => vi TyTB.el38 rfl rfl b0 b2) ?_
  obtain ⟨b3, H⟩ := H
  refine hp_wild (i := 23) rfl (wanted_0 rfl) rfl (hn_store (v := (.int .i64 a5)) rfl rfl TyTB.sz3 rfl b3 ?_)
  intro h3 b5
  replace H := H h3 b5
  refine hp_nil ?_
  refine bn (qn (xr ?_))
  refine lv rfl rfl (vm rfl) (lv rfl rfl (vr rfl rfl rfl) (lv rfl rfl (va rfl) ?_))
  refine ln (qn ?_)
  exact ⟨IntKind.i64.wrap (i + 1), ⟨⟨H.1, trivial⟩, H.2⟩, (hc rfl (hc rfl (hc rfl (hc rfl (hc rfl hn)))))⟩
 ·replace H := H.2 a9
  refine xe (qe (qe (bh ?_)))
  exact endQ_n _ (res_none Try.results97 ) H
theorem f45_sh (a : Int) (b : Int) (a3 : Nat) (a2 : Nat) (h : Heap) (R : Value → Heap → Prop)
  (H : (∃ x : Option Addr, ∃ a4 a7 : Nat, hcell h a3 a2 = some (.slice x a4 a7) ∧ (∃ a1 a0 : Nat, x = some ⟨a1, a0, none⟩ ∧ (0 : Int) ≤ a ∧ a < (a4 : Int) ∧ (∃ a6 : Int, hcell h a1 (a0 + (Int.toNat a) * 2) = some (.int .u64 a6) ∧ ((0 : Int) ≤ b ∧ b < (a4 : Int) ∧ (∃ a5 : Int, hcell h a1 (a0 + (Int.toNat b) * 2) = some (.int .u64 a5) ∧ (∃ r : Int, (∀ h1, Ext h h1 → HC Try.prog 46 #[(.int .u64 a6), (.int .u64 a5)] h1 (fun vv h' => vv = (.int .i64 r) ∧ h' = h1)) ∧ R (.int .i64 r) h))))))) :
  HC Try.prog 45 #[(.int .i64 a), (.int .i64 b), (ptr a3 a2)] h R := by
 refine hc_of (args := [(.int .i64 a), (.int .i64 b), (ptr a3 a2)]) Try.func45 rfl Try.ntmps45 (Nat.le_of_ble_eq_true rfl) ?_
 refine xs (xr ?_)
 refine lv rfl rfl (va rfl) ?_
 refine ln (qn (xs ?_))
 refine hx_draw TyTB.mixed [.read, .pure, .pure, .pure, .read, .read, .pure, .pure, .pure, .read, .read, .pure] [0, 1, 2, 3, 4, 5, 6, 7, 8, 9, 10, 11] (by kernel_rfl) ?_
 obtain ⟨x, a4, a7, a8, H⟩ := H
 refine pr (i := 0) rfl (wanted_0 rfl) rfl (.slice x a4 a7) (fun _ he => vl TyTB.agg22 rfl (Ext.cell he a8)) ?_
 refine pp (i := 1) rfl (wanted_0 rfl) rfl (.int .i64 a) (fun _ => vm rfl) ?_
 obtain ⟨a1, a0, b3, b5, b2, Hq⟩ := H
 subst b3
 have H := Hq; clear Hq
 refine pp (i := 2) rfl (wanted_0 rfl) rfl (ptr a1 (a0 + (Int.toNat a) * 2)) (fun _ => vi TyTB.el22 rfl rfl b5 b2) ?_
 refine pp (i := 3) rfl (wanted_0 rfl) rfl (ptr a1 (a0 + (Int.toNat a) * 2)) (fun _ => vf TyTB.fld34_0 (b := a1) (o := a0 + (Int.toNat a) * 2) rfl) ?_
 obtain ⟨a6, b6, H⟩ := H
 refine pr (i := 4) rfl (wanted_0 rfl) rfl (.int .u64 a6) (fun _ he => vl TyTB.agg31 rfl (Ext.cell he b6)) ?_
 refine pr (i := 5) rfl (wanted_0 rfl) rfl (.slice (some ⟨a1, a0, none⟩) a4 a7) (fun _ he => vl TyTB.agg22 rfl (Ext.cell he a8)) ?_
 refine pp (i := 6) rfl (wanted_0 rfl) rfl (.int .i64 b) (fun _ => vm rfl) ?_
 obtain ⟨b4, b1, H⟩ := H
 refine pp (i := 7) rfl (wanted_0 rfl) rfl (ptr a1 (a0 + (Int.toNat b) * 2)) (fun _ => vi TyTB.el22 rfl rfl b4 b1) ?_
 refine pp (i := 8) rfl (wanted_0 rfl) rfl (ptr a1 (a0 + (Int.toNat b) * 2)) (fun _ => vf TyTB.fld34_0 (b := a1) (o := a0 + (Int.toNat b) * 2) rfl) ?_
 obtain ⟨a5, a9, H⟩ := H
 refine pr (i := 9) rfl (wanted_0 rfl) rfl (.int .u64 a5) (fun _ he => vl TyTB.agg31 rfl (Ext.cell he a9)) ?_
 obtain ⟨r, b0, H⟩ := H
 refine pr (i := 10) rfl (wanted_0 rfl) rfl (.int .i64 r) (fun _ he => hv_call TyTB.cb46 (vs := [(.int .u64 a6), (.int .u64 a5)]) rfl (b0 _ he)) ?_
 refine pp (i := 11) rfl (wanted_0 rfl) rfl (.int .i64 r) (fun _ => va rfl) ?_
 refine hp_nil ?_
 refine qn (xt ?_)
 exact endQ_ret _ (res_one Try.results45 (rv_tmp rfl)) H
theorem f25_sh (l : Option Addr) (a9 : Nat) (a8 : Nat) (h : Heap) (R : Value → Heap → Prop)
  (H : (∀ a4 h1, a4 = Array.size h → h1 = Array.push h (.cells #[(.slice l a9 a8)] 22) → (∃ x : Option Addr, ∃ a3 b1 : Nat, hcell h1 a4 0 = some (.slice x a3 b1) ∧ (∃ (I5 : Option Addr → Nat → Nat → Int → Heap → Prop) (b0 : Option Addr → Nat → Nat → Int → Heap → Nat), I5 none 0 0 0 h1 ∧ (∀ (a2 : Option Addr) (a1 : Nat) (a0 : Nat) (v : Int) (h2 : Heap), I5 a2 a1 a0 v h2 → (((decide (v < (a3 : Int))) = true → (∀ nb h3, nb = Array.size h2 → h3 = Array.push h2 (.cells #[(.int .i64 v)] 3) → HAppend Try.prog 38 38 (.slice a2 a1 a0) (.slice (some ⟨nb, 0, none⟩) 1 1) h3 (fun vv h4 => ∃ ap : Option Addr, ∃ a5 a6 : Nat, vv = (.slice ap a5 a6) ∧ (I5 ap a5 a6 (IntKind.i64.wrap (v + 1)) h4 ∧ b0 ap a5 a6 (IntKind.i64.wrap (v + 1)) h4 < b0 a2 a1 a0 v h2)))) ∧ ((decide (v < (a3 : Int))) = false → HC Try.prog 44 #[(.slice a2 a1 a0), (.func (.func 45) #[] #[(ptr a4 0)])] h2 (fun vv h5 => vv = (.tuple #[]) ∧ R (.slice a2 a1 a0) h5)))))))) :
  HC Try.prog 25 #[(.slice l a9 a8)] h R := by
 refine hc_of (args := [(.slice l a9 a8)]) Try.func25 rfl Try.ntmps25 (Nat.le_of_ble_eq_true rfl) ?_
 refine xs (xr ?_)
 refine lp rfl rfl (hn_box (v := (.slice l a9 a8)) rfl ?_)
 intro a4 h1 b8 b3
 replace H := H a4 h1 b8 b3
 have c1 := ext_pushed_f25_sh b3
 refine lv rfl rfl (va rfl) ?_
 refine ln (qn (xs (xr ?_)))
 refine lv rfl rfl (va rfl) ?_
 refine ln (qn (xs (xs (xr ?_))))
 obtain ⟨x, a3, b1, b9, H⟩ := H
 refine lv rfl rfl (vl TyTB.agg22 rfl b9) (lv rfl rfl (v := (.int .i64 (a3 : Int))) (hv_len (n := a3) TyTB.u22 rfl) (lv rfl rfl (vm rfl) ?_))
 refine ln (qn (xb ?_))
 obtain ⟨I5, b0, b5, b6⟩ := H
 refine xl (σ := Option Addr × Nat × Nat × Int) (fun s => [(1, (ptr a4 0)), (3, (.slice s.1 s.2.1 s.2.2.1)), (6, (.int .i64 (a3 : Int))), (7, (.int .i64 s.2.2.2))]) (fun s h' => I5 s.1 s.2.1 s.2.2.1 s.2.2.2 h' ∧ True) (fun s h' => b0 s.1 s.2.1 s.2.2.1 s.2.2.2 h') (none, 0, 0, 0) ⟨b5, trivial⟩ (hc rfl (hc rfl (hc rfl (hc rfl hn)))) ?_
 rintro ⟨a2, a1, a0, v⟩ ρ h2 ⟨b7, -⟩
 have H := b6 a2 a1 a0 v h2 b7
 refine xs (xr ?_)
 refine lv rfl rfl (vr rfl rfl rfl) ?_
 refine ln (qn (xs ?_))
 refine xc (b := decide (v < (a3 : Int))) rfl (fun a7 => ?_) (fun a7 => ?_)
 ·replace H := H.1 a7
  refine xi (qn (xs (xb (xs (xr ?_)))))
  refine lv rfl rfl (vm rfl) (lv rfl rfl (va rfl) ?_)
  refine ln (qn (xr ?_))
  refine lv rfl rfl (vm rfl) (lv rfl rfl (vm rfl) ?_)
  refine lp rfl rfl (hn_buildSlice (n := 1) (vs := [(0, (.int .i64 v))]) (cs := #[(.int .i64 v)]) TyTB.u38 TyTB.sz3 TyTB.z3 rfl rfl (by kernel_rfl) ?_)
  intro nb h3 b4 b2
  replace H := H nb h3 b4 b2
  have c0 := ext_pushed_f25_sh b2
  refine lp rfl rfl (hs_append rfl rfl (HAppend.mono H ?_))
  rintro _ h4 ⟨ap, a5, a6, rfl, H⟩
  refine lv rfl rfl (va rfl) ?_
  refine ln (bn (qn (xr ?_)))
  refine lv rfl rfl (vr rfl rfl rfl) (lv rfl rfl (vm rfl) ?_)
  refine ln (qn ?_)
  exact ⟨(ap, a5, a6, IntKind.i64.wrap (v + 1)), ⟨⟨H.1, trivial⟩, H.2⟩, (hc rfl (hc rfl (hc rfl (hc rfl hn))))⟩
 ·replace H := H.2 a7
  refine xe (qe (qe (bh (qn (xs (xr ?_))))))
  refine lv rfl rfl (vm rfl) (lv rfl rfl (v := (.func (.func 45) #[] #[(ptr a4 0)])) (hv_makeFunc (fv := []) (cv := [(ptr a4 0)]) rfl rfl) ?_)
  refine lp rfl rfl (sc TyTB.cb44 rfl (HC.mono H ?_))
  rintro _ h5 ⟨rfl, H⟩
  refine ln (qn (xs (xr ?_)))
  refine lv rfl rfl (vm rfl) (lv rfl rfl (va rfl) ?_)
  refine ln (qn (xt ?_))
  exact endQ_ret _ (res_one Try.results25 (rv_tmp rfl)) H
end Go.Proofs.Ytcdpapdefdnknaa
namespace Go.Proofs.Ytcdpapdefdnknaa
open Go
section
variable {κ : Type}
def Itr (h : Heap) (r b : Nat) (enc : κ → Value) (l todo : List (κ × Value)) (cur : Option (κ × Value)) : Prop :=
  ∃ es clock seen c0, h[b]? = some (.map es clock) ∧ es.toList.map (fun e => (e.key, e.val)) = l.map (fun p => (enc p.1, p.2)) ∧ (l.map (·.1)).Nodup ∧ Brn es.toList clock ∧
    h[r]? = some (.mapIter (some b) clock seen c0) ∧ clock ≤ c0 ∧ (leftOf es seen).toList.map (fun e => (e.key, e.val)) = todo.map (fun p => (enc p.1, p.2)) ∧
    ∀ p, cur = some p → ∃ e ∈ es.toList, ∃ s' : Array Nat, seen = s'.push e.born ∧ c0 = clock ∧ e.key = enc p.1 ∧ e.val = p.2
section
variable {h h' : Heap} {r b : Nat} {enc : κ → Value} {l todo : List (κ × Value)} {cur : Option (κ × Value)}
theorem Itr.map (i : Itr h r b enc l todo cur) : MapL h b enc l := let ⟨es, c, _, _, h1, h2, h3, h4, _⟩ := i; ⟨es, c, h1, h2, h3, h4⟩
theorem Itr.rows (i : Itr h r b enc l todo cur) (e1 : h'[b]? = h[b]?) (e2 : h'[r]? = h[r]?) : Itr h' r b enc l todo cur :=
  let ⟨es, c, s, c0, h1, h2, h3, h4, h5, h6⟩ := i; ⟨es, c, s, c0, e1.trans h1, h2, h3, h4, e2.trans h5, h6⟩
theorem Itr.lt (i : Itr h r b enc l todo cur) : r < h.size := let ⟨_, _, _, _, _, _, _, _, h5, _⟩ := i; row_lt h5
theorem Itr.ext (i : Itr h r b enc l todo cur) (x : Ext h h') : Itr h' r b enc l todo cur := i.rows (x.block b i.map.lt) (x.block r i.lt)
theorem Itr.fr {S : Nat → Prop} (i : Itr h r b enc l todo cur) (f : Fr S h h') (nb : ¬ S b) (nr : ¬ S r) : Itr h' r b enc l todo cur := i.rows (f.block b i.map.lt nb) (f.block r i.lt nr)
theorem Itr.ne {p : Nat} {c : Array Value} {T : TypeId} {fr : Nat × Nat} (i : Itr h r b enc l todo cur) (q : h[p]? = some (.cells c T fr)) : p ≠ r := fun e => by
  obtain ⟨_, _, _, _, _, _, _, _, h5, _⟩ := i
  subst e; rw [q] at h5; cases h5
end
theorem map_split {α β : Type} (f : α → β) : ∀ {L : List α} {a b : List α} {x : α}, L = a ++ x :: b → L.map f = a.map f ++ f x :: b.map f := fun e => by rw [e]; simp
variable {P : Program} {ρ : Regs} {h : Heap} {dd : Option Nat} {ty : TypeId} {p : String} {af : Array Edge} {g : Option (Nat × Bool)} {enc : κ → Value} {b : Nat} {l todo : List (κ × Value)} {cur : Option (κ × Value)}
theorem hn_rangeMap {t kt et : TypeId} {x : Operand} {K : Value → Heap → Prop} (hm : P.underlying t = some (.map kt et)) (hx : ev ρ x = .map (some b)) (ml : MapL h b enc l)
    (hk : ∀ r h', r = h.size → Ext h h' → h'.size = h.size + 1 → Itr h' r b enc l l none → K (ptr r 0) h') : HStep P ρ ⟨dd, .range t x, ty, p, af, g⟩ h K := by
  obtain ⟨es, c, h1, h2, h3, h4⟩ := ml
  refine hs_of (v := ptr h.size 0) (h' := h.push (.mapIter (some b) c #[] c)) (fun w hw => ?_) (hk _ _ rfl (Ext.push _ _) (by simp) ⟨es, c, #[], c, (Ext.push h (.mapIter (some b) c #[] c)).block b (row_lt h1) |>.trans h1, h2, h3, h4, push_new rfl, Nat.le_refl _, ?_, fun _ e => by cases e⟩)
  · subst hw
    simp only [execOp, hx, Instr.range, Sem.run_bind, run_underlying hm, Result.andThen_ok, MapKept.run_getObj_map h1, Sem.run_pure, rnew]
    rfl
  · have : leftOf es #[] = es := by simp [leftOf]
    rw [this]; exact h2
theorem left_push {es : Array MapEntry} {seen : Array Nat} {e : MapEntry} {s1 s2 : List MapEntry} (hn : (es.toList.map (·.born)).Nodup) (hs : (leftOf es seen).toList = s1 ++ e :: s2) : (leftOf es (seen.push e.born)).toList = s1 ++ s2 := by
  have e1 : (leftOf es (seen.push e.born)).toList = ((leftOf es seen).toList).filter fun x => x.born ≠ e.born := by
    simp only [leftOf, Array.toList_filter, List.filter_filter]
    refine List.filter_congr fun x _ => ?_
    rw [Bool.eq_iff_iff]
    simp [not_or, and_comm]
  have hnd : ((s1 ++ e :: s2).map (·.born)).Nodup := by
    rw [← hs]
    have : ((leftOf es seen).toList).Sublist es.toList := by
      simp only [leftOf, Array.toList_filter]; exact List.filter_sublist
    exact hn.sublist (this.map _)
  rw [e1, hs, List.filter_append, List.filter_cons]
  rw [List.map_append, List.map_cons, List.nodup_append, List.nodup_cons] at hnd
  obtain ⟨_, ⟨k2, _⟩, k3⟩ := hnd
  rw [if_neg (by simp)]
  congr 1
  · exact List.filter_eq_self.2 fun x hx => by
      have := k3 x.born (List.mem_map_of_mem hx) e.born (by simp)
      simpa using this
  · exact List.filter_eq_self.2 fun x hx => by
      have : x.born ≠ e.born := fun q => k2 (q ▸ List.mem_map_of_mem hx)
      simpa using this
def Nx (todo : List (κ × Value)) (j : Bool) (todo' : List (κ × Value)) (cur' : Option (κ × Value)) : Prop :=
  (j = false → todo = []) ∧ (j = true → ∃ s1 q s2, todo = s1 ++ q :: s2 ∧ todo' = s1 ++ s2 ∧ cur' = some q)
theorem hn_nextMap {x : Operand} {r : Nat} {K : Value → Heap → Prop} (hx : ev ρ x = ptr r 0) (it : Itr h r b enc l todo cur)
    (hk : ∀ j v h' todo' cur', (∃ cs, v = .tuple cs ∧ cs[0]? = some (.bool j)) → Only r h h' → Itr h' r b enc l todo' cur' → Nx todo j todo' cur' → K v h') : HStep P ρ ⟨dd, .next x false, ty, p, af, g⟩ h K := by
  have h0 : todo = [] → ∀ v, (∃ cs, v = .tuple cs ∧ cs[0]? = some (.bool false)) → K v h := fun e v hv => hk false v h todo cur hv ⟨rfl, fun _ _ => rfl⟩ it ⟨fun _ => e, fun q => by cases q⟩
  have h1 : ∀ s1 s2 q h', todo = s1 ++ q :: s2 → Only r h h' → Itr h' r b enc l (s1 ++ s2) (some q) → ∀ v, (∃ cs, v = .tuple cs ∧ cs[0]? = some (.bool true)) → K v h' := fun s1 s2 q h' e o i v hv => hk true v h' _ _ hv o i ⟨fun q => (by cases q), fun _ => ⟨s1, q, s2, e, rfl, rfl⟩⟩
  obtain ⟨es, c, seen, c0, q1, q2, q3, q4, q5, q6, q7, q8⟩ := it
  intro w hw
  subst hw
  rcases run_next_at (P := P) w ty r b c c0 seen es c q5 q1 q4.1 q6 with ⟨z, e⟩ | ⟨e, he, w1, hw1, hr⟩
  · have hl : leftOf es seen = #[] := Array.eq_empty_of_size_eq_zero z
    have ht : todo = [] := by rw [hl] at q7; simpa using q7.symm
    simp only [execOp, hx, Sem.run_bind]
    rw [show (ptr r 0 : Value) = .pointer (some ⟨r, 0, none⟩) from rfl, e]
    exact ⟨Sim.refl _, h0 ht _ ⟨_, rfl, rfl⟩⟩
  · obtain ⟨a, d, hs⟩ := List.append_of_mem he
    have hT := map_split (fun e : MapEntry => (e.key, e.val)) hs
    rw [q7] at hT
    obtain ⟨s1, s', e1, e2, e3⟩ := List.map_eq_append_iff.1 hT
    obtain ⟨q, s2, e4, e5, e6⟩ := List.map_eq_cons_iff.1 e3
    have hl1 := left_push q4.2 hs
    simp only [execOp, hx, Sem.run_bind]
    rw [show (ptr r 0 : Value) = .pointer (some ⟨r, 0, none⟩) from rfl, hr]
    have hw1h : w1.heap = w.heap := by rcases hw1 with rfl | rfl <;> rfl
    have hO : Only r w.heap (ChangeMaps.setBlock w1 r (.mapIter (some b) c (seen.push e.born) c)).heap := by
      rw [← hw1h]; exact only_set
    refine ⟨?_, h1 s1 s2 q _ (by rw [e1, e4]) hO ⟨es, c, seen.push e.born, c, ?_, q2, q3, q4, ?_, Nat.le_refl _, ?_, ?_⟩ _ ⟨_, rfl, rfl⟩⟩
    · have hg : HG w.heap (ChangeMaps.setBlock w1 r (.mapIter (some b) c (seen.push e.born) c)).heap := by
        show HG w.heap (w1.heap.setIfInBounds r _)
        rw [hw1h]; exact hg_set q5 (by simp)
      rcases hw1 with rfl | rfl
      · exact ⟨rfl, rfl, rfl, Nat.le_refl _, hg⟩
      · exact ⟨rfl, rfl, rfl, Nat.le_succ _, hg⟩
    · rw [hO.block b (fun q => by subst q; rw [q1] at q5; cases q5)]; exact q1
    · show (w1.heap.setIfInBounds r _)[r]? = _
      rw [hw1h]; exact set_same q5
    · rw [hl1, List.map_append, List.map_append, e2, e6]
    · intro p2 ep
      cases ep
      refine ⟨e, ?_, seen, rfl, rfl, ?_⟩
      · have : e ∈ es.toList.filter fun x => !seen.contains x.born := by simpa [leftOf] using he
        exact (List.mem_filter.1 this).1
      · simp only [Prod.mk.injEq] at e5
        exact ⟨e5.1.symm, e5.2.symm⟩
theorem hv_entryMap {x : Operand} {r : Nat} {q : κ × Value} {k' v' : Value} (hx : ev ρ x = ptr r 0) (it : Itr h r b enc l todo (some q)) (hk : enc q.1 = k') (hv : q.2 = v') : HVal P ρ ⟨dd, .entry x, ty, p, af, g⟩ h (.tuple #[k', v']) := by
  subst hk; subst hv
  obtain ⟨es, c, seen, c0, q1, q2, q3, q4, q5, q6, q7, q8⟩ := it
  obtain ⟨e, he, s', rfl, rfl, k1, k2⟩ := q8 q rfl
  refine hv_of fun w hw => ?_
  subst hw
  have := run_entry_at (P := P) w r b c0 s' es c0 e q5 q1 he q4.2
  simp only [execOp, hx, Sem.run_bind]
  rw [show (ptr r 0 : Value) = .pointer (some ⟨r, 0, none⟩) from rfl, this, k1, k2]
  rfl
theorem hv_extOf {x : Operand} {i : Nat} {v y : Value} (hx : ev ρ x = v) (hi : ∃ cs, v = .tuple cs ∧ cs[i]? = some y) : HVal P ρ ⟨dd, .extract x i, ty, p, af, g⟩ h y := by
  obtain ⟨cs, rfl, hi⟩ := hi
  exact hv_extract hx hi
end
end Go.Proofs.Ytcdpapdefdnknaa
namespace Go.Proofs.Ytcdpapdefdnknaa
open Go
open Go.Proofs.Ytcdpapdefdnknaa renaming hl_val → lv, hl_step → lp, hl_nil → ln, hl_yes → ly, hl_no → lo, hx_seq → xs, hx_region → xr, hx_cond → xc, hx_block → xb, hx_loopT → xl, hx_cut → xk, hx_has → xh, hx_skip → xi, hx_ret → xt, hx_exit → xe, seqQ_n → qn, seqQ_ret → qr, seqQ_exit → qe, blockQ_n → bn, blockQ_ret → br, blockQ_here → bh, hv_move → vm, hv_assign → va, hv_arith → vr, hv_load → vl, hv_loads → vL, hv_extract → vx, hv_field → vf, hv_build → vb, hv_index → vi, hp_pure → pp, hp_read → pr, hp_no → pn, has_cons → hc, has_nil → hn, hcells_cons → cc, hcells_nil → cn, rowcell → rc, hs_call → sc
set_option maxRecDepth 100000
set_option maxHeartbeats 4000000
theorem TyTC.agg3 : aggB Try.prog 3 = some false := by kernel_rfl
theorem TyTC.agg31 : aggB Try.prog 31 = some false := by kernel_rfl
theorem TyTC.agg32 : aggB Try.prog 32 = some false := by kernel_rfl
theorem TyTC.agg36 : aggB Try.prog 36 = some true := by kernel_rfl
theorem TyTC.agg81 : aggB Try.prog 81 = some false := by kernel_rfl
theorem TyTC.agg82 : aggB Try.prog 82 = some false := by kernel_rfl
theorem TyTC.agg9 : aggB Try.prog 9 = some false := by kernel_rfl
theorem TyTC.agg92 : aggB Try.prog 92 = some false := by kernel_rfl
theorem TyTC.cb25 : CallB Try.prog 25 := fun _ _ => Try.call25 _ _
theorem TyTC.cb26 : CallB Try.prog 26 := fun _ _ => Try.call26 _ _
theorem TyTC.cb53 : CallB Try.prog 53 := fun _ _ => Try.call53 _ _
theorem TyTC.cb54 : CallB Try.prog 54 := fun _ _ => Try.call54 _ _
theorem TyTC.cb69 : CallB Try.prog 69 := fun _ _ => Try.call69 _ _
theorem TyTC.el22 : elB Try.prog 22 = some 2 := by kernel_rfl
theorem TyTC.el32 : elB Try.prog 32 = some 4 := by kernel_rfl
theorem TyTC.el38 : elB Try.prog 38 = some 1 := by kernel_rfl
theorem TyTC.fld34_0 : fldB Try.prog 34 0 = some 0 := by kernel_rfl
theorem TyTC.fld34_1 : fldB Try.prog 34 1 = some 1 := by kernel_rfl
theorem TyTC.fld36_0 : fldB Try.prog 36 0 = some 0 := by kernel_rfl
theorem TyTC.fld36_1 : fldB Try.prog 36 1 = some 1 := by kernel_rfl
theorem TyTC.fld36_2 : fldB Try.prog 36 2 = some 2 := by kernel_rfl
theorem TyTC.fld68_0 : fldB Try.prog 68 0 = some 0 := by kernel_rfl
theorem TyTC.fld68_1 : fldB Try.prog 68 1 = some 1 := by kernel_rfl
theorem TyTC.mixed : Try.prog.follows .mixedOrders = true := by kernel_rfl
theorem TyTC.pl34 : plB Try.prog 34 = some [(0, 1), (1, 1)] := by kernel_rfl
theorem TyTC.pl36 : plB Try.prog 36 = some [(0, 1), (1, 1), (2, 1), (3, 1)] := by kernel_rfl
theorem TyTC.pl68 : plB Try.prog 68 = some [(0, 1), (1, 1)] := by kernel_rfl
theorem TyTC.sz34 : szB Try.prog 34 = some 2 := by kernel_rfl
theorem TyTC.sz36 : szB Try.prog 36 = some 4 := by kernel_rfl
theorem TyTC.sz68 : szB Try.prog 68 = some 2 := by kernel_rfl
theorem TyTC.sz82 : szB Try.prog 82 = some 1 := by kernel_rfl
theorem TyTC.sz9 : szB Try.prog 9 = some 1 := by kernel_rfl
theorem TyTC.u22 : Try.prog.underlying 22 = some (.slice 34) := by kernel_rfl
theorem TyTC.u32 : Try.prog.underlying 32 = some (.slice 36) := by kernel_rfl
theorem TyTC.u38 : Try.prog.underlying 38 = some (.slice 3) := by kernel_rfl
theorem TyTC.u65 : Try.prog.underlying 65 = some (.map 9 68) := by kernel_rfl
theorem TyTC.u81 : Try.prog.underlying 81 = some (.map 9 31) := by kernel_rfl
theorem TyTC.u82 : Try.prog.underlying 82 = some (.slice 9) := by kernel_rfl
theorem TyTC.u9 : Try.prog.underlying 9 = some (.string) := by kernel_rfl
theorem TyTC.u92 : Try.prog.underlying 92 = some (.map 9 36) := by kernel_rfl
theorem TyTC.z34 : zeroB Try.prog 34 (.agg #[(.int .u64 0), (.slice none 0 0)]) := by unfold zeroB; kernel_rfl
theorem TyTC.z36 : zeroB Try.prog 36 (.agg #[(.int .i64 0), (.int .u64 0), (.string ByteArray.empty), (.string ByteArray.empty)]) := by unfold zeroB; kernel_rfl
theorem TyTC.z68 : zeroB Try.prog 68 (.agg #[(.int .u64 0), (.int .i64 0)]) := by unfold zeroB; kernel_rfl
theorem TyTC.z9 : zeroB Try.prog 9 (.string ByteArray.empty) := by unfold zeroB; kernel_rfl
theorem ext_pushed_f29_sh {h h1 : Heap} {o : Obj} (e : h1 = Array.push h o) : Ext h h1 := by rw [e]; exact Ext.push _ _
theorem f10_sh (l : Option Addr) (b5 : Nat) (c9 : Nat) (h : Heap) (R : Value → Heap → Prop)
  (H : (∀ mb h1, mb = Array.size h → Ext h h1 → Array.size h1 = Array.size h + 1 → MapL h1 mb Value.string [] → HC Try.prog 25 #[(.slice l b5 c9)] h1 (fun vv h2 => Ext h1 h2 ∧ ∃ r : Option Addr, ∃ a9 c8 : Nat, vv = (.slice r a9 c8) ∧ (∃ (I6 : Int → Heap → Prop) (g0 : Int → Heap → Nat), I6 0 h2 ∧ (∀ (v : Int) (h3 : Heap), I6 v h3 → (((decide (v < (a9 : Int))) = true → (∃ c5 c6 : Nat, r = some ⟨c5, c6, none⟩ ∧ (0 : Int) ≤ v ∧ v < (a9 : Int) ∧ (∃ x : Int, hcell h3 c5 (c6 + (Int.toNat v) * 1) = some (.int .i64 x) ∧ (∃ j : Bool, (∃ b8 b9 : Nat, l = some ⟨b8, b9, none⟩ ∧ (0 : Int) ≤ x ∧ x < (b5 : Int) ∧ (∃ c7 : Int, hcell h3 b8 (b9 + (Int.toNat x) * 2) = some (.int .u64 c7) ∧ (((c7 == 0) = true → (j = true)) ∧ ((c7 == 0) = false → (((decide (v > 0)) = true → ((0 : Int) ≤ IntKind.i64.wrap (v - 1) ∧ IntKind.i64.wrap (v - 1) < (a9 : Int) ∧ (∃ d0 : Int, hcell h3 c5 (c6 + (Int.toNat (IntKind.i64.wrap (v - 1))) * 1) = some (.int .i64 d0) ∧ ((0 : Int) ≤ d0 ∧ d0 < (b5 : Int) ∧ (∃ d4 : Int, hcell h3 b8 (b9 + (Int.toNat d0) * 2) = some (.int .u64 d4) ∧ (j = (d4 == c7))))))) ∧ ((decide (v > 0)) = false → (j = false))))))) ∧ ((j = true → R (.int .i64 170) h3) ∧ (j = false → (∃ c3 c0 : Nat, l = some ⟨c3, c0, none⟩ ∧ (0 : Int) ≤ x ∧ x < (b5 : Int) ∧ (∃ e4 : Option Addr, ∃ c2 e2 : Nat, hcell h3 c3 ((c0 + (Int.toNat x) * 2) + 1) = some (.slice e4 c2 e2) ∧ (∃ (e3 : Int → Heap → Prop) (e1 : Int → Heap → Nat), e3 0 h3 ∧ (∀ (b1 : Int) (h4 : Heap), e3 b1 h4 → (((decide (b1 < (c2 : Int))) = true → (∃ c1 c4 : Nat, e4 = some ⟨c1, c4, none⟩ ∧ (0 : Int) ≤ b1 ∧ b1 < (c2 : Int) ∧ (∃ a3 a0 : Int, ∃ a6 a8 : ByteArray, hcell h4 c1 (c4 + (Int.toNat b1) * 4) = some (.int .i64 a3) ∧ hcell h4 c1 ((c4 + (Int.toNat b1) * 4) + 1) = some (.int .u64 a0) ∧ hcell h4 c1 ((c4 + (Int.toNat b1) * 4) + 2) = some (.string a6) ∧ hcell h4 c1 ((c4 + (Int.toNat b1) * 4) + 3) = some (.string a8) ∧ (∃ kv : List (ByteArray × Value), MapL h4 mb Value.string kv ∧ ∃ a1 a7 : Int, (lk kv a6).getD (.agg #[(.int .u64 0), (.int .i64 0)]) = (.agg #[(.int .u64 a1), (.int .i64 a7)]) ∧ (∃ d5 : Bool → Heap → Prop, (∀ (b0 : Nat) (b4 : Nat) (h8 : Heap), Array.size h4 ≤ b0 → b0 < Array.size h8 → Array.size h4 ≤ b4 → b4 < Array.size h8 → Ext h4 h8 → HC Try.prog 26 #[(.agg #[(.int .i64 a3), (.int .u64 a0), (.string a6), (.string a8)])] h8 (fun vv d7 => Ext h8 d7 ∧ ∃ d2 : Bool, vv = (.bool d2) ∧ (((!d2) = true → (d5 true d7)) ∧ ((!d2) = false → (((a3 == 1) = true → (((decide (a7 > 0)) = true → (d5 (decide (a0 ≤ a1)) d7)) ∧ ((decide (a7 > 0)) = false → (d5 false d7)))) ∧ ((a3 == 1) = false → (d5 false d7))))))) ∧ (∀ (d1 : Bool) (h9 : Heap), d5 d1 h9 → ∀ (b0 b4 : Nat), Array.size h4 ≤ b0 → b0 < Array.size h9 → Array.size h4 ≤ b4 → b4 < Array.size h9 → ((d1 = true → R (.int .i64 170) h9) ∧ (d1 = false → (∃ d9 : List (ByteArray × Value), MapL h9 mb Value.string d9 ∧ ∀ d8, Only mb h9 d8 → MapL d8 mb Value.string (kput d9 a6 (.agg #[(.int .u64 (if a0 > a1 then a0 else a1)), (.int .i64 1)])) → (e3 (IntKind.i64.wrap (b1 + 1)) d8 ∧ e1 (IntKind.i64.wrap (b1 + 1)) d8 < e1 b1 h4)))))))))) ∧ ((decide (b1 < (c2 : Int))) = false → (I6 (IntKind.i64.wrap (v + 1)) h4 ∧ g0 (IntKind.i64.wrap (v + 1)) h4 < g0 v h3))))))))))))) ∧ ((decide (v < (a9 : Int))) = false → R (.int .i64 0) h3))))))) :
  HC Try.prog 10 #[(.slice l b5 c9)] h R := by
 refine hc_of (args := [(.slice l b5 c9)]) Try.func10 rfl Try.ntmps10 (Nat.le_of_ble_eq_true rfl) ?_
 refine xs (xr ?_)
 refine lv rfl rfl (va rfl) ?_
 refine ln (qn (xs (xr ?_)))
 refine lp rfl rfl (hn_makeMap (enc := Value.string) ?_)
 intro mb h1 l3 l4 l7 l5
 replace H := H mb h1 l3 l4 l7 l5
 refine lv rfl rfl (va rfl) ?_
 refine ln (qn (xs (xr ?_)))
 refine lv rfl rfl (vm rfl) ?_
 refine lp rfl rfl (sc TyTC.cb25 rfl (HC.mono H ?_))
 rintro _ h2 ⟨l8, r, a9, c8, rfl, H⟩
 refine lv rfl rfl (va rfl) ?_
 refine ln (qn (xs (xs (xr ?_))))
 refine lv rfl rfl (vm rfl) (lv rfl rfl (v := (.int .i64 (a9 : Int))) (hv_len (n := a9) TyTC.u38 rfl) (lv rfl rfl (vm rfl) ?_))
 refine ln (qn (xb ?_))
 obtain ⟨I6, g0, l2, l6⟩ := H
 refine xl (σ := Int) (fun s => [(0, (.slice l b5 c9)), (3, (.map (some mb))), (4, (.slice r a9 c8)), (13, (.slice r a9 c8)), (14, (.int .i64 (a9 : Int))), (15, (.int .i64 s))]) (fun s h' => I6 s h' ∧ True) (fun s h' => g0 s h') 0 ⟨l2, trivial⟩ (hc rfl (hc rfl (hc rfl (hc rfl (hc rfl (hc rfl hn)))))) ?_
 rintro v ρ h3 ⟨k0, -⟩
 have H := l6 v h3 k0
 refine xs (xr ?_)
 refine lv rfl rfl (vr rfl rfl rfl) ?_
 refine ln (qn (xs ?_))
 refine xc (b := decide (v < (a9 : Int))) rfl (fun e7 => ?_) (fun e7 => ?_)
 ·replace H := H.1 e7
  refine xi (qn (xs (xb (xs (xr ?_)))))
  refine lv rfl rfl (vm rfl) ?_
  obtain ⟨c5, c6, d3, j1, i5, Hq⟩ := H
  subst d3
  have H := Hq; clear Hq
  refine lv rfl rfl (v := (ptr c5 (c6 + (Int.toNat v) * 1))) (vi TyTC.el38 rfl rfl j1 i5) ?_
  obtain ⟨x, k3, H⟩ := H
  refine lv rfl rfl (vl TyTC.agg3 rfl k3) (lv rfl rfl (va rfl) (lv rfl rfl (va rfl) ?_))
  refine ln (qn (xs ?_))
  obtain ⟨j, f7, f0⟩ := H
  refine xk (fun ρ h' => h3 = h' ∧ Has ρ [(0, (.slice l b5 c9)), (3, (.map (some mb))), (4, (.slice (some ⟨c5, c6, none⟩) a9 c8)), (6, (.int .i64 x)), (13, (.slice (some ⟨c5, c6, none⟩) a9 c8)), (14, (.int .i64 (a9 : Int))), (15, (.int .i64 v)), (46, (.bool j))]) ?_ ?_
  ·have H := f7; clear f7 f0
   refine hx_draw TyTC.mixed [.pure, .pure, .pure, .pure, .read, .pure, .pure, .pure, .pure, .pure, .pure, .pure, .pure, .pure, .pure, .read, .pure, .pure, .read, .pure, .pure, .pure, .pure, .read, .pure, .pure, .pure] [0, 1, 2, 3, 4, 5, 6, 7, 8, 9, 10, 11, 12, 13, 14, 15, 16, 17, 18, 19, 20, 21, 22, 23, 24, 25, 26] (by kernel_rfl) ?_
   refine pp (i := 0) rfl (wanted_0 rfl) rfl (.slice l b5 c9) (fun _ => vm rfl) ?_
   refine pp (i := 1) rfl (wanted_0 rfl) rfl (.int .i64 x) (fun _ => vm rfl) ?_
   obtain ⟨b8, b9, d3, g8, g1, Hq⟩ := H
   subst d3
   have H := Hq; clear Hq
   refine pp (i := 2) rfl (wanted_0 rfl) rfl (ptr b8 (b9 + (Int.toNat x) * 2)) (fun _ => vi TyTC.el22 rfl rfl g8 g1) ?_
   refine pp (i := 3) rfl (wanted_0 rfl) rfl (ptr b8 (b9 + (Int.toNat x) * 2)) (fun _ => vf TyTC.fld34_0 (b := b8) (o := b9 + (Int.toNat x) * 2) rfl) ?_
   obtain ⟨c7, g2, H⟩ := H
   refine pr (i := 4) rfl (wanted_0 rfl) rfl (.int .u64 c7) (fun _ he => vl TyTC.agg31 rfl (Ext.cell he g2)) ?_
   refine pp (i := 5) rfl (wanted_0 rfl) rfl (.bool (c7 == 0)) (fun _ => vr rfl rfl rfl) ?_
   refine pp (i := 6) rfl (wanted_0 rfl) rfl (.bool (c7 == 0)) (fun _ => vm rfl) ?_
   rcases bool_or (c7 == 0) with b3 | b3
   ·replace H := H.1 b3
    refine pn (i := 7) rfl (wanted_n rfl rfl rfl b3) ?_
    refine pn (i := 8) rfl (wanted_n rfl rfl rfl b3) ?_
    refine pn (i := 9) rfl (wanted_n rfl rfl rfl b3) ?_
    refine pn (i := 10) rfl (wanted_u rfl rfl rfl) ?_
    refine pn (i := 11) rfl (wanted_u rfl rfl rfl) ?_
    refine pn (i := 12) rfl (wanted_u rfl rfl rfl) ?_
    refine pn (i := 13) rfl (wanted_u rfl rfl rfl) ?_
    refine pn (i := 14) rfl (wanted_u rfl rfl rfl) ?_
    refine pn (i := 15) rfl (wanted_u rfl rfl rfl) ?_
    refine pn (i := 16) rfl (wanted_u rfl rfl rfl) ?_
    refine pn (i := 17) rfl (wanted_u rfl rfl rfl) ?_
    refine pn (i := 18) rfl (wanted_u rfl rfl rfl) ?_
    refine pn (i := 19) rfl (wanted_u rfl rfl rfl) ?_
    refine pn (i := 20) rfl (wanted_u rfl rfl rfl) ?_
    refine pn (i := 21) rfl (wanted_u rfl rfl rfl) ?_
    refine pn (i := 22) rfl (wanted_u rfl rfl rfl) ?_
    refine pn (i := 23) rfl (wanted_u rfl rfl rfl) ?_
    refine pn (i := 24) rfl (wanted_u rfl rfl rfl) ?_
    refine pn (i := 25) rfl (wanted_n rfl rfl rfl b3) ?_
    refine pp (i := 26) rfl (wanted_0 rfl) rfl (.bool true) (fun _ => hv_pick_t rfl b3 rfl) ?_
    refine hp_nil ?_
    refine qn ?_
    obtain rfl := H
    exact ⟨rfl, (hc rfl (hc rfl (hc rfl (hc rfl (hc rfl (hc rfl (hc rfl (hc rfl hn))))))))⟩
   ·replace H := H.2 b3
    refine pp (i := 7) rfl (wanted_y rfl rfl rfl b3) rfl (.int .i64 v) (fun _ => vm rfl) ?_
    refine pp (i := 8) rfl (wanted_y rfl rfl rfl b3) rfl (.bool (decide (v > 0))) (fun _ => vr rfl rfl rfl) ?_
    refine pp (i := 9) rfl (wanted_y rfl rfl rfl b3) rfl (.bool (decide (v > 0))) (fun _ => vm rfl) ?_
    rcases bool_or (decide (v > 0)) with a2 | a2
    ·replace H := H.1 a2
     refine pp (i := 10) rfl (wanted_y rfl rfl rfl a2) rfl (.slice (some ⟨b8, b9, none⟩) b5 c9) (fun _ => vm rfl) ?_
     refine pp (i := 11) rfl (wanted_y rfl rfl rfl a2) rfl (.slice (some ⟨c5, c6, none⟩) a9 c8) (fun _ => vm rfl) ?_
     refine pp (i := 12) rfl (wanted_y rfl rfl rfl a2) rfl (.int .i64 v) (fun _ => vm rfl) ?_
     refine pp (i := 13) rfl (wanted_y rfl rfl rfl a2) rfl (.int .i64 (IntKind.i64.wrap (v - 1))) (fun _ => vr rfl rfl rfl) ?_
     obtain ⟨k2, l0, H⟩ := H
     refine pp (i := 14) rfl (wanted_y rfl rfl rfl a2) rfl (ptr c5 (c6 + (Int.toNat (IntKind.i64.wrap (v - 1))) * 1)) (fun _ => vi TyTC.el38 rfl rfl k2 l0) ?_
     obtain ⟨d0, j6, H⟩ := H
     refine pr (i := 15) rfl (wanted_y rfl rfl rfl a2) rfl (.int .i64 d0) (fun _ he => vl TyTC.agg3 rfl (Ext.cell he j6)) ?_
     obtain ⟨l1, j4, H⟩ := H
     refine pp (i := 16) rfl (wanted_y rfl rfl rfl a2) rfl (ptr b8 (b9 + (Int.toNat d0) * 2)) (fun _ => vi TyTC.el22 rfl rfl l1 j4) ?_
     refine pp (i := 17) rfl (wanted_y rfl rfl rfl a2) rfl (ptr b8 (b9 + (Int.toNat d0) * 2)) (fun _ => vf TyTC.fld34_0 (b := b8) (o := b9 + (Int.toNat d0) * 2) rfl) ?_
     obtain ⟨d4, k9, H⟩ := H
     refine pr (i := 18) rfl (wanted_y rfl rfl rfl a2) rfl (.int .u64 d4) (fun _ he => vl TyTC.agg31 rfl (Ext.cell he k9)) ?_
     refine pp (i := 19) rfl (wanted_y rfl rfl rfl a2) rfl (.slice (some ⟨b8, b9, none⟩) b5 c9) (fun _ => vm rfl) ?_
     refine pp (i := 20) rfl (wanted_y rfl rfl rfl a2) rfl (.int .i64 x) (fun _ => vm rfl) ?_
     refine pp (i := 21) rfl (wanted_y rfl rfl rfl a2) rfl (ptr b8 (b9 + (Int.toNat x) * 2)) (fun _ => vi TyTC.el22 rfl rfl g8 g1) ?_
     refine pp (i := 22) rfl (wanted_y rfl rfl rfl a2) rfl (ptr b8 (b9 + (Int.toNat x) * 2)) (fun _ => vf TyTC.fld34_0 (b := b8) (o := b9 + (Int.toNat x) * 2) rfl) ?_
     refine pr (i := 23) rfl (wanted_y rfl rfl rfl a2) rfl (.int .u64 c7) (fun _ he => vl TyTC.agg31 rfl (Ext.cell he g2)) ?_
     refine pp (i := 24) rfl (wanted_y rfl rfl rfl a2) rfl (.bool (d4 == c7)) (fun _ => vr rfl rfl rfl) ?_
     refine pp (i := 25) rfl (wanted_y rfl rfl rfl b3) rfl (.bool (d4 == c7)) (fun _ => hv_pick_t rfl a2 rfl) ?_
     refine pp (i := 26) rfl (wanted_0 rfl) rfl (.bool (d4 == c7)) (fun _ => hv_pick_f rfl b3 rfl) ?_
     refine hp_nil ?_
     refine qn ?_
     obtain rfl := H
     exact ⟨rfl, (hc rfl (hc rfl (hc rfl (hc rfl (hc rfl (hc rfl (hc rfl (hc rfl hn))))))))⟩
    ·replace H := H.2 a2
     refine pn (i := 10) rfl (wanted_n rfl rfl rfl a2) ?_
     refine pn (i := 11) rfl (wanted_n rfl rfl rfl a2) ?_
     refine pn (i := 12) rfl (wanted_n rfl rfl rfl a2) ?_
     refine pn (i := 13) rfl (wanted_n rfl rfl rfl a2) ?_
     refine pn (i := 14) rfl (wanted_n rfl rfl rfl a2) ?_
     refine pn (i := 15) rfl (wanted_n rfl rfl rfl a2) ?_
     refine pn (i := 16) rfl (wanted_n rfl rfl rfl a2) ?_
     refine pn (i := 17) rfl (wanted_n rfl rfl rfl a2) ?_
     refine pn (i := 18) rfl (wanted_n rfl rfl rfl a2) ?_
     refine pn (i := 19) rfl (wanted_n rfl rfl rfl a2) ?_
     refine pn (i := 20) rfl (wanted_n rfl rfl rfl a2) ?_
     refine pn (i := 21) rfl (wanted_n rfl rfl rfl a2) ?_
     refine pn (i := 22) rfl (wanted_n rfl rfl rfl a2) ?_
     refine pn (i := 23) rfl (wanted_n rfl rfl rfl a2) ?_
     refine pn (i := 24) rfl (wanted_n rfl rfl rfl a2) ?_
     refine pp (i := 25) rfl (wanted_y rfl rfl rfl b3) rfl (.bool false) (fun _ => hv_pick_f rfl a2 rfl) ?_
     refine pp (i := 26) rfl (wanted_0 rfl) rfl (.bool false) (fun _ => hv_pick_f rfl b3 rfl) ?_
     refine hp_nil ?_
     refine qn ?_
     obtain rfl := H
     exact ⟨rfl, (hc rfl (hc rfl (hc rfl (hc rfl (hc rfl (hc rfl (hc rfl (hc rfl hn))))))))⟩
  ·have H := f0; clear f7 f0
   rintro ρ _ ⟨rfl, hH⟩
   refine xh _ hH ?_
   refine xc (b := j) rfl (fun f9 => ?_) (fun f9 => ?_)
   ·replace H := H.1 f9
    refine xs (xr ?_)
    refine lv rfl rfl (va rfl) ?_
    refine ln (qn (xt (qr (br (qr (qr (br (qr ?_))))))))
    exact endQ_ret _ (res_one Try.results10 (rv_tmp rfl)) H
   ·replace H := H.2 f9
    refine xi (qn (xs (xr ?_)))
    refine lv rfl rfl (vm rfl) (lv rfl rfl (vm rfl) ?_)
    obtain ⟨c3, c0, d3, i2, i6, Hq⟩ := H
    subst d3
    have H := Hq; clear Hq
    refine lv rfl rfl (v := (ptr c3 (c0 + (Int.toNat x) * 2))) (vi TyTC.el22 rfl rfl i2 i6) (lv rfl rfl (v := (ptr c3 ((c0 + (Int.toNat x) * 2) + 1))) (vf TyTC.fld34_1 (b := c3) (o := c0 + (Int.toNat x) * 2) rfl) ?_)
    obtain ⟨e4, c2, e2, k4, H⟩ := H
    refine lv rfl rfl (vl TyTC.agg32 rfl k4) (lv rfl rfl (v := (.int .i64 (c2 : Int))) (hv_len (n := c2) TyTC.u32 rfl) (lv rfl rfl (vm rfl) ?_))
    refine ln (qn (xb ?_))
    obtain ⟨e3, e1, j5, k6⟩ := H
    refine xl (σ := Int) (fun s => [(0, (.slice (some ⟨c3, c0, none⟩) b5 c9)), (3, (.map (some mb))), (4, (.slice (some ⟨c5, c6, none⟩) a9 c8)), (13, (.slice (some ⟨c5, c6, none⟩) a9 c8)), (14, (.int .i64 (a9 : Int))), (15, (.int .i64 v)), (51, (.slice e4 c2 e2)), (52, (.int .i64 (c2 : Int))), (53, (.int .i64 s))]) (fun s h' => e3 s h' ∧ True) (fun s h' => e1 s h') 0 ⟨j5, trivial⟩ (hc rfl (hc rfl (hc rfl (hc rfl (hc rfl (hc rfl (hc rfl (hc rfl (hc rfl hn))))))))) ?_
    rintro b1 ρ h4 ⟨i7, -⟩
    have H := k6 b1 h4 i7
    refine xs (xr ?_)
    refine lv rfl rfl (vr rfl rfl rfl) ?_
    refine ln (qn (xs ?_))
    refine xc (b := decide (b1 < (c2 : Int))) rfl (fun e5 => ?_) (fun e5 => ?_)
    ·replace H := H.1 e5
     refine xi (qn (xs (xb (xs (xr ?_)))))
     obtain ⟨c1, c4, d3, j8, j0, Hq⟩ := H
     subst d3
     have H := Hq; clear Hq
     refine lv rfl rfl (v := (ptr c1 (c4 + (Int.toNat b1) * 4))) (vi TyTC.el32 rfl rfl j8 j0) ?_
     obtain ⟨a3, a0, a6, a8, i3, j3, j9, j2, H⟩ := H
     refine lv rfl rfl (vL (vs := [(.int .i64 a3), (.int .u64 a0), (.string a6), (.string a8)]) TyTC.agg36 TyTC.sz36 rfl (cc i3 (cc j3 (cc j9 (cc j2 cn))))) ?_
     refine lp rfl rfl (hn_alloc TyTC.z36 ?_)
     intro b0 h5 g6 g7
     have i4 := ext_pushed_f29_sh g7
     have e8 : Array.size h4 ≤ b0 := Nat.le_of_eq (Eq.symm g6)
     have g3 : h5[b0]? = some (.cells #[(.int .i64 0), (.int .u64 0), (.string ByteArray.empty), (.string ByteArray.empty)] 36 (0, 0)) := by rw [g7]; exact push_new g6
     refine lp rfl rfl (hn_stores (vs := [(.int .i64 a3), (.int .u64 a0), (.string a6), (.string a8)]) rfl rfl TyTC.sz36 rfl (HWs_row g3 (by simp)) ?_)
     intro h6 i1
     have a5 : h6[b0]? = some (.cells #[(.int .i64 a3), (.int .u64 a0), (.string a6), (.string a8)] 36 (0, 0)) := row_hsets_eq i1 g3 rfl
     have f2 := ext_hsets i1 i4 e8
     refine ln (qn (xs (xr ?_)))
     refine lv rfl rfl (vm rfl) (lv rfl rfl (v := (ptr b0 2)) (vf TyTC.fld36_2 (b := b0) (o := 0) rfl) (lv rfl rfl (vl TyTC.agg9 rfl (rc a5 rfl)) ?_))
     obtain ⟨kv, i8, a1, a7, i9, H⟩ := H
     refine lv rfl rfl (v := (.agg #[(.int .u64 a1), (.int .i64 a7)])) (hv_look (l := kv) (a := a6) strK TyTC.u65 TyTC.u9 TyTC.z68 rfl rfl (MapL.ext f2 i8) i9) ?_
     refine lp rfl rfl (hn_alloc TyTC.z68 ?_)
     intro b4 h7 f3 g4
     have i0 := ext_pushed_f29_sh g4
     have k8 := Nat.ne_of_lt (Nat.lt_of_lt_of_eq (row_lt a5) (Eq.symm f3))
     have f5 : Array.size h4 ≤ b4 := Nat.le_trans (Ext.size f2) (Nat.le_of_eq (Eq.symm f3))
     have g9 : h7[b4]? = some (.cells #[(.int .u64 0), (.int .i64 0)] 68 (0, 0)) := by rw [g4]; exact push_new f3
     replace a5 := Ext.row i0 a5
     have j7 := Ext.trans f2 i0
     refine lp rfl rfl (hn_stores (vs := [(.int .u64 a1), (.int .i64 a7)]) rfl rfl TyTC.sz68 rfl (HWs_row g9 (by simp)) ?_)
     intro h8 f8
     replace a5 := row_hsets_ne f8 k8 a5
     have b6 : h8[b4]? = some (.cells #[(.int .u64 a1), (.int .i64 a7)] 68 (0, 0)) := row_hsets_eq f8 g9 rfl
     have k7 := ext_hsets f8 j7 f5
     refine ln (qn (xs ?_))
     obtain ⟨d5, e9, f6⟩ := H
     refine xk (fun ρ h' => ∃ d1 : Bool, (d5 d1 h' ∧ h'[b0]? = some (.cells #[(.int .i64 a3), (.int .u64 a0), (.string a6), (.string a8)] 36 (0, 0)) ∧ h'[b4]? = some (.cells #[(.int .u64 a1), (.int .i64 a7)] 68 (0, 0)) ∧ True) ∧ Has ρ [(0, (.slice (some ⟨c3, c0, none⟩) b5 c9)), (3, (.map (some mb))), (4, (.slice (some ⟨c5, c6, none⟩) a9 c8)), (8, (ptr b0 0)), (9, (ptr b4 0)), (13, (.slice (some ⟨c5, c6, none⟩) a9 c8)), (14, (.int .i64 (a9 : Int))), (15, (.int .i64 v)), (51, (.slice (some ⟨c1, c4, none⟩) c2 e2)), (52, (.int .i64 (c2 : Int))), (53, (.int .i64 b1)), (80, (.bool d1))]) ?_ ?_
     ·have H := e9; clear e9 f6
      refine xr ?_
      refine lv rfl rfl (vL (vs := [(.int .i64 a3), (.int .u64 a0), (.string a6), (.string a8)]) TyTC.agg36 TyTC.sz36 rfl (cc (rc a5 rfl) (cc (rc a5 rfl) (cc (rc a5 rfl) (cc (rc a5 rfl) cn))))) ?_
      replace H := H b0 b4 h8 e8 (row_lt a5) f5 (row_lt b6) k7
      refine lp rfl rfl (sc TyTC.cb26 rfl (HC.mono H ?_))
      rintro _ d7 ⟨g5, d2, rfl, H⟩
      replace a5 := Ext.row g5 a5
      replace b6 := Ext.row g5 b6
      refine lv rfl rfl (v := (.bool (!d2))) (hv_not (b := d2) rfl) (lv rfl rfl (vm rfl) ?_)
      rcases bool_or (!d2) with a4 | a4
      ·replace H := H.1 a4
       refine lo (wanted_n rfl rfl rfl a4) rfl ?_
       refine lo (wanted_n rfl rfl rfl a4) rfl ?_
       refine lo (wanted_n rfl rfl rfl a4) rfl ?_
       refine lo (wanted_n rfl rfl rfl a4) rfl ?_
       refine lo (wanted_u rfl rfl rfl) rfl ?_
       refine lo (wanted_u rfl rfl rfl) rfl ?_
       refine lo (wanted_u rfl rfl rfl) rfl ?_
       refine lo (wanted_n rfl rfl rfl a4) rfl ?_
       refine lo (wanted_n rfl rfl rfl a4) rfl ?_
       refine lo (wanted_u rfl rfl rfl) rfl ?_
       refine lo (wanted_u rfl rfl rfl) rfl ?_
       refine lo (wanted_u rfl rfl rfl) rfl ?_
       refine lo (wanted_u rfl rfl rfl) rfl ?_
       refine lo (wanted_u rfl rfl rfl) rfl ?_
       refine lo (wanted_n rfl rfl rfl a4) rfl ?_
       refine lv rfl rfl (v := (.bool true)) (hv_pick_t rfl a4 rfl) ?_
       refine ln (qn ?_)
       exact ⟨_, ⟨H, a5, b6, trivial⟩, (hc rfl (hc rfl (hc rfl (hc rfl (hc rfl (hc rfl (hc rfl (hc rfl (hc rfl (hc rfl (hc rfl (hc rfl hn))))))))))))⟩
      ·replace H := H.2 a4
       refine ly (wanted_y rfl rfl rfl a4) rfl (HStep.of_val (v := (ptr b0 0)) (vf TyTC.fld36_0 (b := b0) (o := 0) rfl) ?_)
       refine ly (wanted_y rfl rfl rfl a4) rfl (HStep.of_val (v := (.int .i64 a3)) (vl TyTC.agg3 rfl (rc a5 rfl)) ?_)
       refine ly (wanted_y rfl rfl rfl a4) rfl (HStep.of_val (v := (.bool (a3 == 1))) (vr rfl rfl rfl) ?_)
       refine ly (wanted_y rfl rfl rfl a4) rfl (HStep.of_val (v := (.bool (a3 == 1))) (vm rfl) ?_)
       rcases bool_or (a3 == 1) with b7 | b7
       ·replace H := H.1 b7
        refine ly (wanted_y rfl rfl rfl b7) rfl (HStep.of_val (v := (ptr b4 1)) (vf TyTC.fld68_1 (b := b4) (o := 0) rfl) ?_)
        refine ly (wanted_y rfl rfl rfl b7) rfl (HStep.of_val (v := (.int .i64 a7)) (vl TyTC.agg3 rfl (rc b6 rfl)) ?_)
        refine ly (wanted_y rfl rfl rfl b7) rfl (HStep.of_val (v := (.bool (decide (a7 > 0)))) (vr rfl rfl rfl) ?_)
        refine ly (wanted_y rfl rfl rfl a4) rfl (HStep.of_val (v := (.bool (decide (a7 > 0)))) (hv_pick_t rfl b7 rfl) ?_)
        refine ly (wanted_y rfl rfl rfl a4) rfl (HStep.of_val (v := (.bool (decide (a7 > 0)))) (vm rfl) ?_)
        rcases bool_or (decide (a7 > 0)) with b2 | b2
        ·replace H := H.1 b2
         refine ly (wanted_y rfl rfl rfl b2) rfl (HStep.of_val (v := (ptr b0 1)) (vf TyTC.fld36_1 (b := b0) (o := 0) rfl) ?_)
         refine ly (wanted_y rfl rfl rfl b2) rfl (HStep.of_val (v := (.int .u64 a0)) (vl TyTC.agg31 rfl (rc a5 rfl)) ?_)
         refine ly (wanted_y rfl rfl rfl b2) rfl (HStep.of_val (v := (ptr b4 0)) (vf TyTC.fld68_0 (b := b4) (o := 0) rfl) ?_)
         refine ly (wanted_y rfl rfl rfl b2) rfl (HStep.of_val (v := (.int .u64 a1)) (vl TyTC.agg31 rfl (rc b6 rfl)) ?_)
         refine ly (wanted_y rfl rfl rfl b2) rfl (HStep.of_val (v := (.bool (decide (a0 ≤ a1)))) (vr rfl rfl rfl) ?_)
         refine ly (wanted_y rfl rfl rfl a4) rfl (HStep.of_val (v := (.bool (decide (a0 ≤ a1)))) (hv_pick_t rfl b2 rfl) ?_)
         refine lv rfl rfl (v := (.bool (decide (a0 ≤ a1)))) (hv_pick_f rfl a4 rfl) ?_
         refine ln (qn ?_)
         exact ⟨_, ⟨H, a5, b6, trivial⟩, (hc rfl (hc rfl (hc rfl (hc rfl (hc rfl (hc rfl (hc rfl (hc rfl (hc rfl (hc rfl (hc rfl (hc rfl hn))))))))))))⟩
        ·replace H := H.2 b2
         refine lo (wanted_n rfl rfl rfl b2) rfl ?_
         refine lo (wanted_n rfl rfl rfl b2) rfl ?_
         refine lo (wanted_n rfl rfl rfl b2) rfl ?_
         refine lo (wanted_n rfl rfl rfl b2) rfl ?_
         refine lo (wanted_n rfl rfl rfl b2) rfl ?_
         refine ly (wanted_y rfl rfl rfl a4) rfl (HStep.of_val (v := (.bool false)) (hv_pick_f rfl b2 rfl) ?_)
         refine lv rfl rfl (v := (.bool false)) (hv_pick_f rfl a4 rfl) ?_
         refine ln (qn ?_)
         exact ⟨_, ⟨H, a5, b6, trivial⟩, (hc rfl (hc rfl (hc rfl (hc rfl (hc rfl (hc rfl (hc rfl (hc rfl (hc rfl (hc rfl (hc rfl (hc rfl hn))))))))))))⟩
       ·replace H := H.2 b7
        refine lo (wanted_n rfl rfl rfl b7) rfl ?_
        refine lo (wanted_n rfl rfl rfl b7) rfl ?_
        refine lo (wanted_n rfl rfl rfl b7) rfl ?_
        refine ly (wanted_y rfl rfl rfl a4) rfl (HStep.of_val (v := (.bool false)) (hv_pick_f rfl b7 rfl) ?_)
        refine ly (wanted_y rfl rfl rfl a4) rfl (HStep.of_val (v := (.bool false)) (vm rfl) ?_)
        refine lo (wanted_n rfl rfl (c := false) rfl rfl) rfl ?_
        refine lo (wanted_n rfl rfl (c := false) rfl rfl) rfl ?_
        refine lo (wanted_n rfl rfl (c := false) rfl rfl) rfl ?_
        refine lo (wanted_n rfl rfl (c := false) rfl rfl) rfl ?_
        refine lo (wanted_n rfl rfl (c := false) rfl rfl) rfl ?_
        refine ly (wanted_y rfl rfl rfl a4) rfl (HStep.of_val (v := (.bool false)) (hv_pick (t := false) rfl rfl) ?_)
        refine lv rfl rfl (v := (.bool false)) (hv_pick_f rfl a4 rfl) ?_
        refine ln (qn ?_)
        exact ⟨_, ⟨H, a5, b6, trivial⟩, (hc rfl (hc rfl (hc rfl (hc rfl (hc rfl (hc rfl (hc rfl (hc rfl (hc rfl (hc rfl (hc rfl (hc rfl hn))))))))))))⟩
     ·rintro ρ h9 ⟨d1, ⟨k5, d6, e0, -⟩, hH⟩
      have H := f6 d1 h9 k5; clear e9 f6
      refine xh _ hH ?_
      replace H := H b0 b4 e8 (row_lt d6) f5 (row_lt e0)
      refine xc (b := d1) rfl (fun f4 => ?_) (fun f4 => ?_)
      ·replace H := H.1 f4
       refine xs (xr ?_)
       refine lv rfl rfl (va rfl) ?_
       refine ln (qn (xt (qr (br (qr (qr (br (br (qr (qr (br (qr ?_))))))))))))
       exact endQ_ret _ (res_one Try.results10 (rv_tmp rfl)) H
      ·replace H := H.2 f4
       refine xi (qn (xr ?_))
       refine lv rfl rfl (vm rfl) (lv rfl rfl (v := (ptr b0 2)) (vf TyTC.fld36_2 (b := b0) (o := 0) rfl) (lv rfl rfl (vl TyTC.agg9 rfl (rc d6 rfl)) (lv rfl rfl (v := (ptr b4 0)) (vf TyTC.fld68_0 (b := b4) (o := 0) rfl) (lv rfl rfl (vl TyTC.agg31 rfl (rc e0 rfl)) (lv rfl rfl (v := (ptr b0 1)) (vf TyTC.fld36_1 (b := b0) (o := 0) rfl) ?_)))))
       refine lv rfl rfl (vl TyTC.agg31 rfl (rc d6 rfl)) (lv rfl rfl (v := (.int .u64 (if a0 > a1 then a0 else a1))) (hv_max rfl rfl) (lv rfl rfl (v := (.agg #[(.int .u64 (if a0 > a1 then a0 else a1)), (.int .i64 1)])) (vb (vs := [(0, (.int .u64 (if a0 > a1 then a0 else a1))), (1, (.int .i64 1))]) (cs := #[(.int .u64 (if a0 > a1 then a0 else a1)), (.int .i64 1)]) TyTC.z68 TyTC.pl68 rfl (by kernel_rfl)) ?_))
       obtain ⟨d9, e6, H⟩ := H
       refine lp rfl rfl (hn_mapPut (l := d9) (a := a6) strK TyTC.u65 TyTC.u9 rfl rfl rfl e6 ?_)
       intro d8 f1 k1
       replace H := H d8 f1 k1
       replace d6 := row_only f1 e6 d6
       replace e0 := row_only f1 e6 e0
       refine ln (bn (qn (xr ?_)))
       refine lv rfl rfl (vr rfl rfl rfl) (lv rfl rfl (vm rfl) ?_)
       refine ln (qn ?_)
       exact ⟨IntKind.i64.wrap (b1 + 1), ⟨⟨H.1, trivial⟩, H.2⟩, (hc rfl (hc rfl (hc rfl (hc rfl (hc rfl (hc rfl (hc rfl (hc rfl (hc rfl hn)))))))))⟩
    ·replace H := H.2 e5
     refine xe (qe (qe (bh (bn (qn (xr ?_))))))
     refine lv rfl rfl (vr rfl rfl rfl) (lv rfl rfl (vm rfl) ?_)
     refine ln (qn ?_)
     exact ⟨IntKind.i64.wrap (v + 1), ⟨⟨H.1, trivial⟩, H.2⟩, (hc rfl (hc rfl (hc rfl (hc rfl (hc rfl (hc rfl hn))))))⟩
 ·replace H := H.2 e7
  refine xe (qe (qe (bh (qn (xs (xr ?_))))))
  refine lv rfl rfl (va rfl) ?_
  refine ln (qn (xt ?_))
  exact endQ_ret _ (res_one Try.results10 (rv_tmp rfl)) H
theorem f47_sh (l : Option Addr) (b5 : Nat) (b7 : Nat) (h : Heap) (R : Value → Heap → Prop)
  (H : (∀ mb h1, mb = Array.size h → Ext h h1 → Array.size h1 = Array.size h + 1 → MapL h1 mb Value.string [] → HC Try.prog 25 #[(.slice l b5 b7)] h1 (fun vv h2 => Ext h1 h2 ∧ ∃ r : Option Addr, ∃ b1 c4 : Nat, vv = (.slice r b1 c4) ∧ (∃ (I6 : Int → Heap → Prop) (e0 : Int → Heap → Nat), I6 0 h2 ∧ (∀ (v : Int) (h3 : Heap), I6 v h3 → (((decide (v < (b1 : Int))) = true → (∃ c0 c1 : Nat, r = some ⟨c0, c1, none⟩ ∧ (0 : Int) ≤ v ∧ v < (b1 : Int) ∧ (∃ x : Int, hcell h3 c0 (c1 + (Int.toNat v) * 1) = some (.int .i64 x) ∧ (∃ b8 b9 : Nat, l = some ⟨b8, b9, none⟩ ∧ (0 : Int) ≤ x ∧ x < (b5 : Int) ∧ (∃ c3 : Option Addr, ∃ b2 c2 : Nat, hcell h3 b8 ((b9 + (Int.toNat x) * 2) + 1) = some (.slice c3 b2 c2) ∧ (∃ (c9 : Int → Heap → Prop) (c5 : Int → Heap → Nat), c9 0 h3 ∧ (∀ (a8 : Int) (h4 : Heap), c9 a8 h4 → (((decide (a8 < (b2 : Int))) = true → (∃ d0 : Heap → Prop, (∃ b4 b3 : Nat, c3 = some ⟨b4, b3, none⟩ ∧ (0 : Int) ≤ a8 ∧ a8 < (b2 : Int) ∧ (∃ b0 a1 : Int, ∃ a2 a7 : ByteArray, hcell h4 b4 (b3 + (Int.toNat a8) * 4) = some (.int .i64 b0) ∧ hcell h4 b4 ((b3 + (Int.toNat a8) * 4) + 1) = some (.int .u64 a1) ∧ hcell h4 b4 ((b3 + (Int.toNat a8) * 4) + 2) = some (.string a2) ∧ hcell h4 b4 ((b3 + (Int.toNat a8) * 4) + 3) = some (.string a7) ∧ (∃ kv : List (ByteArray × Value), MapL h4 mb Value.string kv ∧ ∃ a4 a0 : Int, ∃ a6 a3 : ByteArray, (lk kv a2).getD (.agg #[(.int .i64 0), (.int .u64 0), (.string ByteArray.empty), (.string ByteArray.empty)]) = (.agg #[(.int .i64 a4), (.int .u64 a0), (.string a6), (.string a3)]) ∧ ((((!((lk kv a2).isSome)) || (decide (a1 ≥ a0))) = true → (∀ (h9 : Heap), Ext h4 h9 → (∃ c6 : List (ByteArray × Value), MapL h9 mb Value.string c6 ∧ ∀ c7, Only mb h9 c7 → MapL c7 mb Value.string (kput c6 a2 (.agg #[(.int .i64 b0), (.int .u64 a1), (.string a2), (.string a7)])) → (d0 c7)))) ∧ (((!((lk kv a2).isSome)) || (decide (a1 ≥ a0))) = false → (∀ (h9 : Heap), Ext h4 h9 → (d0 h9))))))) ∧ (∀ (h5 : Heap), d0 h5 → (c9 (IntKind.i64.wrap (a8 + 1)) h5 ∧ c5 (IntKind.i64.wrap (a8 + 1)) h5 < c5 a8 h4)))) ∧ ((decide (a8 < (b2 : Int))) = false → (I6 (IntKind.i64.wrap (v + 1)) h4 ∧ e0 (IntKind.i64.wrap (v + 1)) h4 < e0 v h3)))))))))) ∧ ((decide (v < (b1 : Int))) = false → R (.map (some mb)) h3))))))) :
  HC Try.prog 47 #[(.slice l b5 b7)] h R := by
 refine hc_of (args := [(.slice l b5 b7)]) Try.func47 rfl Try.ntmps47 (Nat.le_of_ble_eq_true rfl) ?_
 refine xs (xr ?_)
 refine lv rfl rfl (va rfl) ?_
 refine ln (qn (xs (xr ?_)))
 refine lp rfl rfl (hn_makeMap (enc := Value.string) ?_)
 intro mb h1 i8 i9 j2 j0
 replace H := H mb h1 i8 i9 j2 j0
 refine lv rfl rfl (va rfl) ?_
 refine ln (qn (xs (xs (xr ?_))))
 refine lv rfl rfl (vm rfl) ?_
 refine lp rfl rfl (sc TyTC.cb25 rfl (HC.mono H ?_))
 rintro _ h2 ⟨j3, r, b1, c4, rfl, H⟩
 refine lv rfl rfl (v := (.int .i64 (b1 : Int))) (hv_len (n := b1) TyTC.u38 rfl) (lv rfl rfl (vm rfl) ?_)
 refine ln (qn (xb ?_))
 obtain ⟨I6, e0, i7, j1⟩ := H
 refine xl (σ := Int) (fun s => [(0, (.slice l b5 b7)), (3, (.map (some mb))), (12, (.slice r b1 c4)), (13, (.int .i64 (b1 : Int))), (14, (.int .i64 s))]) (fun s h' => I6 s h' ∧ True) (fun s h' => e0 s h') 0 ⟨i7, trivial⟩ (hc rfl (hc rfl (hc rfl (hc rfl (hc rfl hn))))) ?_
 rintro v ρ h3 ⟨g9, -⟩
 have H := j1 v h3 g9
 refine xs (xr ?_)
 refine lv rfl rfl (vr rfl rfl rfl) ?_
 refine ln (qn (xs ?_))
 refine xc (b := decide (v < (b1 : Int))) rfl (fun d2 => ?_) (fun d2 => ?_)
 ·replace H := H.1 d2
  refine xi (qn (xs (xb (xs (xr ?_)))))
  obtain ⟨c0, c1, c8, f5, f2, Hq⟩ := H
  subst c8
  have H := Hq; clear Hq
  refine lv rfl rfl (v := (ptr c0 (c1 + (Int.toNat v) * 1))) (vi TyTC.el38 rfl rfl f5 f2) ?_
  obtain ⟨x, i3, H⟩ := H
  refine lv rfl rfl (vl TyTC.agg3 rfl i3) (lv rfl rfl (va rfl) ?_)
  refine ln (qn (xs (xr ?_)))
  refine lv rfl rfl (vm rfl) (lv rfl rfl (vm rfl) ?_)
  obtain ⟨b8, b9, c8, g0, g2, Hq⟩ := H
  subst c8
  have H := Hq; clear Hq
  refine lv rfl rfl (v := (ptr b8 (b9 + (Int.toNat x) * 2))) (vi TyTC.el22 rfl rfl g0 g2) (lv rfl rfl (v := (ptr b8 ((b9 + (Int.toNat x) * 2) + 1))) (vf TyTC.fld34_1 (b := b8) (o := b9 + (Int.toNat x) * 2) rfl) ?_)
  obtain ⟨c3, b2, c2, g4, H⟩ := H
  refine lv rfl rfl (vl TyTC.agg32 rfl g4) (lv rfl rfl (v := (.int .i64 (b2 : Int))) (hv_len (n := b2) TyTC.u32 rfl) (lv rfl rfl (vm rfl) ?_))
  refine ln (qn (xb ?_))
  obtain ⟨c9, c5, g5, f0⟩ := H
  refine xl (σ := Int) (fun s => [(0, (.slice (some ⟨b8, b9, none⟩) b5 b7)), (3, (.map (some mb))), (12, (.slice (some ⟨c0, c1, none⟩) b1 c4)), (13, (.int .i64 (b1 : Int))), (14, (.int .i64 v)), (22, (.slice c3 b2 c2)), (23, (.int .i64 (b2 : Int))), (24, (.int .i64 s))]) (fun s h' => c9 s h' ∧ True) (fun s h' => c5 s h') 0 ⟨g5, trivial⟩ (hc rfl (hc rfl (hc rfl (hc rfl (hc rfl (hc rfl (hc rfl (hc rfl hn)))))))) ?_
  rintro a8 ρ h4 ⟨f6, -⟩
  have H := f0 a8 h4 f6
  refine xs (xr ?_)
  refine lv rfl rfl (vr rfl rfl rfl) ?_
  refine ln (qn (xs ?_))
  refine xc (b := decide (a8 < (b2 : Int))) rfl (fun d8 => ?_) (fun d8 => ?_)
  ·replace H := H.1 d8
   refine xi (qn ?_)
   obtain ⟨d0, d4, d6⟩ := H
   refine xk (fun ρ h' => (d0 h' ∧ True) ∧ Has ρ [(0, (.slice (some ⟨b8, b9, none⟩) b5 b7)), (3, (.map (some mb))), (12, (.slice (some ⟨c0, c1, none⟩) b1 c4)), (13, (.int .i64 (b1 : Int))), (14, (.int .i64 v)), (22, (.slice c3 b2 c2)), (23, (.int .i64 (b2 : Int))), (24, (.int .i64 a8))]) ?_ ?_
   ·have H := d4; clear d4 d6
    refine xb (xs (xr ?_))
    obtain ⟨b4, b3, c8, g6, g8, Hq⟩ := H
    subst c8
    have H := Hq; clear Hq
    refine lv rfl rfl (v := (ptr b4 (b3 + (Int.toNat a8) * 4))) (vi TyTC.el32 rfl rfl g6 g8) ?_
    obtain ⟨b0, a1, a2, a7, i5, i0, f7, i4, H⟩ := H
    refine lv rfl rfl (vL (vs := [(.int .i64 b0), (.int .u64 a1), (.string a2), (.string a7)]) TyTC.agg36 TyTC.sz36 rfl (cc i5 (cc i0 (cc f7 (cc i4 cn))))) ?_
    refine lp rfl rfl (hn_alloc TyTC.z36 ?_)
    intro b6 h6 e5 e3
    have f8 := ext_pushed_f29_sh e3
    have i1 : Array.size h4 ≤ b6 := Nat.le_of_eq (Eq.symm e5)
    have e8 : h6[b6]? = some (.cells #[(.int .i64 0), (.int .u64 0), (.string ByteArray.empty), (.string ByteArray.empty)] 36 (0, 0)) := by rw [e3]; exact push_new e5
    refine lp rfl rfl (hn_stores (vs := [(.int .i64 b0), (.int .u64 a1), (.string a2), (.string a7)]) rfl rfl TyTC.sz36 rfl (HWs_row e8 (by simp)) ?_)
    intro h7 e4
    have a9 : h7[b6]? = some (.cells #[(.int .i64 b0), (.int .u64 a1), (.string a2), (.string a7)] 36 (0, 0)) := row_hsets_eq e4 e8 rfl
    have d3 := ext_hsets e4 f8 i1
    refine ln (qn (xs (xr ?_)))
    refine lv rfl rfl (vm rfl) (lv rfl rfl (v := (ptr b6 2)) (vf TyTC.fld36_2 (b := b6) (o := 0) rfl) (lv rfl rfl (vl TyTC.agg9 rfl (rc a9 rfl)) ?_))
    obtain ⟨kv, g3, a4, a0, a6, a3, f4, H⟩ := H
    refine lv rfl rfl (v := (.tuple #[(.agg #[(.int .i64 a4), (.int .u64 a0), (.string a6), (.string a3)]), (.bool ((lk kv a2).isSome))])) (hv_look2 (l := kv) (a := a2) strK TyTC.u92 TyTC.u9 TyTC.z36 rfl rfl (MapL.ext d3 g3) f4) (lv rfl rfl (vm rfl) (lv rfl rfl (vx rfl rfl) (lv rfl rfl (vx rfl rfl) ?_)))
    refine lp rfl rfl (hn_alloc TyTC.z36 ?_)
    intro d1 h8 d7 e7
    have e6 := ext_pushed_f29_sh e7
    have f9 := Nat.ne_of_lt (Nat.lt_of_lt_of_eq (row_lt a9) (Eq.symm d7))
    have g7 : Array.size h4 ≤ d1 := Nat.le_trans (Ext.size d3) (Nat.le_of_eq (Eq.symm d7))
    have e1 : h8[d1]? = some (.cells #[(.int .i64 0), (.int .u64 0), (.string ByteArray.empty), (.string ByteArray.empty)] 36 (0, 0)) := by rw [e7]; exact push_new d7
    replace a9 := Ext.row e6 a9
    have i2 := Ext.trans d3 e6
    refine lp rfl rfl (hn_stores (vs := [(.int .i64 a4), (.int .u64 a0), (.string a6), (.string a3)]) rfl rfl TyTC.sz36 rfl (HWs_row e1 (by simp)) ?_)
    intro h9 d9
    replace a9 := row_hsets_ne d9 f9 a9
    have e9 : h9[d1]? = some (.cells #[(.int .i64 a4), (.int .u64 a0), (.string a6), (.string a3)] 36 (0, 0)) := row_hsets_eq d9 e1 rfl
    have e2 := ext_hsets d9 i2 g7
    refine lv rfl rfl (va rfl) ?_
    refine ln (qn ?_)
    refine xk (fun ρ h' => h9 = h' ∧ Has ρ [(0, (.slice (some ⟨b8, b9, none⟩) b5 b7)), (3, (.map (some mb))), (7, (ptr b6 0)), (12, (.slice (some ⟨c0, c1, none⟩) b1 c4)), (13, (.int .i64 (b1 : Int))), (14, (.int .i64 v)), (22, (.slice (some ⟨b4, b3, none⟩) b2 c2)), (23, (.int .i64 (b2 : Int))), (24, (.int .i64 a8)), (43, (.bool ((!((lk kv a2).isSome)) || (decide (a1 ≥ a0)))))]) ?_ ?_
    ·refine xr ?_
     refine lv rfl rfl (vm rfl) (lv rfl rfl (v := (.bool (!((lk kv a2).isSome)))) (hv_not (b := (lk kv a2).isSome) rfl) (lv rfl rfl (vm rfl) ?_))
     rcases bool_or (!((lk kv a2).isSome)) with a5 | a5
     ·refine lo (wanted_n rfl rfl rfl a5) rfl ?_
      refine lo (wanted_n rfl rfl rfl a5) rfl ?_
      refine lo (wanted_n rfl rfl rfl a5) rfl ?_
      refine lo (wanted_n rfl rfl rfl a5) rfl ?_
      refine lo (wanted_n rfl rfl rfl a5) rfl ?_
      refine lv rfl rfl (v := (.bool true)) (hv_pick_t rfl a5 rfl) ?_
      refine ln (qn ?_)
      exact ⟨rfl, (hc rfl (hc rfl (hc rfl (hc rfl (hc rfl (hc rfl (hc rfl (hc rfl (hc rfl (hc (show ((.bool true) : Value) = (.bool ((!((lk kv a2).isSome)) || (decide (a1 ≥ a0)))) from (by first | rfl | ((try rw [a5]); all_goals first | rfl | (simp only [Bool.true_or, Bool.or_true, Bool.false_or, Bool.or_false, Bool.true_and, Bool.and_true, Bool.false_and, Bool.and_false, Bool.not_true, Bool.not_false, Bool.cond_true, Bool.cond_false]; done)) | simp [a5])) hn))))))))))⟩
     ·refine ly (wanted_y rfl rfl rfl a5) rfl (HStep.of_val (v := (ptr b6 1)) (vf TyTC.fld36_1 (b := b6) (o := 0) rfl) ?_)
      refine ly (wanted_y rfl rfl rfl a5) rfl (HStep.of_val (v := (.int .u64 a1)) (vl TyTC.agg31 rfl (rc a9 rfl)) ?_)
      refine ly (wanted_y rfl rfl rfl a5) rfl (HStep.of_val (v := (ptr d1 1)) (vf TyTC.fld36_1 (b := d1) (o := 0) rfl) ?_)
      refine ly (wanted_y rfl rfl rfl a5) rfl (HStep.of_val (v := (.int .u64 a0)) (vl TyTC.agg31 rfl (rc e9 rfl)) ?_)
      refine ly (wanted_y rfl rfl rfl a5) rfl (HStep.of_val (v := (.bool (decide (a1 ≥ a0)))) (vr rfl rfl rfl) ?_)
      refine lv rfl rfl (v := (.bool (decide (a1 ≥ a0)))) (hv_pick_f rfl a5 rfl) ?_
      refine ln (qn ?_)
      exact ⟨rfl, (hc rfl (hc rfl (hc rfl (hc rfl (hc rfl (hc rfl (hc rfl (hc rfl (hc rfl (hc (show ((.bool (decide (a1 ≥ a0))) : Value) = (.bool ((!((lk kv a2).isSome)) || (decide (a1 ≥ a0)))) from (by first | rfl | ((try rw [a5]); all_goals first | rfl | (simp only [Bool.true_or, Bool.or_true, Bool.false_or, Bool.or_false, Bool.true_and, Bool.and_true, Bool.false_and, Bool.and_false, Bool.not_true, Bool.not_false, Bool.cond_true, Bool.cond_false]; done)) | simp [a5])) hn))))))))))⟩
    ·rintro ρ _ ⟨rfl, hH⟩
     refine xh _ hH ?_
     refine xc (b := ((!((lk kv a2).isSome)) || (decide (a1 ≥ a0)))) rfl (fun d5 => ?_) (fun d5 => ?_)
     ·replace H := H.1 d5
      refine xr ?_
      refine lv rfl rfl (vm rfl) (lv rfl rfl (v := (ptr b6 2)) (vf TyTC.fld36_2 (b := b6) (o := 0) rfl) (lv rfl rfl (vl TyTC.agg9 rfl (rc a9 rfl)) (lv rfl rfl (vL (vs := [(.int .i64 b0), (.int .u64 a1), (.string a2), (.string a7)]) TyTC.agg36 TyTC.sz36 rfl (cc (rc a9 rfl) (cc (rc a9 rfl) (cc (rc a9 rfl) (cc (rc a9 rfl) cn))))) ?_)))
      replace H := H h9 e2
      obtain ⟨c6, f1, H⟩ := H
      refine lp rfl rfl (hn_mapPut (l := c6) (a := a2) strK TyTC.u92 TyTC.u9 rfl rfl rfl f1 ?_)
      intro c7 f3 i6
      replace H := H c7 f3 i6
      refine ln (bn (qn ?_))
      exact ⟨⟨H, trivial⟩, (hc rfl (hc rfl (hc rfl (hc rfl (hc rfl (hc rfl (hc rfl (hc rfl hn))))))))⟩
     ·replace H := H.2 d5
      refine xi (bn ?_)
      replace H := H h9 e2
      refine qn ?_
      exact ⟨⟨H, trivial⟩, (hc rfl (hc rfl (hc rfl (hc rfl (hc rfl (hc rfl (hc rfl (hc rfl hn))))))))⟩
   ·rintro ρ h5 ⟨⟨g1, -⟩, hH⟩
    have H := d6 h5 g1; clear d4 d6
    refine xh _ hH ?_
    refine xr ?_
    refine lv rfl rfl (vr rfl rfl rfl) (lv rfl rfl (vm rfl) ?_)
    refine ln (qn ?_)
    exact ⟨IntKind.i64.wrap (a8 + 1), ⟨⟨H.1, trivial⟩, H.2⟩, (hc rfl (hc rfl (hc rfl (hc rfl (hc rfl (hc rfl (hc rfl (hc rfl hn))))))))⟩
  ·replace H := H.2 d8
   refine xe (qe (qe (bh (bn (qn (xr ?_))))))
   refine lv rfl rfl (vr rfl rfl rfl) (lv rfl rfl (vm rfl) ?_)
   refine ln (qn ?_)
   exact ⟨IntKind.i64.wrap (v + 1), ⟨⟨H.1, trivial⟩, H.2⟩, (hc rfl (hc rfl (hc rfl (hc rfl (hc rfl hn)))))⟩
 ·replace H := H.2 d2
  refine xe (qe (qe (bh (qn (xs (xr ?_))))))
  refine lv rfl rfl (vm rfl) (lv rfl rfl (va rfl) ?_)
  refine ln (qn (xt ?_))
  exact endQ_ret _ (res_one Try.results47 (rv_tmp rfl)) H
theorem f23_sh  (h : Heap) (R : Value → Heap → Prop)
  (H : (∀ nb h1, nb = Array.size h → h1 = Array.push h (.cells #[(.int .i64 1), (.int .u64 1), (.string (ByteArray.mk #[107])), (.string (ByteArray.mk #[97]))] 36) → (∀ a0 h2, a0 = Array.size h1 → h2 = Array.push h1 (.cells #[(.int .i64 1), (.int .u64 2), (.string (ByteArray.mk #[107])), (.string (ByteArray.mk #[98]))] 36) → (∀ a1 h3, a1 = Array.size h2 → h3 = Array.push h2 (.cells #[(.int .u64 1), (.slice (some ⟨nb, 0, none⟩) 1 1), (.int .u64 2), (.slice (some ⟨a0, 0, none⟩) 1 1)] 34) → R (.slice (some ⟨a1, 0, none⟩) 2 2) h3)))) :
  HC Try.prog 23 #[] h R := by
 refine hc_of (args := []) Try.func23 rfl Try.ntmps23 (Nat.le_of_ble_eq_true rfl) ?_
 refine xs (xr ?_)
 refine lv rfl rfl (va rfl) ?_
 refine ln (qn (xs (xr ?_)))
 refine lv rfl rfl (v := (.agg #[(.int .i64 1), (.int .u64 1), (.string (ByteArray.mk #[107])), (.string (ByteArray.mk #[97]))])) (vb (vs := [(0, (.int .i64 1)), (1, (.int .u64 1)), (2, (.string (ByteArray.mk #[107]))), (3, (.string (ByteArray.mk #[97])))]) (cs := #[(.int .i64 1), (.int .u64 1), (.string (ByteArray.mk #[107])), (.string (ByteArray.mk #[97]))]) TyTC.z36 TyTC.pl36 rfl (by kernel_rfl)) ?_
 refine lp rfl rfl (hn_buildSlice (n := 1) (vs := [(0, (.agg #[(.int .i64 1), (.int .u64 1), (.string (ByteArray.mk #[107])), (.string (ByteArray.mk #[97]))]))]) (cs := #[(.int .i64 1), (.int .u64 1), (.string (ByteArray.mk #[107])), (.string (ByteArray.mk #[97]))]) TyTC.u32 TyTC.sz36 TyTC.z36 rfl rfl (by kernel_rfl) ?_)
 intro nb h1 a5 a2
 replace H := H nb h1 a5 a2
 have a8 := ext_pushed_f29_sh a2
 refine lv rfl rfl (v := (.agg #[(.int .u64 1), (.slice (some ⟨nb, 0, none⟩) 1 1)])) (vb (vs := [(0, (.int .u64 1)), (1, (.slice (some ⟨nb, 0, none⟩) 1 1))]) (cs := #[(.int .u64 1), (.slice (some ⟨nb, 0, none⟩) 1 1)]) TyTC.z34 TyTC.pl34 rfl (by kernel_rfl)) (lv rfl rfl (v := (.agg #[(.int .i64 1), (.int .u64 2), (.string (ByteArray.mk #[107])), (.string (ByteArray.mk #[98]))])) (vb (vs := [(0, (.int .i64 1)), (1, (.int .u64 2)), (2, (.string (ByteArray.mk #[107]))), (3, (.string (ByteArray.mk #[98])))]) (cs := #[(.int .i64 1), (.int .u64 2), (.string (ByteArray.mk #[107])), (.string (ByteArray.mk #[98]))]) TyTC.z36 TyTC.pl36 rfl (by kernel_rfl)) ?_)
 refine lp rfl rfl (hn_buildSlice (n := 1) (vs := [(0, (.agg #[(.int .i64 1), (.int .u64 2), (.string (ByteArray.mk #[107])), (.string (ByteArray.mk #[98]))]))]) (cs := #[(.int .i64 1), (.int .u64 2), (.string (ByteArray.mk #[107])), (.string (ByteArray.mk #[98]))]) TyTC.u32 TyTC.sz36 TyTC.z36 rfl rfl (by kernel_rfl) ?_)
 intro a0 h2 a6 a4
 replace H := H a0 h2 a6 a4
 have b0 := ext_pushed_f29_sh a4
 refine lv rfl rfl (v := (.agg #[(.int .u64 2), (.slice (some ⟨a0, 0, none⟩) 1 1)])) (vb (vs := [(0, (.int .u64 2)), (1, (.slice (some ⟨a0, 0, none⟩) 1 1))]) (cs := #[(.int .u64 2), (.slice (some ⟨a0, 0, none⟩) 1 1)]) TyTC.z34 TyTC.pl34 rfl (by kernel_rfl)) ?_
 refine lp rfl rfl (hn_buildSlice (n := 2) (vs := [(0, (.agg #[(.int .u64 1), (.slice (some ⟨nb, 0, none⟩) 1 1)])), (1, (.agg #[(.int .u64 2), (.slice (some ⟨a0, 0, none⟩) 1 1)]))]) (cs := #[(.int .u64 1), (.slice (some ⟨nb, 0, none⟩) 1 1), (.int .u64 2), (.slice (some ⟨a0, 0, none⟩) 1 1)]) TyTC.u22 TyTC.sz34 TyTC.z34 rfl rfl (by kernel_rfl) ?_)
 intro a1 h3 a7 a3
 replace H := H a1 h3 a7 a3
 have a9 := ext_pushed_f29_sh a3
 refine lv rfl rfl (va rfl) ?_
 refine ln (qn (xt ?_))
 exact endQ_ret _ (res_one Try.results23 (rv_tmp rfl)) H
theorem f55_sh (a1 : Value) (a2 : Nat) (a3 : Nat) (h : Heap) (R : Value → Heap → Prop)
  (H : (∃ x : Option Nat, hcell h a2 a3 = some (.map x) ∧ (∃ a9 : Nat, x = some a9 ∧ ∃ kv : List (ByteArray × Value), MapL h a9 Value.string kv ∧ ∀ it h1, it = Array.size h → Ext h h1 → Array.size h1 = Array.size h + 1 → Itr h1 it a9 Value.string kv kv none → (∃ (I7 : Heap → Prop) (a8 : Heap → Nat), I7 h1 ∧ (∀ (h2 : Heap), I7 h2 → (∃ (mb : Nat) (b3 td : List (ByteArray × Value)) (cu : Option (ByteArray × Value)), Itr h2 it mb Value.string b3 td cu ∧ ∀ (a0 : Bool) h3 a4 a5, Only it h2 h3 → Itr h3 it mb Value.string b3 a4 a5 → Nx td a0 a4 a5 → ((a0 = true → (∃ (b4 : Nat) (b1 b2 : List (ByteArray × Value)) (q : ByteArray × Value), Itr h3 it b4 Value.string b1 b2 (some q) ∧ ∃ b0 : Int, (Prod.snd q) = (.int .u64 b0) ∧ HCV Try.prog a1 [(.string (Prod.fst q))] h3 (fun vv h4 => ∃ r : Bool, vv = (.bool r) ∧ (((!r) = true → R (.tuple #[]) h4) ∧ ((!r) = false → (I7 h4 ∧ a8 h4 < a8 h2)))))) ∧ (a0 = false → R (.tuple #[]) h3)))))))) :
  HC Try.prog 55 #[a1, (ptr a2 a3)] h R := by
 refine hc_of (args := [a1, (ptr a2 a3)]) Try.func55 rfl Try.ntmps55 (Nat.le_of_ble_eq_true rfl) ?_
 refine xs (xr ?_)
 obtain ⟨x, c4, H⟩ := H
 refine lv rfl rfl (vl TyTC.agg81 rfl c4) ?_
 obtain ⟨a9, c8, Hq⟩ := H
 subst c8
 have H := Hq; clear Hq
 obtain ⟨kv, c6, H⟩ := H
 refine lp rfl rfl (hn_rangeMap TyTC.u81 rfl c6 ?_)
 intro it h1 c5 d1 c7 d0
 replace H := H it h1 c5 d1 c7 d0
 refine ln (qn (xb ?_))
 obtain ⟨I7, a8, c9, c1⟩ := H
 refine xl (σ := Unit) (fun s => [(0, a1), (5, (ptr it 0))]) (fun s h' => I7 h' ∧ True) (fun s h' => a8 h') () ⟨c9, trivial⟩ (hc rfl (hc rfl hn)) ?_
 rintro _ ρ h2 ⟨b9, -⟩
 have H := c1 h2 b9
 refine xs (xr ?_)
 obtain ⟨mb, b3, td, cu, b6, H⟩ := H
 refine lp rfl rfl (hn_nextMap rfl b6 ?_)
 intro a0 d2 h3 a4 a5 c0 b8 c3 b5
 replace H := H a0 h3 a4 a5 b8 c3 b5
 refine lv rfl rfl (v := (.bool a0)) (hv_extOf rfl c0) ?_
 refine ln (qn (xs ?_))
 refine xc (b := a0) rfl (fun a6 => ?_) (fun a6 => ?_)
 ·replace H := H.1 a6
  refine xi (qn (xb (xs (xr ?_))))
  obtain ⟨b4, b1, b2, q, b7, b0, c2, H⟩ := H
  refine lv rfl rfl (v := (.tuple #[(.string (Prod.fst q)), (.int .u64 b0)])) (hv_entryMap rfl b7 rfl c2) (lv rfl rfl (vx rfl rfl) (lv rfl rfl (va rfl) ?_))
  refine ln (qn (xs (xr ?_)))
  refine lv rfl rfl (vm rfl) (lv rfl rfl (vm rfl) ?_)
  refine lp rfl rfl (hs_callF (vs := [(.string (Prod.fst q))]) rfl rfl (HCV.mono H ?_))
  rintro _ h4 ⟨r, rfl, H⟩
  refine lv rfl rfl (v := (.bool (!r))) (hv_not (b := r) rfl) ?_
  refine ln (qn ?_)
  refine xc (b := !r) rfl (fun a7 => ?_) (fun a7 => ?_)
  ·replace H := H.1 a7
   refine xt (br (qr (br ?_)))
   exact endQ_ret _ (res_none Try.results55 ) H
  ·replace H := H.2 a7
   refine xi (bn (qn ?_))
   exact ⟨(), ⟨⟨H.1, trivial⟩, H.2⟩, (hc rfl (hc rfl hn))⟩
 ·replace H := H.2 a6
  refine xe (qe (qe (bh ?_)))
  exact endQ_n _ (res_none Try.results55 ) H
theorem f59_sh (a3 : Value) (a6 : Nat) (a7 : Nat) (h : Heap) (R : Value → Heap → Prop)
  (H : (∃ x : Option Nat, hcell h a6 a7 = some (.map x) ∧ (∃ b3 : Nat, x = some b3 ∧ ∃ kv : List (ByteArray × Value), MapL h b3 Value.string kv ∧ ∀ it h1, it = Array.size h → Ext h h1 → Array.size h1 = Array.size h + 1 → Itr h1 it b3 Value.string kv kv none → (∃ (I7 : Heap → Prop) (b2 : Heap → Nat), I7 h1 ∧ (∀ (h2 : Heap), I7 h2 → (∃ (mb : Nat) (b6 td : List (ByteArray × Value)) (cu : Option (ByteArray × Value)), Itr h2 it mb Value.string b6 td cu ∧ ∀ (a2 : Bool) h3 a8 a9, Only it h2 h3 → Itr h3 it mb Value.string b6 a8 a9 → Nx td a2 a8 a9 → ((a2 = true → (∃ (b7 : Nat) (b4 b5 : List (ByteArray × Value)) (q : ByteArray × Value), Itr h3 it b7 Value.string b4 b5 (some q) ∧ ∃ a4 a0 : Int, ∃ a5 a1 : ByteArray, (Prod.snd q) = (.agg #[(.int .i64 a4), (.int .u64 a0), (.string a5), (.string a1)]) ∧ HCV Try.prog a3 [(.string (Prod.fst q))] h3 (fun vv h4 => ∃ r : Bool, vv = (.bool r) ∧ (((!r) = true → R (.tuple #[]) h4) ∧ ((!r) = false → (I7 h4 ∧ b2 h4 < b2 h2)))))) ∧ (a2 = false → R (.tuple #[]) h3)))))))) :
  HC Try.prog 59 #[a3, (ptr a6 a7)] h R := by
 refine hc_of (args := [a3, (ptr a6 a7)]) Try.func59 rfl Try.ntmps59 (Nat.le_of_ble_eq_true rfl) ?_
 refine xs (xr ?_)
 obtain ⟨x, c7, H⟩ := H
 refine lv rfl rfl (vl TyTC.agg92 rfl c7) ?_
 obtain ⟨b3, d0, Hq⟩ := H
 subst d0
 have H := Hq; clear Hq
 obtain ⟨kv, c9, H⟩ := H
 refine lp rfl rfl (hn_rangeMap TyTC.u92 rfl c9 ?_)
 intro it h1 c8 d2 d4 d3
 replace H := H it h1 c8 d2 d4 d3
 refine ln (qn (xb ?_))
 obtain ⟨I7, b2, d1, c4⟩ := H
 refine xl (σ := Unit) (fun s => [(0, a3), (5, (ptr it 0))]) (fun s h' => I7 h' ∧ True) (fun s h' => b2 h') () ⟨d1, trivial⟩ (hc rfl (hc rfl hn)) ?_
 rintro _ ρ h2 ⟨c3, -⟩
 have H := c4 h2 c3
 refine xs (xr ?_)
 obtain ⟨mb, b6, td, cu, b9, H⟩ := H
 refine lp rfl rfl (hn_nextMap rfl b9 ?_)
 intro a2 d5 h3 a8 a9 c2 c1 c6 b8
 replace H := H a2 h3 a8 a9 c1 c6 b8
 refine lv rfl rfl (v := (.bool a2)) (hv_extOf rfl c2) ?_
 refine ln (qn (xs ?_))
 refine xc (b := a2) rfl (fun b0 => ?_) (fun b0 => ?_)
 ·replace H := H.1 b0
  refine xi (qn (xb (xs (xr ?_))))
  obtain ⟨b7, b4, b5, q, c0, a4, a0, a5, a1, c5, H⟩ := H
  refine lv rfl rfl (v := (.tuple #[(.string (Prod.fst q)), (.agg #[(.int .i64 a4), (.int .u64 a0), (.string a5), (.string a1)])])) (hv_entryMap rfl c0 rfl c5) (lv rfl rfl (vx rfl rfl) (lv rfl rfl (va rfl) ?_))
  refine ln (qn (xs (xr ?_)))
  refine lv rfl rfl (vm rfl) (lv rfl rfl (vm rfl) ?_)
  refine lp rfl rfl (hs_callF (vs := [(.string (Prod.fst q))]) rfl rfl (HCV.mono H ?_))
  rintro _ h4 ⟨r, rfl, H⟩
  refine lv rfl rfl (v := (.bool (!r))) (hv_not (b := r) rfl) ?_
  refine ln (qn ?_)
  refine xc (b := !r) rfl (fun b1 => ?_) (fun b1 => ?_)
  ·replace H := H.1 b1
   refine xt (br (qr (br ?_)))
   exact endQ_ret _ (res_none Try.results59 ) H
  ·replace H := H.2 b1
   refine xi (bn (qn ?_))
   exact ⟨(), ⟨⟨H.1, trivial⟩, H.2⟩, (hc rfl (hc rfl hn))⟩
 ·replace H := H.2 b0
  refine xe (qe (qe (bh ?_)))
  exact endQ_n _ (res_none Try.results59 ) H
theorem f39_sh (m : Option Nat) (h : Heap) (R : Value → Heap → Prop)
  (H : (∀ a0 h1, a0 = Array.size h → h1 = Array.push h (.cells #[(.map m)] 81) → R (.func (.func 55) #[] #[(ptr a0 0)]) h1)) :
  HC Try.prog 39 #[(.map m)] h R := by
 refine hc_of (args := [(.map m)]) Try.func39 rfl Try.ntmps39 (Nat.le_of_ble_eq_true rfl) ?_
 refine xs (xr ?_)
 refine lp rfl rfl (hn_box (v := (.map m)) rfl ?_)
 intro a0 h1 a2 a1
 replace H := H a0 h1 a2 a1
 have a3 := ext_pushed_f29_sh a1
 refine lv rfl rfl (va rfl) ?_
 refine ln (qn (xs (xr ?_)))
 refine lv rfl rfl (v := (.func (.func 55) #[] #[(ptr a0 0)])) (hv_makeFunc (fv := []) (cv := [(ptr a0 0)]) rfl rfl) (lv rfl rfl (va rfl) ?_)
 refine ln (qn (xt ?_))
 exact endQ_ret _ (res_one Try.results39 (rv_tmp rfl)) H
theorem f48_sh (m : Option Nat) (h : Heap) (R : Value → Heap → Prop)
  (H : (∀ a0 h1, a0 = Array.size h → h1 = Array.push h (.cells #[(.map m)] 92) → R (.func (.func 59) #[] #[(ptr a0 0)]) h1)) :
  HC Try.prog 48 #[(.map m)] h R := by
 refine hc_of (args := [(.map m)]) Try.func48 rfl Try.ntmps48 (Nat.le_of_ble_eq_true rfl) ?_
 refine xs (xr ?_)
 refine lp rfl rfl (hn_box (v := (.map m)) rfl ?_)
 intro a0 h1 a2 a1
 replace H := H a0 h1 a2 a1
 have a3 := ext_pushed_f29_sh a1
 refine lv rfl rfl (va rfl) ?_
 refine ln (qn (xs (xr ?_)))
 refine lv rfl rfl (v := (.func (.func 59) #[] #[(ptr a0 0)])) (hv_makeFunc (fv := []) (cv := [(ptr a0 0)]) rfl rfl) (lv rfl rfl (va rfl) ?_)
 refine ln (qn (xt ?_))
 exact endQ_ret _ (res_one Try.results48 (rv_tmp rfl)) H
theorem f69_sh (sv : Option Addr) (b2 : Nat) (a9 : Nat) (b1 : Value) (h : Heap) (R : Value → Heap → Prop)
  (H : (∀ a1 h1, a1 = Array.size h → h1 = Array.push h (.cells #[(.slice sv b2 a9)] 82) → (∀ (a0 : LoopState → Option Code → Heap → Prop) (l : Nat) (h2 : Heap) (y : Value), (∀ s p h h', a0 s p h → h'[l]? = h[l]? → a0 s p h') → l = Array.size h1 + 1 → Ext h1 h2 → Array.size h2 = Array.size h1 + 2 → a0 .ready none h2 → (∀ (it : ByteArray) (h3 : Heap) (b3 : Value → Heap → Prop), a0 .ready none h3 → (a0 .ready none h3 ∧ ∀ h6, Only l h3 h6 → a0 .busy none h6 → (∃ x : Option Addr, ∃ b0 a8 : Nat, hcell h6 a1 0 = some (.slice x b0 a8) ∧ (∀ nb h7, nb = Array.size h6 → h7 = Array.push h6 (.cells #[(.string it)] 9) → HAppend Try.prog 82 82 (.slice x b0 a8) (.slice (some ⟨nb, 0, none⟩) 1 1) h7 (fun vv h8 => ∃ ap : Option Addr, ∃ a6 a5 : Nat, vv = (.slice ap a6 a5) ∧ (HW h8 a1 0 ∧ ∀ h9, h9 = hset h8 a1 0 (.slice ap a6 a5) → (a0 .busy none h9 ∧ ∀ b4, Only l h9 b4 → a0 .ready none b4 → b3 (.bool true) b4)))))) → HCV Try.prog y [(.string it)] h3 b3) → HCF Try.prog b1 [y] h2 (fun _ h4 => ∃ (st : LoopState) (a4 : Option Code), a0 st a4 h4 ∧ st ≠ .busy ∧ ∀ h5, Only l h4 h5 → a0 .exhausted a4 h5 → ((a4 = none ∧ (∃ a7 : Option Addr, ∃ a3 a2 : Nat, hcell h5 a1 0 = some (.slice a7 a3 a2) ∧ (∀ b8, Shut' (Array.size h) h5 b8 → R (.slice a7 a3 a2) b8)))))))) :
  HC Try.prog 69 #[(.slice sv b2 a9), b1] h R := by
 refine hc_ofM (args := [(.slice sv b2 a9), b1]) Try.func69 rfl Try.ntmps69 (Nat.le_of_ble_eq_true rfl) ?_
 refine xs (xr ?_)
 refine lp rfl rfl (hn_box (v := (.slice sv b2 a9)) rfl ?_)
 intro a1 h1 d3 b7
 replace H := H a1 h1 d3 b7
 have d7 := ext_pushed_f29_sh b7
 refine lv rfl rfl (va rfl) ?_
 refine ln (qn (xs (xs (xr ?_))))
 refine lv rfl rfl (vm rfl) ?_
 refine ln (qn (xb ?_))
 refine hx_range rfl rfl rfl (fun h2 l d2 d5 d4 d1 => ?_)
 refine HCF.mono (H (fun st p h => LoopAt h l _ _ _ _ _ st p) l h2 _ (fun s p h h' k e => k.same e) d2 d5 d4 d1 ?_) ?_
 ·intro it h3 b3 d0 H
  refine hcv_yield d0 rfl rfl ?_
  refine xr ?_
  refine lv rfl rfl (va rfl) ?_
  refine ln ?_
  obtain ⟨c0, H⟩ := H
  refine ⟨rfl, c0, ?_⟩
  intro h6 c5 c1
  replace H := H h6 c5 c1
  refine xb (xr ?_)
  obtain ⟨x, b0, a8, c9, H⟩ := H
  refine lv rfl rfl (vl TyTC.agg82 rfl c9) (lv rfl rfl (vm rfl) ?_)
  refine lp rfl rfl (hn_buildSlice (n := 1) (vs := [(0, (.string it))]) (cs := #[(.string it)]) TyTC.u82 TyTC.sz9 TyTC.z9 rfl rfl (by kernel_rfl) ?_)
  intro nb h7 c2 b5
  replace H := H nb h7 c2 b5
  have d6 := ext_pushed_f29_sh b5
  refine lp rfl rfl (hs_append rfl rfl (HAppend.mono H ?_))
  rintro _ h8 ⟨ap, a6, a5, rfl, H⟩
  obtain ⟨c3, H⟩ := H
  refine lp rfl rfl (hn_store (v := (.slice ap a6 a5)) rfl rfl TyTC.sz82 rfl c3 ?_)
  intro h9 c7
  replace H := H h9 c7
  refine ln (bn ?_)
  exact H
 ·rintro _ h4 ⟨st, a4, c4, b6, H⟩
  refine ⟨st, a4, c4, b6, ?_⟩
  intro h5 b9 c6
  replace H := H h5 b9 c6
  obtain ⟨rfl, H⟩ := H
  refine jumpQ_n ?_
  refine bn (qn (xs (xr ?_)))
  obtain ⟨a7, a3, a2, c8, H⟩ := H
  refine lv rfl rfl (vl TyTC.agg82 rfl c8) (lv rfl rfl (va rfl) ?_)
  refine ln (qn (xt ?_))
  exact endQM_ret _ (fun h' hs => ⟨res_one Try.results69 (rv_tmp rfl), H h' hs⟩)
theorem f53_sh (a0 : Value) (h : Heap) (R : Value → Heap → Prop)
  (H : HC Try.prog 69 #[(.slice none 0 0), a0] h (fun vv h1 => ∃ r : Option Addr, ∃ a2 a1 : Nat, vv = (.slice r a2 a1) ∧ R (.slice r a2 a1) h1)) :
  HC Try.prog 53 #[a0] h R := by
 refine hc_of (args := [a0]) Try.func53 rfl Try.ntmps53 (Nat.le_of_ble_eq_true rfl) ?_
 refine xs (xr ?_)
 refine lv rfl rfl (va rfl) ?_
 refine ln (qn (xs (xr ?_)))
 refine lv rfl rfl (vm rfl) ?_
 refine lp rfl rfl (sc TyTC.cb69 rfl (HC.mono H ?_))
 rintro _ h1 ⟨r, a2, a1, rfl, H⟩
 refine lv rfl rfl (va rfl) ?_
 refine ln (qn (xt ?_))
 exact endQ_ret _ (res_one Try.results53 (rv_tmp rfl)) H
theorem f38_sh (a2 : Value) (h : Heap) (R : Value → Heap → Prop)
  (H : HC Try.prog 53 #[a2] h (fun vv h1 => ∃ r : Option Addr, ∃ a1 a0 : Nat, vv = (.slice r a1 a0) ∧ HC Try.prog 54 #[(.slice r a1 a0)] h1 (fun vv h2 => vv = (.tuple #[]) ∧ R (.slice r a1 a0) h2))) :
  HC Try.prog 38 #[a2] h R := by
 refine hc_of (args := [a2]) Try.func38 rfl Try.ntmps38 (Nat.le_of_ble_eq_true rfl) ?_
 refine xs (xr ?_)
 refine lv rfl rfl (va rfl) ?_
 refine ln (qn (xs (xr ?_)))
 refine lv rfl rfl (vm rfl) ?_
 refine lp rfl rfl (sc TyTC.cb53 rfl (HC.mono H ?_))
 rintro _ h1 ⟨r, a1, a0, rfl, H⟩
 refine lv rfl rfl (va rfl) ?_
 refine ln (qn (xs (xr ?_)))
 refine lv rfl rfl (vm rfl) ?_
 refine lp rfl rfl (sc TyTC.cb54 rfl (HC.mono H ?_))
 rintro _ h2 ⟨rfl, H⟩
 refine ln (qn (xs (xr ?_)))
 refine lv rfl rfl (vm rfl) (lv rfl rfl (va rfl) ?_)
 refine ln (qn (xt ?_))
 exact endQ_ret _ (res_one Try.results38 (rv_tmp rfl)) H
theorem f29_sh (sv : Option Addr) (a2 : Nat) (a3 : Nat) (h : Heap) (R : Value → Heap → Prop)
  (H : ((sv.isNone = true → R (.slice none 0 0) h) ∧ (sv.isNone = false → (∀ nb h1, nb = Array.size h → h1 = Array.push h (.cells #[] 36) → HAppend Try.prog 32 32 (.slice (some ⟨nb, 0, none⟩) 0 0) (.slice sv a2 a3) h1 (fun vv h2 => ∃ ap : Option Addr, ∃ a0 a1 : Nat, vv = (.slice ap a0 a1) ∧ R (.slice ap a0 a1) h2))))) :
  HC Try.prog 29 #[(.slice sv a2 a3)] h R := by
 refine hc_of (args := [(.slice sv a2 a3)]) Try.func29 rfl Try.ntmps29 (Nat.le_of_ble_eq_true rfl) ?_
 refine xs (xr ?_)
 refine lv rfl rfl (va rfl) ?_
 refine ln (qn (xs (xs (xr ?_))))
 refine lv rfl rfl (vm rfl) (lv rfl rfl (v := (.bool sv.isNone)) (hv_sliceNil TyTC.u32 rfl rfl) ?_)
 refine ln (qn ?_)
 refine xc (b := sv.isNone) rfl (fun a4 => ?_) (fun a4 => ?_)
 ·replace H := H.1 a4
  refine xs (xr ?_)
  refine lv rfl rfl (va rfl) ?_
  refine ln (qn (xt (qr ?_)))
  exact endQ_ret _ (res_one Try.results29 (rv_tmp rfl)) H
 ·replace H := H.2 a4
  refine xi (qn (xs (xr ?_)))
  refine lp rfl rfl (hn_buildSlice (n := 0) (vs := []) (cs := #[]) TyTC.u32 TyTC.sz36 TyTC.z36 rfl rfl (by kernel_rfl) ?_)
  intro nb h1 a6 a5
  replace H := H nb h1 a6 a5
  have a7 := ext_pushed_f29_sh a5
  refine lv rfl rfl (vm rfl) ?_
  refine lp rfl rfl (hs_append rfl rfl (HAppend.mono H ?_))
  rintro _ h2 ⟨ap, a0, a1, rfl, H⟩
  refine lv rfl rfl (va rfl) ?_
  refine ln (qn (xt ?_))
  exact endQ_ret _ (res_one Try.results29 (rv_tmp rfl)) H
end Go.Proofs.Ytcdpapdefdnknaa
namespace Go.Proofs.Ytcdpapdefdnknaa
open Go
section
variable {P : Program} {ρ : Regs} {h : Heap} {d : Option Nat} {ty : TypeId} {p : String} {af : Array Edge} {g : Option (Nat × Bool)}
theorem hv_buildA {t e : TypeId} {n size : Nat} {ps : List (Nat × Operand)} {z : Value} {vs : List (Nat × Value)} {cs : Array Value} (hu : P.underlying t = some (.array n e)) (hz : zeroB P t z) (hs : szB P e = some size)
    (hv : (ps.map fun (i, x) => (i, ev ρ x)) = vs) (hf : Instr.fill (fun i => some (i * size, size)) z.cells vs = some cs) : HVal P ρ ⟨d, .build t ps.toArray, ty, p, af, g⟩ h (.agg cs) :=
  hv_of fun w _ => by
    have h3 : (ps.toArray.map fun (i, x) => (i, ev ρ x)) = vs.toArray := by rw [← hv]; simp
    simp only [execOp, h3, Instr.build, Sem.run_bind, run_zero hz, Result.andThen_ok, run_underlying hu, run_sizeOf hs, hf, Sem.run_pure]
theorem hv_indexV {t e : TypeId} {n : Nat} {x y : Operand} {cs : Array Value} {k : IntKind} {i : Int} {v : Value} (hu : P.underlying t = some (.array n e)) (hs : szB P e = some 1) (ha : aggB P e = some false) (hx : ev ρ x = .agg cs) (hy : ev ρ y = .int k i) (h0 : 0 ≤ i) (h1 : i < n) (hc : cs[i.toNat]? = some v) :
    HVal P ρ ⟨d, .index t x y, ty, p, af, g⟩ h v :=
  hv_of fun w _ => by
    simp [execOp, hx, hy, Instr.index, asIntOf, go_sem, run_underlying hu, h0, h1, run_sizeOf hs, run_isAgg ha, part, hc]
theorem hv_sliceA {t e : TypeId} {x : Operand} {lo hi : Option Operand} {size n b o : Nat} {q : Option Addr} {l r : Int} (ha : P.underlying t = some (.array n e)) (hz : szB P e = some size) (hx : ev ρ x = ptr b o)
    (hl : sliceLo ρ lo l) (hr : sliceHi ρ hi n r) (h0 : 0 ≤ l) (h1 : l ≤ r) (h2 : r ≤ n) (hq : q = slA (some ⟨b, o, none⟩) l.toNat size n) :
    HVal P ρ ⟨d, .slice t x lo hi none, ty, p, af, g⟩ h (.slice q (r.toNat - l.toNat) (n - l.toNat)) :=
  hv_of fun w _ => by
    have hb := run_bounds (P := P) (ρ := ρ) false n n lo hi l r w hl hr h0 h1 h2
    have hp : (Instr.sureAddr (ptr b o)).run P w = .ok ⟨b, o, none⟩ w := by simp [Instr.sureAddr, asAddr, ptr, go_sem]
    subst hq
    have e1 : (Instr.sliceAt t (ptr b o) (lo.map (ev ρ)) (hi.map (ev ρ)) none).run P w = .ok (.slice (slA (some ⟨b, o, none⟩) l.toNat size n) (r.toNat - l.toNat) (n - l.toNat)) w := by
      unfold Instr.sliceAt
      rw [Sem.run_bind, run_underlying ha, Result.andThen_ok]
      simp only [Sem.run_bind, hp, Result.andThen_ok, hb, run_sizeOf hz, Sem.run_pure, slA]
      split <;> rfl
    simp only [execOp, hx, Option.map_none, Sem.run_bind, e1, Result.andThen_ok, Sem.run_pure]
end
end Go.Proofs.Ytcdpapdefdnknaa
