import Derived.Test.YthjehlocmikchaaDoorDvDeq
import Derived.Test.YthjehlocmikchaaDoorDvDrw
import Derived.Test.YthjehlocmikchaaDoorDvRng
import Derived.Test.YthjehlocmikchaaDoorProg
namespace Go.Proofs.YthjehlocmikchaaDoor
open Go
open Go.Proofs.YthjehlocmikchaaDoor renaming hl_val → lv, hl_step → lp, hl_nil → ln, hl_yes → ly, hl_no → lo, hx_seq → xs, hx_region → xr, hx_cond → xc, hx_block → xb, hx_loopT → xl, hx_cut → xk, hx_has → xh, hx_skip → xi, hx_ret → xt, hx_exit → xe, seqQ_n → qn, seqQ_ret → qr, seqQ_exit → qe, blockQ_n → bn, blockQ_here → bh, hv_move → vm, hv_assign → va, hv_arith → vr, hv_load → vl, hv_index → vi, hp_pure → pp, hp_read → pr, hp_no → pn, has_cons → hc, has_nil → hn, hs_call → sc
set_option maxRecDepth 100000
set_option maxHeartbeats 4000000
theorem TyTS.agg3 : aggB Tryd.prog 3 = some false := by kernel_rfl
theorem TyTS.cb107 : CallB Tryd.prog 107 := fun _ _ => Tryd.call107 _ _
theorem TyTS.cb116 : CallB Tryd.prog 116 := fun _ _ => Tryd.call116 _ _
theorem TyTS.cb74 : CallB Tryd.prog 74 := fun _ _ => Tryd.call74 _ _
theorem TyTS.cb88 : CallB Tryd.prog 88 := fun _ _ => Tryd.call88 _ _
theorem TyTS.cb89 : CallB Tryd.prog 89 := fun _ _ => Tryd.call89 _ _
theorem TyTS.el71 : elB Tryd.prog 71 = some 1 := by kernel_rfl
theorem TyTS.mixed : Tryd.prog.follows .mixedOrders = true := by kernel_rfl
theorem TyTS.sz3 : szB Tryd.prog 3 = some 1 := by kernel_rfl
theorem TyTS.u122 : Tryd.prog.underlying 122 = some (.int .u64) := by kernel_rfl
theorem TyTS.u3 : Tryd.prog.underlying 3 = some (.int .i64) := by kernel_rfl
theorem TyTS.u71 : Tryd.prog.underlying 71 = some (.slice 3) := by kernel_rfl
theorem f74_sh (a4 : Option Addr) (a2 : Nat) (a1 : Nat) (n : Int) (a6 : Value) (h : Heap) (R : Value → Heap → Prop)
  (H : (∃ (I1 : Int → Int → Heap → Prop) (b5 : Int → Int → Heap → Nat), I1 0 20 h ∧ (∀ (a : Int) (b : Int) (h1 : Heap), I1 a b h1 → (((decide (b ≤ n)) = true → HC Tryd.prog 88 #[(.slice a4 a2 a1), (.int .i64 a), (.int .i64 b), a6] h1 (fun vv h2 => vv = (.tuple #[]) ∧ (I1 b (IntKind.i64.wrap (b + 20)) h2 ∧ b5 b (IntKind.i64.wrap (b + 20)) h2 < b5 a b h1))) ∧ ((decide (b ≤ n)) = false → HC Tryd.prog 88 #[(.slice a4 a2 a1), (.int .i64 a), (.int .i64 n), a6] h1 (fun vv h3 => vv = (.tuple #[]) ∧ (∃ (I7 : Int → Heap → Prop) (b6 : Int → Heap → Nat), I7 20 h3 ∧ (∀ (a0 : Int) (h4 : Heap), I7 a0 h4 → (((decide (a0 < n)) = true → (∃ (a9 : Int → Int → Heap → Prop) (a7 : Int → Int → Heap → Nat), a9 0 (IntKind.i64.wrap (2 * a0)) h4 ∧ (∀ (a3 : Int) (a5 : Int) (h5 : Heap), a9 a3 a5 h5 → (((decide (a5 ≤ n)) = true → HC Tryd.prog 89 #[(.slice a4 a2 a1), (.int .i64 a3), (.int .i64 (IntKind.i64.wrap (a3 + a0))), (.int .i64 a5), a6] h5 (fun vv h6 => vv = (.tuple #[]) ∧ (a9 a5 (IntKind.i64.wrap (a5 + (IntKind.i64.wrap (2 * a0)))) h6 ∧ a7 a5 (IntKind.i64.wrap (a5 + (IntKind.i64.wrap (2 * a0)))) h6 < a7 a3 a5 h5))) ∧ ((decide (a5 ≤ n)) = false → (∃ a8 : Heap → Prop, (((decide ((IntKind.i64.wrap (a3 + a0)) < n)) = true → HC Tryd.prog 89 #[(.slice a4 a2 a1), (.int .i64 a3), (.int .i64 (IntKind.i64.wrap (a3 + a0))), (.int .i64 n), a6] h5 (fun vv h8 => vv = (.tuple #[]) ∧ (a8 h8))) ∧ ((decide ((IntKind.i64.wrap (a3 + a0)) < n)) = false → (a8 h5))) ∧ (∀ (h7 : Heap), a8 h7 → (I7 (IntKind.i64.wrap (a0 * 2)) h7 ∧ b6 (IntKind.i64.wrap (a0 * 2)) h7 < b6 a0 h4)))))))) ∧ ((decide (a0 < n)) = false → R (.tuple #[]) h4)))))))))) :
  HC Tryd.prog 74 #[(.slice a4 a2 a1), (.int .i64 n), a6] h R := by
 refine hc_of (args := [(.slice a4 a2 a1), (.int .i64 n), a6]) Tryd.func74 rfl Tryd.ntmps74 (Nat.le_of_ble_eq_true rfl) ?_
 refine xs (xr ?_)
 refine lv rfl rfl (va rfl) ?_
 refine ln (qn (xs (xr ?_)))
 refine lv rfl rfl (vm rfl) (lv rfl rfl (va rfl) (lv rfl rfl (va rfl) ?_))
 refine ln (qn (xs (xb ?_)))
 obtain ⟨I1, b5, c7, c4⟩ := H
 refine xl (σ := Int × Int) (fun s => [(0, (.slice a4 a2 a1)), (1, (.int .i64 n)), (2, a6), (6, (.int .i64 20)), (7, (.int .i64 s.1)), (8, (.int .i64 s.2))]) (fun s h' => I1 s.1 s.2 h' ∧ True) (fun s h' => b5 s.1 s.2 h') (0, 20) ⟨c7, trivial⟩ (hc rfl (hc rfl (hc rfl (hc rfl (hc rfl (hc rfl hn)))))) ?_
 rintro ⟨a, b⟩ ρ h1 ⟨c5, -⟩
 have H := c4 a b h1 c5
 refine xs (xs (xr ?_))
 refine lv rfl rfl (vm rfl) (lv rfl rfl (vm rfl) (lv rfl rfl (vr rfl rfl rfl) ?_))
 refine ln (qn ?_)
 refine xc (b := decide (b ≤ n)) rfl (fun b7 => ?_) (fun b7 => ?_)
 ·replace H := H.1 b7
  refine xi (qn (xb (xs (xr ?_))))
  refine lv rfl rfl (vm rfl) (lv rfl rfl (vm rfl) (lv rfl rfl (vm rfl) (lv rfl rfl (vm rfl) ?_)))
  refine lp rfl rfl (sc TyTS.cb88 rfl (HC.mono H ?_))
  rintro _ h2 ⟨rfl, H⟩
  refine ln (qn (xs (xr ?_)))
  refine lv rfl rfl (vm rfl) (lv rfl rfl (va rfl) ?_)
  refine ln (qn (xr ?_))
  refine lv rfl rfl (vm rfl) (lv rfl rfl (vm rfl) (lv rfl rfl (vr rfl rfl rfl) (lv rfl rfl (va rfl) ?_)))
  refine ln (bn (qn ?_))
  exact ⟨(b, IntKind.i64.wrap (b + 20)), ⟨⟨H.1, trivial⟩, H.2⟩, (hc rfl (hc rfl (hc rfl (hc rfl (hc rfl (hc rfl hn))))))⟩
 ·replace H := H.2 b7
  refine xe (qe (qe (bh (qn (xs (xr ?_))))))
  refine lv rfl rfl (vm rfl) (lv rfl rfl (vm rfl) (lv rfl rfl (vm rfl) (lv rfl rfl (vm rfl) ?_)))
  refine lp rfl rfl (sc TyTS.cb88 rfl (HC.mono H ?_))
  rintro _ h3 ⟨rfl, H⟩
  refine ln (qn (xb ?_))
  obtain ⟨I7, b6, c6, b9⟩ := H
  refine xl (σ := Int) (fun s => [(0, (.slice a4 a2 a1)), (1, (.int .i64 n)), (2, a6), (6, (.int .i64 s))]) (fun s h' => I7 s h' ∧ True) (fun s h' => b6 s h') 20 ⟨c6, trivial⟩ (hc rfl (hc rfl (hc rfl (hc rfl hn)))) ?_
  rintro a0 ρ h4 ⟨c1, -⟩
  have H := b9 a0 h4 c1
  refine xs (xs (xr ?_))
  refine lv rfl rfl (vm rfl) (lv rfl rfl (vm rfl) (lv rfl rfl (vr rfl rfl rfl) ?_))
  refine ln (qn ?_)
  refine xc (b := decide (a0 < n)) rfl (fun b0 => ?_) (fun b0 => ?_)
  ·replace H := H.1 b0
   refine xi (qn (xb (xs (xr ?_))))
   refine lv rfl rfl (vm rfl) (lv rfl rfl (vr rfl rfl rfl) (lv rfl rfl (va rfl) (lv rfl rfl (va rfl) ?_)))
   refine ln (qn (xs (xb ?_)))
   obtain ⟨a9, a7, c3, c0⟩ := H
   refine xl (σ := Int × Int) (fun s => [(0, (.slice a4 a2 a1)), (1, (.int .i64 n)), (2, a6), (6, (.int .i64 a0)), (7, (.int .i64 s.1)), (8, (.int .i64 s.2))]) (fun s h' => a9 s.1 s.2 h' ∧ True) (fun s h' => a7 s.1 s.2 h') (0, IntKind.i64.wrap (2 * a0)) ⟨c3, trivial⟩ (hc rfl (hc rfl (hc rfl (hc rfl (hc rfl (hc rfl hn)))))) ?_
   rintro ⟨a3, a5⟩ ρ h5 ⟨c2, -⟩
   have H := c0 a3 a5 h5 c2
   refine xs (xs (xr ?_))
   refine lv rfl rfl (vm rfl) (lv rfl rfl (vm rfl) (lv rfl rfl (vr rfl rfl rfl) ?_))
   refine ln (qn ?_)
   refine xc (b := decide (a5 ≤ n)) rfl (fun b2 => ?_) (fun b2 => ?_)
   ·replace H := H.1 b2
    refine xi (qn (xb (xs (xr ?_))))
    refine lv rfl rfl (vm rfl) (lv rfl rfl (vm rfl) (lv rfl rfl (vm rfl) (lv rfl rfl (vm rfl) (lv rfl rfl (vr rfl rfl rfl) (lv rfl rfl (vm rfl) ?_)))))
    refine lv rfl rfl (vm rfl) ?_
    refine lp rfl rfl (sc TyTS.cb89 rfl (HC.mono H ?_))
    rintro _ h6 ⟨rfl, H⟩
    refine ln (qn (xs (xr ?_)))
    refine lv rfl rfl (vm rfl) (lv rfl rfl (va rfl) ?_)
    refine ln (qn (xr ?_))
    refine lv rfl rfl (vm rfl) (lv rfl rfl (vm rfl) (lv rfl rfl (vr rfl rfl rfl) (lv rfl rfl (vr rfl rfl rfl) (lv rfl rfl (va rfl) ?_))))
    refine ln (bn (qn ?_))
    exact ⟨(a5, IntKind.i64.wrap (a5 + (IntKind.i64.wrap (2 * a0)))), ⟨⟨H.1, trivial⟩, H.2⟩, (hc rfl (hc rfl (hc rfl (hc rfl (hc rfl (hc rfl hn))))))⟩
   ·replace H := H.2 b2
    refine xe (qe (qe (bh (qn ?_))))
    obtain ⟨a8, b3, b4⟩ := H
    refine xk (fun ρ h' => (a8 h' ∧ True) ∧ Has ρ [(0, (.slice a4 a2 a1)), (1, (.int .i64 n)), (2, a6), (6, (.int .i64 a0))]) ?_ ?_
    ·have H := b3; clear b3 b4
     refine xs (xr ?_)
     refine lv rfl rfl (vm rfl) (lv rfl rfl (vm rfl) (lv rfl rfl (vr rfl rfl rfl) (lv rfl rfl (va rfl) ?_)))
     refine ln (qn (xs (xr ?_)))
     refine lv rfl rfl (vm rfl) (lv rfl rfl (vm rfl) (lv rfl rfl (vr rfl rfl rfl) ?_))
     refine ln (qn ?_)
     refine xc (b := decide ((IntKind.i64.wrap (a3 + a0)) < n)) rfl (fun b1 => ?_) (fun b1 => ?_)
     ·replace H := H.1 b1
      refine xr ?_
      refine lv rfl rfl (vm rfl) (lv rfl rfl (vm rfl) (lv rfl rfl (vm rfl) (lv rfl rfl (vm rfl) (lv rfl rfl (vm rfl) ?_))))
      refine lp rfl rfl (sc TyTS.cb89 rfl (HC.mono H ?_))
      rintro _ h8 ⟨rfl, H⟩
      refine ln (qn ?_)
      exact ⟨⟨H, trivial⟩, (hc rfl (hc rfl (hc rfl (hc rfl hn))))⟩
     ·replace H := H.2 b1
      refine xi (qn ?_)
      exact ⟨⟨H, trivial⟩, (hc rfl (hc rfl (hc rfl (hc rfl hn))))⟩
    ·rintro ρ h7 ⟨⟨b8, -⟩, hH⟩
     have H := b4 h7 b8; clear b3 b4
     refine xh _ hH ?_
     refine xr ?_
     refine lv rfl rfl (vm rfl) (lv rfl rfl (vr rfl rfl rfl) (lv rfl rfl (va rfl) ?_))
     refine ln (bn (qn ?_))
     exact ⟨IntKind.i64.wrap (a0 * 2), ⟨⟨H.1, trivial⟩, H.2⟩, (hc rfl (hc rfl (hc rfl (hc rfl hn))))⟩
  ·replace H := H.2 b0
   refine xe (qe (qe (bh ?_)))
   exact endQ_n _ (res_none Tryd.results74 ) H
theorem f88_sh (a5 : Option Addr) (a3 : Nat) (a4 : Nat) (a : Int) (b : Int) (a9 : Value) (h : Heap) (R : Value → Heap → Prop)
  (H : (∃ (I1 : Int → Heap → Prop) (b7 : Int → Heap → Nat), I1 (IntKind.i64.wrap (a + 1)) h ∧ (∀ (i : Int) (h1 : Heap), I1 i h1 → (((decide (i < b)) = true → (∃ (I7 : Int → Heap → Prop) (b8 : Int → Heap → Nat), I7 i h1 ∧ (∀ (j : Int) (h2 : Heap), I7 j h2 → (∃ b0 : Bool → Heap → Prop, (((decide (j > a)) = true → (∃ a7 a6 : Nat, a5 = some ⟨a7, a6, none⟩ ∧ (0 : Int) ≤ j ∧ j < (a3 : Int) ∧ (∃ x : Int, hcell h2 a7 (a6 + (Int.toNat j) * 1) = some (.int .i64 x) ∧ ((0 : Int) ≤ IntKind.i64.wrap (j - 1) ∧ IntKind.i64.wrap (j - 1) < (a3 : Int) ∧ (∃ b3 : Int, hcell h2 a7 (a6 + (Int.toNat (IntKind.i64.wrap (j - 1))) * 1) = some (.int .i64 b3) ∧ HCV Tryd.prog a9 [(.int .i64 x), (.int .i64 b3)] h2 (fun vv h4 => ∃ r : Int, vv = (.int .i64 r) ∧ (b0 (decide (r < 0)) h4))))))) ∧ ((decide (j > a)) = false → (b0 false h2))) ∧ (∀ (a8 : Bool) (h3 : Heap), b0 a8 h3 → ((a8 = true → (∃ a2 a1 : Nat, a5 = some ⟨a2, a1, none⟩ ∧ (0 : Int) ≤ IntKind.i64.wrap (j - 1) ∧ IntKind.i64.wrap (j - 1) < (a3 : Int) ∧ (∃ b2 : Int, hcell h3 a2 (a1 + (Int.toNat (IntKind.i64.wrap (j - 1))) * 1) = some (.int .i64 b2) ∧ ((0 : Int) ≤ j ∧ j < (a3 : Int) ∧ (∃ b1 : Int, hcell h3 a2 (a1 + (Int.toNat j) * 1) = some (.int .i64 b1) ∧ (HW h3 a2 (a1 + (Int.toNat j) * 1) ∧ ∀ h5, h5 = hset h3 a2 (a1 + (Int.toNat j) * 1) (.int .i64 b2) → (HW h5 a2 (a1 + (Int.toNat (IntKind.i64.wrap (j - 1))) * 1) ∧ ∀ h6, h6 = hset h5 a2 (a1 + (Int.toNat (IntKind.i64.wrap (j - 1))) * 1) (.int .i64 b1) → (I7 (IntKind.i64.wrap (j - 1)) h6 ∧ b8 (IntKind.i64.wrap (j - 1)) h6 < b8 j h2)))))))) ∧ (a8 = false → (I1 (IntKind.i64.wrap (i + 1)) h3 ∧ b7 (IntKind.i64.wrap (i + 1)) h3 < b7 i h1)))))))) ∧ ((decide (i < b)) = false → R (.tuple #[]) h1))))) :
  HC Tryd.prog 88 #[(.slice a5 a3 a4), (.int .i64 a), (.int .i64 b), a9] h R := by
 refine hc_of (args := [(.slice a5 a3 a4), (.int .i64 a), (.int .i64 b), a9]) Tryd.func88 rfl Tryd.ntmps88 (Nat.le_of_ble_eq_true rfl) ?_
 refine xs (xr ?_)
 refine lv rfl rfl (vm rfl) (lv rfl rfl (vr rfl rfl rfl) (lv rfl rfl (va rfl) ?_))
 refine ln (qn (xb ?_))
 obtain ⟨I1, b7, e3, e0⟩ := H
 refine xl (σ := Int) (fun s => [(0, (.slice a5 a3 a4)), (1, (.int .i64 a)), (2, (.int .i64 b)), (3, a9), (8, (.int .i64 s))]) (fun s h' => I1 s h' ∧ True) (fun s h' => b7 s h') (IntKind.i64.wrap (a + 1)) ⟨e3, trivial⟩ (hc rfl (hc rfl (hc rfl (hc rfl (hc rfl hn))))) ?_
 rintro i ρ h1 ⟨e1, -⟩
 have H := e0 i h1 e1
 refine xs (xs (xr ?_))
 refine lv rfl rfl (vm rfl) (lv rfl rfl (vm rfl) (lv rfl rfl (vr rfl rfl rfl) ?_))
 refine ln (qn ?_)
 refine xc (b := decide (i < b)) rfl (fun c3 => ?_) (fun c3 => ?_)
 ·replace H := H.1 c3
  refine xi (qn (xs (xb (xs (xr ?_)))))
  refine lv rfl rfl (vm rfl) (lv rfl rfl (va rfl) ?_)
  refine ln (qn (xb ?_))
  obtain ⟨I7, b8, e2, c7⟩ := H
  refine xl (σ := Int) (fun s => [(0, (.slice a5 a3 a4)), (1, (.int .i64 a)), (2, (.int .i64 b)), (3, a9), (8, (.int .i64 i)), (9, (.int .i64 s))]) (fun s h' => I7 s h' ∧ True) (fun s h' => b8 s h') i ⟨e2, trivial⟩ (hc rfl (hc rfl (hc rfl (hc rfl (hc rfl (hc rfl hn)))))) ?_
  rintro j ρ h2 ⟨c9, -⟩
  have H := c7 j h2 c9
  refine xs ?_
  obtain ⟨b0, b6, b5⟩ := H
  refine xk (fun ρ h' => ∃ a8 : Bool, (b0 a8 h' ∧ True) ∧ Has ρ [(0, (.slice a5 a3 a4)), (1, (.int .i64 a)), (2, (.int .i64 b)), (3, a9), (8, (.int .i64 i)), (9, (.int .i64 j)), (34, (.bool a8))]) ?_ ?_
  ·have H := b6; clear b6 b5
   refine hx_draw TyTS.mixed [.pure, .pure, .pure, .pure, .pure, .pure, .pure, .pure, .read, .pure, .pure, .pure, .pure, .read, .wild, .pure, .pure] [0, 1, 2, 3, 4, 5, 6, 7, 8, 9, 10, 11, 12, 13, 14, 15, 16] (by kernel_rfl) ?_
   refine pp (i := 0) rfl (wanted_0 rfl) rfl (.int .i64 j) (fun _ => vm rfl) ?_
   refine pp (i := 1) rfl (wanted_0 rfl) rfl (.int .i64 a) (fun _ => vm rfl) ?_
   refine pp (i := 2) rfl (wanted_0 rfl) rfl (.bool (decide (j > a))) (fun _ => vr rfl rfl rfl) ?_
   refine pp (i := 3) rfl (wanted_0 rfl) rfl (.bool (decide (j > a))) (fun _ => vm rfl) ?_
   rcases bool_or (decide (j > a)) with a0 | a0
   ·replace H := H.1 a0
    refine pp (i := 4) rfl (wanted_y rfl rfl rfl a0) rfl a9 (fun _ => vm rfl) ?_
    refine pp (i := 5) rfl (wanted_y rfl rfl rfl a0) rfl (.slice a5 a3 a4) (fun _ => vm rfl) ?_
    refine pp (i := 6) rfl (wanted_y rfl rfl rfl a0) rfl (.int .i64 j) (fun _ => vm rfl) ?_
    obtain ⟨a7, a6, c1, c6, d8, Hq⟩ := H
    subst c1
    have H := Hq; clear Hq
    refine pp (i := 7) rfl (wanted_y rfl rfl rfl a0) rfl (ptr a7 (a6 + (Int.toNat j) * 1)) (fun _ => vi TyTS.el71 rfl rfl c6 d8) ?_
    obtain ⟨x, d7, H⟩ := H
    refine pr (i := 8) rfl (wanted_y rfl rfl rfl a0) rfl (.int .i64 x) (fun _ he => vl TyTS.agg3 rfl (Ext.cell he d7)) ?_
    refine pp (i := 9) rfl (wanted_y rfl rfl rfl a0) rfl (.slice (some ⟨a7, a6, none⟩) a3 a4) (fun _ => vm rfl) ?_
    refine pp (i := 10) rfl (wanted_y rfl rfl rfl a0) rfl (.int .i64 j) (fun _ => vm rfl) ?_
    refine pp (i := 11) rfl (wanted_y rfl rfl rfl a0) rfl (.int .i64 (IntKind.i64.wrap (j - 1))) (fun _ => vr rfl rfl rfl) ?_
    obtain ⟨d2, d3, H⟩ := H
    refine pp (i := 12) rfl (wanted_y rfl rfl rfl a0) rfl (ptr a7 (a6 + (Int.toNat (IntKind.i64.wrap (j - 1))) * 1)) (fun _ => vi TyTS.el71 rfl rfl d2 d3) ?_
    obtain ⟨b3, c8, H⟩ := H
    refine pr (i := 13) rfl (wanted_y rfl rfl rfl a0) rfl (.int .i64 b3) (fun _ he => vl TyTS.agg3 rfl (Ext.cell he c8)) ?_
    refine hp_wild (i := 14) rfl (wanted_y rfl rfl rfl a0) rfl (hs_callF (vs := [(.int .i64 x), (.int .i64 b3)]) rfl rfl (HCV.mono H ?_))
    rintro _ h4 ⟨r, rfl, H⟩
    refine pp (i := 15) rfl (wanted_y rfl rfl rfl a0) rfl (.bool (decide (r < 0))) (fun _ => vr rfl rfl rfl) ?_
    refine pp (i := 16) rfl (wanted_0 rfl) rfl (.bool (decide (r < 0))) (fun _ => hv_pick_t rfl a0 rfl) ?_
    refine hp_nil ?_
    refine qn ?_
    exact ⟨_, ⟨H, trivial⟩, (hc rfl (hc rfl (hc rfl (hc rfl (hc rfl (hc rfl (hc rfl hn)))))))⟩
   ·replace H := H.2 a0
    refine pn (i := 4) rfl (wanted_n rfl rfl rfl a0) ?_
    refine pn (i := 5) rfl (wanted_n rfl rfl rfl a0) ?_
    refine pn (i := 6) rfl (wanted_n rfl rfl rfl a0) ?_
    refine pn (i := 7) rfl (wanted_n rfl rfl rfl a0) ?_
    refine pn (i := 8) rfl (wanted_n rfl rfl rfl a0) ?_
    refine pn (i := 9) rfl (wanted_n rfl rfl rfl a0) ?_
    refine pn (i := 10) rfl (wanted_n rfl rfl rfl a0) ?_
    refine pn (i := 11) rfl (wanted_n rfl rfl rfl a0) ?_
    refine pn (i := 12) rfl (wanted_n rfl rfl rfl a0) ?_
    refine pn (i := 13) rfl (wanted_n rfl rfl rfl a0) ?_
    refine pn (i := 14) rfl (wanted_n rfl rfl rfl a0) ?_
    refine pn (i := 15) rfl (wanted_n rfl rfl rfl a0) ?_
    refine pp (i := 16) rfl (wanted_0 rfl) rfl (.bool false) (fun _ => hv_pick_f rfl a0 rfl) ?_
    refine hp_nil ?_
    refine qn ?_
    exact ⟨_, ⟨H, trivial⟩, (hc rfl (hc rfl (hc rfl (hc rfl (hc rfl (hc rfl (hc rfl hn)))))))⟩
  ·rintro ρ h3 ⟨a8, ⟨d5, -⟩, hH⟩
   have H := b5 a8 h3 d5; clear b6 b5
   refine xh _ hH ?_
   refine xc (b := a8) rfl (fun b4 => ?_) (fun b4 => ?_)
   ·replace H := H.1 b4
    refine xi (qn (xs (xb ?_)))
    refine hx_draw TyTS.mixed [.pure, .pure, .pure, .pure, .pure, .pure, .pure, .pure, .pure, .read, .pure, .pure, .pure, .read, .pure, .wild, .pure, .wild] [0, 1, 2, 3, 4, 5, 6, 7, 8, 9, 10, 11, 12, 13, 14, 15, 16, 17] (by kernel_rfl) ?_
    refine pp (i := 0) rfl (wanted_0 rfl) rfl (.slice a5 a3 a4) (fun _ => vm rfl) ?_
    refine pp (i := 1) rfl (wanted_0 rfl) rfl (.int .i64 j) (fun _ => vm rfl) ?_
    refine pp (i := 2) rfl (wanted_0 rfl) rfl (.slice a5 a3 a4) (fun _ => vm rfl) ?_
    refine pp (i := 3) rfl (wanted_0 rfl) rfl (.int .i64 j) (fun _ => vm rfl) ?_
    refine pp (i := 4) rfl (wanted_0 rfl) rfl (.int .i64 (IntKind.i64.wrap (j - 1))) (fun _ => vr rfl rfl rfl) ?_
    refine pp (i := 5) rfl (wanted_0 rfl) rfl (.slice a5 a3 a4) (fun _ => vm rfl) ?_
    refine pp (i := 6) rfl (wanted_0 rfl) rfl (.int .i64 j) (fun _ => vm rfl) ?_
    refine pp (i := 7) rfl (wanted_0 rfl) rfl (.int .i64 (IntKind.i64.wrap (j - 1))) (fun _ => vr rfl rfl rfl) ?_
    obtain ⟨a2, a1, c1, b9, c2, Hq⟩ := H
    subst c1
    have H := Hq; clear Hq
    refine pp (i := 8) rfl (wanted_0 rfl) rfl (ptr a2 (a1 + (Int.toNat (IntKind.i64.wrap (j - 1))) * 1)) (fun _ => vi TyTS.el71 rfl rfl b9 c2) ?_
    obtain ⟨b2, d1, H⟩ := H
    refine pr (i := 9) rfl (wanted_0 rfl) rfl (.int .i64 b2) (fun _ he => vl TyTS.agg3 rfl (Ext.cell he d1)) ?_
    refine pp (i := 10) rfl (wanted_0 rfl) rfl (.slice (some ⟨a2, a1, none⟩) a3 a4) (fun _ => vm rfl) ?_
    refine pp (i := 11) rfl (wanted_0 rfl) rfl (.int .i64 j) (fun _ => vm rfl) ?_
    obtain ⟨c4, c0, H⟩ := H
    refine pp (i := 12) rfl (wanted_0 rfl) rfl (ptr a2 (a1 + (Int.toNat j) * 1)) (fun _ => vi TyTS.el71 rfl rfl c4 c0) ?_
    obtain ⟨b1, d4, H⟩ := H
    refine pr (i := 13) rfl (wanted_0 rfl) rfl (.int .i64 b1) (fun _ he => vl TyTS.agg3 rfl (Ext.cell he d4)) ?_
    refine pp (i := 14) rfl (wanted_0 rfl) rfl (ptr a2 (a1 + (Int.toNat j) * 1)) (fun _ => vi TyTS.el71 rfl rfl c4 c0) ?_
    obtain ⟨d6, H⟩ := H
    refine hp_wild (i := 15) rfl (wanted_0 rfl) rfl (hn_store (v := (.int .i64 b2)) rfl rfl TyTS.sz3 rfl d6 ?_)
    intro h5 d0
    replace H := H h5 d0
    refine pp (i := 16) rfl (wanted_0 rfl) rfl (ptr a2 (a1 + (Int.toNat (IntKind.i64.wrap (j - 1))) * 1)) (fun _ => vi TyTS.el71 rfl rfl b9 c2) ?_
    obtain ⟨c5, H⟩ := H
    refine hp_wild (i := 17) rfl (wanted_0 rfl) rfl (hn_store (v := (.int .i64 b1)) rfl rfl TyTS.sz3 rfl c5 ?_)
    intro h6 d9
    replace H := H h6 d9
    refine hp_nil ?_
    refine bn (qn (xr ?_))
    refine lv rfl rfl (vm rfl) (lv rfl rfl (vr rfl rfl rfl) (lv rfl rfl (va rfl) ?_))
    refine ln (qn ?_)
    exact ⟨IntKind.i64.wrap (j - 1), ⟨⟨H.1, trivial⟩, H.2⟩, (hc rfl (hc rfl (hc rfl (hc rfl (hc rfl (hc rfl hn))))))⟩
   ·replace H := H.2 b4
    refine xe (qe (qe (bh (bn (qn (xr ?_))))))
    refine lv rfl rfl (vm rfl) (lv rfl rfl (vr rfl rfl rfl) (lv rfl rfl (va rfl) ?_))
    refine ln (qn ?_)
    exact ⟨IntKind.i64.wrap (i + 1), ⟨⟨H.1, trivial⟩, H.2⟩, (hc rfl (hc rfl (hc rfl (hc rfl (hc rfl hn)))))⟩
 ·replace H := H.2 c3
  refine xe (qe (qe (bh ?_)))
  exact endQ_n _ (res_none Tryd.results88 ) H
theorem f89_sh (a5 : Option Addr) (a3 : Nat) (a4 : Nat) (a : Int) (m : Int) (b : Int) (a8 : Value) (h : Heap) (R : Value → Heap → Prop)
  (H : ((((IntKind.i64.wrap (m - a)) == 1) = true → (∃ (I2 : Int → Int → Heap → Prop) (c2 : Int → Int → Heap → Nat), I2 m b h ∧ (∀ (i : Int) (j : Int) (h1 : Heap), I2 i j h1 → (((decide (i < j)) = true → (∃ a2 a1 : Nat, a5 = some ⟨a2, a1, none⟩ ∧ (0 : Int) ≤ IntKind.i64.wrap (Int.fdiv (IntKind.u64.wrap (IntKind.i64.wrap (i + j))) (2 ^ min (Int.toNat 1) 64)) ∧ IntKind.i64.wrap (Int.fdiv (IntKind.u64.wrap (IntKind.i64.wrap (i + j))) (2 ^ min (Int.toNat 1) 64)) < (a3 : Int) ∧ (∃ x : Int, hcell h1 a2 (a1 + (Int.toNat (IntKind.i64.wrap (Int.fdiv (IntKind.u64.wrap (IntKind.i64.wrap (i + j))) (2 ^ min (Int.toNat 1) 64)))) * 1) = some (.int .i64 x) ∧ ((0 : Int) ≤ a ∧ a < (a3 : Int) ∧ (∃ a7 : Int, hcell h1 a2 (a1 + (Int.toNat a) * 1) = some (.int .i64 a7) ∧ HCV Tryd.prog a8 [(.int .i64 x), (.int .i64 a7)] h1 (fun vv h2 => ∃ r : Int, vv = (.int .i64 r) ∧ (((decide (r < 0)) = true → (I2 (IntKind.i64.wrap ((IntKind.i64.wrap (Int.fdiv (IntKind.u64.wrap (IntKind.i64.wrap (i + j))) (2 ^ min (Int.toNat 1) 64))) + 1)) j h2 ∧ c2 (IntKind.i64.wrap ((IntKind.i64.wrap (Int.fdiv (IntKind.u64.wrap (IntKind.i64.wrap (i + j))) (2 ^ min (Int.toNat 1) 64))) + 1)) j h2 < c2 i j h1)) ∧ ((decide (r < 0)) = false → (I2 i (IntKind.i64.wrap (Int.fdiv (IntKind.u64.wrap (IntKind.i64.wrap (i + j))) (2 ^ min (Int.toNat 1) 64))) h2 ∧ c2 i (IntKind.i64.wrap (Int.fdiv (IntKind.u64.wrap (IntKind.i64.wrap (i + j))) (2 ^ min (Int.toNat 1) 64))) h2 < c2 i j h1))))))))) ∧ ((decide (i < j)) = false → (∃ (c9 : Int → Heap → Prop) (c4 : Int → Heap → Nat), c9 a h1 ∧ (∀ (k : Int) (h3 : Heap), c9 k h3 → (((decide (k < (IntKind.i64.wrap (i - 1)))) = true → (∃ a2 a1 : Nat, a5 = some ⟨a2, a1, none⟩ ∧ (0 : Int) ≤ IntKind.i64.wrap (k + 1) ∧ IntKind.i64.wrap (k + 1) < (a3 : Int) ∧ (∃ x : Int, hcell h3 a2 (a1 + (Int.toNat (IntKind.i64.wrap (k + 1))) * 1) = some (.int .i64 x) ∧ ((0 : Int) ≤ k ∧ k < (a3 : Int) ∧ (∃ a7 : Int, hcell h3 a2 (a1 + (Int.toNat k) * 1) = some (.int .i64 a7) ∧ (HW h3 a2 (a1 + (Int.toNat k) * 1) ∧ ∀ h4, h4 = hset h3 a2 (a1 + (Int.toNat k) * 1) (.int .i64 x) → (HW h4 a2 (a1 + (Int.toNat (IntKind.i64.wrap (k + 1))) * 1) ∧ ∀ h5, h5 = hset h4 a2 (a1 + (Int.toNat (IntKind.i64.wrap (k + 1))) * 1) (.int .i64 a7) → (c9 (IntKind.i64.wrap (k + 1)) h5 ∧ c4 (IntKind.i64.wrap (k + 1)) h5 < c4 k h3)))))))) ∧ ((decide (k < (IntKind.i64.wrap (i - 1)))) = false → R (.tuple #[]) h3))))))))) ∧ (((IntKind.i64.wrap (m - a)) == 1) = false → ((((IntKind.i64.wrap (b - m)) == 1) = true → (∃ (c3 : Int → Int → Heap → Prop) (b6 : Int → Int → Heap → Nat), c3 a m h ∧ (∀ (i : Int) (j : Int) (h6 : Heap), c3 i j h6 → (((decide (i < j)) = true → (∃ a2 a1 : Nat, a5 = some ⟨a2, a1, none⟩ ∧ (0 : Int) ≤ m ∧ m < (a3 : Int) ∧ (∃ x : Int, hcell h6 a2 (a1 + (Int.toNat m) * 1) = some (.int .i64 x) ∧ ((0 : Int) ≤ IntKind.i64.wrap (Int.fdiv (IntKind.u64.wrap (IntKind.i64.wrap (i + j))) (2 ^ min (Int.toNat 1) 64)) ∧ IntKind.i64.wrap (Int.fdiv (IntKind.u64.wrap (IntKind.i64.wrap (i + j))) (2 ^ min (Int.toNat 1) 64)) < (a3 : Int) ∧ (∃ a7 : Int, hcell h6 a2 (a1 + (Int.toNat (IntKind.i64.wrap (Int.fdiv (IntKind.u64.wrap (IntKind.i64.wrap (i + j))) (2 ^ min (Int.toNat 1) 64)))) * 1) = some (.int .i64 a7) ∧ HCV Tryd.prog a8 [(.int .i64 x), (.int .i64 a7)] h6 (fun vv h7 => ∃ r : Int, vv = (.int .i64 r) ∧ (((!(decide (r < 0))) = true → (c3 (IntKind.i64.wrap ((IntKind.i64.wrap (Int.fdiv (IntKind.u64.wrap (IntKind.i64.wrap (i + j))) (2 ^ min (Int.toNat 1) 64))) + 1)) j h7 ∧ b6 (IntKind.i64.wrap ((IntKind.i64.wrap (Int.fdiv (IntKind.u64.wrap (IntKind.i64.wrap (i + j))) (2 ^ min (Int.toNat 1) 64))) + 1)) j h7 < b6 i j h6)) ∧ ((!(decide (r < 0))) = false → (c3 i (IntKind.i64.wrap (Int.fdiv (IntKind.u64.wrap (IntKind.i64.wrap (i + j))) (2 ^ min (Int.toNat 1) 64))) h7 ∧ b6 i (IntKind.i64.wrap (Int.fdiv (IntKind.u64.wrap (IntKind.i64.wrap (i + j))) (2 ^ min (Int.toNat 1) 64))) h7 < b6 i j h6))))))))) ∧ ((decide (i < j)) = false → (∃ (d3 : Int → Heap → Prop) (c5 : Int → Heap → Nat), d3 m h6 ∧ (∀ (k : Int) (h8 : Heap), d3 k h8 → (((decide (k > i)) = true → (∃ a2 a1 : Nat, a5 = some ⟨a2, a1, none⟩ ∧ (0 : Int) ≤ IntKind.i64.wrap (k - 1) ∧ IntKind.i64.wrap (k - 1) < (a3 : Int) ∧ (∃ x : Int, hcell h8 a2 (a1 + (Int.toNat (IntKind.i64.wrap (k - 1))) * 1) = some (.int .i64 x) ∧ ((0 : Int) ≤ k ∧ k < (a3 : Int) ∧ (∃ a7 : Int, hcell h8 a2 (a1 + (Int.toNat k) * 1) = some (.int .i64 a7) ∧ (HW h8 a2 (a1 + (Int.toNat k) * 1) ∧ ∀ h9, h9 = hset h8 a2 (a1 + (Int.toNat k) * 1) (.int .i64 x) → (HW h9 a2 (a1 + (Int.toNat (IntKind.i64.wrap (k - 1))) * 1) ∧ ∀ d1, d1 = hset h9 a2 (a1 + (Int.toNat (IntKind.i64.wrap (k - 1))) * 1) (.int .i64 a7) → (d3 (IntKind.i64.wrap (k - 1)) d1 ∧ c5 (IntKind.i64.wrap (k - 1)) d1 < c5 k h8)))))))) ∧ ((decide (k > i)) = false → R (.tuple #[]) h8))))))))) ∧ (((IntKind.i64.wrap (b - m)) == 1) = false → (∀ b3 : Int, b3 = (bif decide (m > (IntKind.i64.wrap (Int.fdiv (IntKind.u64.wrap (IntKind.i64.wrap (a + b))) (2 ^ min (Int.toNat 1) 64)))) then IntKind.i64.wrap ((IntKind.i64.wrap ((IntKind.i64.wrap (Int.fdiv (IntKind.u64.wrap (IntKind.i64.wrap (a + b))) (2 ^ min (Int.toNat 1) 64))) + m)) - b) else a) → (∀ r : Int, r = (bif decide (m > (IntKind.i64.wrap (Int.fdiv (IntKind.u64.wrap (IntKind.i64.wrap (a + b))) (2 ^ min (Int.toNat 1) 64)))) then IntKind.i64.wrap (Int.fdiv (IntKind.u64.wrap (IntKind.i64.wrap (a + b))) (2 ^ min (Int.toNat 1) 64)) else m) → (∃ (c0 : Int → Int → Heap → Prop) (b7 : Int → Int → Heap → Nat), c0 b3 r h ∧ (∀ (a0 : Int) (a6 : Int) (b4 : Heap), c0 a0 a6 b4 → (((decide (a0 < a6)) = true → (∃ a2 a1 : Nat, a5 = some ⟨a2, a1, none⟩ ∧ (0 : Int) ≤ IntKind.i64.wrap ((IntKind.i64.wrap ((IntKind.i64.wrap ((IntKind.i64.wrap (Int.fdiv (IntKind.u64.wrap (IntKind.i64.wrap (a + b))) (2 ^ min (Int.toNat 1) 64))) + m)) - 1)) - (IntKind.i64.wrap (Int.fdiv (IntKind.u64.wrap (IntKind.i64.wrap (a0 + a6))) (2 ^ min (Int.toNat 1) 64)))) ∧ IntKind.i64.wrap ((IntKind.i64.wrap ((IntKind.i64.wrap ((IntKind.i64.wrap (Int.fdiv (IntKind.u64.wrap (IntKind.i64.wrap (a + b))) (2 ^ min (Int.toNat 1) 64))) + m)) - 1)) - (IntKind.i64.wrap (Int.fdiv (IntKind.u64.wrap (IntKind.i64.wrap (a0 + a6))) (2 ^ min (Int.toNat 1) 64)))) < (a3 : Int) ∧ (∃ x : Int, hcell b4 a2 (a1 + (Int.toNat (IntKind.i64.wrap ((IntKind.i64.wrap ((IntKind.i64.wrap ((IntKind.i64.wrap (Int.fdiv (IntKind.u64.wrap (IntKind.i64.wrap (a + b))) (2 ^ min (Int.toNat 1) 64))) + m)) - 1)) - (IntKind.i64.wrap (Int.fdiv (IntKind.u64.wrap (IntKind.i64.wrap (a0 + a6))) (2 ^ min (Int.toNat 1) 64)))))) * 1) = some (.int .i64 x) ∧ ((0 : Int) ≤ IntKind.i64.wrap (Int.fdiv (IntKind.u64.wrap (IntKind.i64.wrap (a0 + a6))) (2 ^ min (Int.toNat 1) 64)) ∧ IntKind.i64.wrap (Int.fdiv (IntKind.u64.wrap (IntKind.i64.wrap (a0 + a6))) (2 ^ min (Int.toNat 1) 64)) < (a3 : Int) ∧ (∃ a7 : Int, hcell b4 a2 (a1 + (Int.toNat (IntKind.i64.wrap (Int.fdiv (IntKind.u64.wrap (IntKind.i64.wrap (a0 + a6))) (2 ^ min (Int.toNat 1) 64)))) * 1) = some (.int .i64 a7) ∧ HCV Tryd.prog a8 [(.int .i64 x), (.int .i64 a7)] b4 (fun vv c8 => ∃ b8 : Int, vv = (.int .i64 b8) ∧ (((!(decide (b8 < 0))) = true → (c0 (IntKind.i64.wrap ((IntKind.i64.wrap (Int.fdiv (IntKind.u64.wrap (IntKind.i64.wrap (a0 + a6))) (2 ^ min (Int.toNat 1) 64))) + 1)) a6 c8 ∧ b7 (IntKind.i64.wrap ((IntKind.i64.wrap (Int.fdiv (IntKind.u64.wrap (IntKind.i64.wrap (a0 + a6))) (2 ^ min (Int.toNat 1) 64))) + 1)) a6 c8 < b7 a0 a6 b4)) ∧ ((!(decide (b8 < 0))) = false → (c0 a0 (IntKind.i64.wrap (Int.fdiv (IntKind.u64.wrap (IntKind.i64.wrap (a0 + a6))) (2 ^ min (Int.toNat 1) 64))) c8 ∧ b7 a0 (IntKind.i64.wrap (Int.fdiv (IntKind.u64.wrap (IntKind.i64.wrap (a0 + a6))) (2 ^ min (Int.toNat 1) 64))) c8 < b7 a0 a6 b4))))))))) ∧ ((decide (a0 < a6)) = false → (∃ d2 : Heap → Prop, ((((decide (a0 < m)) && (decide (m < (IntKind.i64.wrap ((IntKind.i64.wrap ((IntKind.i64.wrap (Int.fdiv (IntKind.u64.wrap (IntKind.i64.wrap (a + b))) (2 ^ min (Int.toNat 1) 64))) + m)) - a0))))) = true → HC Tryd.prog 107 #[(.slice a5 a3 a4), (.int .i64 a0), (.int .i64 m), (.int .i64 (IntKind.i64.wrap ((IntKind.i64.wrap ((IntKind.i64.wrap (Int.fdiv (IntKind.u64.wrap (IntKind.i64.wrap (a + b))) (2 ^ min (Int.toNat 1) 64))) + m)) - a0))), a8] b4 (fun vv f8 => vv = (.tuple #[]) ∧ (d2 f8))) ∧ (((decide (a0 < m)) && (decide (m < (IntKind.i64.wrap ((IntKind.i64.wrap ((IntKind.i64.wrap (Int.fdiv (IntKind.u64.wrap (IntKind.i64.wrap (a + b))) (2 ^ min (Int.toNat 1) 64))) + m)) - a0))))) = false → (d2 b4))) ∧ (∀ (b9 : Heap), d2 b9 → (∃ d0 : Heap → Prop, ((((decide (a < a0)) && (decide (a0 < (IntKind.i64.wrap (Int.fdiv (IntKind.u64.wrap (IntKind.i64.wrap (a + b))) (2 ^ min (Int.toNat 1) 64)))))) = true → HC Tryd.prog 89 #[(.slice a5 a3 a4), (.int .i64 a), (.int .i64 a0), (.int .i64 (IntKind.i64.wrap (Int.fdiv (IntKind.u64.wrap (IntKind.i64.wrap (a + b))) (2 ^ min (Int.toNat 1) 64)))), a8] b9 (fun vv f7 => vv = (.tuple #[]) ∧ (d0 f7))) ∧ (((decide (a < a0)) && (decide (a0 < (IntKind.i64.wrap (Int.fdiv (IntKind.u64.wrap (IntKind.i64.wrap (a + b))) (2 ^ min (Int.toNat 1) 64)))))) = false → (d0 b9))) ∧ (∀ (c1 : Heap), d0 c1 → ((((decide ((IntKind.i64.wrap (Int.fdiv (IntKind.u64.wrap (IntKind.i64.wrap (a + b))) (2 ^ min (Int.toNat 1) 64))) < (IntKind.i64.wrap ((IntKind.i64.wrap ((IntKind.i64.wrap (Int.fdiv (IntKind.u64.wrap (IntKind.i64.wrap (a + b))) (2 ^ min (Int.toNat 1) 64))) + m)) - a0)))) && (decide ((IntKind.i64.wrap ((IntKind.i64.wrap ((IntKind.i64.wrap (Int.fdiv (IntKind.u64.wrap (IntKind.i64.wrap (a + b))) (2 ^ min (Int.toNat 1) 64))) + m)) - a0)) < b))) = true → HC Tryd.prog 89 #[(.slice a5 a3 a4), (.int .i64 (IntKind.i64.wrap (Int.fdiv (IntKind.u64.wrap (IntKind.i64.wrap (a + b))) (2 ^ min (Int.toNat 1) 64)))), (.int .i64 (IntKind.i64.wrap ((IntKind.i64.wrap ((IntKind.i64.wrap (Int.fdiv (IntKind.u64.wrap (IntKind.i64.wrap (a + b))) (2 ^ min (Int.toNat 1) 64))) + m)) - a0))), (.int .i64 b), a8] c1 (fun vv f9 => vv = (.tuple #[]) ∧ R (.tuple #[]) f9)) ∧ (((decide ((IntKind.i64.wrap (Int.fdiv (IntKind.u64.wrap (IntKind.i64.wrap (a + b))) (2 ^ min (Int.toNat 1) 64))) < (IntKind.i64.wrap ((IntKind.i64.wrap ((IntKind.i64.wrap (Int.fdiv (IntKind.u64.wrap (IntKind.i64.wrap (a + b))) (2 ^ min (Int.toNat 1) 64))) + m)) - a0)))) && (decide ((IntKind.i64.wrap ((IntKind.i64.wrap ((IntKind.i64.wrap (Int.fdiv (IntKind.u64.wrap (IntKind.i64.wrap (a + b))) (2 ^ min (Int.toNat 1) 64))) + m)) - a0)) < b))) = false → R (.tuple #[]) c1))))))))))))))))) :
  HC Tryd.prog 89 #[(.slice a5 a3 a4), (.int .i64 a), (.int .i64 m), (.int .i64 b), a8] h R := by
 refine hc_of (args := [(.slice a5 a3 a4), (.int .i64 a), (.int .i64 m), (.int .i64 b), a8]) Tryd.func89 rfl Tryd.ntmps89 (Nat.le_of_ble_eq_true rfl) ?_
 refine xs (xs (xr ?_))
 refine lv rfl rfl (vm rfl) (lv rfl rfl (vm rfl) (lv rfl rfl (vr rfl rfl rfl) (lv rfl rfl (vr rfl rfl rfl) ?_)))
 refine ln (qn ?_)
 refine xc (b := (IntKind.i64.wrap (m - a)) == 1) rfl (fun e9 => ?_) (fun e9 => ?_)
 ·replace H := H.1 e9
  refine xs (xr ?_)
  refine lv rfl rfl (vm rfl) (lv rfl rfl (va rfl) ?_)
  refine ln (qn (xs (xr ?_)))
  refine lv rfl rfl (vm rfl) (lv rfl rfl (va rfl) ?_)
  refine ln (qn (xs (xb ?_)))
  obtain ⟨I2, c2, l6, l3⟩ := H
  refine xl (σ := Int × Int) (fun s => [(0, (.slice a5 a3 a4)), (1, (.int .i64 a)), (4, a8), (10, (.int .i64 s.1)), (11, (.int .i64 s.2))]) (fun s h' => I2 s.1 s.2 h' ∧ True) (fun s h' => c2 s.1 s.2 h') (m, b) ⟨l6, trivial⟩ (hc rfl (hc rfl (hc rfl (hc rfl (hc rfl hn))))) ?_
  rintro ⟨i, j⟩ ρ h1 ⟨l4, -⟩
  have H := l3 i j h1 l4
  refine xs (xs (xr ?_))
  refine lv rfl rfl (vm rfl) (lv rfl rfl (vm rfl) (lv rfl rfl (vr rfl rfl rfl) ?_))
  refine ln (qn ?_)
  refine xc (b := decide (i < j)) rfl (fun e8 => ?_) (fun e8 => ?_)
  ·replace H := H.1 e8
   refine xi (qn (xb (xs (xr ?_))))
   refine lv rfl rfl (vm rfl) (lv rfl rfl (vm rfl) (lv rfl rfl (vr rfl rfl rfl) (lv rfl rfl (v := (.int .u64 (IntKind.u64.wrap (IntKind.i64.wrap (i + j))))) (hv_convInt TyTS.u3 TyTS.u122 rfl) (lv rfl rfl (v := (.int .u64 (Int.fdiv (IntKind.u64.wrap (IntKind.i64.wrap (i + j))) (2 ^ min (Int.toNat 1) 64)))) (hv_shift rfl rfl (by decide) rfl) (lv rfl rfl (v := (.int .i64 (IntKind.i64.wrap (Int.fdiv (IntKind.u64.wrap (IntKind.i64.wrap (i + j))) (2 ^ min (Int.toNat 1) 64))))) (hv_convInt TyTS.u122 TyTS.u3 rfl) ?_)))))
   refine lv rfl rfl (va rfl) ?_
   refine ln (qn (xs ?_))
   refine hx_draw TyTS.mixed [.pure, .pure, .pure, .pure, .read, .pure, .pure, .pure, .read, .wild, .pure] [0, 1, 2, 3, 4, 5, 6, 7, 8, 9, 10] (by kernel_rfl) ?_
   refine pp (i := 0) rfl (wanted_0 rfl) rfl a8 (fun _ => vm rfl) ?_
   refine pp (i := 1) rfl (wanted_0 rfl) rfl (.slice a5 a3 a4) (fun _ => vm rfl) ?_
   refine pp (i := 2) rfl (wanted_0 rfl) rfl (.int .i64 (IntKind.i64.wrap (Int.fdiv (IntKind.u64.wrap (IntKind.i64.wrap (i + j))) (2 ^ min (Int.toNat 1) 64)))) (fun _ => vm rfl) ?_
   obtain ⟨a2, a1, b5, l5, l2, Hq⟩ := H
   subst b5
   have H := Hq; clear Hq
   refine pp (i := 3) rfl (wanted_0 rfl) rfl (ptr a2 (a1 + (Int.toNat (IntKind.i64.wrap (Int.fdiv (IntKind.u64.wrap (IntKind.i64.wrap (i + j))) (2 ^ min (Int.toNat 1) 64)))) * 1)) (fun _ => vi TyTS.el71 rfl rfl l5 l2) ?_
   obtain ⟨x, k6, H⟩ := H
   refine pr (i := 4) rfl (wanted_0 rfl) rfl (.int .i64 x) (fun _ he => vl TyTS.agg3 rfl (Ext.cell he k6)) ?_
   refine pp (i := 5) rfl (wanted_0 rfl) rfl (.slice (some ⟨a2, a1, none⟩) a3 a4) (fun _ => vm rfl) ?_
   refine pp (i := 6) rfl (wanted_0 rfl) rfl (.int .i64 a) (fun _ => vm rfl) ?_
   obtain ⟨g9, j4, H⟩ := H
   refine pp (i := 7) rfl (wanted_0 rfl) rfl (ptr a2 (a1 + (Int.toNat a) * 1)) (fun _ => vi TyTS.el71 rfl rfl g9 j4) ?_
   obtain ⟨a7, g0, H⟩ := H
   refine pr (i := 8) rfl (wanted_0 rfl) rfl (.int .i64 a7) (fun _ he => vl TyTS.agg3 rfl (Ext.cell he g0)) ?_
   refine hp_wild (i := 9) rfl (wanted_0 rfl) rfl (hs_callF (vs := [(.int .i64 x), (.int .i64 a7)]) rfl rfl (HCV.mono H ?_))
   rintro _ h2 ⟨r, rfl, H⟩
   refine pp (i := 10) rfl (wanted_0 rfl) rfl (.bool (decide (r < 0))) (fun _ => vr rfl rfl rfl) ?_
   refine hp_nil ?_
   refine qn ?_
   refine xc (b := decide (r < 0)) rfl (fun d8 => ?_) (fun d8 => ?_)
   ·replace H := H.1 d8
    refine xr ?_
    refine lv rfl rfl (vm rfl) (lv rfl rfl (vr rfl rfl rfl) (lv rfl rfl (va rfl) ?_))
    refine ln (bn (qn ?_))
    exact ⟨(IntKind.i64.wrap ((IntKind.i64.wrap (Int.fdiv (IntKind.u64.wrap (IntKind.i64.wrap (i + j))) (2 ^ min (Int.toNat 1) 64))) + 1), j), ⟨⟨H.1, trivial⟩, H.2⟩, (hc rfl (hc rfl (hc rfl (hc rfl (hc rfl hn)))))⟩
   ·replace H := H.2 d8
    refine xr ?_
    refine lv rfl rfl (vm rfl) (lv rfl rfl (va rfl) ?_)
    refine ln (bn (qn ?_))
    exact ⟨(i, IntKind.i64.wrap (Int.fdiv (IntKind.u64.wrap (IntKind.i64.wrap (i + j))) (2 ^ min (Int.toNat 1) 64))), ⟨⟨H.1, trivial⟩, H.2⟩, (hc rfl (hc rfl (hc rfl (hc rfl (hc rfl hn)))))⟩
  ·replace H := H.2 e8
   refine xe (qe (qe (bh (qn (xs (xs (xr ?_)))))))
   refine lv rfl rfl (vm rfl) (lv rfl rfl (va rfl) ?_)
   refine ln (qn (xb ?_))
   obtain ⟨c9, c4, i4, j0⟩ := H
   refine xl (σ := Int) (fun s => [(0, (.slice a5 a3 a4)), (10, (.int .i64 i)), (13, (.int .i64 s))]) (fun s h' => c9 s h' ∧ True) (fun s h' => c4 s h') a ⟨i4, trivial⟩ (hc rfl (hc rfl (hc rfl hn))) ?_
   rintro k ρ h3 ⟨i3, -⟩
   have H := j0 k h3 i3
   refine xs (xs (xr ?_))
   refine lv rfl rfl (vm rfl) (lv rfl rfl (vm rfl) (lv rfl rfl (vr rfl rfl rfl) (lv rfl rfl (vr rfl rfl rfl) ?_)))
   refine ln (qn ?_)
   refine xc (b := decide (k < (IntKind.i64.wrap (i - 1)))) rfl (fun d7 => ?_) (fun d7 => ?_)
   ·replace H := H.1 d7
    refine xi (qn (xs (xb ?_)))
    refine hx_draw TyTS.mixed [.pure, .pure, .pure, .pure, .pure, .pure, .pure, .pure, .pure, .read, .pure, .pure, .pure, .read, .pure, .wild, .pure, .wild] [0, 1, 2, 3, 4, 5, 6, 7, 8, 9, 10, 11, 12, 13, 14, 15, 16, 17] (by kernel_rfl) ?_
    refine pp (i := 0) rfl (wanted_0 rfl) rfl (.slice a5 a3 a4) (fun _ => vm rfl) ?_
    refine pp (i := 1) rfl (wanted_0 rfl) rfl (.int .i64 k) (fun _ => vm rfl) ?_
    refine pp (i := 2) rfl (wanted_0 rfl) rfl (.slice a5 a3 a4) (fun _ => vm rfl) ?_
    refine pp (i := 3) rfl (wanted_0 rfl) rfl (.int .i64 k) (fun _ => vm rfl) ?_
    refine pp (i := 4) rfl (wanted_0 rfl) rfl (.int .i64 (IntKind.i64.wrap (k + 1))) (fun _ => vr rfl rfl rfl) ?_
    refine pp (i := 5) rfl (wanted_0 rfl) rfl (.slice a5 a3 a4) (fun _ => vm rfl) ?_
    refine pp (i := 6) rfl (wanted_0 rfl) rfl (.int .i64 k) (fun _ => vm rfl) ?_
    refine pp (i := 7) rfl (wanted_0 rfl) rfl (.int .i64 (IntKind.i64.wrap (k + 1))) (fun _ => vr rfl rfl rfl) ?_
    obtain ⟨a2, a1, b5, f5, e7, Hq⟩ := H
    subst b5
    have H := Hq; clear Hq
    refine pp (i := 8) rfl (wanted_0 rfl) rfl (ptr a2 (a1 + (Int.toNat (IntKind.i64.wrap (k + 1))) * 1)) (fun _ => vi TyTS.el71 rfl rfl f5 e7) ?_
    obtain ⟨x, k0, H⟩ := H
    refine pr (i := 9) rfl (wanted_0 rfl) rfl (.int .i64 x) (fun _ he => vl TyTS.agg3 rfl (Ext.cell he k0)) ?_
    refine pp (i := 10) rfl (wanted_0 rfl) rfl (.slice (some ⟨a2, a1, none⟩) a3 a4) (fun _ => vm rfl) ?_
    refine pp (i := 11) rfl (wanted_0 rfl) rfl (.int .i64 k) (fun _ => vm rfl) ?_
    obtain ⟨f2, f4, H⟩ := H
    refine pp (i := 12) rfl (wanted_0 rfl) rfl (ptr a2 (a1 + (Int.toNat k) * 1)) (fun _ => vi TyTS.el71 rfl rfl f2 f4) ?_
    obtain ⟨a7, g8, H⟩ := H
    refine pr (i := 13) rfl (wanted_0 rfl) rfl (.int .i64 a7) (fun _ he => vl TyTS.agg3 rfl (Ext.cell he g8)) ?_
    refine pp (i := 14) rfl (wanted_0 rfl) rfl (ptr a2 (a1 + (Int.toNat k) * 1)) (fun _ => vi TyTS.el71 rfl rfl f2 f4) ?_
    obtain ⟨i8, H⟩ := H
    refine hp_wild (i := 15) rfl (wanted_0 rfl) rfl (hn_store (v := (.int .i64 x)) rfl rfl TyTS.sz3 rfl i8 ?_)
    intro h4 j9
    replace H := H h4 j9
    refine pp (i := 16) rfl (wanted_0 rfl) rfl (ptr a2 (a1 + (Int.toNat (IntKind.i64.wrap (k + 1))) * 1)) (fun _ => vi TyTS.el71 rfl rfl f5 e7) ?_
    obtain ⟨j3, H⟩ := H
    refine hp_wild (i := 17) rfl (wanted_0 rfl) rfl (hn_store (v := (.int .i64 a7)) rfl rfl TyTS.sz3 rfl j3 ?_)
    intro h5 j2
    replace H := H h5 j2
    refine hp_nil ?_
    refine bn (qn (xr ?_))
    refine lv rfl rfl (vm rfl) (lv rfl rfl (vr rfl rfl rfl) (lv rfl rfl (va rfl) ?_))
    refine ln (qn ?_)
    exact ⟨IntKind.i64.wrap (k + 1), ⟨⟨H.1, trivial⟩, H.2⟩, (hc rfl (hc rfl (hc rfl hn)))⟩
   ·replace H := H.2 d7
    refine xe (qe (qe (bh (qn (xt (qr ?_))))))
    exact endQ_ret _ (res_none Tryd.results89 ) H
 ·replace H := H.2 e9
  refine xi (qn (xs (xs (xr ?_))))
  refine lv rfl rfl (vm rfl) (lv rfl rfl (vm rfl) (lv rfl rfl (vr rfl rfl rfl) (lv rfl rfl (vr rfl rfl rfl) ?_)))
  refine ln (qn ?_)
  refine xc (b := (IntKind.i64.wrap (b - m)) == 1) rfl (fun e2 => ?_) (fun e2 => ?_)
  ·replace H := H.1 e2
   refine xs (xr ?_)
   refine lv rfl rfl (vm rfl) (lv rfl rfl (va rfl) ?_)
   refine ln (qn (xs (xr ?_)))
   refine lv rfl rfl (vm rfl) (lv rfl rfl (va rfl) ?_)
   refine ln (qn (xs (xb ?_)))
   obtain ⟨c3, b6, i7, k3⟩ := H
   refine xl (σ := Int × Int) (fun s => [(0, (.slice a5 a3 a4)), (2, (.int .i64 m)), (4, a8), (14, (.int .i64 s.1)), (15, (.int .i64 s.2))]) (fun s h' => c3 s.1 s.2 h' ∧ True) (fun s h' => b6 s.1 s.2 h') (a, m) ⟨i7, trivial⟩ (hc rfl (hc rfl (hc rfl (hc rfl (hc rfl hn))))) ?_
   rintro ⟨i, j⟩ ρ h6 ⟨k2, -⟩
   have H := k3 i j h6 k2
   refine xs (xs (xr ?_))
   refine lv rfl rfl (vm rfl) (lv rfl rfl (vm rfl) (lv rfl rfl (vr rfl rfl rfl) ?_))
   refine ln (qn ?_)
   refine xc (b := decide (i < j)) rfl (fun d6 => ?_) (fun d6 => ?_)
   ·replace H := H.1 d6
    refine xi (qn (xb (xs (xr ?_))))
    refine lv rfl rfl (vm rfl) (lv rfl rfl (vm rfl) (lv rfl rfl (vr rfl rfl rfl) (lv rfl rfl (v := (.int .u64 (IntKind.u64.wrap (IntKind.i64.wrap (i + j))))) (hv_convInt TyTS.u3 TyTS.u122 rfl) (lv rfl rfl (v := (.int .u64 (Int.fdiv (IntKind.u64.wrap (IntKind.i64.wrap (i + j))) (2 ^ min (Int.toNat 1) 64)))) (hv_shift rfl rfl (by decide) rfl) (lv rfl rfl (v := (.int .i64 (IntKind.i64.wrap (Int.fdiv (IntKind.u64.wrap (IntKind.i64.wrap (i + j))) (2 ^ min (Int.toNat 1) 64))))) (hv_convInt TyTS.u122 TyTS.u3 rfl) ?_)))))
    refine lv rfl rfl (va rfl) ?_
    refine ln (qn (xs ?_))
    refine hx_draw TyTS.mixed [.pure, .pure, .pure, .pure, .read, .pure, .pure, .pure, .read, .wild, .pure, .pure] [0, 1, 2, 3, 4, 5, 6, 7, 8, 9, 10, 11] (by kernel_rfl) ?_
    refine pp (i := 0) rfl (wanted_0 rfl) rfl a8 (fun _ => vm rfl) ?_
    refine pp (i := 1) rfl (wanted_0 rfl) rfl (.slice a5 a3 a4) (fun _ => vm rfl) ?_
    refine pp (i := 2) rfl (wanted_0 rfl) rfl (.int .i64 m) (fun _ => vm rfl) ?_
    obtain ⟨a2, a1, b5, k8, i9, Hq⟩ := H
    subst b5
    have H := Hq; clear Hq
    refine pp (i := 3) rfl (wanted_0 rfl) rfl (ptr a2 (a1 + (Int.toNat m) * 1)) (fun _ => vi TyTS.el71 rfl rfl k8 i9) ?_
    obtain ⟨x, i0, H⟩ := H
    refine pr (i := 4) rfl (wanted_0 rfl) rfl (.int .i64 x) (fun _ he => vl TyTS.agg3 rfl (Ext.cell he i0)) ?_
    refine pp (i := 5) rfl (wanted_0 rfl) rfl (.slice (some ⟨a2, a1, none⟩) a3 a4) (fun _ => vm rfl) ?_
    refine pp (i := 6) rfl (wanted_0 rfl) rfl (.int .i64 (IntKind.i64.wrap (Int.fdiv (IntKind.u64.wrap (IntKind.i64.wrap (i + j))) (2 ^ min (Int.toNat 1) 64)))) (fun _ => vm rfl) ?_
    obtain ⟨g7, k9, H⟩ := H
    refine pp (i := 7) rfl (wanted_0 rfl) rfl (ptr a2 (a1 + (Int.toNat (IntKind.i64.wrap (Int.fdiv (IntKind.u64.wrap (IntKind.i64.wrap (i + j))) (2 ^ min (Int.toNat 1) 64)))) * 1)) (fun _ => vi TyTS.el71 rfl rfl g7 k9) ?_
    obtain ⟨a7, i1, H⟩ := H
    refine pr (i := 8) rfl (wanted_0 rfl) rfl (.int .i64 a7) (fun _ he => vl TyTS.agg3 rfl (Ext.cell he i1)) ?_
    refine hp_wild (i := 9) rfl (wanted_0 rfl) rfl (hs_callF (vs := [(.int .i64 x), (.int .i64 a7)]) rfl rfl (HCV.mono H ?_))
    rintro _ h7 ⟨r, rfl, H⟩
    refine pp (i := 10) rfl (wanted_0 rfl) rfl (.bool (decide (r < 0))) (fun _ => vr rfl rfl rfl) ?_
    refine pp (i := 11) rfl (wanted_0 rfl) rfl (.bool (!(decide (r < 0)))) (fun _ => hv_not (b := decide (r < 0)) rfl) ?_
    refine hp_nil ?_
    refine qn ?_
    refine xc (b := !(decide (r < 0))) rfl (fun e1 => ?_) (fun e1 => ?_)
    ·replace H := H.1 e1
     refine xr ?_
     refine lv rfl rfl (vm rfl) (lv rfl rfl (vr rfl rfl rfl) (lv rfl rfl (va rfl) ?_))
     refine ln (bn (qn ?_))
     exact ⟨(IntKind.i64.wrap ((IntKind.i64.wrap (Int.fdiv (IntKind.u64.wrap (IntKind.i64.wrap (i + j))) (2 ^ min (Int.toNat 1) 64))) + 1), j), ⟨⟨H.1, trivial⟩, H.2⟩, (hc rfl (hc rfl (hc rfl (hc rfl (hc rfl hn)))))⟩
    ·replace H := H.2 e1
     refine xr ?_
     refine lv rfl rfl (vm rfl) (lv rfl rfl (va rfl) ?_)
     refine ln (bn (qn ?_))
     exact ⟨(i, IntKind.i64.wrap (Int.fdiv (IntKind.u64.wrap (IntKind.i64.wrap (i + j))) (2 ^ min (Int.toNat 1) 64))), ⟨⟨H.1, trivial⟩, H.2⟩, (hc rfl (hc rfl (hc rfl (hc rfl (hc rfl hn)))))⟩
   ·replace H := H.2 d6
    refine xe (qe (qe (bh (qn (xs (xs (xr ?_)))))))
    refine lv rfl rfl (vm rfl) (lv rfl rfl (va rfl) ?_)
    refine ln (qn (xb ?_))
    obtain ⟨d3, c5, k4, g2⟩ := H
    refine xl (σ := Int) (fun s => [(0, (.slice a5 a3 a4)), (14, (.int .i64 i)), (17, (.int .i64 s))]) (fun s h' => d3 s h' ∧ True) (fun s h' => c5 s h') m ⟨k4, trivial⟩ (hc rfl (hc rfl (hc rfl hn))) ?_
    rintro k ρ h8 ⟨k5, -⟩
    have H := g2 k h8 k5
    refine xs (xs (xr ?_))
    refine lv rfl rfl (vm rfl) (lv rfl rfl (vm rfl) (lv rfl rfl (vr rfl rfl rfl) ?_))
    refine ln (qn ?_)
    refine xc (b := decide (k > i)) rfl (fun d9 => ?_) (fun d9 => ?_)
    ·replace H := H.1 d9
     refine xi (qn (xs (xb ?_)))
     refine hx_draw TyTS.mixed [.pure, .pure, .pure, .pure, .pure, .pure, .pure, .pure, .pure, .read, .pure, .pure, .pure, .read, .pure, .wild, .pure, .wild] [0, 1, 2, 3, 4, 5, 6, 7, 8, 9, 10, 11, 12, 13, 14, 15, 16, 17] (by kernel_rfl) ?_
     refine pp (i := 0) rfl (wanted_0 rfl) rfl (.slice a5 a3 a4) (fun _ => vm rfl) ?_
     refine pp (i := 1) rfl (wanted_0 rfl) rfl (.int .i64 k) (fun _ => vm rfl) ?_
     refine pp (i := 2) rfl (wanted_0 rfl) rfl (.slice a5 a3 a4) (fun _ => vm rfl) ?_
     refine pp (i := 3) rfl (wanted_0 rfl) rfl (.int .i64 k) (fun _ => vm rfl) ?_
     refine pp (i := 4) rfl (wanted_0 rfl) rfl (.int .i64 (IntKind.i64.wrap (k - 1))) (fun _ => vr rfl rfl rfl) ?_
     refine pp (i := 5) rfl (wanted_0 rfl) rfl (.slice a5 a3 a4) (fun _ => vm rfl) ?_
     refine pp (i := 6) rfl (wanted_0 rfl) rfl (.int .i64 k) (fun _ => vm rfl) ?_
     refine pp (i := 7) rfl (wanted_0 rfl) rfl (.int .i64 (IntKind.i64.wrap (k - 1))) (fun _ => vr rfl rfl rfl) ?_
     obtain ⟨a2, a1, b5, f1, f3, Hq⟩ := H
     subst b5
     have H := Hq; clear Hq
     refine pp (i := 8) rfl (wanted_0 rfl) rfl (ptr a2 (a1 + (Int.toNat (IntKind.i64.wrap (k - 1))) * 1)) (fun _ => vi TyTS.el71 rfl rfl f1 f3) ?_
     obtain ⟨x, g1, H⟩ := H
     refine pr (i := 9) rfl (wanted_0 rfl) rfl (.int .i64 x) (fun _ he => vl TyTS.agg3 rfl (Ext.cell he g1)) ?_
     refine pp (i := 10) rfl (wanted_0 rfl) rfl (.slice (some ⟨a2, a1, none⟩) a3 a4) (fun _ => vm rfl) ?_
     refine pp (i := 11) rfl (wanted_0 rfl) rfl (.int .i64 k) (fun _ => vm rfl) ?_
     obtain ⟨f0, f6, H⟩ := H
     refine pp (i := 12) rfl (wanted_0 rfl) rfl (ptr a2 (a1 + (Int.toNat k) * 1)) (fun _ => vi TyTS.el71 rfl rfl f0 f6) ?_
     obtain ⟨a7, j8, H⟩ := H
     refine pr (i := 13) rfl (wanted_0 rfl) rfl (.int .i64 a7) (fun _ he => vl TyTS.agg3 rfl (Ext.cell he j8)) ?_
     refine pp (i := 14) rfl (wanted_0 rfl) rfl (ptr a2 (a1 + (Int.toNat k) * 1)) (fun _ => vi TyTS.el71 rfl rfl f0 f6) ?_
     obtain ⟨g6, H⟩ := H
     refine hp_wild (i := 15) rfl (wanted_0 rfl) rfl (hn_store (v := (.int .i64 x)) rfl rfl TyTS.sz3 rfl g6 ?_)
     intro h9 g4
     replace H := H h9 g4
     refine pp (i := 16) rfl (wanted_0 rfl) rfl (ptr a2 (a1 + (Int.toNat (IntKind.i64.wrap (k - 1))) * 1)) (fun _ => vi TyTS.el71 rfl rfl f1 f3) ?_
     obtain ⟨k7, H⟩ := H
     refine hp_wild (i := 17) rfl (wanted_0 rfl) rfl (hn_store (v := (.int .i64 a7)) rfl rfl TyTS.sz3 rfl k7 ?_)
     intro d1 k1
     replace H := H d1 k1
     refine hp_nil ?_
     refine bn (qn (xr ?_))
     refine lv rfl rfl (vm rfl) (lv rfl rfl (vr rfl rfl rfl) (lv rfl rfl (va rfl) ?_))
     refine ln (qn ?_)
     exact ⟨IntKind.i64.wrap (k - 1), ⟨⟨H.1, trivial⟩, H.2⟩, (hc rfl (hc rfl (hc rfl hn)))⟩
    ·replace H := H.2 d9
     refine xe (qe (qe (bh (qn (xt (qr ?_))))))
     exact endQ_ret _ (res_none Tryd.results89 ) H
  ·replace H := H.2 e2
   refine xi (qn (xs (xr ?_)))
   refine lv rfl rfl (vm rfl) (lv rfl rfl (vm rfl) (lv rfl rfl (vr rfl rfl rfl) (lv rfl rfl (v := (.int .u64 (IntKind.u64.wrap (IntKind.i64.wrap (a + b))))) (hv_convInt TyTS.u3 TyTS.u122 rfl) (lv rfl rfl (v := (.int .u64 (Int.fdiv (IntKind.u64.wrap (IntKind.i64.wrap (a + b))) (2 ^ min (Int.toNat 1) 64)))) (hv_shift rfl rfl (by decide) rfl) (lv rfl rfl (v := (.int .i64 (IntKind.i64.wrap (Int.fdiv (IntKind.u64.wrap (IntKind.i64.wrap (a + b))) (2 ^ min (Int.toNat 1) 64))))) (hv_convInt TyTS.u122 TyTS.u3 rfl) ?_)))))
   refine lv rfl rfl (va rfl) ?_
   refine ln (qn (xs (xr ?_)))
   refine lv rfl rfl (vm rfl) (lv rfl rfl (vm rfl) (lv rfl rfl (vr rfl rfl rfl) (lv rfl rfl (va rfl) ?_)))
   refine ln (qn (xs (xr ?_)))
   refine lv rfl rfl (va rfl) (lv rfl rfl (va rfl) ?_)
   refine ln (qn ?_)
   obtain ⟨b3, hq71⟩ : ∃ q : Int, q = (bif decide (m > (IntKind.i64.wrap (Int.fdiv (IntKind.u64.wrap (IntKind.i64.wrap (a + b))) (2 ^ min (Int.toNat 1) 64)))) then IntKind.i64.wrap ((IntKind.i64.wrap ((IntKind.i64.wrap (Int.fdiv (IntKind.u64.wrap (IntKind.i64.wrap (a + b))) (2 ^ min (Int.toNat 1) 64))) + m)) - b) else a) := ⟨_, rfl⟩
   replace H := H b3 hq71
   obtain ⟨r, hq72⟩ : ∃ q : Int, q = (bif decide (m > (IntKind.i64.wrap (Int.fdiv (IntKind.u64.wrap (IntKind.i64.wrap (a + b))) (2 ^ min (Int.toNat 1) 64)))) then IntKind.i64.wrap (Int.fdiv (IntKind.u64.wrap (IntKind.i64.wrap (a + b))) (2 ^ min (Int.toNat 1) 64)) else m) := ⟨_, rfl⟩
   replace H := H r hq72
   refine xk (fun ρ h' => h = h' ∧ Has ρ [(0, (.slice a5 a3 a4)), (1, (.int .i64 a)), (2, (.int .i64 m)), (3, (.int .i64 b)), (4, a8), (18, (.int .i64 (IntKind.i64.wrap (Int.fdiv (IntKind.u64.wrap (IntKind.i64.wrap (a + b))) (2 ^ min (Int.toNat 1) 64))))), (19, (.int .i64 (IntKind.i64.wrap ((IntKind.i64.wrap (Int.fdiv (IntKind.u64.wrap (IntKind.i64.wrap (a + b))) (2 ^ min (Int.toNat 1) 64))) + m)))), (20, (.int .i64 b3)), (21, (.int .i64 r))]) ?_ ?_
   ·refine xs (xr ?_)
    refine lv rfl rfl (vm rfl) (lv rfl rfl (vm rfl) (lv rfl rfl (vr rfl rfl rfl) ?_))
    refine ln (qn ?_)
    refine xc (b := decide (m > (IntKind.i64.wrap (Int.fdiv (IntKind.u64.wrap (IntKind.i64.wrap (a + b))) (2 ^ min (Int.toNat 1) 64))))) rfl (fun a9 => ?_) (fun a9 => ?_)
    ·refine xs (xr ?_)
     refine lv rfl rfl (vm rfl) (lv rfl rfl (vm rfl) (lv rfl rfl (vr rfl rfl rfl) (lv rfl rfl (va rfl) ?_)))
     refine ln (qn (xr ?_))
     refine lv rfl rfl (vm rfl) (lv rfl rfl (va rfl) ?_)
     refine ln (qn ?_)
     exact ⟨rfl, (hc rfl (hc rfl (hc rfl (hc rfl (hc rfl (hc rfl (hc rfl (hc (show ((.int .i64 (IntKind.i64.wrap ((IntKind.i64.wrap ((IntKind.i64.wrap (Int.fdiv (IntKind.u64.wrap (IntKind.i64.wrap (a + b))) (2 ^ min (Int.toNat 1) 64))) + m)) - b))) : Value) = (.int .i64 b3) from (by first | rfl | ((try rw [a9]); (try rw [hq71]); (try rw [hq72]); (try rw [a9]); all_goals first | rfl | (simp only [Bool.true_or, Bool.or_true, Bool.false_or, Bool.or_false, Bool.true_and, Bool.and_true, Bool.false_and, Bool.and_false, Bool.not_true, Bool.not_false, Bool.cond_true, Bool.cond_false]; done)) | simp [a9, hq71, hq72, a9])) (hc (show ((.int .i64 (IntKind.i64.wrap (Int.fdiv (IntKind.u64.wrap (IntKind.i64.wrap (a + b))) (2 ^ min (Int.toNat 1) 64)))) : Value) = (.int .i64 r) from (by first | rfl | ((try rw [a9]); (try rw [hq71]); (try rw [hq72]); (try rw [a9]); all_goals first | rfl | (simp only [Bool.true_or, Bool.or_true, Bool.false_or, Bool.or_false, Bool.true_and, Bool.and_true, Bool.false_and, Bool.and_false, Bool.not_true, Bool.not_false, Bool.cond_true, Bool.cond_false]; done)) | simp [a9, hq71, hq72, a9])) hn)))))))))⟩
    ·refine xs (xr ?_)
     refine lv rfl rfl (vm rfl) (lv rfl rfl (va rfl) ?_)
     refine ln (qn (xr ?_))
     refine lv rfl rfl (vm rfl) (lv rfl rfl (va rfl) ?_)
     refine ln (qn ?_)
     exact ⟨rfl, (hc rfl (hc rfl (hc rfl (hc rfl (hc rfl (hc rfl (hc rfl (hc (show ((.int .i64 a) : Value) = (.int .i64 b3) from (by first | rfl | ((try rw [a9]); (try rw [hq71]); (try rw [hq72]); (try rw [a9]); all_goals first | rfl | (simp only [Bool.true_or, Bool.or_true, Bool.false_or, Bool.or_false, Bool.true_and, Bool.and_true, Bool.false_and, Bool.and_false, Bool.not_true, Bool.not_false, Bool.cond_true, Bool.cond_false]; done)) | simp [a9, hq71, hq72, a9])) (hc (show ((.int .i64 m) : Value) = (.int .i64 r) from (by first | rfl | ((try rw [a9]); (try rw [hq71]); (try rw [hq72]); (try rw [a9]); all_goals first | rfl | (simp only [Bool.true_or, Bool.or_true, Bool.false_or, Bool.or_false, Bool.true_and, Bool.and_true, Bool.false_and, Bool.and_false, Bool.not_true, Bool.not_false, Bool.cond_true, Bool.cond_false]; done)) | simp [a9, hq71, hq72, a9])) hn)))))))))⟩
   ·rintro ρ _ ⟨rfl, hH⟩
    refine xh _ hH ?_
    refine xs (xr ?_)
    refine lv rfl rfl (vm rfl) (lv rfl rfl (vr rfl rfl rfl) (lv rfl rfl (va rfl) ?_))
    refine ln (qn (xs (xb ?_)))
    obtain ⟨c0, b7, i2, l0⟩ := H
    refine xl (σ := Int × Int) (fun s => [(0, (.slice a5 a3 a4)), (1, (.int .i64 a)), (2, (.int .i64 m)), (3, (.int .i64 b)), (4, a8), (18, (.int .i64 (IntKind.i64.wrap (Int.fdiv (IntKind.u64.wrap (IntKind.i64.wrap (a + b))) (2 ^ min (Int.toNat 1) 64))))), (19, (.int .i64 (IntKind.i64.wrap ((IntKind.i64.wrap (Int.fdiv (IntKind.u64.wrap (IntKind.i64.wrap (a + b))) (2 ^ min (Int.toNat 1) 64))) + m)))), (20, (.int .i64 s.1)), (21, (.int .i64 s.2)), (22, (.int .i64 (IntKind.i64.wrap ((IntKind.i64.wrap ((IntKind.i64.wrap (Int.fdiv (IntKind.u64.wrap (IntKind.i64.wrap (a + b))) (2 ^ min (Int.toNat 1) 64))) + m)) - 1))))]) (fun s h' => c0 s.1 s.2 h' ∧ True) (fun s h' => b7 s.1 s.2 h') (b3, r) ⟨i2, trivial⟩ (hc rfl (hc rfl (hc rfl (hc rfl (hc rfl (hc rfl (hc rfl (hc rfl (hc rfl (hc rfl hn)))))))))) ?_
    rintro ⟨a0, a6⟩ ρ b4 ⟨j7, -⟩
    have H := l0 a0 a6 b4 j7
    refine xs (xs (xr ?_))
    refine lv rfl rfl (vm rfl) (lv rfl rfl (vm rfl) (lv rfl rfl (vr rfl rfl rfl) ?_))
    refine ln (qn ?_)
    refine xc (b := decide (a0 < a6)) rfl (fun e3 => ?_) (fun e3 => ?_)
    ·replace H := H.1 e3
     refine xi (qn (xb (xs (xr ?_))))
     refine lv rfl rfl (vm rfl) (lv rfl rfl (vm rfl) (lv rfl rfl (vr rfl rfl rfl) (lv rfl rfl (v := (.int .u64 (IntKind.u64.wrap (IntKind.i64.wrap (a0 + a6))))) (hv_convInt TyTS.u3 TyTS.u122 rfl) (lv rfl rfl (v := (.int .u64 (Int.fdiv (IntKind.u64.wrap (IntKind.i64.wrap (a0 + a6))) (2 ^ min (Int.toNat 1) 64)))) (hv_shift rfl rfl (by decide) rfl) (lv rfl rfl (v := (.int .i64 (IntKind.i64.wrap (Int.fdiv (IntKind.u64.wrap (IntKind.i64.wrap (a0 + a6))) (2 ^ min (Int.toNat 1) 64))))) (hv_convInt TyTS.u122 TyTS.u3 rfl) ?_)))))
     refine lv rfl rfl (va rfl) ?_
     refine ln (qn (xs ?_))
     refine hx_draw TyTS.mixed [.pure, .pure, .pure, .pure, .pure, .pure, .read, .pure, .pure, .pure, .read, .wild, .pure, .pure] [0, 1, 2, 3, 4, 5, 6, 7, 8, 9, 10, 11, 12, 13] (by kernel_rfl) ?_
     refine pp (i := 0) rfl (wanted_0 rfl) rfl a8 (fun _ => vm rfl) ?_
     refine pp (i := 1) rfl (wanted_0 rfl) rfl (.slice a5 a3 a4) (fun _ => vm rfl) ?_
     refine pp (i := 2) rfl (wanted_0 rfl) rfl (.int .i64 (IntKind.i64.wrap ((IntKind.i64.wrap ((IntKind.i64.wrap (Int.fdiv (IntKind.u64.wrap (IntKind.i64.wrap (a + b))) (2 ^ min (Int.toNat 1) 64))) + m)) - 1))) (fun _ => vm rfl) ?_
     refine pp (i := 3) rfl (wanted_0 rfl) rfl (.int .i64 (IntKind.i64.wrap (Int.fdiv (IntKind.u64.wrap (IntKind.i64.wrap (a0 + a6))) (2 ^ min (Int.toNat 1) 64)))) (fun _ => vm rfl) ?_
     refine pp (i := 4) rfl (wanted_0 rfl) rfl (.int .i64 (IntKind.i64.wrap ((IntKind.i64.wrap ((IntKind.i64.wrap ((IntKind.i64.wrap (Int.fdiv (IntKind.u64.wrap (IntKind.i64.wrap (a + b))) (2 ^ min (Int.toNat 1) 64))) + m)) - 1)) - (IntKind.i64.wrap (Int.fdiv (IntKind.u64.wrap (IntKind.i64.wrap (a0 + a6))) (2 ^ min (Int.toNat 1) 64)))))) (fun _ => vr rfl rfl rfl) ?_
     obtain ⟨a2, a1, b5, g3, l1, Hq⟩ := H
     subst b5
     have H := Hq; clear Hq
     refine pp (i := 5) rfl (wanted_0 rfl) rfl (ptr a2 (a1 + (Int.toNat (IntKind.i64.wrap ((IntKind.i64.wrap ((IntKind.i64.wrap ((IntKind.i64.wrap (Int.fdiv (IntKind.u64.wrap (IntKind.i64.wrap (a + b))) (2 ^ min (Int.toNat 1) 64))) + m)) - 1)) - (IntKind.i64.wrap (Int.fdiv (IntKind.u64.wrap (IntKind.i64.wrap (a0 + a6))) (2 ^ min (Int.toNat 1) 64)))))) * 1)) (fun _ => vi TyTS.el71 rfl rfl g3 l1) ?_
     obtain ⟨x, i6, H⟩ := H
     refine pr (i := 6) rfl (wanted_0 rfl) rfl (.int .i64 x) (fun _ he => vl TyTS.agg3 rfl (Ext.cell he i6)) ?_
     refine pp (i := 7) rfl (wanted_0 rfl) rfl (.slice (some ⟨a2, a1, none⟩) a3 a4) (fun _ => vm rfl) ?_
     refine pp (i := 8) rfl (wanted_0 rfl) rfl (.int .i64 (IntKind.i64.wrap (Int.fdiv (IntKind.u64.wrap (IntKind.i64.wrap (a0 + a6))) (2 ^ min (Int.toNat 1) 64)))) (fun _ => vm rfl) ?_
     obtain ⟨j6, i5, H⟩ := H
     refine pp (i := 9) rfl (wanted_0 rfl) rfl (ptr a2 (a1 + (Int.toNat (IntKind.i64.wrap (Int.fdiv (IntKind.u64.wrap (IntKind.i64.wrap (a0 + a6))) (2 ^ min (Int.toNat 1) 64)))) * 1)) (fun _ => vi TyTS.el71 rfl rfl j6 i5) ?_
     obtain ⟨a7, j5, H⟩ := H
     refine pr (i := 10) rfl (wanted_0 rfl) rfl (.int .i64 a7) (fun _ he => vl TyTS.agg3 rfl (Ext.cell he j5)) ?_
     refine hp_wild (i := 11) rfl (wanted_0 rfl) rfl (hs_callF (vs := [(.int .i64 x), (.int .i64 a7)]) rfl rfl (HCV.mono H ?_))
     rintro _ c8 ⟨b8, rfl, H⟩
     refine pp (i := 12) rfl (wanted_0 rfl) rfl (.bool (decide (b8 < 0))) (fun _ => vr rfl rfl rfl) ?_
     refine pp (i := 13) rfl (wanted_0 rfl) rfl (.bool (!(decide (b8 < 0)))) (fun _ => hv_not (b := decide (b8 < 0)) rfl) ?_
     refine hp_nil ?_
     refine qn ?_
     refine xc (b := !(decide (b8 < 0))) rfl (fun d4 => ?_) (fun d4 => ?_)
     ·replace H := H.1 d4
      refine xr ?_
      refine lv rfl rfl (vm rfl) (lv rfl rfl (vr rfl rfl rfl) (lv rfl rfl (va rfl) ?_))
      refine ln (bn (qn ?_))
      exact ⟨(IntKind.i64.wrap ((IntKind.i64.wrap (Int.fdiv (IntKind.u64.wrap (IntKind.i64.wrap (a0 + a6))) (2 ^ min (Int.toNat 1) 64))) + 1), a6), ⟨⟨H.1, trivial⟩, H.2⟩, (hc rfl (hc rfl (hc rfl (hc rfl (hc rfl (hc rfl (hc rfl (hc rfl (hc rfl (hc rfl hn))))))))))⟩
     ·replace H := H.2 d4
      refine xr ?_
      refine lv rfl rfl (vm rfl) (lv rfl rfl (va rfl) ?_)
      refine ln (bn (qn ?_))
      exact ⟨(a0, IntKind.i64.wrap (Int.fdiv (IntKind.u64.wrap (IntKind.i64.wrap (a0 + a6))) (2 ^ min (Int.toNat 1) 64))), ⟨⟨H.1, trivial⟩, H.2⟩, (hc rfl (hc rfl (hc rfl (hc rfl (hc rfl (hc rfl (hc rfl (hc rfl (hc rfl (hc rfl hn))))))))))⟩
    ·replace H := H.2 e3
     refine xe (qe (qe (bh (qn (xs (xr ?_))))))
     refine lv rfl rfl (vm rfl) (lv rfl rfl (vm rfl) (lv rfl rfl (vr rfl rfl rfl) (lv rfl rfl (va rfl) ?_)))
     refine ln (qn ?_)
     obtain ⟨d2, d5, e0⟩ := H
     refine xk (fun ρ h' => (d2 h' ∧ True) ∧ Has ρ [(0, (.slice a5 a3 a4)), (1, (.int .i64 a)), (3, (.int .i64 b)), (4, a8), (18, (.int .i64 (IntKind.i64.wrap (Int.fdiv (IntKind.u64.wrap (IntKind.i64.wrap (a + b))) (2 ^ min (Int.toNat 1) 64))))), (20, (.int .i64 a0)), (24, (.int .i64 (IntKind.i64.wrap ((IntKind.i64.wrap ((IntKind.i64.wrap (Int.fdiv (IntKind.u64.wrap (IntKind.i64.wrap (a + b))) (2 ^ min (Int.toNat 1) 64))) + m)) - a0))))]) ?_ ?_
     ·have H := d5; clear d5 e0
      refine xk (fun ρ h' => b4 = h' ∧ Has ρ [(0, (.slice a5 a3 a4)), (1, (.int .i64 a)), (2, (.int .i64 m)), (3, (.int .i64 b)), (4, a8), (18, (.int .i64 (IntKind.i64.wrap (Int.fdiv (IntKind.u64.wrap (IntKind.i64.wrap (a + b))) (2 ^ min (Int.toNat 1) 64))))), (20, (.int .i64 a0)), (24, (.int .i64 (IntKind.i64.wrap ((IntKind.i64.wrap ((IntKind.i64.wrap (Int.fdiv (IntKind.u64.wrap (IntKind.i64.wrap (a + b))) (2 ^ min (Int.toNat 1) 64))) + m)) - a0)))), (185, (.bool ((decide (a0 < m)) && (decide (m < (IntKind.i64.wrap ((IntKind.i64.wrap ((IntKind.i64.wrap (Int.fdiv (IntKind.u64.wrap (IntKind.i64.wrap (a + b))) (2 ^ min (Int.toNat 1) 64))) + m)) - a0)))))))]) ?_ ?_
      ·refine xr ?_
       refine lv rfl rfl (vm rfl) (lv rfl rfl (vm rfl) (lv rfl rfl (vr rfl rfl rfl) (lv rfl rfl (vm rfl) ?_)))
       rcases bool_or (decide (a0 < m)) with b2 | b2
       ·refine ly (wanted_y rfl rfl rfl b2) rfl (HStep.of_val (v := (.int .i64 m)) (vm rfl) ?_)
        refine ly (wanted_y rfl rfl rfl b2) rfl (HStep.of_val (v := (.int .i64 (IntKind.i64.wrap ((IntKind.i64.wrap ((IntKind.i64.wrap (Int.fdiv (IntKind.u64.wrap (IntKind.i64.wrap (a + b))) (2 ^ min (Int.toNat 1) 64))) + m)) - a0)))) (vm rfl) ?_)
        refine ly (wanted_y rfl rfl rfl b2) rfl (HStep.of_val (v := (.bool (decide (m < (IntKind.i64.wrap ((IntKind.i64.wrap ((IntKind.i64.wrap (Int.fdiv (IntKind.u64.wrap (IntKind.i64.wrap (a + b))) (2 ^ min (Int.toNat 1) 64))) + m)) - a0)))))) (vr rfl rfl rfl) ?_)
        refine lv rfl rfl (v := (.bool (decide (m < (IntKind.i64.wrap ((IntKind.i64.wrap ((IntKind.i64.wrap (Int.fdiv (IntKind.u64.wrap (IntKind.i64.wrap (a + b))) (2 ^ min (Int.toNat 1) 64))) + m)) - a0)))))) (hv_pick_t rfl b2 rfl) ?_
        refine ln (qn ?_)
        exact ⟨rfl, (hc rfl (hc rfl (hc rfl (hc rfl (hc rfl (hc rfl (hc rfl (hc rfl (hc (show ((.bool (decide (m < (IntKind.i64.wrap ((IntKind.i64.wrap ((IntKind.i64.wrap (Int.fdiv (IntKind.u64.wrap (IntKind.i64.wrap (a + b))) (2 ^ min (Int.toNat 1) 64))) + m)) - a0))))) : Value) = (.bool ((decide (a0 < m)) && (decide (m < (IntKind.i64.wrap ((IntKind.i64.wrap ((IntKind.i64.wrap (Int.fdiv (IntKind.u64.wrap (IntKind.i64.wrap (a + b))) (2 ^ min (Int.toNat 1) 64))) + m)) - a0)))))) from (by first | rfl | ((try rw [b2]); all_goals first | rfl | (simp only [Bool.true_or, Bool.or_true, Bool.false_or, Bool.or_false, Bool.true_and, Bool.and_true, Bool.false_and, Bool.and_false, Bool.not_true, Bool.not_false, Bool.cond_true, Bool.cond_false]; done)) | simp [b2])) hn)))))))))⟩
       ·refine lo (wanted_n rfl rfl rfl b2) rfl ?_
        refine lo (wanted_n rfl rfl rfl b2) rfl ?_
        refine lo (wanted_n rfl rfl rfl b2) rfl ?_
        refine lv rfl rfl (v := (.bool false)) (hv_pick_f rfl b2 rfl) ?_
        refine ln (qn ?_)
        exact ⟨rfl, (hc rfl (hc rfl (hc rfl (hc rfl (hc rfl (hc rfl (hc rfl (hc rfl (hc (show ((.bool false) : Value) = (.bool ((decide (a0 < m)) && (decide (m < (IntKind.i64.wrap ((IntKind.i64.wrap ((IntKind.i64.wrap (Int.fdiv (IntKind.u64.wrap (IntKind.i64.wrap (a + b))) (2 ^ min (Int.toNat 1) 64))) + m)) - a0)))))) from (by first | rfl | ((try rw [b2]); all_goals first | rfl | (simp only [Bool.true_or, Bool.or_true, Bool.false_or, Bool.or_false, Bool.true_and, Bool.and_true, Bool.false_and, Bool.and_false, Bool.not_true, Bool.not_false, Bool.cond_true, Bool.cond_false]; done)) | simp [b2])) hn)))))))))⟩
      ·rintro ρ _ ⟨rfl, hH⟩
       refine xh _ hH ?_
       refine xc (b := ((decide (a0 < m)) && (decide (m < (IntKind.i64.wrap ((IntKind.i64.wrap ((IntKind.i64.wrap (Int.fdiv (IntKind.u64.wrap (IntKind.i64.wrap (a + b))) (2 ^ min (Int.toNat 1) 64))) + m)) - a0)))))) rfl (fun e4 => ?_) (fun e4 => ?_)
       ·replace H := H.1 e4
        refine xr ?_
        refine lv rfl rfl (vm rfl) (lv rfl rfl (vm rfl) (lv rfl rfl (vm rfl) (lv rfl rfl (vm rfl) (lv rfl rfl (vm rfl) ?_))))
        refine lp rfl rfl (sc TyTS.cb107 rfl (HC.mono H ?_))
        rintro _ f8 ⟨rfl, H⟩
        refine ln (qn ?_)
        exact ⟨⟨H, trivial⟩, (hc rfl (hc rfl (hc rfl (hc rfl (hc rfl (hc rfl (hc rfl hn)))))))⟩
       ·replace H := H.2 e4
        refine xi (qn ?_)
        exact ⟨⟨H, trivial⟩, (hc rfl (hc rfl (hc rfl (hc rfl (hc rfl (hc rfl (hc rfl hn)))))))⟩
     ·rintro ρ b9 ⟨⟨g5, -⟩, hH⟩
      have H := e0 b9 g5; clear d5 e0
      refine xh _ hH ?_
      obtain ⟨d0, e6, e5⟩ := H
      refine xk (fun ρ h' => (d0 h' ∧ True) ∧ Has ρ [(0, (.slice a5 a3 a4)), (3, (.int .i64 b)), (4, a8), (18, (.int .i64 (IntKind.i64.wrap (Int.fdiv (IntKind.u64.wrap (IntKind.i64.wrap (a + b))) (2 ^ min (Int.toNat 1) 64))))), (24, (.int .i64 (IntKind.i64.wrap ((IntKind.i64.wrap ((IntKind.i64.wrap (Int.fdiv (IntKind.u64.wrap (IntKind.i64.wrap (a + b))) (2 ^ min (Int.toNat 1) 64))) + m)) - a0))))]) ?_ ?_
      ·have H := e6; clear e6 e5
       refine xk (fun ρ h' => b9 = h' ∧ Has ρ [(0, (.slice a5 a3 a4)), (1, (.int .i64 a)), (3, (.int .i64 b)), (4, a8), (18, (.int .i64 (IntKind.i64.wrap (Int.fdiv (IntKind.u64.wrap (IntKind.i64.wrap (a + b))) (2 ^ min (Int.toNat 1) 64))))), (20, (.int .i64 a0)), (24, (.int .i64 (IntKind.i64.wrap ((IntKind.i64.wrap ((IntKind.i64.wrap (Int.fdiv (IntKind.u64.wrap (IntKind.i64.wrap (a + b))) (2 ^ min (Int.toNat 1) 64))) + m)) - a0)))), (199, (.bool ((decide (a < a0)) && (decide (a0 < (IntKind.i64.wrap (Int.fdiv (IntKind.u64.wrap (IntKind.i64.wrap (a + b))) (2 ^ min (Int.toNat 1) 64))))))))]) ?_ ?_
       ·refine xr ?_
        refine lv rfl rfl (vm rfl) (lv rfl rfl (vm rfl) (lv rfl rfl (vr rfl rfl rfl) (lv rfl rfl (vm rfl) ?_)))
        rcases bool_or (decide (a < a0)) with b0 | b0
        ·refine ly (wanted_y rfl rfl rfl b0) rfl (HStep.of_val (v := (.int .i64 a0)) (vm rfl) ?_)
         refine ly (wanted_y rfl rfl rfl b0) rfl (HStep.of_val (v := (.int .i64 (IntKind.i64.wrap (Int.fdiv (IntKind.u64.wrap (IntKind.i64.wrap (a + b))) (2 ^ min (Int.toNat 1) 64))))) (vm rfl) ?_)
         refine ly (wanted_y rfl rfl rfl b0) rfl (HStep.of_val (v := (.bool (decide (a0 < (IntKind.i64.wrap (Int.fdiv (IntKind.u64.wrap (IntKind.i64.wrap (a + b))) (2 ^ min (Int.toNat 1) 64))))))) (vr rfl rfl rfl) ?_)
         refine lv rfl rfl (v := (.bool (decide (a0 < (IntKind.i64.wrap (Int.fdiv (IntKind.u64.wrap (IntKind.i64.wrap (a + b))) (2 ^ min (Int.toNat 1) 64))))))) (hv_pick_t rfl b0 rfl) ?_
         refine ln (qn ?_)
         exact ⟨rfl, (hc rfl (hc rfl (hc rfl (hc rfl (hc rfl (hc rfl (hc rfl (hc (show ((.bool (decide (a0 < (IntKind.i64.wrap (Int.fdiv (IntKind.u64.wrap (IntKind.i64.wrap (a + b))) (2 ^ min (Int.toNat 1) 64)))))) : Value) = (.bool ((decide (a < a0)) && (decide (a0 < (IntKind.i64.wrap (Int.fdiv (IntKind.u64.wrap (IntKind.i64.wrap (a + b))) (2 ^ min (Int.toNat 1) 64))))))) from (by first | rfl | ((try rw [b0]); all_goals first | rfl | (simp only [Bool.true_or, Bool.or_true, Bool.false_or, Bool.or_false, Bool.true_and, Bool.and_true, Bool.false_and, Bool.and_false, Bool.not_true, Bool.not_false, Bool.cond_true, Bool.cond_false]; done)) | simp [b0])) hn))))))))⟩
        ·refine lo (wanted_n rfl rfl rfl b0) rfl ?_
         refine lo (wanted_n rfl rfl rfl b0) rfl ?_
         refine lo (wanted_n rfl rfl rfl b0) rfl ?_
         refine lv rfl rfl (v := (.bool false)) (hv_pick_f rfl b0 rfl) ?_
         refine ln (qn ?_)
         exact ⟨rfl, (hc rfl (hc rfl (hc rfl (hc rfl (hc rfl (hc rfl (hc rfl (hc (show ((.bool false) : Value) = (.bool ((decide (a < a0)) && (decide (a0 < (IntKind.i64.wrap (Int.fdiv (IntKind.u64.wrap (IntKind.i64.wrap (a + b))) (2 ^ min (Int.toNat 1) 64))))))) from (by first | rfl | ((try rw [b0]); all_goals first | rfl | (simp only [Bool.true_or, Bool.or_true, Bool.false_or, Bool.or_false, Bool.true_and, Bool.and_true, Bool.false_and, Bool.and_false, Bool.not_true, Bool.not_false, Bool.cond_true, Bool.cond_false]; done)) | simp [b0])) hn))))))))⟩
       ·rintro ρ _ ⟨rfl, hH⟩
        refine xh _ hH ?_
        refine xc (b := ((decide (a < a0)) && (decide (a0 < (IntKind.i64.wrap (Int.fdiv (IntKind.u64.wrap (IntKind.i64.wrap (a + b))) (2 ^ min (Int.toNat 1) 64))))))) rfl (fun c7 => ?_) (fun c7 => ?_)
        ·replace H := H.1 c7
         refine xr ?_
         refine lv rfl rfl (vm rfl) (lv rfl rfl (vm rfl) (lv rfl rfl (vm rfl) (lv rfl rfl (vm rfl) (lv rfl rfl (vm rfl) ?_))))
         refine lp rfl rfl (sc TyTS.cb89 rfl (HC.mono H ?_))
         rintro _ f7 ⟨rfl, H⟩
         refine ln (qn ?_)
         exact ⟨⟨H, trivial⟩, (hc rfl (hc rfl (hc rfl (hc rfl (hc rfl hn)))))⟩
        ·replace H := H.2 c7
         refine xi (qn ?_)
         exact ⟨⟨H, trivial⟩, (hc rfl (hc rfl (hc rfl (hc rfl (hc rfl hn)))))⟩
      ·rintro ρ c1 ⟨⟨j1, -⟩, hH⟩
       have H := e5 c1 j1; clear e6 e5
       refine xh _ hH ?_
       refine xk (fun ρ h' => c1 = h' ∧ Has ρ [(0, (.slice a5 a3 a4)), (3, (.int .i64 b)), (4, a8), (18, (.int .i64 (IntKind.i64.wrap (Int.fdiv (IntKind.u64.wrap (IntKind.i64.wrap (a + b))) (2 ^ min (Int.toNat 1) 64))))), (24, (.int .i64 (IntKind.i64.wrap ((IntKind.i64.wrap ((IntKind.i64.wrap (Int.fdiv (IntKind.u64.wrap (IntKind.i64.wrap (a + b))) (2 ^ min (Int.toNat 1) 64))) + m)) - a0)))), (213, (.bool ((decide ((IntKind.i64.wrap (Int.fdiv (IntKind.u64.wrap (IntKind.i64.wrap (a + b))) (2 ^ min (Int.toNat 1) 64))) < (IntKind.i64.wrap ((IntKind.i64.wrap ((IntKind.i64.wrap (Int.fdiv (IntKind.u64.wrap (IntKind.i64.wrap (a + b))) (2 ^ min (Int.toNat 1) 64))) + m)) - a0)))) && (decide ((IntKind.i64.wrap ((IntKind.i64.wrap ((IntKind.i64.wrap (Int.fdiv (IntKind.u64.wrap (IntKind.i64.wrap (a + b))) (2 ^ min (Int.toNat 1) 64))) + m)) - a0)) < b)))))]) ?_ ?_
       ·refine xr ?_
        refine lv rfl rfl (vm rfl) (lv rfl rfl (vm rfl) (lv rfl rfl (vr rfl rfl rfl) (lv rfl rfl (vm rfl) ?_)))
        rcases bool_or (decide ((IntKind.i64.wrap (Int.fdiv (IntKind.u64.wrap (IntKind.i64.wrap (a + b))) (2 ^ min (Int.toNat 1) 64))) < (IntKind.i64.wrap ((IntKind.i64.wrap ((IntKind.i64.wrap (Int.fdiv (IntKind.u64.wrap (IntKind.i64.wrap (a + b))) (2 ^ min (Int.toNat 1) 64))) + m)) - a0)))) with b1 | b1
        ·refine ly (wanted_y rfl rfl rfl b1) rfl (HStep.of_val (v := (.int .i64 (IntKind.i64.wrap ((IntKind.i64.wrap ((IntKind.i64.wrap (Int.fdiv (IntKind.u64.wrap (IntKind.i64.wrap (a + b))) (2 ^ min (Int.toNat 1) 64))) + m)) - a0)))) (vm rfl) ?_)
         refine ly (wanted_y rfl rfl rfl b1) rfl (HStep.of_val (v := (.int .i64 b)) (vm rfl) ?_)
         refine ly (wanted_y rfl rfl rfl b1) rfl (HStep.of_val (v := (.bool (decide ((IntKind.i64.wrap ((IntKind.i64.wrap ((IntKind.i64.wrap (Int.fdiv (IntKind.u64.wrap (IntKind.i64.wrap (a + b))) (2 ^ min (Int.toNat 1) 64))) + m)) - a0)) < b)))) (vr rfl rfl rfl) ?_)
         refine lv rfl rfl (v := (.bool (decide ((IntKind.i64.wrap ((IntKind.i64.wrap ((IntKind.i64.wrap (Int.fdiv (IntKind.u64.wrap (IntKind.i64.wrap (a + b))) (2 ^ min (Int.toNat 1) 64))) + m)) - a0)) < b)))) (hv_pick_t rfl b1 rfl) ?_
         refine ln (qn ?_)
         exact ⟨rfl, (hc rfl (hc rfl (hc rfl (hc rfl (hc rfl (hc (show ((.bool (decide ((IntKind.i64.wrap ((IntKind.i64.wrap ((IntKind.i64.wrap (Int.fdiv (IntKind.u64.wrap (IntKind.i64.wrap (a + b))) (2 ^ min (Int.toNat 1) 64))) + m)) - a0)) < b))) : Value) = (.bool ((decide ((IntKind.i64.wrap (Int.fdiv (IntKind.u64.wrap (IntKind.i64.wrap (a + b))) (2 ^ min (Int.toNat 1) 64))) < (IntKind.i64.wrap ((IntKind.i64.wrap ((IntKind.i64.wrap (Int.fdiv (IntKind.u64.wrap (IntKind.i64.wrap (a + b))) (2 ^ min (Int.toNat 1) 64))) + m)) - a0)))) && (decide ((IntKind.i64.wrap ((IntKind.i64.wrap ((IntKind.i64.wrap (Int.fdiv (IntKind.u64.wrap (IntKind.i64.wrap (a + b))) (2 ^ min (Int.toNat 1) 64))) + m)) - a0)) < b)))) from (by first | rfl | ((try rw [b1]); all_goals first | rfl | (simp only [Bool.true_or, Bool.or_true, Bool.false_or, Bool.or_false, Bool.true_and, Bool.and_true, Bool.false_and, Bool.and_false, Bool.not_true, Bool.not_false, Bool.cond_true, Bool.cond_false]; done)) | simp [b1])) hn))))))⟩
        ·refine lo (wanted_n rfl rfl rfl b1) rfl ?_
         refine lo (wanted_n rfl rfl rfl b1) rfl ?_
         refine lo (wanted_n rfl rfl rfl b1) rfl ?_
         refine lv rfl rfl (v := (.bool false)) (hv_pick_f rfl b1 rfl) ?_
         refine ln (qn ?_)
         exact ⟨rfl, (hc rfl (hc rfl (hc rfl (hc rfl (hc rfl (hc (show ((.bool false) : Value) = (.bool ((decide ((IntKind.i64.wrap (Int.fdiv (IntKind.u64.wrap (IntKind.i64.wrap (a + b))) (2 ^ min (Int.toNat 1) 64))) < (IntKind.i64.wrap ((IntKind.i64.wrap ((IntKind.i64.wrap (Int.fdiv (IntKind.u64.wrap (IntKind.i64.wrap (a + b))) (2 ^ min (Int.toNat 1) 64))) + m)) - a0)))) && (decide ((IntKind.i64.wrap ((IntKind.i64.wrap ((IntKind.i64.wrap (Int.fdiv (IntKind.u64.wrap (IntKind.i64.wrap (a + b))) (2 ^ min (Int.toNat 1) 64))) + m)) - a0)) < b)))) from (by first | rfl | ((try rw [b1]); all_goals first | rfl | (simp only [Bool.true_or, Bool.or_true, Bool.false_or, Bool.or_false, Bool.true_and, Bool.and_true, Bool.false_and, Bool.and_false, Bool.not_true, Bool.not_false, Bool.cond_true, Bool.cond_false]; done)) | simp [b1])) hn))))))⟩
       ·rintro ρ _ ⟨rfl, hH⟩
        refine xh _ hH ?_
        refine xc (b := ((decide ((IntKind.i64.wrap (Int.fdiv (IntKind.u64.wrap (IntKind.i64.wrap (a + b))) (2 ^ min (Int.toNat 1) 64))) < (IntKind.i64.wrap ((IntKind.i64.wrap ((IntKind.i64.wrap (Int.fdiv (IntKind.u64.wrap (IntKind.i64.wrap (a + b))) (2 ^ min (Int.toNat 1) 64))) + m)) - a0)))) && (decide ((IntKind.i64.wrap ((IntKind.i64.wrap ((IntKind.i64.wrap (Int.fdiv (IntKind.u64.wrap (IntKind.i64.wrap (a + b))) (2 ^ min (Int.toNat 1) 64))) + m)) - a0)) < b)))) rfl (fun c6 => ?_) (fun c6 => ?_)
        ·replace H := H.1 c6
         refine xr ?_
         refine lv rfl rfl (vm rfl) (lv rfl rfl (vm rfl) (lv rfl rfl (vm rfl) (lv rfl rfl (vm rfl) (lv rfl rfl (vm rfl) ?_))))
         refine lp rfl rfl (sc TyTS.cb89 rfl (HC.mono H ?_))
         rintro _ f9 ⟨rfl, H⟩
         refine ln ?_
         exact endQ_n _ (res_none Tryd.results89 ) H
        ·replace H := H.2 c6
         refine xi ?_
         exact endQ_n _ (res_none Tryd.results89 ) H
theorem f107_sh (a2 : Option Addr) (a1 : Nat) (a0 : Nat) (a : Int) (m : Int) (b : Int) (a3 : Value) (h : Heap) (R : Value → Heap → Prop)
  (H : (∃ (I1 : Int → Int → Heap → Prop) (a4 : Int → Int → Heap → Nat), I1 (IntKind.i64.wrap (m - a)) (IntKind.i64.wrap (b - m)) h ∧ (∀ (i : Int) (j : Int) (h1 : Heap), I1 i j h1 → (((i != j) = true → (((decide (i > j)) = true → HC Tryd.prog 116 #[(.slice a2 a1 a0), (.int .i64 (IntKind.i64.wrap (m - i))), (.int .i64 m), (.int .i64 j), a3] h1 (fun vv h2 => vv = (.tuple #[]) ∧ (I1 (IntKind.i64.wrap (i - j)) j h2 ∧ a4 (IntKind.i64.wrap (i - j)) j h2 < a4 i j h1))) ∧ ((decide (i > j)) = false → HC Tryd.prog 116 #[(.slice a2 a1 a0), (.int .i64 (IntKind.i64.wrap (m - i))), (.int .i64 (IntKind.i64.wrap ((IntKind.i64.wrap (m + j)) - i))), (.int .i64 i), a3] h1 (fun vv h3 => vv = (.tuple #[]) ∧ (I1 i (IntKind.i64.wrap (j - i)) h3 ∧ a4 i (IntKind.i64.wrap (j - i)) h3 < a4 i j h1))))) ∧ ((i != j) = false → HC Tryd.prog 116 #[(.slice a2 a1 a0), (.int .i64 (IntKind.i64.wrap (m - i))), (.int .i64 m), (.int .i64 i), a3] h1 (fun vv h4 => vv = (.tuple #[]) ∧ R (.tuple #[]) h4)))))) :
  HC Tryd.prog 107 #[(.slice a2 a1 a0), (.int .i64 a), (.int .i64 m), (.int .i64 b), a3] h R := by
 refine hc_of (args := [(.slice a2 a1 a0), (.int .i64 a), (.int .i64 m), (.int .i64 b), a3]) Tryd.func107 rfl Tryd.ntmps107 (Nat.le_of_ble_eq_true rfl) ?_
 refine xs (xr ?_)
 refine lv rfl rfl (vm rfl) (lv rfl rfl (vm rfl) (lv rfl rfl (vr rfl rfl rfl) (lv rfl rfl (va rfl) ?_)))
 refine ln (qn (xs (xr ?_)))
 refine lv rfl rfl (vm rfl) (lv rfl rfl (vm rfl) (lv rfl rfl (vr rfl rfl rfl) (lv rfl rfl (va rfl) ?_)))
 refine ln (qn (xs (xb ?_)))
 obtain ⟨I1, a4, a9, a7⟩ := H
 refine xl (σ := Int × Int) (fun s => [(0, (.slice a2 a1 a0)), (2, (.int .i64 m)), (4, a3), (10, (.int .i64 s.1)), (11, (.int .i64 s.2))]) (fun s h' => I1 s.1 s.2 h' ∧ True) (fun s h' => a4 s.1 s.2 h') (IntKind.i64.wrap (m - a), IntKind.i64.wrap (b - m)) ⟨a9, trivial⟩ (hc rfl (hc rfl (hc rfl (hc rfl (hc rfl hn))))) ?_
 rintro ⟨i, j⟩ ρ h1 ⟨a8, -⟩
 have H := a7 i j h1 a8
 refine xs (xs (xr ?_))
 refine lv rfl rfl (vm rfl) (lv rfl rfl (vm rfl) (lv rfl rfl (vr rfl rfl rfl) ?_))
 refine ln (qn ?_)
 refine xc (b := i != j) rfl (fun a5 => ?_) (fun a5 => ?_)
 ·replace H := H.1 a5
  refine xi (qn (xb (xs (xr ?_))))
  refine lv rfl rfl (vm rfl) (lv rfl rfl (vm rfl) (lv rfl rfl (vr rfl rfl rfl) ?_))
  refine ln (qn ?_)
  refine xc (b := decide (i > j)) rfl (fun a6 => ?_) (fun a6 => ?_)
  ·replace H := H.1 a6
   refine xs (xr ?_)
   refine lv rfl rfl (vm rfl) (lv rfl rfl (vm rfl) (lv rfl rfl (vm rfl) (lv rfl rfl (vr rfl rfl rfl) (lv rfl rfl (vm rfl) (lv rfl rfl (vm rfl) ?_)))))
   refine lv rfl rfl (vm rfl) ?_
   refine lp rfl rfl (sc TyTS.cb116 rfl (HC.mono H ?_))
   rintro _ h2 ⟨rfl, H⟩
   refine ln (qn (xr ?_))
   refine lv rfl rfl (vm rfl) (lv rfl rfl (vm rfl) (lv rfl rfl (vr rfl rfl rfl) (lv rfl rfl (va rfl) ?_)))
   refine ln (bn (qn ?_))
   exact ⟨(IntKind.i64.wrap (i - j), j), ⟨⟨H.1, trivial⟩, H.2⟩, (hc rfl (hc rfl (hc rfl (hc rfl (hc rfl hn)))))⟩
  ·replace H := H.2 a6
   refine xs (xr ?_)
   refine lv rfl rfl (vm rfl) (lv rfl rfl (vm rfl) (lv rfl rfl (vm rfl) (lv rfl rfl (vr rfl rfl rfl) (lv rfl rfl (vm rfl) (lv rfl rfl (vm rfl) ?_)))))
   refine lv rfl rfl (vr rfl rfl rfl) (lv rfl rfl (vm rfl) (lv rfl rfl (vr rfl rfl rfl) (lv rfl rfl (vm rfl) (lv rfl rfl (vm rfl) ?_))))
   refine lp rfl rfl (sc TyTS.cb116 rfl (HC.mono H ?_))
   rintro _ h3 ⟨rfl, H⟩
   refine ln (qn (xr ?_))
   refine lv rfl rfl (vm rfl) (lv rfl rfl (vm rfl) (lv rfl rfl (vr rfl rfl rfl) (lv rfl rfl (va rfl) ?_)))
   refine ln (bn (qn ?_))
   exact ⟨(i, IntKind.i64.wrap (j - i)), ⟨⟨H.1, trivial⟩, H.2⟩, (hc rfl (hc rfl (hc rfl (hc rfl (hc rfl hn)))))⟩
 ·replace H := H.2 a5
  refine xe (qe (qe (bh (qn (xr ?_)))))
  refine lv rfl rfl (vm rfl) (lv rfl rfl (vm rfl) (lv rfl rfl (vm rfl) (lv rfl rfl (vr rfl rfl rfl) (lv rfl rfl (vm rfl) (lv rfl rfl (vm rfl) ?_)))))
  refine lv rfl rfl (vm rfl) ?_
  refine lp rfl rfl (sc TyTS.cb116 rfl (HC.mono H ?_))
  rintro _ h4 ⟨rfl, H⟩
  refine ln ?_
  exact endQ_n _ (res_none Tryd.results107 ) H
theorem f116_sh (a4 : Option Addr) (a2 : Nat) (a3 : Nat) (a : Int) (b : Int) (n : Int) (b0 : Value) (h : Heap) (R : Value → Heap → Prop)
  (H : (∃ (I1 : Int → Heap → Prop) (a6 : Int → Heap → Nat), I1 0 h ∧ (∀ (i : Int) (h1 : Heap), I1 i h1 → (((decide (i < n)) = true → (∃ a1 a0 : Nat, a4 = some ⟨a1, a0, none⟩ ∧ (0 : Int) ≤ IntKind.i64.wrap (b + i) ∧ IntKind.i64.wrap (b + i) < (a2 : Int) ∧ (∃ x : Int, hcell h1 a1 (a0 + (Int.toNat (IntKind.i64.wrap (b + i))) * 1) = some (.int .i64 x) ∧ ((0 : Int) ≤ IntKind.i64.wrap (a + i) ∧ IntKind.i64.wrap (a + i) < (a2 : Int) ∧ (∃ a5 : Int, hcell h1 a1 (a0 + (Int.toNat (IntKind.i64.wrap (a + i))) * 1) = some (.int .i64 a5) ∧ (HW h1 a1 (a0 + (Int.toNat (IntKind.i64.wrap (a + i))) * 1) ∧ ∀ h2, h2 = hset h1 a1 (a0 + (Int.toNat (IntKind.i64.wrap (a + i))) * 1) (.int .i64 x) → (HW h2 a1 (a0 + (Int.toNat (IntKind.i64.wrap (b + i))) * 1) ∧ ∀ h3, h3 = hset h2 a1 (a0 + (Int.toNat (IntKind.i64.wrap (b + i))) * 1) (.int .i64 a5) → (I1 (IntKind.i64.wrap (i + 1)) h3 ∧ a6 (IntKind.i64.wrap (i + 1)) h3 < a6 i h1)))))))) ∧ ((decide (i < n)) = false → R (.tuple #[]) h1))))) :
  HC Tryd.prog 116 #[(.slice a4 a2 a3), (.int .i64 a), (.int .i64 b), (.int .i64 n), b0] h R := by
 refine hc_of (args := [(.slice a4 a2 a3), (.int .i64 a), (.int .i64 b), (.int .i64 n), b0]) Tryd.func116 rfl Tryd.ntmps116 (Nat.le_of_ble_eq_true rfl) ?_
 refine xs (xr ?_)
 refine lv rfl rfl (va rfl) ?_
 refine ln (qn (xb ?_))
 obtain ⟨I1, a6, c2, b9⟩ := H
 refine xl (σ := Int) (fun s => [(0, (.slice a4 a2 a3)), (1, (.int .i64 a)), (2, (.int .i64 b)), (3, (.int .i64 n)), (10, (.int .i64 s))]) (fun s h' => I1 s h' ∧ True) (fun s h' => a6 s h') 0 ⟨c2, trivial⟩ (hc rfl (hc rfl (hc rfl (hc rfl (hc rfl hn))))) ?_
 rintro i ρ h1 ⟨c1, -⟩
 have H := b9 i h1 c1
 refine xs (xs (xr ?_))
 refine lv rfl rfl (vm rfl) (lv rfl rfl (vm rfl) (lv rfl rfl (vr rfl rfl rfl) ?_))
 refine ln (qn ?_)
 refine xc (b := decide (i < n)) rfl (fun a8 => ?_) (fun a8 => ?_)
 ·replace H := H.1 a8
  refine xi (qn (xs (xb ?_)))
  refine hx_draw TyTS.mixed [.pure, .pure, .pure, .pure, .pure, .pure, .pure, .pure, .pure, .pure, .pure, .pure, .pure, .read, .pure, .pure, .pure, .pure, .pure, .read, .pure, .wild, .pure, .wild] [0, 1, 2, 3, 4, 5, 6, 7, 8, 9, 10, 11, 12, 13, 14, 15, 16, 17, 18, 19, 20, 21, 22, 23] (by kernel_rfl) ?_
  refine pp (i := 0) rfl (wanted_0 rfl) rfl (.slice a4 a2 a3) (fun _ => vm rfl) ?_
  refine pp (i := 1) rfl (wanted_0 rfl) rfl (.int .i64 a) (fun _ => vm rfl) ?_
  refine pp (i := 2) rfl (wanted_0 rfl) rfl (.int .i64 i) (fun _ => vm rfl) ?_
  refine pp (i := 3) rfl (wanted_0 rfl) rfl (.int .i64 (IntKind.i64.wrap (a + i))) (fun _ => vr rfl rfl rfl) ?_
  refine pp (i := 4) rfl (wanted_0 rfl) rfl (.slice a4 a2 a3) (fun _ => vm rfl) ?_
  refine pp (i := 5) rfl (wanted_0 rfl) rfl (.int .i64 b) (fun _ => vm rfl) ?_
  refine pp (i := 6) rfl (wanted_0 rfl) rfl (.int .i64 i) (fun _ => vm rfl) ?_
  refine pp (i := 7) rfl (wanted_0 rfl) rfl (.int .i64 (IntKind.i64.wrap (b + i))) (fun _ => vr rfl rfl rfl) ?_
  refine pp (i := 8) rfl (wanted_0 rfl) rfl (.slice a4 a2 a3) (fun _ => vm rfl) ?_
  refine pp (i := 9) rfl (wanted_0 rfl) rfl (.int .i64 b) (fun _ => vm rfl) ?_
  refine pp (i := 10) rfl (wanted_0 rfl) rfl (.int .i64 i) (fun _ => vm rfl) ?_
  refine pp (i := 11) rfl (wanted_0 rfl) rfl (.int .i64 (IntKind.i64.wrap (b + i))) (fun _ => vr rfl rfl rfl) ?_
  obtain ⟨a1, a0, b8, b2, b1, Hq⟩ := H
  subst b8
  have H := Hq; clear Hq
  refine pp (i := 12) rfl (wanted_0 rfl) rfl (ptr a1 (a0 + (Int.toNat (IntKind.i64.wrap (b + i))) * 1)) (fun _ => vi TyTS.el71 rfl rfl b2 b1) ?_
  obtain ⟨x, c0, H⟩ := H
  refine pr (i := 13) rfl (wanted_0 rfl) rfl (.int .i64 x) (fun _ he => vl TyTS.agg3 rfl (Ext.cell he c0)) ?_
  refine pp (i := 14) rfl (wanted_0 rfl) rfl (.slice (some ⟨a1, a0, none⟩) a2 a3) (fun _ => vm rfl) ?_
  refine pp (i := 15) rfl (wanted_0 rfl) rfl (.int .i64 a) (fun _ => vm rfl) ?_
  refine pp (i := 16) rfl (wanted_0 rfl) rfl (.int .i64 i) (fun _ => vm rfl) ?_
  refine pp (i := 17) rfl (wanted_0 rfl) rfl (.int .i64 (IntKind.i64.wrap (a + i))) (fun _ => vr rfl rfl rfl) ?_
  obtain ⟨a7, a9, H⟩ := H
  refine pp (i := 18) rfl (wanted_0 rfl) rfl (ptr a1 (a0 + (Int.toNat (IntKind.i64.wrap (a + i))) * 1)) (fun _ => vi TyTS.el71 rfl rfl a7 a9) ?_
  obtain ⟨a5, b7, H⟩ := H
  refine pr (i := 19) rfl (wanted_0 rfl) rfl (.int .i64 a5) (fun _ he => vl TyTS.agg3 rfl (Ext.cell he b7)) ?_
  refine pp (i := 20) rfl (wanted_0 rfl) rfl (ptr a1 (a0 + (Int.toNat (IntKind.i64.wrap (a + i))) * 1)) (fun _ => vi TyTS.el71 rfl rfl a7 a9) ?_
  obtain ⟨b3, H⟩ := H
  refine hp_wild (i := 21) rfl (wanted_0 rfl) rfl (hn_store (v := (.int .i64 x)) rfl rfl TyTS.sz3 rfl b3 ?_)
  intro h2 b4
  replace H := H h2 b4
  refine pp (i := 22) rfl (wanted_0 rfl) rfl (ptr a1 (a0 + (Int.toNat (IntKind.i64.wrap (b + i))) * 1)) (fun _ => vi TyTS.el71 rfl rfl b2 b1) ?_
  obtain ⟨b5, H⟩ := H
  refine hp_wild (i := 23) rfl (wanted_0 rfl) rfl (hn_store (v := (.int .i64 a5)) rfl rfl TyTS.sz3 rfl b5 ?_)
  intro h3 b6
  replace H := H h3 b6
  refine hp_nil ?_
  refine bn (qn (xr ?_))
  refine lv rfl rfl (vm rfl) (lv rfl rfl (vr rfl rfl rfl) (lv rfl rfl (va rfl) ?_))
  refine ln (qn ?_)
  exact ⟨IntKind.i64.wrap (i + 1), ⟨⟨H.1, trivial⟩, H.2⟩, (hc rfl (hc rfl (hc rfl (hc rfl (hc rfl hn)))))⟩
 ·replace H := H.2 a8
  refine xe (qe (qe (bh ?_)))
  exact endQ_n _ (res_none Tryd.results116 ) H
theorem f52_sh (x : Option Addr) (a0 : Nat) (a1 : Nat) (a2 : Value) (h : Heap) (R : Value → Heap → Prop)
  (H : HC Tryd.prog 74 #[(.slice x a0 a1), (.int .i64 (a0 : Int)), a2] h (fun vv h1 => vv = (.tuple #[]) ∧ R (.tuple #[]) h1)) :
  HC Tryd.prog 52 #[(.slice x a0 a1), a2] h R := by
 refine hc_of (args := [(.slice x a0 a1), a2]) Tryd.func52 rfl Tryd.ntmps52 (Nat.le_of_ble_eq_true rfl) ?_
 refine xr ?_
 refine lv rfl rfl (vm rfl) (lv rfl rfl (vm rfl) (lv rfl rfl (v := (.int .i64 (a0 : Int))) (hv_len (n := a0) TyTS.u71 rfl) (lv rfl rfl (vm rfl) ?_)))
 refine lp rfl rfl (sc TyTS.cb74 rfl (HC.mono H ?_))
 rintro _ h1 ⟨rfl, H⟩
 refine ln ?_
 exact endQ_n _ (res_none Tryd.results52 ) H
end Go.Proofs.YthjehlocmikchaaDoor
