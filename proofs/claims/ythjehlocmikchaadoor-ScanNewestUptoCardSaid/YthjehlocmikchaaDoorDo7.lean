import Derived.Test.YthjehlocmikchaaDoorProg
import Derived.Test.YthjehlocmikchaaDoorDo1
import Derived.Test.YthjehlocmikchaaDoorDo2
import Derived.Test.YthjehlocmikchaaDoorDo3
import Derived.Test.YthjehlocmikchaaDoorDo5
import Derived.Test.YthjehlocmikchaaDoorDo6
namespace Go.Proofs.YthjehlocmikchaaDoor
open Go
open Go.Proofs.YthjehlocmikchaaDoor renaming hl_val → lv, hl_step → lp, hl_nil → ln, hl_yes → ly, hl_no → lo, hx_seq → xs, hx_region → xr, hx_cond → xc, hx_block → xb, hx_loopT → xl, hx_cut → xk, hx_has → xh, hx_skip → xi, hx_ret → xt, hx_exit → xe, seqQ_n → qn, seqQ_ret → qr, seqQ_exit → qe, blockQ_n → bn, blockQ_here → bh, hv_move → vm, hv_assign → va, hv_arith → vr, hv_load → vl, hv_index → vi, hp_pure → pp, hp_read → pr, hp_no → pn, has_cons → hc, has_nil → hn, hs_call → sc
set_option maxRecDepth 100000
set_option maxHeartbeats 4000000
theorem TyTS.agg3 : aggB Tryd.prog 3 = some false := by kernel_rfl
theorem TyTS.cb107 : CallB Tryd.prog 107 := fun _ _ => Tryd.call107 _ _
theorem TyTS.cb116 : CallB Tryd.prog 116 := fun _ _ => Tryd.call116 _ _
theorem TyTS.cb74 : CallB Tryd.prog 74 := fun _ _ => Tryd.call74 _ _
theorem TyTS.cb88 : CallB Tryd.prog 88 := fun _ _ => Tryd.call88 _ _
theorem TyTS.cb89 : CallB Tryd.prog 89 := fun _ _ => Tryd.call89 _ _
theorem TyTS.el71 : elB Tryd.prog 71 = some 1 := by kernel_rfl
theorem TyTS.mixed : Tryd.prog.follows .mixedOrders = true := by kernel_rfl
theorem TyTS.sz3 : szB Tryd.prog 3 = some 1 := by kernel_rfl
theorem TyTS.u122 : Tryd.prog.underlying 122 = some (.int .u64) := by kernel_rfl
theorem TyTS.u3 : Tryd.prog.underlying 3 = some (.int .i64) := by kernel_rfl
theorem TyTS.u71 : Tryd.prog.underlying 71 = some (.slice 3) := by kernel_rfl
theorem f74_sh (a4 : Option Addr) (a1 : Nat) (a2 : Nat) (n : Int) (a6 : Value) (h : Heap) (R : Value → Heap → Prop)
  (H : (∃ (I1 : Int → Int → Heap → Prop) (b5 : Int → Int → Heap → Nat), I1 0 20 h ∧ (∀ (a : Int) (b : Int) (h1 : Heap), I1 a b h1 → (((decide (b ≤ n)) = true → HC Tryd.prog 88 #[(.slice a4 a1 a2), (.int .i64 a), (.int .i64 b), a6] h1 (fun vv h2 => vv = (.tuple #[]) ∧ (I1 b (IntKind.i64.wrap (b + 20)) h2 ∧ b5 b (IntKind.i64.wrap (b + 20)) h2 < b5 a b h1))) ∧ ((decide (b ≤ n)) = false → HC Tryd.prog 88 #[(.slice a4 a1 a2), (.int .i64 a), (.int .i64 n), a6] h1 (fun vv h3 => vv = (.tuple #[]) ∧ (∃ (I7 : Int → Heap → Prop) (b6 : Int → Heap → Nat), I7 20 h3 ∧ (∀ (a0 : Int) (h4 : Heap), I7 a0 h4 → (((decide (a0 < n)) = true → (∃ (a8 : Int → Int → Heap → Prop) (a7 : Int → Int → Heap → Nat), a8 0 (IntKind.i64.wrap (2 * a0)) h4 ∧ (∀ (a3 : Int) (a5 : Int) (h5 : Heap), a8 a3 a5 h5 → (((decide (a5 ≤ n)) = true → HC Tryd.prog 89 #[(.slice a4 a1 a2), (.int .i64 a3), (.int .i64 (IntKind.i64.wrap (a3 + a0))), (.int .i64 a5), a6] h5 (fun vv h6 => vv = (.tuple #[]) ∧ (a8 a5 (IntKind.i64.wrap (a5 + (IntKind.i64.wrap (2 * a0)))) h6 ∧ a7 a5 (IntKind.i64.wrap (a5 + (IntKind.i64.wrap (2 * a0)))) h6 < a7 a3 a5 h5))) ∧ ((decide (a5 ≤ n)) = false → (∃ a9 : Heap → Prop, (((decide ((IntKind.i64.wrap (a3 + a0)) < n)) = true → HC Tryd.prog 89 #[(.slice a4 a1 a2), (.int .i64 a3), (.int .i64 (IntKind.i64.wrap (a3 + a0))), (.int .i64 n), a6] h5 (fun vv h8 => vv = (.tuple #[]) ∧ (a9 h8))) ∧ ((decide ((IntKind.i64.wrap (a3 + a0)) < n)) = false → (a9 h5))) ∧ (∀ (h7 : Heap), a9 h7 → (I7 (IntKind.i64.wrap (a0 * 2)) h7 ∧ b6 (IntKind.i64.wrap (a0 * 2)) h7 < b6 a0 h4)))))))) ∧ ((decide (a0 < n)) = false → R (.tuple #[]) h4)))))))))) :
  HC Tryd.prog 74 #[(.slice a4 a1 a2), (.int .i64 n), a6] h R := by
 refine hc_of (args := [(.slice a4 a1 a2), (.int .i64 n), a6]) Tryd.func74 rfl Tryd.ntmps74 (Nat.le_of_ble_eq_true rfl) ?_
 refine xs (xr ?_)
 refine lv rfl rfl (va rfl) ?_
 refine ln (qn (xs (xr ?_)))
 refine lv rfl rfl (vm rfl) (lv rfl rfl (va rfl) (lv rfl rfl (va rfl) ?_))
 refine ln (qn (xs (xb ?_)))
 obtain ⟨I1, b5, c5, c7⟩ := H
 refine xl (σ := Int × Int) (fun s => [(0, (.slice a4 a1 a2)), (1, (.int .i64 n)), (2, a6), (6, (.int .i64 20)), (7, (.int .i64 s.1)), (8, (.int .i64 s.2))]) (fun s h' => I1 s.1 s.2 h' ∧ True) (fun s h' => b5 s.1 s.2 h') (0, 20) ⟨c5, trivial⟩ (hc rfl (hc rfl (hc rfl (hc rfl (hc rfl (hc rfl hn)))))) ?_
 rintro ⟨a, b⟩ ρ h1 ⟨c6, -⟩
 have H := c7 a b h1 c6
 refine xs (xs (xr ?_))
 refine lv rfl rfl (vm rfl) (lv rfl rfl (vm rfl) (lv rfl rfl (vr rfl rfl rfl) ?_))
 refine ln (qn ?_)
 refine xc (b := decide (b ≤ n)) rfl (fun b7 => ?_) (fun b7 => ?_)
 ·replace H := H.1 b7
  refine xi (qn (xb (xs (xr ?_))))
  refine lv rfl rfl (vm rfl) (lv rfl rfl (vm rfl) (lv rfl rfl (vm rfl) (lv rfl rfl (vm rfl) ?_)))
  refine lp rfl rfl (sc TyTS.cb88 rfl (HC.mono H ?_))
  rintro _ h2 ⟨rfl, H⟩
  refine ln (qn (xs (xr ?_)))
  refine lv rfl rfl (vm rfl) (lv rfl rfl (va rfl) ?_)
  refine ln (qn (xr ?_))
  refine lv rfl rfl (vm rfl) (lv rfl rfl (vm rfl) (lv rfl rfl (vr rfl rfl rfl) (lv rfl rfl (va rfl) ?_)))
  refine ln (bn (qn ?_))
  exact ⟨(b, IntKind.i64.wrap (b + 20)), ⟨⟨H.1, trivial⟩, H.2⟩, (hc rfl (hc rfl (hc rfl (hc rfl (hc rfl (hc rfl hn))))))⟩
 ·replace H := H.2 b7
  refine xe (qe (qe (bh (qn (xs (xr ?_))))))
  refine lv rfl rfl (vm rfl) (lv rfl rfl (vm rfl) (lv rfl rfl (vm rfl) (lv rfl rfl (vm rfl) ?_)))
  refine lp rfl rfl (sc TyTS.cb88 rfl (HC.mono H ?_))
  rintro _ h3 ⟨rfl, H⟩
  refine ln (qn (xb ?_))
  obtain ⟨I7, b6, c4, c3⟩ := H
  refine xl (σ := Int) (fun s => [(0, (.slice a4 a1 a2)), (1, (.int .i64 n)), (2, a6), (6, (.int .i64 s))]) (fun s h' => I7 s h' ∧ True) (fun s h' => b6 s h') 20 ⟨c4, trivial⟩ (hc rfl (hc rfl (hc rfl (hc rfl hn)))) ?_
  rintro a0 ρ h4 ⟨c2, -⟩
  have H := c3 a0 h4 c2
  refine xs (xs (xr ?_))
  refine lv rfl rfl (vm rfl) (lv rfl rfl (vm rfl) (lv rfl rfl (vr rfl rfl rfl) ?_))
  refine ln (qn ?_)
  refine xc (b := decide (a0 < n)) rfl (fun b4 => ?_) (fun b4 => ?_)
  ·replace H := H.1 b4
   refine xi (qn (xb (xs (xr ?_))))
   refine lv rfl rfl (vm rfl) (lv rfl rfl (vr rfl rfl rfl) (lv rfl rfl (va rfl) (lv rfl rfl (va rfl) ?_)))
   refine ln (qn (xs (xb ?_)))
   obtain ⟨a8, a7, c1, c0⟩ := H
   refine xl (σ := Int × Int) (fun s => [(0, (.slice a4 a1 a2)), (1, (.int .i64 n)), (2, a6), (6, (.int .i64 a0)), (7, (.int .i64 s.1)), (8, (.int .i64 s.2))]) (fun s h' => a8 s.1 s.2 h' ∧ True) (fun s h' => a7 s.1 s.2 h') (0, IntKind.i64.wrap (2 * a0)) ⟨c1, trivial⟩ (hc rfl (hc rfl (hc rfl (hc rfl (hc rfl (hc rfl hn)))))) ?_
   rintro ⟨a3, a5⟩ ρ h5 ⟨b9, -⟩
   have H := c0 a3 a5 h5 b9
   refine xs (xs (xr ?_))
   refine lv rfl rfl (vm rfl) (lv rfl rfl (vm rfl) (lv rfl rfl (vr rfl rfl rfl) ?_))
   refine ln (qn ?_)
   refine xc (b := decide (a5 ≤ n)) rfl (fun b1 => ?_) (fun b1 => ?_)
   ·replace H := H.1 b1
    refine xi (qn (xb (xs (xr ?_))))
    refine lv rfl rfl (vm rfl) (lv rfl rfl (vm rfl) (lv rfl rfl (vm rfl) (lv rfl rfl (vm rfl) (lv rfl rfl (vr rfl rfl rfl) (lv rfl rfl (vm rfl) ?_)))))
    refine lv rfl rfl (vm rfl) ?_
    refine lp rfl rfl (sc TyTS.cb89 rfl (HC.mono H ?_))
    rintro _ h6 ⟨rfl, H⟩
    refine ln (qn (xs (xr ?_)))
    refine lv rfl rfl (vm rfl) (lv rfl rfl (va rfl) ?_)
    refine ln (qn (xr ?_))
    refine lv rfl rfl (vm rfl) (lv rfl rfl (vm rfl) (lv rfl rfl (vr rfl rfl rfl) (lv rfl rfl (vr rfl rfl rfl) (lv rfl rfl (va rfl) ?_))))
    refine ln (bn (qn ?_))
    exact ⟨(a5, IntKind.i64.wrap (a5 + (IntKind.i64.wrap (2 * a0)))), ⟨⟨H.1, trivial⟩, H.2⟩, (hc rfl (hc rfl (hc rfl (hc rfl (hc rfl (hc rfl hn))))))⟩
   ·replace H := H.2 b1
    refine xe (qe (qe (bh (qn ?_))))
    obtain ⟨a9, b0, b3⟩ := H
    refine xk (fun ρ h' => (a9 h' ∧ True) ∧ Has ρ [(0, (.slice a4 a1 a2)), (1, (.int .i64 n)), (2, a6), (6, (.int .i64 a0))]) ?_ ?_
    ·have H := b0; clear b0 b3
     refine xs (xr ?_)
     refine lv rfl rfl (vm rfl) (lv rfl rfl (vm rfl) (lv rfl rfl (vr rfl rfl rfl) (lv rfl rfl (va rfl) ?_)))
     refine ln (qn (xs (xr ?_)))
     refine lv rfl rfl (vm rfl) (lv rfl rfl (vm rfl) (lv rfl rfl (vr rfl rfl rfl) ?_))
     refine ln (qn ?_)
     refine xc (b := decide ((IntKind.i64.wrap (a3 + a0)) < n)) rfl (fun b2 => ?_) (fun b2 => ?_)
     ·replace H := H.1 b2
      refine xr ?_
      refine lv rfl rfl (vm rfl) (lv rfl rfl (vm rfl) (lv rfl rfl (vm rfl) (lv rfl rfl (vm rfl) (lv rfl rfl (vm rfl) ?_))))
      refine lp rfl rfl (sc TyTS.cb89 rfl (HC.mono H ?_))
      rintro _ h8 ⟨rfl, H⟩
      refine ln (qn ?_)
      exact ⟨⟨H, trivial⟩, (hc rfl (hc rfl (hc rfl (hc rfl hn))))⟩
     ·replace H := H.2 b2
      refine xi (qn ?_)
      exact ⟨⟨H, trivial⟩, (hc rfl (hc rfl (hc rfl (hc rfl hn))))⟩
    ·rintro ρ h7 ⟨⟨b8, -⟩, hH⟩
     have H := b3 h7 b8; clear b0 b3
     refine xh _ hH ?_
     refine xr ?_
     refine lv rfl rfl (vm rfl) (lv rfl rfl (vr rfl rfl rfl) (lv rfl rfl (va rfl) ?_))
     refine ln (bn (qn ?_))
     exact ⟨IntKind.i64.wrap (a0 * 2), ⟨⟨H.1, trivial⟩, H.2⟩, (hc rfl (hc rfl (hc rfl (hc rfl hn))))⟩
  ·replace H := H.2 b4
   refine xe (qe (qe (bh ?_)))
   exact endQ_n _ (res_none Tryd.results74 ) H
theorem f88_sh (a7 : Option Addr) (a3 : Nat) (a4 : Nat) (a : Int) (b : Int) (a9 : Value) (h : Heap) (R : Value → Heap → Prop)
  (H : (∃ (I1 : Int → Heap → Prop) (b7 : Int → Heap → Nat), I1 (IntKind.i64.wrap (a + 1)) h ∧ (∀ (i : Int) (h1 : Heap), I1 i h1 → (((decide (i < b)) = true → (∃ (I7 : Int → Heap → Prop) (b8 : Int → Heap → Nat), I7 i h1 ∧ (∀ (j : Int) (h2 : Heap), I7 j h2 → (∃ b0 : Bool → Heap → Prop, (((decide (j > a)) = true → (∃ a6 a5 : Nat, a7 = some ⟨a6, a5, none⟩ ∧ (0 : Int) ≤ j ∧ j < (a3 : Int) ∧ (∃ x : Int, hcell h2 a6 (a5 + (Int.toNat j) * 1) = some (.int .i64 x) ∧ ((0 : Int) ≤ IntKind.i64.wrap (j - 1) ∧ IntKind.i64.wrap (j - 1) < (a3 : Int) ∧ (∃ b1 : Int, hcell h2 a6 (a5 + (Int.toNat (IntKind.i64.wrap (j - 1))) * 1) = some (.int .i64 b1) ∧ HCV Tryd.prog a9 [(.int .i64 x), (.int .i64 b1)] h2 (fun vv h4 => ∃ r : Int, vv = (.int .i64 r) ∧ (b0 (decide (r < 0)) h4))))))) ∧ ((decide (j > a)) = false → (b0 false h2))) ∧ (∀ (a8 : Bool) (h3 : Heap), b0 a8 h3 → ((a8 = true → (∃ a1 a2 : Nat, a7 = some ⟨a1, a2, none⟩ ∧ (0 : Int) ≤ IntKind.i64.wrap (j - 1) ∧ IntKind.i64.wrap (j - 1) < (a3 : Int) ∧ (∃ b2 : Int, hcell h3 a1 (a2 + (Int.toNat (IntKind.i64.wrap (j - 1))) * 1) = some (.int .i64 b2) ∧ ((0 : Int) ≤ j ∧ j < (a3 : Int) ∧ (∃ b3 : Int, hcell h3 a1 (a2 + (Int.toNat j) * 1) = some (.int .i64 b3) ∧ (HW h3 a1 (a2 + (Int.toNat j) * 1) ∧ ∀ h5, h5 = hset h3 a1 (a2 + (Int.toNat j) * 1) (.int .i64 b2) → (HW h5 a1 (a2 + (Int.toNat (IntKind.i64.wrap (j - 1))) * 1) ∧ ∀ h6, h6 = hset h5 a1 (a2 + (Int.toNat (IntKind.i64.wrap (j - 1))) * 1) (.int .i64 b3) → (I7 (IntKind.i64.wrap (j - 1)) h6 ∧ b8 (IntKind.i64.wrap (j - 1)) h6 < b8 j h2)))))))) ∧ (a8 = false → (I1 (IntKind.i64.wrap (i + 1)) h3 ∧ b7 (IntKind.i64.wrap (i + 1)) h3 < b7 i h1)))))))) ∧ ((decide (i < b)) = false → R (.tuple #[]) h1))))) :
  HC Tryd.prog 88 #[(.slice a7 a3 a4), (.int .i64 a), (.int .i64 b), a9] h R := by
 refine hc_of (args := [(.slice a7 a3 a4), (.int .i64 a), (.int .i64 b), a9]) Tryd.func88 rfl Tryd.ntmps88 (Nat.le_of_ble_eq_true rfl) ?_
 refine xs (xr ?_)
 refine lv rfl rfl (vm rfl) (lv rfl rfl (vr rfl rfl rfl) (lv rfl rfl (va rfl) ?_))
 refine ln (qn (xb ?_))
 obtain ⟨I1, b7, e1, e3⟩ := H
 refine xl (σ := Int) (fun s => [(0, (.slice a7 a3 a4)), (1, (.int .i64 a)), (2, (.int .i64 b)), (3, a9), (8, (.int .i64 s))]) (fun s h' => I1 s h' ∧ True) (fun s h' => b7 s h') (IntKind.i64.wrap (a + 1)) ⟨e1, trivial⟩ (hc rfl (hc rfl (hc rfl (hc rfl (hc rfl hn))))) ?_
 rintro i ρ h1 ⟨e2, -⟩
 have H := e3 i h1 e2
 refine xs (xs (xr ?_))
 refine lv rfl rfl (vm rfl) (lv rfl rfl (vm rfl) (lv rfl rfl (vr rfl rfl rfl) ?_))
 refine ln (qn ?_)
 refine xc (b := decide (i < b)) rfl (fun c2 => ?_) (fun c2 => ?_)
 ·replace H := H.1 c2
  refine xi (qn (xs (xb (xs (xr ?_)))))
  refine lv rfl rfl (vm rfl) (lv rfl rfl (va rfl) ?_)
  refine ln (qn (xb ?_))
  obtain ⟨I7, b8, e0, d7⟩ := H
  refine xl (σ := Int) (fun s => [(0, (.slice a7 a3 a4)), (1, (.int .i64 a)), (2, (.int .i64 b)), (3, a9), (8, (.int .i64 i)), (9, (.int .i64 s))]) (fun s h' => I7 s h' ∧ True) (fun s h' => b8 s h') i ⟨e0, trivial⟩ (hc rfl (hc rfl (hc rfl (hc rfl (hc rfl (hc rfl hn)))))) ?_
  rintro j ρ h2 ⟨d4, -⟩
  have H := d7 j h2 d4
  refine xs ?_
  obtain ⟨b0, b6, b5⟩ := H
  refine xk (fun ρ h' => ∃ a8 : Bool, (b0 a8 h' ∧ True) ∧ Has ρ [(0, (.slice a7 a3 a4)), (1, (.int .i64 a)), (2, (.int .i64 b)), (3, a9), (8, (.int .i64 i)), (9, (.int .i64 j)), (34, (.bool a8))]) ?_ ?_
  ·have H := b6; clear b6 b5
   refine hx_draw TyTS.mixed [.pure, .pure, .pure, .pure, .pure, .pure, .pure, .pure, .read, .pure, .pure, .pure, .pure, .read, .wild, .pure, .pure] [0, 1, 2, 3, 4, 5, 6, 7, 8, 9, 10, 11, 12, 13, 14, 15, 16] (by kernel_rfl) ?_
   refine pp (i := 0) rfl (wanted_0 rfl) rfl (.int .i64 j) (fun _ => vm rfl) ?_
   refine pp (i := 1) rfl (wanted_0 rfl) rfl (.int .i64 a) (fun _ => vm rfl) ?_
   refine pp (i := 2) rfl (wanted_0 rfl) rfl (.bool (decide (j > a))) (fun _ => vr rfl rfl rfl) ?_
   refine pp (i := 3) rfl (wanted_0 rfl) rfl (.bool (decide (j > a))) (fun _ => vm rfl) ?_
   rcases bool_or (decide (j > a)) with a0 | a0
   ·replace H := H.1 a0
    refine pp (i := 4) rfl (wanted_y rfl rfl rfl a0) rfl a9 (fun _ => vm rfl) ?_
    refine pp (i := 5) rfl (wanted_y rfl rfl rfl a0) rfl (.slice a7 a3 a4) (fun _ => vm rfl) ?_
    refine pp (i := 6) rfl (wanted_y rfl rfl rfl a0) rfl (.int .i64 j) (fun _ => vm rfl) ?_
    obtain ⟨a6, a5, c3, d5, d8, Hq⟩ := H
    subst c3
    have H := Hq; clear Hq
    refine pp (i := 7) rfl (wanted_y rfl rfl rfl a0) rfl (ptr a6 (a5 + (Int.toNat j) * 1)) (fun _ => vi TyTS.el71 rfl rfl d5 d8) ?_
    obtain ⟨x, d6, H⟩ := H
    refine pr (i := 8) rfl (wanted_y rfl rfl rfl a0) rfl (.int .i64 x) (fun _ he => vl TyTS.agg3 rfl (Ext.cell he d6)) ?_
    refine pp (i := 9) rfl (wanted_y rfl rfl rfl a0) rfl (.slice (some ⟨a6, a5, none⟩) a3 a4) (fun _ => vm rfl) ?_
    refine pp (i := 10) rfl (wanted_y rfl rfl rfl a0) rfl (.int .i64 j) (fun _ => vm rfl) ?_
    refine pp (i := 11) rfl (wanted_y rfl rfl rfl a0) rfl (.int .i64 (IntKind.i64.wrap (j - 1))) (fun _ => vr rfl rfl rfl) ?_
    obtain ⟨d3, c8, H⟩ := H
    refine pp (i := 12) rfl (wanted_y rfl rfl rfl a0) rfl (ptr a6 (a5 + (Int.toNat (IntKind.i64.wrap (j - 1))) * 1)) (fun _ => vi TyTS.el71 rfl rfl d3 c8) ?_
    obtain ⟨b1, d1, H⟩ := H
    refine pr (i := 13) rfl (wanted_y rfl rfl rfl a0) rfl (.int .i64 b1) (fun _ he => vl TyTS.agg3 rfl (Ext.cell he d1)) ?_
    refine hp_wild (i := 14) rfl (wanted_y rfl rfl rfl a0) rfl (hs_callF (vs := [(.int .i64 x), (.int .i64 b1)]) rfl rfl (HCV.mono H ?_))
    rintro _ h4 ⟨r, rfl, H⟩
    refine pp (i := 15) rfl (wanted_y rfl rfl rfl a0) rfl (.bool (decide (r < 0))) (fun _ => vr rfl rfl rfl) ?_
    refine pp (i := 16) rfl (wanted_0 rfl) rfl (.bool (decide (r < 0))) (fun _ => hv_pick_t rfl a0 rfl) ?_
    refine hp_nil ?_
    refine qn ?_
    exact ⟨_, ⟨H, trivial⟩, (hc rfl (hc rfl (hc rfl (hc rfl (hc rfl (hc rfl (hc rfl hn)))))))⟩
   ·replace H := H.2 a0
    refine pn (i := 4) rfl (wanted_n rfl rfl rfl a0) ?_
    refine pn (i := 5) rfl (wanted_n rfl rfl rfl a0) ?_
    refine pn (i := 6) rfl (wanted_n rfl rfl rfl a0) ?_
    refine pn (i := 7) rfl (wanted_n rfl rfl rfl a0) ?_
    refine pn (i := 8) rfl (wanted_n rfl rfl rfl a0) ?_
    refine pn (i := 9) rfl (wanted_n rfl rfl rfl a0) ?_
    refine pn (i := 10) rfl (wanted_n rfl rfl rfl a0) ?_
    refine pn (i := 11) rfl (wanted_n rfl rfl rfl a0) ?_
    refine pn (i := 12) rfl (wanted_n rfl rfl rfl a0) ?_
    refine pn (i := 13) rfl (wanted_n rfl rfl rfl a0) ?_
    refine pn (i := 14) rfl (wanted_n rfl rfl rfl a0) ?_
    refine pn (i := 15) rfl (wanted_n rfl rfl rfl a0) ?_
    refine pp (i := 16) rfl (wanted_0 rfl) rfl (.bool false) (fun _ => hv_pick_f rfl a0 rfl) ?_
    refine hp_nil ?_
    refine qn ?_
    exact ⟨_, ⟨H, trivial⟩, (hc rfl (hc rfl (hc rfl (hc rfl (hc rfl (hc rfl (hc rfl hn)))))))⟩
  ·rintro ρ h3 ⟨a8, ⟨c5, -⟩, hH⟩
   have H := b5 a8 h3 c5; clear b6 b5
   refine xh _ hH ?_
   refine xc (b := a8) rfl (fun b4 => ?_) (fun b4 => ?_)
   ·replace H := H.1 b4
    refine xi (qn (xs (xb ?_)))
    refine hx_draw TyTS.mixed [.pure, .pure, .pure, .pure, .pure, .pure, .pure, .pure, .pure, .read, .pure, .pure, .pure, .read, .pure, .wild, .pure, .wild] [0, 1, 2, 3, 4, 5, 6, 7, 8, 9, 10, 11, 12, 13, 14, 15, 16, 17] (by kernel_rfl) ?_
    refine pp (i := 0) rfl (wanted_0 rfl) rfl (.slice a7 a3 a4) (fun _ => vm rfl) ?_
    refine pp (i := 1) rfl (wanted_0 rfl) rfl (.int .i64 j) (fun _ => vm rfl) ?_
    refine pp (i := 2) rfl (wanted_0 rfl) rfl (.slice a7 a3 a4) (fun _ => vm rfl) ?_
    refine pp (i := 3) rfl (wanted_0 rfl) rfl (.int .i64 j) (fun _ => vm rfl) ?_
    refine pp (i := 4) rfl (wanted_0 rfl) rfl (.int .i64 (IntKind.i64.wrap (j - 1))) (fun _ => vr rfl rfl rfl) ?_
    refine pp (i := 5) rfl (wanted_0 rfl) rfl (.slice a7 a3 a4) (fun _ => vm rfl) ?_
    refine pp (i := 6) rfl (wanted_0 rfl) rfl (.int .i64 j) (fun _ => vm rfl) ?_
    refine pp (i := 7) rfl (wanted_0 rfl) rfl (.int .i64 (IntKind.i64.wrap (j - 1))) (fun _ => vr rfl rfl rfl) ?_
    obtain ⟨a1, a2, c3, c0, c4, Hq⟩ := H
    subst c3
    have H := Hq; clear Hq
    refine pp (i := 8) rfl (wanted_0 rfl) rfl (ptr a1 (a2 + (Int.toNat (IntKind.i64.wrap (j - 1))) * 1)) (fun _ => vi TyTS.el71 rfl rfl c0 c4) ?_
    obtain ⟨b2, c7, H⟩ := H
    refine pr (i := 9) rfl (wanted_0 rfl) rfl (.int .i64 b2) (fun _ he => vl TyTS.agg3 rfl (Ext.cell he c7)) ?_
    refine pp (i := 10) rfl (wanted_0 rfl) rfl (.slice (some ⟨a1, a2, none⟩) a3 a4) (fun _ => vm rfl) ?_
    refine pp (i := 11) rfl (wanted_0 rfl) rfl (.int .i64 j) (fun _ => vm rfl) ?_
    obtain ⟨c1, b9, H⟩ := H
    refine pp (i := 12) rfl (wanted_0 rfl) rfl (ptr a1 (a2 + (Int.toNat j) * 1)) (fun _ => vi TyTS.el71 rfl rfl c1 b9) ?_
    obtain ⟨b3, d0, H⟩ := H
    refine pr (i := 13) rfl (wanted_0 rfl) rfl (.int .i64 b3) (fun _ he => vl TyTS.agg3 rfl (Ext.cell he d0)) ?_
    refine pp (i := 14) rfl (wanted_0 rfl) rfl (ptr a1 (a2 + (Int.toNat j) * 1)) (fun _ => vi TyTS.el71 rfl rfl c1 b9) ?_
    obtain ⟨d2, H⟩ := H
    refine hp_wild (i := 15) rfl (wanted_0 rfl) rfl (hn_store (v := (.int .i64 b2)) rfl rfl TyTS.sz3 rfl d2 ?_)
    intro h5 c9
    replace H := H h5 c9
    refine pp (i := 16) rfl (wanted_0 rfl) rfl (ptr a1 (a2 + (Int.toNat (IntKind.i64.wrap (j - 1))) * 1)) (fun _ => vi TyTS.el71 rfl rfl c0 c4) ?_
    obtain ⟨c6, H⟩ := H
    refine hp_wild (i := 17) rfl (wanted_0 rfl) rfl (hn_store (v := (.int .i64 b3)) rfl rfl TyTS.sz3 rfl c6 ?_)
    intro h6 d9
    replace H := H h6 d9
    refine hp_nil ?_
    refine bn (qn (xr ?_))
    refine lv rfl rfl (vm rfl) (lv rfl rfl (vr rfl rfl rfl) (lv rfl rfl (va rfl) ?_))
    refine ln (qn ?_)
    exact ⟨IntKind.i64.wrap (j - 1), ⟨⟨H.1, trivial⟩, H.2⟩, (hc rfl (hc rfl (hc rfl (hc rfl (hc rfl (hc rfl hn))))))⟩
   ·replace H := H.2 b4
    refine xe (qe (qe (bh (bn (qn (xr ?_))))))
    refine lv rfl rfl (vm rfl) (lv rfl rfl (vr rfl rfl rfl) (lv rfl rfl (va rfl) ?_))
    refine ln (qn ?_)
    exact ⟨IntKind.i64.wrap (i + 1), ⟨⟨H.1, trivial⟩, H.2⟩, (hc rfl (hc rfl (hc rfl (hc rfl (hc rfl hn)))))⟩
 ·replace H := H.2 c2
  refine xe (qe (qe (bh ?_)))
  exact endQ_n _ (res_none Tryd.results88 ) H
theorem f89_sh (a5 : Option Addr) (a3 : Nat) (a4 : Nat) (a : Int) (m : Int) (b : Int) (a8 : Value) (h : Heap) (R : Value → Heap → Prop)
  (H : ((((IntKind.i64.wrap (m - a)) == 1) = true → (∃ (I2 : Int → Int → Heap → Prop) (c2 : Int → Int → Heap → Nat), I2 m b h ∧ (∀ (i : Int) (j : Int) (h1 : Heap), I2 i j h1 → (((decide (i < j)) = true → (∃ a2 a1 : Nat, a5 = some ⟨a2, a1, none⟩ ∧ (0 : Int) ≤ IntKind.i64.wrap (Int.fdiv (IntKind.u64.wrap (IntKind.i64.wrap (i + j))) (2 ^ min (Int.toNat 1) 64)) ∧ IntKind.i64.wrap (Int.fdiv (IntKind.u64.wrap (IntKind.i64.wrap (i + j))) (2 ^ min (Int.toNat 1) 64)) < (a3 : Int) ∧ (∃ x : Int, hcell h1 a2 (a1 + (Int.toNat (IntKind.i64.wrap (Int.fdiv (IntKind.u64.wrap (IntKind.i64.wrap (i + j))) (2 ^ min (Int.toNat 1) 64)))) * 1) = some (.int .i64 x) ∧ ((0 : Int) ≤ a ∧ a < (a3 : Int) ∧ (∃ a7 : Int, hcell h1 a2 (a1 + (Int.toNat a) * 1) = some (.int .i64 a7) ∧ HCV Tryd.prog a8 [(.int .i64 x), (.int .i64 a7)] h1 (fun vv h2 => ∃ r : Int, vv = (.int .i64 r) ∧ (((decide (r < 0)) = true → (I2 (IntKind.i64.wrap ((IntKind.i64.wrap (Int.fdiv (IntKind.u64.wrap (IntKind.i64.wrap (i + j))) (2 ^ min (Int.toNat 1) 64))) + 1)) j h2 ∧ c2 (IntKind.i64.wrap ((IntKind.i64.wrap (Int.fdiv (IntKind.u64.wrap (IntKind.i64.wrap (i + j))) (2 ^ min (Int.toNat 1) 64))) + 1)) j h2 < c2 i j h1)) ∧ ((decide (r < 0)) = false → (I2 i (IntKind.i64.wrap (Int.fdiv (IntKind.u64.wrap (IntKind.i64.wrap (i + j))) (2 ^ min (Int.toNat 1) 64))) h2 ∧ c2 i (IntKind.i64.wrap (Int.fdiv (IntKind.u64.wrap (IntKind.i64.wrap (i + j))) (2 ^ min (Int.toNat 1) 64))) h2 < c2 i j h1))))))))) ∧ ((decide (i < j)) = false → (∃ (d3 : Int → Heap → Prop) (c4 : Int → Heap → Nat), d3 a h1 ∧ (∀ (k : Int) (h3 : Heap), d3 k h3 → (((decide (k < (IntKind.i64.wrap (i - 1)))) = true → (∃ a2 a1 : Nat, a5 = some ⟨a2, a1, none⟩ ∧ (0 : Int) ≤ IntKind.i64.wrap (k + 1) ∧ IntKind.i64.wrap (k + 1) < (a3 : Int) ∧ (∃ x : Int, hcell h3 a2 (a1 + (Int.toNat (IntKind.i64.wrap (k + 1))) * 1) = some (.int .i64 x) ∧ ((0 : Int) ≤ k ∧ k < (a3 : Int) ∧ (∃ a7 : Int, hcell h3 a2 (a1 + (Int.toNat k) * 1) = some (.int .i64 a7) ∧ (HW h3 a2 (a1 + (Int.toNat k) * 1) ∧ ∀ h4, h4 = hset h3 a2 (a1 + (Int.toNat k) * 1) (.int .i64 x) → (HW h4 a2 (a1 + (Int.toNat (IntKind.i64.wrap (k + 1))) * 1) ∧ ∀ h5, h5 = hset h4 a2 (a1 + (Int.toNat (IntKind.i64.wrap (k + 1))) * 1) (.int .i64 a7) → (d3 (IntKind.i64.wrap (k + 1)) h5 ∧ c4 (IntKind.i64.wrap (k + 1)) h5 < c4 k h3)))))))) ∧ ((decide (k < (IntKind.i64.wrap (i - 1)))) = false → R (.tuple #[]) h3))))))))) ∧ (((IntKind.i64.wrap (m - a)) == 1) = false → ((((IntKind.i64.wrap (b - m)) == 1) = true → (∃ (c3 : Int → Int → Heap → Prop) (b7 : Int → Int → Heap → Nat), c3 a m h ∧ (∀ (i : Int) (j : Int) (h6 : Heap), c3 i j h6 → (((decide (i < j)) = true → (∃ a2 a1 : Nat, a5 = some ⟨a2, a1, none⟩ ∧ (0 : Int) ≤ m ∧ m < (a3 : Int) ∧ (∃ x : Int, hcell h6 a2 (a1 + (Int.toNat m) * 1) = some (.int .i64 x) ∧ ((0 : Int) ≤ IntKind.i64.wrap (Int.fdiv (IntKind.u64.wrap (IntKind.i64.wrap (i + j))) (2 ^ min (Int.toNat 1) 64)) ∧ IntKind.i64.wrap (Int.fdiv (IntKind.u64.wrap (IntKind.i64.wrap (i + j))) (2 ^ min (Int.toNat 1) 64)) < (a3 : Int) ∧ (∃ a7 : Int, hcell h6 a2 (a1 + (Int.toNat (IntKind.i64.wrap (Int.fdiv (IntKind.u64.wrap (IntKind.i64.wrap (i + j))) (2 ^ min (Int.toNat 1) 64)))) * 1) = some (.int .i64 a7) ∧ HCV Tryd.prog a8 [(.int .i64 x), (.int .i64 a7)] h6 (fun vv h7 => ∃ r : Int, vv = (.int .i64 r) ∧ (((!(decide (r < 0))) = true → (c3 (IntKind.i64.wrap ((IntKind.i64.wrap (Int.fdiv (IntKind.u64.wrap (IntKind.i64.wrap (i + j))) (2 ^ min (Int.toNat 1) 64))) + 1)) j h7 ∧ b7 (IntKind.i64.wrap ((IntKind.i64.wrap (Int.fdiv (IntKind.u64.wrap (IntKind.i64.wrap (i + j))) (2 ^ min (Int.toNat 1) 64))) + 1)) j h7 < b7 i j h6)) ∧ ((!(decide (r < 0))) = false → (c3 i (IntKind.i64.wrap (Int.fdiv (IntKind.u64.wrap (IntKind.i64.wrap (i + j))) (2 ^ min (Int.toNat 1) 64))) h7 ∧ b7 i (IntKind.i64.wrap (Int.fdiv (IntKind.u64.wrap (IntKind.i64.wrap (i + j))) (2 ^ min (Int.toNat 1) 64))) h7 < b7 i j h6))))))))) ∧ ((decide (i < j)) = false → (∃ (c8 : Int → Heap → Prop) (c6 : Int → Heap → Nat), c8 m h6 ∧ (∀ (k : Int) (h8 : Heap), c8 k h8 → (((decide (k > i)) = true → (∃ a2 a1 : Nat, a5 = some ⟨a2, a1, none⟩ ∧ (0 : Int) ≤ IntKind.i64.wrap (k - 1) ∧ IntKind.i64.wrap (k - 1) < (a3 : Int) ∧ (∃ x : Int, hcell h8 a2 (a1 + (Int.toNat (IntKind.i64.wrap (k - 1))) * 1) = some (.int .i64 x) ∧ ((0 : Int) ≤ k ∧ k < (a3 : Int) ∧ (∃ a7 : Int, hcell h8 a2 (a1 + (Int.toNat k) * 1) = some (.int .i64 a7) ∧ (HW h8 a2 (a1 + (Int.toNat k) * 1) ∧ ∀ h9, h9 = hset h8 a2 (a1 + (Int.toNat k) * 1) (.int .i64 x) → (HW h9 a2 (a1 + (Int.toNat (IntKind.i64.wrap (k - 1))) * 1) ∧ ∀ d0, d0 = hset h9 a2 (a1 + (Int.toNat (IntKind.i64.wrap (k - 1))) * 1) (.int .i64 a7) → (c8 (IntKind.i64.wrap (k - 1)) d0 ∧ c6 (IntKind.i64.wrap (k - 1)) d0 < c6 k h8)))))))) ∧ ((decide (k > i)) = false → R (.tuple #[]) h8))))))))) ∧ (((IntKind.i64.wrap (b - m)) == 1) = false → (∀ b3 : Int, b3 = (bif decide (m > (IntKind.i64.wrap (Int.fdiv (IntKind.u64.wrap (IntKind.i64.wrap (a + b))) (2 ^ min (Int.toNat 1) 64)))) then IntKind.i64.wrap ((IntKind.i64.wrap ((IntKind.i64.wrap (Int.fdiv (IntKind.u64.wrap (IntKind.i64.wrap (a + b))) (2 ^ min (Int.toNat 1) 64))) + m)) - b) else a) → (∀ r : Int, r = (bif decide (m > (IntKind.i64.wrap (Int.fdiv (IntKind.u64.wrap (IntKind.i64.wrap (a + b))) (2 ^ min (Int.toNat 1) 64)))) then IntKind.i64.wrap (Int.fdiv (IntKind.u64.wrap (IntKind.i64.wrap (a + b))) (2 ^ min (Int.toNat 1) 64)) else m) → (∃ (c1 : Int → Int → Heap → Prop) (b6 : Int → Int → Heap → Nat), c1 b3 r h ∧ (∀ (a0 : Int) (a6 : Int) (b4 : Heap), c1 a0 a6 b4 → (((decide (a0 < a6)) = true → (∃ a2 a1 : Nat, a5 = some ⟨a2, a1, none⟩ ∧ (0 : Int) ≤ IntKind.i64.wrap ((IntKind.i64.wrap ((IntKind.i64.wrap ((IntKind.i64.wrap (Int.fdiv (IntKind.u64.wrap (IntKind.i64.wrap (a + b))) (2 ^ min (Int.toNat 1) 64))) + m)) - 1)) - (IntKind.i64.wrap (Int.fdiv (IntKind.u64.wrap (IntKind.i64.wrap (a0 + a6))) (2 ^ min (Int.toNat 1) 64)))) ∧ IntKind.i64.wrap ((IntKind.i64.wrap ((IntKind.i64.wrap ((IntKind.i64.wrap (Int.fdiv (IntKind.u64.wrap (IntKind.i64.wrap (a + b))) (2 ^ min (Int.toNat 1) 64))) + m)) - 1)) - (IntKind.i64.wrap (Int.fdiv (IntKind.u64.wrap (IntKind.i64.wrap (a0 + a6))) (2 ^ min (Int.toNat 1) 64)))) < (a3 : Int) ∧ (∃ x : Int, hcell b4 a2 (a1 + (Int.toNat (IntKind.i64.wrap ((IntKind.i64.wrap ((IntKind.i64.wrap ((IntKind.i64.wrap (Int.fdiv (IntKind.u64.wrap (IntKind.i64.wrap (a + b))) (2 ^ min (Int.toNat 1) 64))) + m)) - 1)) - (IntKind.i64.wrap (Int.fdiv (IntKind.u64.wrap (IntKind.i64.wrap (a0 + a6))) (2 ^ min (Int.toNat 1) 64)))))) * 1) = some (.int .i64 x) ∧ ((0 : Int) ≤ IntKind.i64.wrap (Int.fdiv (IntKind.u64.wrap (IntKind.i64.wrap (a0 + a6))) (2 ^ min (Int.toNat 1) 64)) ∧ IntKind.i64.wrap (Int.fdiv (IntKind.u64.wrap (IntKind.i64.wrap (a0 + a6))) (2 ^ min (Int.toNat 1) 64)) < (a3 : Int) ∧ (∃ a7 : Int, hcell b4 a2 (a1 + (Int.toNat (IntKind.i64.wrap (Int.fdiv (IntKind.u64.wrap (IntKind.i64.wrap (a0 + a6))) (2 ^ min (Int.toNat 1) 64)))) * 1) = some (.int .i64 a7) ∧ HCV Tryd.prog a8 [(.int .i64 x), (.int .i64 a7)] b4 (fun vv d2 => ∃ b8 : Int, vv = (.int .i64 b8) ∧ (((!(decide (b8 < 0))) = true → (c1 (IntKind.i64.wrap ((IntKind.i64.wrap (Int.fdiv (IntKind.u64.wrap (IntKind.i64.wrap (a0 + a6))) (2 ^ min (Int.toNat 1) 64))) + 1)) a6 d2 ∧ b6 (IntKind.i64.wrap ((IntKind.i64.wrap (Int.fdiv (IntKind.u64.wrap (IntKind.i64.wrap (a0 + a6))) (2 ^ min (Int.toNat 1) 64))) + 1)) a6 d2 < b6 a0 a6 b4)) ∧ ((!(decide (b8 < 0))) = false → (c1 a0 (IntKind.i64.wrap (Int.fdiv (IntKind.u64.wrap (IntKind.i64.wrap (a0 + a6))) (2 ^ min (Int.toNat 1) 64))) d2 ∧ b6 a0 (IntKind.i64.wrap (Int.fdiv (IntKind.u64.wrap (IntKind.i64.wrap (a0 + a6))) (2 ^ min (Int.toNat 1) 64))) d2 < b6 a0 a6 b4))))))))) ∧ ((decide (a0 < a6)) = false → (∃ d1 : Heap → Prop, ((((decide (a0 < m)) && (decide (m < (IntKind.i64.wrap ((IntKind.i64.wrap ((IntKind.i64.wrap (Int.fdiv (IntKind.u64.wrap (IntKind.i64.wrap (a + b))) (2 ^ min (Int.toNat 1) 64))) + m)) - a0))))) = true → HC Tryd.prog 107 #[(.slice a5 a3 a4), (.int .i64 a0), (.int .i64 m), (.int .i64 (IntKind.i64.wrap ((IntKind.i64.wrap ((IntKind.i64.wrap (Int.fdiv (IntKind.u64.wrap (IntKind.i64.wrap (a + b))) (2 ^ min (Int.toNat 1) 64))) + m)) - a0))), a8] b4 (fun vv f9 => vv = (.tuple #[]) ∧ (d1 f9))) ∧ (((decide (a0 < m)) && (decide (m < (IntKind.i64.wrap ((IntKind.i64.wrap ((IntKind.i64.wrap (Int.fdiv (IntKind.u64.wrap (IntKind.i64.wrap (a + b))) (2 ^ min (Int.toNat 1) 64))) + m)) - a0))))) = false → (d1 b4))) ∧ (∀ (c0 : Heap), d1 c0 → (∃ c9 : Heap → Prop, ((((decide (a < a0)) && (decide (a0 < (IntKind.i64.wrap (Int.fdiv (IntKind.u64.wrap (IntKind.i64.wrap (a + b))) (2 ^ min (Int.toNat 1) 64)))))) = true → HC Tryd.prog 89 #[(.slice a5 a3 a4), (.int .i64 a), (.int .i64 a0), (.int .i64 (IntKind.i64.wrap (Int.fdiv (IntKind.u64.wrap (IntKind.i64.wrap (a + b))) (2 ^ min (Int.toNat 1) 64)))), a8] c0 (fun vv f7 => vv = (.tuple #[]) ∧ (c9 f7))) ∧ (((decide (a < a0)) && (decide (a0 < (IntKind.i64.wrap (Int.fdiv (IntKind.u64.wrap (IntKind.i64.wrap (a + b))) (2 ^ min (Int.toNat 1) 64)))))) = false → (c9 c0))) ∧ (∀ (b9 : Heap), c9 b9 → ((((decide ((IntKind.i64.wrap (Int.fdiv (IntKind.u64.wrap (IntKind.i64.wrap (a + b))) (2 ^ min (Int.toNat 1) 64))) < (IntKind.i64.wrap ((IntKind.i64.wrap ((IntKind.i64.wrap (Int.fdiv (IntKind.u64.wrap (IntKind.i64.wrap (a + b))) (2 ^ min (Int.toNat 1) 64))) + m)) - a0)))) && (decide ((IntKind.i64.wrap ((IntKind.i64.wrap ((IntKind.i64.wrap (Int.fdiv (IntKind.u64.wrap (IntKind.i64.wrap (a + b))) (2 ^ min (Int.toNat 1) 64))) + m)) - a0)) < b))) = true → HC Tryd.prog 89 #[(.slice a5 a3 a4), (.int .i64 (IntKind.i64.wrap (Int.fdiv (IntKind.u64.wrap (IntKind.i64.wrap (a + b))) (2 ^ min (Int.toNat 1) 64)))), (.int .i64 (IntKind.i64.wrap ((IntKind.i64.wrap ((IntKind.i64.wrap (Int.fdiv (IntKind.u64.wrap (IntKind.i64.wrap (a + b))) (2 ^ min (Int.toNat 1) 64))) + m)) - a0))), (.int .i64 b), a8] b9 (fun vv f8 => vv = (.tuple #[]) ∧ R (.tuple #[]) f8)) ∧ (((decide ((IntKind.i64.wrap (Int.fdiv (IntKind.u64.wrap (IntKind.i64.wrap (a + b))) (2 ^ min (Int.toNat 1) 64))) < (IntKind.i64.wrap ((IntKind.i64.wrap ((IntKind.i64.wrap (Int.fdiv (IntKind.u64.wrap (IntKind.i64.wrap (a + b))) (2 ^ min (Int.toNat 1) 64))) + m)) - a0)))) && (decide ((IntKind.i64.wrap ((IntKind.i64.wrap ((IntKind.i64.wrap (Int.fdiv (IntKind.u64.wrap (IntKind.i64.wrap (a + b))) (2 ^ min (Int.toNat 1) 64))) + m)) - a0)) < b))) = false → R (.tuple #[]) b9))))))))))))))))) :
  HC Tryd.prog 89 #[(.slice a5 a3 a4), (.int .i64 a), (.int .i64 m), (.int .i64 b), a8] h R := by
 refine hc_of (args := [(.slice a5 a3 a4), (.int .i64 a), (.int .i64 m), (.int .i64 b), a8]) Tryd.func89 rfl Tryd.ntmps89 (Nat.le_of_ble_eq_true rfl) ?_
 refine xs (xs (xr ?_))
 refine lv rfl rfl (vm rfl) (lv rfl rfl (vm rfl) (lv rfl rfl (vr rfl rfl rfl) (lv rfl rfl (vr rfl rfl rfl) ?_)))
 refine ln (qn ?_)
 refine xc (b := (IntKind.i64.wrap (m - a)) == 1) rfl (fun f4 => ?_) (fun f4 => ?_)
 ·replace H := H.1 f4
  refine xs (xr ?_)
  refine lv rfl rfl (vm rfl) (lv rfl rfl (va rfl) ?_)
  refine ln (qn (xs (xr ?_)))
  refine lv rfl rfl (vm rfl) (lv rfl rfl (va rfl) ?_)
  refine ln (qn (xs (xb ?_)))
  obtain ⟨I2, c2, l4, l6⟩ := H
  refine xl (σ := Int × Int) (fun s => [(0, (.slice a5 a3 a4)), (1, (.int .i64 a)), (4, a8), (10, (.int .i64 s.1)), (11, (.int .i64 s.2))]) (fun s h' => I2 s.1 s.2 h' ∧ True) (fun s h' => c2 s.1 s.2 h') (m, b) ⟨l4, trivial⟩ (hc rfl (hc rfl (hc rfl (hc rfl (hc rfl hn))))) ?_
  rintro ⟨i, j⟩ ρ h1 ⟨l2, -⟩
  have H := l6 i j h1 l2
  refine xs (xs (xr ?_))
  refine lv rfl rfl (vm rfl) (lv rfl rfl (vm rfl) (lv rfl rfl (vr rfl rfl rfl) ?_))
  refine ln (qn ?_)
  refine xc (b := decide (i < j)) rfl (fun f1 => ?_) (fun f1 => ?_)
  ·replace H := H.1 f1
   refine xi (qn (xb (xs (xr ?_))))
   refine lv rfl rfl (vm rfl) (lv rfl rfl (vm rfl) (lv rfl rfl (vr rfl rfl rfl) (lv rfl rfl (v := (.int .u64 (IntKind.u64.wrap (IntKind.i64.wrap (i + j))))) (hv_convInt TyTS.u3 TyTS.u122 rfl) (lv rfl rfl (v := (.int .u64 (Int.fdiv (IntKind.u64.wrap (IntKind.i64.wrap (i + j))) (2 ^ min (Int.toNat 1) 64)))) (hv_shift rfl rfl (by decide) rfl) (lv rfl rfl (v := (.int .i64 (IntKind.i64.wrap (Int.fdiv (IntKind.u64.wrap (IntKind.i64.wrap (i + j))) (2 ^ min (Int.toNat 1) 64))))) (hv_convInt TyTS.u122 TyTS.u3 rfl) ?_)))))
   refine lv rfl rfl (va rfl) ?_
   refine ln (qn (xs ?_))
   refine hx_draw TyTS.mixed [.pure, .pure, .pure, .pure, .read, .pure, .pure, .pure, .read, .wild, .pure] [0, 1, 2, 3, 4, 5, 6, 7, 8, 9, 10] (by kernel_rfl) ?_
   refine pp (i := 0) rfl (wanted_0 rfl) rfl a8 (fun _ => vm rfl) ?_
   refine pp (i := 1) rfl (wanted_0 rfl) rfl (.slice a5 a3 a4) (fun _ => vm rfl) ?_
   refine pp (i := 2) rfl (wanted_0 rfl) rfl (.int .i64 (IntKind.i64.wrap (Int.fdiv (IntKind.u64.wrap (IntKind.i64.wrap (i + j))) (2 ^ min (Int.toNat 1) 64)))) (fun _ => vm rfl) ?_
   obtain ⟨a2, a1, b5, l5, l3, Hq⟩ := H
   subst b5
   have H := Hq; clear Hq
   refine pp (i := 3) rfl (wanted_0 rfl) rfl (ptr a2 (a1 + (Int.toNat (IntKind.i64.wrap (Int.fdiv (IntKind.u64.wrap (IntKind.i64.wrap (i + j))) (2 ^ min (Int.toNat 1) 64)))) * 1)) (fun _ => vi TyTS.el71 rfl rfl l5 l3) ?_
   obtain ⟨x, i8, H⟩ := H
   refine pr (i := 4) rfl (wanted_0 rfl) rfl (.int .i64 x) (fun _ he => vl TyTS.agg3 rfl (Ext.cell he i8)) ?_
   refine pp (i := 5) rfl (wanted_0 rfl) rfl (.slice (some ⟨a2, a1, none⟩) a3 a4) (fun _ => vm rfl) ?_
   refine pp (i := 6) rfl (wanted_0 rfl) rfl (.int .i64 a) (fun _ => vm rfl) ?_
   obtain ⟨i1, k1, H⟩ := H
   refine pp (i := 7) rfl (wanted_0 rfl) rfl (ptr a2 (a1 + (Int.toNat a) * 1)) (fun _ => vi TyTS.el71 rfl rfl i1 k1) ?_
   obtain ⟨a7, g1, H⟩ := H
   refine pr (i := 8) rfl (wanted_0 rfl) rfl (.int .i64 a7) (fun _ he => vl TyTS.agg3 rfl (Ext.cell he g1)) ?_
   refine hp_wild (i := 9) rfl (wanted_0 rfl) rfl (hs_callF (vs := [(.int .i64 x), (.int .i64 a7)]) rfl rfl (HCV.mono H ?_))
   rintro _ h2 ⟨r, rfl, H⟩
   refine pp (i := 10) rfl (wanted_0 rfl) rfl (.bool (decide (r < 0))) (fun _ => vr rfl rfl rfl) ?_
   refine hp_nil ?_
   refine qn ?_
   refine xc (b := decide (r < 0)) rfl (fun e4 => ?_) (fun e4 => ?_)
   ·replace H := H.1 e4
    refine xr ?_
    refine lv rfl rfl (vm rfl) (lv rfl rfl (vr rfl rfl rfl) (lv rfl rfl (va rfl) ?_))
    refine ln (bn (qn ?_))
    exact ⟨(IntKind.i64.wrap ((IntKind.i64.wrap (Int.fdiv (IntKind.u64.wrap (IntKind.i64.wrap (i + j))) (2 ^ min (Int.toNat 1) 64))) + 1), j), ⟨⟨H.1, trivial⟩, H.2⟩, (hc rfl (hc rfl (hc rfl (hc rfl (hc rfl hn)))))⟩
   ·replace H := H.2 e4
    refine xr ?_
    refine lv rfl rfl (vm rfl) (lv rfl rfl (va rfl) ?_)
    refine ln (bn (qn ?_))
    exact ⟨(i, IntKind.i64.wrap (Int.fdiv (IntKind.u64.wrap (IntKind.i64.wrap (i + j))) (2 ^ min (Int.toNat 1) 64))), ⟨⟨H.1, trivial⟩, H.2⟩, (hc rfl (hc rfl (hc rfl (hc rfl (hc rfl hn)))))⟩
  ·replace H := H.2 f1
   refine xe (qe (qe (bh (qn (xs (xs (xr ?_)))))))
   refine lv rfl rfl (vm rfl) (lv rfl rfl (va rfl) ?_)
   refine ln (qn (xb ?_))
   obtain ⟨d3, c4, i0, g0⟩ := H
   refine xl (σ := Int) (fun s => [(0, (.slice a5 a3 a4)), (10, (.int .i64 i)), (13, (.int .i64 s))]) (fun s h' => d3 s h' ∧ True) (fun s h' => c4 s h') a ⟨i0, trivial⟩ (hc rfl (hc rfl (hc rfl hn))) ?_
   rintro k ρ h3 ⟨g7, -⟩
   have H := g0 k h3 g7
   refine xs (xs (xr ?_))
   refine lv rfl rfl (vm rfl) (lv rfl rfl (vm rfl) (lv rfl rfl (vr rfl rfl rfl) (lv rfl rfl (vr rfl rfl rfl) ?_)))
   refine ln (qn ?_)
   refine xc (b := decide (k < (IntKind.i64.wrap (i - 1)))) rfl (fun d7 => ?_) (fun d7 => ?_)
   ·replace H := H.1 d7
    refine xi (qn (xs (xb ?_)))
    refine hx_draw TyTS.mixed [.pure, .pure, .pure, .pure, .pure, .pure, .pure, .pure, .pure, .read, .pure, .pure, .pure, .read, .pure, .wild, .pure, .wild] [0, 1, 2, 3, 4, 5, 6, 7, 8, 9, 10, 11, 12, 13, 14, 15, 16, 17] (by kernel_rfl) ?_
    refine pp (i := 0) rfl (wanted_0 rfl) rfl (.slice a5 a3 a4) (fun _ => vm rfl) ?_
    refine pp (i := 1) rfl (wanted_0 rfl) rfl (.int .i64 k) (fun _ => vm rfl) ?_
    refine pp (i := 2) rfl (wanted_0 rfl) rfl (.slice a5 a3 a4) (fun _ => vm rfl) ?_
    refine pp (i := 3) rfl (wanted_0 rfl) rfl (.int .i64 k) (fun _ => vm rfl) ?_
    refine pp (i := 4) rfl (wanted_0 rfl) rfl (.int .i64 (IntKind.i64.wrap (k + 1))) (fun _ => vr rfl rfl rfl) ?_
    refine pp (i := 5) rfl (wanted_0 rfl) rfl (.slice a5 a3 a4) (fun _ => vm rfl) ?_
    refine pp (i := 6) rfl (wanted_0 rfl) rfl (.int .i64 k) (fun _ => vm rfl) ?_
    refine pp (i := 7) rfl (wanted_0 rfl) rfl (.int .i64 (IntKind.i64.wrap (k + 1))) (fun _ => vr rfl rfl rfl) ?_
    obtain ⟨a2, a1, b5, e7, f5, Hq⟩ := H
    subst b5
    have H := Hq; clear Hq
    refine pp (i := 8) rfl (wanted_0 rfl) rfl (ptr a2 (a1 + (Int.toNat (IntKind.i64.wrap (k + 1))) * 1)) (fun _ => vi TyTS.el71 rfl rfl e7 f5) ?_
    obtain ⟨x, j8, H⟩ := H
    refine pr (i := 9) rfl (wanted_0 rfl) rfl (.int .i64 x) (fun _ he => vl TyTS.agg3 rfl (Ext.cell he j8)) ?_
    refine pp (i := 10) rfl (wanted_0 rfl) rfl (.slice (some ⟨a2, a1, none⟩) a3 a4) (fun _ => vm rfl) ?_
    refine pp (i := 11) rfl (wanted_0 rfl) rfl (.int .i64 k) (fun _ => vm rfl) ?_
    obtain ⟨f3, e9, H⟩ := H
    refine pp (i := 12) rfl (wanted_0 rfl) rfl (ptr a2 (a1 + (Int.toNat k) * 1)) (fun _ => vi TyTS.el71 rfl rfl f3 e9) ?_
    obtain ⟨a7, g5, H⟩ := H
    refine pr (i := 13) rfl (wanted_0 rfl) rfl (.int .i64 a7) (fun _ he => vl TyTS.agg3 rfl (Ext.cell he g5)) ?_
    refine pp (i := 14) rfl (wanted_0 rfl) rfl (ptr a2 (a1 + (Int.toNat k) * 1)) (fun _ => vi TyTS.el71 rfl rfl f3 e9) ?_
    obtain ⟨j9, H⟩ := H
    refine hp_wild (i := 15) rfl (wanted_0 rfl) rfl (hn_store (v := (.int .i64 x)) rfl rfl TyTS.sz3 rfl j9 ?_)
    intro h4 k8
    replace H := H h4 k8
    refine pp (i := 16) rfl (wanted_0 rfl) rfl (ptr a2 (a1 + (Int.toNat (IntKind.i64.wrap (k + 1))) * 1)) (fun _ => vi TyTS.el71 rfl rfl e7 f5) ?_
    obtain ⟨j2, H⟩ := H
    refine hp_wild (i := 17) rfl (wanted_0 rfl) rfl (hn_store (v := (.int .i64 a7)) rfl rfl TyTS.sz3 rfl j2 ?_)
    intro h5 i9
    replace H := H h5 i9
    refine hp_nil ?_
    refine bn (qn (xr ?_))
    refine lv rfl rfl (vm rfl) (lv rfl rfl (vr rfl rfl rfl) (lv rfl rfl (va rfl) ?_))
    refine ln (qn ?_)
    exact ⟨IntKind.i64.wrap (k + 1), ⟨⟨H.1, trivial⟩, H.2⟩, (hc rfl (hc rfl (hc rfl hn)))⟩
   ·replace H := H.2 d7
    refine xe (qe (qe (bh (qn (xt (qr ?_))))))
    exact endQ_ret _ (res_none Tryd.results89 ) H
 ·replace H := H.2 f4
  refine xi (qn (xs (xs (xr ?_))))
  refine lv rfl rfl (vm rfl) (lv rfl rfl (vm rfl) (lv rfl rfl (vr rfl rfl rfl) (lv rfl rfl (vr rfl rfl rfl) ?_)))
  refine ln (qn ?_)
  refine xc (b := (IntKind.i64.wrap (b - m)) == 1) rfl (fun e6 => ?_) (fun e6 => ?_)
  ·replace H := H.1 e6
   refine xs (xr ?_)
   refine lv rfl rfl (vm rfl) (lv rfl rfl (va rfl) ?_)
   refine ln (qn (xs (xr ?_)))
   refine lv rfl rfl (vm rfl) (lv rfl rfl (va rfl) ?_)
   refine ln (qn (xs (xb ?_)))
   obtain ⟨c3, b7, l1, i7⟩ := H
   refine xl (σ := Int × Int) (fun s => [(0, (.slice a5 a3 a4)), (2, (.int .i64 m)), (4, a8), (14, (.int .i64 s.1)), (15, (.int .i64 s.2))]) (fun s h' => c3 s.1 s.2 h' ∧ True) (fun s h' => b7 s.1 s.2 h') (a, m) ⟨l1, trivial⟩ (hc rfl (hc rfl (hc rfl (hc rfl (hc rfl hn))))) ?_
   rintro ⟨i, j⟩ ρ h6 ⟨j1, -⟩
   have H := i7 i j h6 j1
   refine xs (xs (xr ?_))
   refine lv rfl rfl (vm rfl) (lv rfl rfl (vm rfl) (lv rfl rfl (vr rfl rfl rfl) ?_))
   refine ln (qn ?_)
   refine xc (b := decide (i < j)) rfl (fun d8 => ?_) (fun d8 => ?_)
   ·replace H := H.1 d8
    refine xi (qn (xb (xs (xr ?_))))
    refine lv rfl rfl (vm rfl) (lv rfl rfl (vm rfl) (lv rfl rfl (vr rfl rfl rfl) (lv rfl rfl (v := (.int .u64 (IntKind.u64.wrap (IntKind.i64.wrap (i + j))))) (hv_convInt TyTS.u3 TyTS.u122 rfl) (lv rfl rfl (v := (.int .u64 (Int.fdiv (IntKind.u64.wrap (IntKind.i64.wrap (i + j))) (2 ^ min (Int.toNat 1) 64)))) (hv_shift rfl rfl (by decide) rfl) (lv rfl rfl (v := (.int .i64 (IntKind.i64.wrap (Int.fdiv (IntKind.u64.wrap (IntKind.i64.wrap (i + j))) (2 ^ min (Int.toNat 1) 64))))) (hv_convInt TyTS.u122 TyTS.u3 rfl) ?_)))))
    refine lv rfl rfl (va rfl) ?_
    refine ln (qn (xs ?_))
    refine hx_draw TyTS.mixed [.pure, .pure, .pure, .pure, .read, .pure, .pure, .pure, .read, .wild, .pure, .pure] [0, 1, 2, 3, 4, 5, 6, 7, 8, 9, 10, 11] (by kernel_rfl) ?_
    refine pp (i := 0) rfl (wanted_0 rfl) rfl a8 (fun _ => vm rfl) ?_
    refine pp (i := 1) rfl (wanted_0 rfl) rfl (.slice a5 a3 a4) (fun _ => vm rfl) ?_
    refine pp (i := 2) rfl (wanted_0 rfl) rfl (.int .i64 m) (fun _ => vm rfl) ?_
    obtain ⟨a2, a1, b5, k5, g4, Hq⟩ := H
    subst b5
    have H := Hq; clear Hq
    refine pp (i := 3) rfl (wanted_0 rfl) rfl (ptr a2 (a1 + (Int.toNat m) * 1)) (fun _ => vi TyTS.el71 rfl rfl k5 g4) ?_
    obtain ⟨x, j5, H⟩ := H
    refine pr (i := 4) rfl (wanted_0 rfl) rfl (.int .i64 x) (fun _ he => vl TyTS.agg3 rfl (Ext.cell he j5)) ?_
    refine pp (i := 5) rfl (wanted_0 rfl) rfl (.slice (some ⟨a2, a1, none⟩) a3 a4) (fun _ => vm rfl) ?_
    refine pp (i := 6) rfl (wanted_0 rfl) rfl (.int .i64 (IntKind.i64.wrap (Int.fdiv (IntKind.u64.wrap (IntKind.i64.wrap (i + j))) (2 ^ min (Int.toNat 1) 64)))) (fun _ => vm rfl) ?_
    obtain ⟨j0, g2, H⟩ := H
    refine pp (i := 7) rfl (wanted_0 rfl) rfl (ptr a2 (a1 + (Int.toNat (IntKind.i64.wrap (Int.fdiv (IntKind.u64.wrap (IntKind.i64.wrap (i + j))) (2 ^ min (Int.toNat 1) 64)))) * 1)) (fun _ => vi TyTS.el71 rfl rfl j0 g2) ?_
    obtain ⟨a7, j7, H⟩ := H
    refine pr (i := 8) rfl (wanted_0 rfl) rfl (.int .i64 a7) (fun _ he => vl TyTS.agg3 rfl (Ext.cell he j7)) ?_
    refine hp_wild (i := 9) rfl (wanted_0 rfl) rfl (hs_callF (vs := [(.int .i64 x), (.int .i64 a7)]) rfl rfl (HCV.mono H ?_))
    rintro _ h7 ⟨r, rfl, H⟩
    refine pp (i := 10) rfl (wanted_0 rfl) rfl (.bool (decide (r < 0))) (fun _ => vr rfl rfl rfl) ?_
    refine pp (i := 11) rfl (wanted_0 rfl) rfl (.bool (!(decide (r < 0)))) (fun _ => hv_not (b := decide (r < 0)) rfl) ?_
    refine hp_nil ?_
    refine qn ?_
    refine xc (b := !(decide (r < 0))) rfl (fun e0 => ?_) (fun e0 => ?_)
    ·replace H := H.1 e0
     refine xr ?_
     refine lv rfl rfl (vm rfl) (lv rfl rfl (vr rfl rfl rfl) (lv rfl rfl (va rfl) ?_))
     refine ln (bn (qn ?_))
     exact ⟨(IntKind.i64.wrap ((IntKind.i64.wrap (Int.fdiv (IntKind.u64.wrap (IntKind.i64.wrap (i + j))) (2 ^ min (Int.toNat 1) 64))) + 1), j), ⟨⟨H.1, trivial⟩, H.2⟩, (hc rfl (hc rfl (hc rfl (hc rfl (hc rfl hn)))))⟩
    ·replace H := H.2 e0
     refine xr ?_
     refine lv rfl rfl (vm rfl) (lv rfl rfl (va rfl) ?_)
     refine ln (bn (qn ?_))
     exact ⟨(i, IntKind.i64.wrap (Int.fdiv (IntKind.u64.wrap (IntKind.i64.wrap (i + j))) (2 ^ min (Int.toNat 1) 64))), ⟨⟨H.1, trivial⟩, H.2⟩, (hc rfl (hc rfl (hc rfl (hc rfl (hc rfl hn)))))⟩
   ·replace H := H.2 d8
    refine xe (qe (qe (bh (qn (xs (xs (xr ?_)))))))
    refine lv rfl rfl (vm rfl) (lv rfl rfl (va rfl) ?_)
    refine ln (qn (xb ?_))
    obtain ⟨c8, c6, k2, g9⟩ := H
    refine xl (σ := Int) (fun s => [(0, (.slice a5 a3 a4)), (14, (.int .i64 i)), (17, (.int .i64 s))]) (fun s h' => c8 s h' ∧ True) (fun s h' => c6 s h') m ⟨k2, trivial⟩ (hc rfl (hc rfl (hc rfl hn))) ?_
    rintro k ρ h8 ⟨k0, -⟩
    have H := g9 k h8 k0
    refine xs (xs (xr ?_))
    refine lv rfl rfl (vm rfl) (lv rfl rfl (vm rfl) (lv rfl rfl (vr rfl rfl rfl) ?_))
    refine ln (qn ?_)
    refine xc (b := decide (k > i)) rfl (fun d5 => ?_) (fun d5 => ?_)
    ·replace H := H.1 d5
     refine xi (qn (xs (xb ?_)))
     refine hx_draw TyTS.mixed [.pure, .pure, .pure, .pure, .pure, .pure, .pure, .pure, .pure, .read, .pure, .pure, .pure, .read, .pure, .wild, .pure, .wild] [0, 1, 2, 3, 4, 5, 6, 7, 8, 9, 10, 11, 12, 13, 14, 15, 16, 17] (by kernel_rfl) ?_
     refine pp (i := 0) rfl (wanted_0 rfl) rfl (.slice a5 a3 a4) (fun _ => vm rfl) ?_
     refine pp (i := 1) rfl (wanted_0 rfl) rfl (.int .i64 k) (fun _ => vm rfl) ?_
     refine pp (i := 2) rfl (wanted_0 rfl) rfl (.slice a5 a3 a4) (fun _ => vm rfl) ?_
     refine pp (i := 3) rfl (wanted_0 rfl) rfl (.int .i64 k) (fun _ => vm rfl) ?_
     refine pp (i := 4) rfl (wanted_0 rfl) rfl (.int .i64 (IntKind.i64.wrap (k - 1))) (fun _ => vr rfl rfl rfl) ?_
     refine pp (i := 5) rfl (wanted_0 rfl) rfl (.slice a5 a3 a4) (fun _ => vm rfl) ?_
     refine pp (i := 6) rfl (wanted_0 rfl) rfl (.int .i64 k) (fun _ => vm rfl) ?_
     refine pp (i := 7) rfl (wanted_0 rfl) rfl (.int .i64 (IntKind.i64.wrap (k - 1))) (fun _ => vr rfl rfl rfl) ?_
     obtain ⟨a2, a1, b5, f2, e8, Hq⟩ := H
     subst b5
     have H := Hq; clear Hq
     refine pp (i := 8) rfl (wanted_0 rfl) rfl (ptr a2 (a1 + (Int.toNat (IntKind.i64.wrap (k - 1))) * 1)) (fun _ => vi TyTS.el71 rfl rfl f2 e8) ?_
     obtain ⟨x, j4, H⟩ := H
     refine pr (i := 9) rfl (wanted_0 rfl) rfl (.int .i64 x) (fun _ he => vl TyTS.agg3 rfl (Ext.cell he j4)) ?_
     refine pp (i := 10) rfl (wanted_0 rfl) rfl (.slice (some ⟨a2, a1, none⟩) a3 a4) (fun _ => vm rfl) ?_
     refine pp (i := 11) rfl (wanted_0 rfl) rfl (.int .i64 k) (fun _ => vm rfl) ?_
     obtain ⟨f0, f6, H⟩ := H
     refine pp (i := 12) rfl (wanted_0 rfl) rfl (ptr a2 (a1 + (Int.toNat k) * 1)) (fun _ => vi TyTS.el71 rfl rfl f0 f6) ?_
     obtain ⟨a7, k9, H⟩ := H
     refine pr (i := 13) rfl (wanted_0 rfl) rfl (.int .i64 a7) (fun _ he => vl TyTS.agg3 rfl (Ext.cell he k9)) ?_
     refine pp (i := 14) rfl (wanted_0 rfl) rfl (ptr a2 (a1 + (Int.toNat k) * 1)) (fun _ => vi TyTS.el71 rfl rfl f0 f6) ?_
     obtain ⟨j3, H⟩ := H
     refine hp_wild (i := 15) rfl (wanted_0 rfl) rfl (hn_store (v := (.int .i64 x)) rfl rfl TyTS.sz3 rfl j3 ?_)
     intro h9 g8
     replace H := H h9 g8
     refine pp (i := 16) rfl (wanted_0 rfl) rfl (ptr a2 (a1 + (Int.toNat (IntKind.i64.wrap (k - 1))) * 1)) (fun _ => vi TyTS.el71 rfl rfl f2 e8) ?_
     obtain ⟨i4, H⟩ := H
     refine hp_wild (i := 17) rfl (wanted_0 rfl) rfl (hn_store (v := (.int .i64 a7)) rfl rfl TyTS.sz3 rfl i4 ?_)
     intro d0 i6
     replace H := H d0 i6
     refine hp_nil ?_
     refine bn (qn (xr ?_))
     refine lv rfl rfl (vm rfl) (lv rfl rfl (vr rfl rfl rfl) (lv rfl rfl (va rfl) ?_))
     refine ln (qn ?_)
     exact ⟨IntKind.i64.wrap (k - 1), ⟨⟨H.1, trivial⟩, H.2⟩, (hc rfl (hc rfl (hc rfl hn)))⟩
    ·replace H := H.2 d5
     refine xe (qe (qe (bh (qn (xt (qr ?_))))))
     exact endQ_ret _ (res_none Tryd.results89 ) H
  ·replace H := H.2 e6
   refine xi (qn (xs (xr ?_)))
   refine lv rfl rfl (vm rfl) (lv rfl rfl (vm rfl) (lv rfl rfl (vr rfl rfl rfl) (lv rfl rfl (v := (.int .u64 (IntKind.u64.wrap (IntKind.i64.wrap (a + b))))) (hv_convInt TyTS.u3 TyTS.u122 rfl) (lv rfl rfl (v := (.int .u64 (Int.fdiv (IntKind.u64.wrap (IntKind.i64.wrap (a + b))) (2 ^ min (Int.toNat 1) 64)))) (hv_shift rfl rfl (by decide) rfl) (lv rfl rfl (v := (.int .i64 (IntKind.i64.wrap (Int.fdiv (IntKind.u64.wrap (IntKind.i64.wrap (a + b))) (2 ^ min (Int.toNat 1) 64))))) (hv_convInt TyTS.u122 TyTS.u3 rfl) ?_)))))
   refine lv rfl rfl (va rfl) ?_
   refine ln (qn (xs (xr ?_)))
   refine lv rfl rfl (vm rfl) (lv rfl rfl (vm rfl) (lv rfl rfl (vr rfl rfl rfl) (lv rfl rfl (va rfl) ?_)))
   refine ln (qn (xs (xr ?_)))
   refine lv rfl rfl (va rfl) (lv rfl rfl (va rfl) ?_)
   refine ln (qn ?_)
   obtain ⟨b3, hq71⟩ : ∃ q : Int, q = (bif decide (m > (IntKind.i64.wrap (Int.fdiv (IntKind.u64.wrap (IntKind.i64.wrap (a + b))) (2 ^ min (Int.toNat 1) 64)))) then IntKind.i64.wrap ((IntKind.i64.wrap ((IntKind.i64.wrap (Int.fdiv (IntKind.u64.wrap (IntKind.i64.wrap (a + b))) (2 ^ min (Int.toNat 1) 64))) + m)) - b) else a) := ⟨_, rfl⟩
   replace H := H b3 hq71
   obtain ⟨r, hq72⟩ : ∃ q : Int, q = (bif decide (m > (IntKind.i64.wrap (Int.fdiv (IntKind.u64.wrap (IntKind.i64.wrap (a + b))) (2 ^ min (Int.toNat 1) 64)))) then IntKind.i64.wrap (Int.fdiv (IntKind.u64.wrap (IntKind.i64.wrap (a + b))) (2 ^ min (Int.toNat 1) 64)) else m) := ⟨_, rfl⟩
   replace H := H r hq72
   refine xk (fun ρ h' => h = h' ∧ Has ρ [(0, (.slice a5 a3 a4)), (1, (.int .i64 a)), (2, (.int .i64 m)), (3, (.int .i64 b)), (4, a8), (18, (.int .i64 (IntKind.i64.wrap (Int.fdiv (IntKind.u64.wrap (IntKind.i64.wrap (a + b))) (2 ^ min (Int.toNat 1) 64))))), (19, (.int .i64 (IntKind.i64.wrap ((IntKind.i64.wrap (Int.fdiv (IntKind.u64.wrap (IntKind.i64.wrap (a + b))) (2 ^ min (Int.toNat 1) 64))) + m)))), (20, (.int .i64 b3)), (21, (.int .i64 r))]) ?_ ?_
   ·refine xs (xr ?_)
    refine lv rfl rfl (vm rfl) (lv rfl rfl (vm rfl) (lv rfl rfl (vr rfl rfl rfl) ?_))
    refine ln (qn ?_)
    refine xc (b := decide (m > (IntKind.i64.wrap (Int.fdiv (IntKind.u64.wrap (IntKind.i64.wrap (a + b))) (2 ^ min (Int.toNat 1) 64))))) rfl (fun a9 => ?_) (fun a9 => ?_)
    ·refine xs (xr ?_)
     refine lv rfl rfl (vm rfl) (lv rfl rfl (vm rfl) (lv rfl rfl (vr rfl rfl rfl) (lv rfl rfl (va rfl) ?_)))
     refine ln (qn (xr ?_))
     refine lv rfl rfl (vm rfl) (lv rfl rfl (va rfl) ?_)
     refine ln (qn ?_)
     exact ⟨rfl, (hc rfl (hc rfl (hc rfl (hc rfl (hc rfl (hc rfl (hc rfl (hc (show ((.int .i64 (IntKind.i64.wrap ((IntKind.i64.wrap ((IntKind.i64.wrap (Int.fdiv (IntKind.u64.wrap (IntKind.i64.wrap (a + b))) (2 ^ min (Int.toNat 1) 64))) + m)) - b))) : Value) = (.int .i64 b3) from (by first | rfl | ((try rw [a9]); (try rw [hq71]); (try rw [hq72]); (try rw [a9]); all_goals first | rfl | (simp only [Bool.true_or, Bool.or_true, Bool.false_or, Bool.or_false, Bool.true_and, Bool.and_true, Bool.false_and, Bool.and_false, Bool.not_true, Bool.not_false, Bool.cond_true, Bool.cond_false]; done)) | simp [a9, hq71, hq72, a9])) (hc (show ((.int .i64 (IntKind.i64.wrap (Int.fdiv (IntKind.u64.wrap (IntKind.i64.wrap (a + b))) (2 ^ min (Int.toNat 1) 64)))) : Value) = (.int .i64 r) from (by first | rfl | ((try rw [a9]); (try rw [hq71]); (try rw [hq72]); (try rw [a9]); all_goals first | rfl | (simp only [Bool.true_or, Bool.or_true, Bool.false_or, Bool.or_false, Bool.true_and, Bool.and_true, Bool.false_and, Bool.and_false, Bool.not_true, Bool.not_false, Bool.cond_true, Bool.cond_false]; done)) | simp [a9, hq71, hq72, a9])) hn)))))))))⟩
    ·refine xs (xr ?_)
     refine lv rfl rfl (vm rfl) (lv rfl rfl (va rfl) ?_)
     refine ln (qn (xr ?_))
     refine lv rfl rfl (vm rfl) (lv rfl rfl (va rfl) ?_)
     refine ln (qn ?_)
     exact ⟨rfl, (hc rfl (hc rfl (hc rfl (hc rfl (hc rfl (hc rfl (hc rfl (hc (show ((.int .i64 a) : Value) = (.int .i64 b3) from (by first | rfl | ((try rw [a9]); (try rw [hq71]); (try rw [hq72]); (try rw [a9]); all_goals first | rfl | (simp only [Bool.true_or, Bool.or_true, Bool.false_or, Bool.or_false, Bool.true_and, Bool.and_true, Bool.false_and, Bool.and_false, Bool.not_true, Bool.not_false, Bool.cond_true, Bool.cond_false]; done)) | simp [a9, hq71, hq72, a9])) (hc (show ((.int .i64 m) : Value) = (.int .i64 r) from (by first | rfl | ((try rw [a9]); (try rw [hq71]); (try rw [hq72]); (try rw [a9]); all_goals first | rfl | (simp only [Bool.true_or, Bool.or_true, Bool.false_or, Bool.or_false, Bool.true_and, Bool.and_true, Bool.false_and, Bool.and_false, Bool.not_true, Bool.not_false, Bool.cond_true, Bool.cond_false]; done)) | simp [a9, hq71, hq72, a9])) hn)))))))))⟩
   ·rintro ρ _ ⟨rfl, hH⟩
    refine xh _ hH ?_
    refine xs (xr ?_)
    refine lv rfl rfl (vm rfl) (lv rfl rfl (vr rfl rfl rfl) (lv rfl rfl (va rfl) ?_))
    refine ln (qn (xs (xb ?_)))
    obtain ⟨c1, b6, k4, l0⟩ := H
    refine xl (σ := Int × Int) (fun s => [(0, (.slice a5 a3 a4)), (1, (.int .i64 a)), (2, (.int .i64 m)), (3, (.int .i64 b)), (4, a8), (18, (.int .i64 (IntKind.i64.wrap (Int.fdiv (IntKind.u64.wrap (IntKind.i64.wrap (a + b))) (2 ^ min (Int.toNat 1) 64))))), (19, (.int .i64 (IntKind.i64.wrap ((IntKind.i64.wrap (Int.fdiv (IntKind.u64.wrap (IntKind.i64.wrap (a + b))) (2 ^ min (Int.toNat 1) 64))) + m)))), (20, (.int .i64 s.1)), (21, (.int .i64 s.2)), (22, (.int .i64 (IntKind.i64.wrap ((IntKind.i64.wrap ((IntKind.i64.wrap (Int.fdiv (IntKind.u64.wrap (IntKind.i64.wrap (a + b))) (2 ^ min (Int.toNat 1) 64))) + m)) - 1))))]) (fun s h' => c1 s.1 s.2 h' ∧ True) (fun s h' => b6 s.1 s.2 h') (b3, r) ⟨k4, trivial⟩ (hc rfl (hc rfl (hc rfl (hc rfl (hc rfl (hc rfl (hc rfl (hc rfl (hc rfl (hc rfl hn)))))))))) ?_
    rintro ⟨a0, a6⟩ ρ b4 ⟨j6, -⟩
    have H := l0 a0 a6 b4 j6
    refine xs (xs (xr ?_))
    refine lv rfl rfl (vm rfl) (lv rfl rfl (vm rfl) (lv rfl rfl (vr rfl rfl rfl) ?_))
    refine ln (qn ?_)
    refine xc (b := decide (a0 < a6)) rfl (fun e1 => ?_) (fun e1 => ?_)
    ·replace H := H.1 e1
     refine xi (qn (xb (xs (xr ?_))))
     refine lv rfl rfl (vm rfl) (lv rfl rfl (vm rfl) (lv rfl rfl (vr rfl rfl rfl) (lv rfl rfl (v := (.int .u64 (IntKind.u64.wrap (IntKind.i64.wrap (a0 + a6))))) (hv_convInt TyTS.u3 TyTS.u122 rfl) (lv rfl rfl (v := (.int .u64 (Int.fdiv (IntKind.u64.wrap (IntKind.i64.wrap (a0 + a6))) (2 ^ min (Int.toNat 1) 64)))) (hv_shift rfl rfl (by decide) rfl) (lv rfl rfl (v := (.int .i64 (IntKind.i64.wrap (Int.fdiv (IntKind.u64.wrap (IntKind.i64.wrap (a0 + a6))) (2 ^ min (Int.toNat 1) 64))))) (hv_convInt TyTS.u122 TyTS.u3 rfl) ?_)))))
     refine lv rfl rfl (va rfl) ?_
     refine ln (qn (xs ?_))
     refine hx_draw TyTS.mixed [.pure, .pure, .pure, .pure, .pure, .pure, .read, .pure, .pure, .pure, .read, .wild, .pure, .pure] [0, 1, 2, 3, 4, 5, 6, 7, 8, 9, 10, 11, 12, 13] (by kernel_rfl) ?_
     refine pp (i := 0) rfl (wanted_0 rfl) rfl a8 (fun _ => vm rfl) ?_
     refine pp (i := 1) rfl (wanted_0 rfl) rfl (.slice a5 a3 a4) (fun _ => vm rfl) ?_
     refine pp (i := 2) rfl (wanted_0 rfl) rfl (.int .i64 (IntKind.i64.wrap ((IntKind.i64.wrap ((IntKind.i64.wrap (Int.fdiv (IntKind.u64.wrap (IntKind.i64.wrap (a + b))) (2 ^ min (Int.toNat 1) 64))) + m)) - 1))) (fun _ => vm rfl) ?_
     refine pp (i := 3) rfl (wanted_0 rfl) rfl (.int .i64 (IntKind.i64.wrap (Int.fdiv (IntKind.u64.wrap (IntKind.i64.wrap (a0 + a6))) (2 ^ min (Int.toNat 1) 64)))) (fun _ => vm rfl) ?_
     refine pp (i := 4) rfl (wanted_0 rfl) rfl (.int .i64 (IntKind.i64.wrap ((IntKind.i64.wrap ((IntKind.i64.wrap ((IntKind.i64.wrap (Int.fdiv (IntKind.u64.wrap (IntKind.i64.wrap (a + b))) (2 ^ min (Int.toNat 1) 64))) + m)) - 1)) - (IntKind.i64.wrap (Int.fdiv (IntKind.u64.wrap (IntKind.i64.wrap (a0 + a6))) (2 ^ min (Int.toNat 1) 64)))))) (fun _ => vr rfl rfl rfl) ?_
     obtain ⟨a2, a1, b5, i5, k3, Hq⟩ := H
     subst b5
     have H := Hq; clear Hq
     refine pp (i := 5) rfl (wanted_0 rfl) rfl (ptr a2 (a1 + (Int.toNat (IntKind.i64.wrap ((IntKind.i64.wrap ((IntKind.i64.wrap ((IntKind.i64.wrap (Int.fdiv (IntKind.u64.wrap (IntKind.i64.wrap (a + b))) (2 ^ min (Int.toNat 1) 64))) + m)) - 1)) - (IntKind.i64.wrap (Int.fdiv (IntKind.u64.wrap (IntKind.i64.wrap (a0 + a6))) (2 ^ min (Int.toNat 1) 64)))))) * 1)) (fun _ => vi TyTS.el71 rfl rfl i5 k3) ?_
     obtain ⟨x, g6, H⟩ := H
     refine pr (i := 6) rfl (wanted_0 rfl) rfl (.int .i64 x) (fun _ he => vl TyTS.agg3 rfl (Ext.cell he g6)) ?_
     refine pp (i := 7) rfl (wanted_0 rfl) rfl (.slice (some ⟨a2, a1, none⟩) a3 a4) (fun _ => vm rfl) ?_
     refine pp (i := 8) rfl (wanted_0 rfl) rfl (.int .i64 (IntKind.i64.wrap (Int.fdiv (IntKind.u64.wrap (IntKind.i64.wrap (a0 + a6))) (2 ^ min (Int.toNat 1) 64)))) (fun _ => vm rfl) ?_
     obtain ⟨g3, i3, H⟩ := H
     refine pp (i := 9) rfl (wanted_0 rfl) rfl (ptr a2 (a1 + (Int.toNat (IntKind.i64.wrap (Int.fdiv (IntKind.u64.wrap (IntKind.i64.wrap (a0 + a6))) (2 ^ min (Int.toNat 1) 64)))) * 1)) (fun _ => vi TyTS.el71 rfl rfl g3 i3) ?_
     obtain ⟨a7, k6, H⟩ := H
     refine pr (i := 10) rfl (wanted_0 rfl) rfl (.int .i64 a7) (fun _ he => vl TyTS.agg3 rfl (Ext.cell he k6)) ?_
     refine hp_wild (i := 11) rfl (wanted_0 rfl) rfl (hs_callF (vs := [(.int .i64 x), (.int .i64 a7)]) rfl rfl (HCV.mono H ?_))
     rintro _ d2 ⟨b8, rfl, H⟩
     refine pp (i := 12) rfl (wanted_0 rfl) rfl (.bool (decide (b8 < 0))) (fun _ => vr rfl rfl rfl) ?_
     refine pp (i := 13) rfl (wanted_0 rfl) rfl (.bool (!(decide (b8 < 0)))) (fun _ => hv_not (b := decide (b8 < 0)) rfl) ?_
     refine hp_nil ?_
     refine qn ?_
     refine xc (b := !(decide (b8 < 0))) rfl (fun d9 => ?_) (fun d9 => ?_)
     ·replace H := H.1 d9
      refine xr ?_
      refine lv rfl rfl (vm rfl) (lv rfl rfl (vr rfl rfl rfl) (lv rfl rfl (va rfl) ?_))
      refine ln (bn (qn ?_))
      exact ⟨(IntKind.i64.wrap ((IntKind.i64.wrap (Int.fdiv (IntKind.u64.wrap (IntKind.i64.wrap (a0 + a6))) (2 ^ min (Int.toNat 1) 64))) + 1), a6), ⟨⟨H.1, trivial⟩, H.2⟩, (hc rfl (hc rfl (hc rfl (hc rfl (hc rfl (hc rfl (hc rfl (hc rfl (hc rfl (hc rfl hn))))))))))⟩
     ·replace H := H.2 d9
      refine xr ?_
      refine lv rfl rfl (vm rfl) (lv rfl rfl (va rfl) ?_)
      refine ln (bn (qn ?_))
      exact ⟨(a0, IntKind.i64.wrap (Int.fdiv (IntKind.u64.wrap (IntKind.i64.wrap (a0 + a6))) (2 ^ min (Int.toNat 1) 64))), ⟨⟨H.1, trivial⟩, H.2⟩, (hc rfl (hc rfl (hc rfl (hc rfl (hc rfl (hc rfl (hc rfl (hc rfl (hc rfl (hc rfl hn))))))))))⟩
    ·replace H := H.2 e1
     refine xe (qe (qe (bh (qn (xs (xr ?_))))))
     refine lv rfl rfl (vm rfl) (lv rfl rfl (vm rfl) (lv rfl rfl (vr rfl rfl rfl) (lv rfl rfl (va rfl) ?_)))
     refine ln (qn ?_)
     obtain ⟨d1, d6, e5⟩ := H
     refine xk (fun ρ h' => (d1 h' ∧ True) ∧ Has ρ [(0, (.slice a5 a3 a4)), (1, (.int .i64 a)), (3, (.int .i64 b)), (4, a8), (18, (.int .i64 (IntKind.i64.wrap (Int.fdiv (IntKind.u64.wrap (IntKind.i64.wrap (a + b))) (2 ^ min (Int.toNat 1) 64))))), (20, (.int .i64 a0)), (24, (.int .i64 (IntKind.i64.wrap ((IntKind.i64.wrap ((IntKind.i64.wrap (Int.fdiv (IntKind.u64.wrap (IntKind.i64.wrap (a + b))) (2 ^ min (Int.toNat 1) 64))) + m)) - a0))))]) ?_ ?_
     ·have H := d6; clear d6 e5
      refine xk (fun ρ h' => b4 = h' ∧ Has ρ [(0, (.slice a5 a3 a4)), (1, (.int .i64 a)), (2, (.int .i64 m)), (3, (.int .i64 b)), (4, a8), (18, (.int .i64 (IntKind.i64.wrap (Int.fdiv (IntKind.u64.wrap (IntKind.i64.wrap (a + b))) (2 ^ min (Int.toNat 1) 64))))), (20, (.int .i64 a0)), (24, (.int .i64 (IntKind.i64.wrap ((IntKind.i64.wrap ((IntKind.i64.wrap (Int.fdiv (IntKind.u64.wrap (IntKind.i64.wrap (a + b))) (2 ^ min (Int.toNat 1) 64))) + m)) - a0)))), (185, (.bool ((decide (a0 < m)) && (decide (m < (IntKind.i64.wrap ((IntKind.i64.wrap ((IntKind.i64.wrap (Int.fdiv (IntKind.u64.wrap (IntKind.i64.wrap (a + b))) (2 ^ min (Int.toNat 1) 64))) + m)) - a0)))))))]) ?_ ?_
      ·refine xr ?_
       refine lv rfl rfl (vm rfl) (lv rfl rfl (vm rfl) (lv rfl rfl (vr rfl rfl rfl) (lv rfl rfl (vm rfl) ?_)))
       rcases bool_or (decide (a0 < m)) with b2 | b2
       ·refine ly (wanted_y rfl rfl rfl b2) rfl (HStep.of_val (v := (.int .i64 m)) (vm rfl) ?_)
        refine ly (wanted_y rfl rfl rfl b2) rfl (HStep.of_val (v := (.int .i64 (IntKind.i64.wrap ((IntKind.i64.wrap ((IntKind.i64.wrap (Int.fdiv (IntKind.u64.wrap (IntKind.i64.wrap (a + b))) (2 ^ min (Int.toNat 1) 64))) + m)) - a0)))) (vm rfl) ?_)
        refine ly (wanted_y rfl rfl rfl b2) rfl (HStep.of_val (v := (.bool (decide (m < (IntKind.i64.wrap ((IntKind.i64.wrap ((IntKind.i64.wrap (Int.fdiv (IntKind.u64.wrap (IntKind.i64.wrap (a + b))) (2 ^ min (Int.toNat 1) 64))) + m)) - a0)))))) (vr rfl rfl rfl) ?_)
        refine lv rfl rfl (v := (.bool (decide (m < (IntKind.i64.wrap ((IntKind.i64.wrap ((IntKind.i64.wrap (Int.fdiv (IntKind.u64.wrap (IntKind.i64.wrap (a + b))) (2 ^ min (Int.toNat 1) 64))) + m)) - a0)))))) (hv_pick_t rfl b2 rfl) ?_
        refine ln (qn ?_)
        exact ⟨rfl, (hc rfl (hc rfl (hc rfl (hc rfl (hc rfl (hc rfl (hc rfl (hc rfl (hc (show ((.bool (decide (m < (IntKind.i64.wrap ((IntKind.i64.wrap ((IntKind.i64.wrap (Int.fdiv (IntKind.u64.wrap (IntKind.i64.wrap (a + b))) (2 ^ min (Int.toNat 1) 64))) + m)) - a0))))) : Value) = (.bool ((decide (a0 < m)) && (decide (m < (IntKind.i64.wrap ((IntKind.i64.wrap ((IntKind.i64.wrap (Int.fdiv (IntKind.u64.wrap (IntKind.i64.wrap (a + b))) (2 ^ min (Int.toNat 1) 64))) + m)) - a0)))))) from (by first | rfl | ((try rw [b2]); all_goals first | rfl | (simp only [Bool.true_or, Bool.or_true, Bool.false_or, Bool.or_false, Bool.true_and, Bool.and_true, Bool.false_and, Bool.and_false, Bool.not_true, Bool.not_false, Bool.cond_true, Bool.cond_false]; done)) | simp [b2])) hn)))))))))⟩
       ·refine lo (wanted_n rfl rfl rfl b2) rfl ?_
        refine lo (wanted_n rfl rfl rfl b2) rfl ?_
        refine lo (wanted_n rfl rfl rfl b2) rfl ?_
        refine lv rfl rfl (v := (.bool false)) (hv_pick_f rfl b2 rfl) ?_
        refine ln (qn ?_)
        exact ⟨rfl, (hc rfl (hc rfl (hc rfl (hc rfl (hc rfl (hc rfl (hc rfl (hc rfl (hc (show ((.bool false) : Value) = (.bool ((decide (a0 < m)) && (decide (m < (IntKind.i64.wrap ((IntKind.i64.wrap ((IntKind.i64.wrap (Int.fdiv (IntKind.u64.wrap (IntKind.i64.wrap (a + b))) (2 ^ min (Int.toNat 1) 64))) + m)) - a0)))))) from (by first | rfl | ((try rw [b2]); all_goals first | rfl | (simp only [Bool.true_or, Bool.or_true, Bool.false_or, Bool.or_false, Bool.true_and, Bool.and_true, Bool.false_and, Bool.and_false, Bool.not_true, Bool.not_false, Bool.cond_true, Bool.cond_false]; done)) | simp [b2])) hn)))))))))⟩
      ·rintro ρ _ ⟨rfl, hH⟩
       refine xh _ hH ?_
       refine xc (b := ((decide (a0 < m)) && (decide (m < (IntKind.i64.wrap ((IntKind.i64.wrap ((IntKind.i64.wrap (Int.fdiv (IntKind.u64.wrap (IntKind.i64.wrap (a + b))) (2 ^ min (Int.toNat 1) 64))) + m)) - a0)))))) rfl (fun e2 => ?_) (fun e2 => ?_)
       ·replace H := H.1 e2
        refine xr ?_
        refine lv rfl rfl (vm rfl) (lv rfl rfl (vm rfl) (lv rfl rfl (vm rfl) (lv rfl rfl (vm rfl) (lv rfl rfl (vm rfl) ?_))))
        refine lp rfl rfl (sc TyTS.cb107 rfl (HC.mono H ?_))
        rintro _ f9 ⟨rfl, H⟩
        refine ln (qn ?_)
        exact ⟨⟨H, trivial⟩, (hc rfl (hc rfl (hc rfl (hc rfl (hc rfl (hc rfl (hc rfl hn)))))))⟩
       ·replace H := H.2 e2
        refine xi (qn ?_)
        exact ⟨⟨H, trivial⟩, (hc rfl (hc rfl (hc rfl (hc rfl (hc rfl (hc rfl (hc rfl hn)))))))⟩
     ·rintro ρ c0 ⟨⟨i2, -⟩, hH⟩
      have H := e5 c0 i2; clear d6 e5
      refine xh _ hH ?_
      obtain ⟨c9, d4, e3⟩ := H
      refine xk (fun ρ h' => (c9 h' ∧ True) ∧ Has ρ [(0, (.slice a5 a3 a4)), (3, (.int .i64 b)), (4, a8), (18, (.int .i64 (IntKind.i64.wrap (Int.fdiv (IntKind.u64.wrap (IntKind.i64.wrap (a + b))) (2 ^ min (Int.toNat 1) 64))))), (24, (.int .i64 (IntKind.i64.wrap ((IntKind.i64.wrap ((IntKind.i64.wrap (Int.fdiv (IntKind.u64.wrap (IntKind.i64.wrap (a + b))) (2 ^ min (Int.toNat 1) 64))) + m)) - a0))))]) ?_ ?_
      ·have H := d4; clear d4 e3
       refine xk (fun ρ h' => c0 = h' ∧ Has ρ [(0, (.slice a5 a3 a4)), (1, (.int .i64 a)), (3, (.int .i64 b)), (4, a8), (18, (.int .i64 (IntKind.i64.wrap (Int.fdiv (IntKind.u64.wrap (IntKind.i64.wrap (a + b))) (2 ^ min (Int.toNat 1) 64))))), (20, (.int .i64 a0)), (24, (.int .i64 (IntKind.i64.wrap ((IntKind.i64.wrap ((IntKind.i64.wrap (Int.fdiv (IntKind.u64.wrap (IntKind.i64.wrap (a + b))) (2 ^ min (Int.toNat 1) 64))) + m)) - a0)))), (199, (.bool ((decide (a < a0)) && (decide (a0 < (IntKind.i64.wrap (Int.fdiv (IntKind.u64.wrap (IntKind.i64.wrap (a + b))) (2 ^ min (Int.toNat 1) 64))))))))]) ?_ ?_
       ·refine xr ?_
        refine lv rfl rfl (vm rfl) (lv rfl rfl (vm rfl) (lv rfl rfl (vr rfl rfl rfl) (lv rfl rfl (vm rfl) ?_)))
        rcases bool_or (decide (a < a0)) with b0 | b0
        ·refine ly (wanted_y rfl rfl rfl b0) rfl (HStep.of_val (v := (.int .i64 a0)) (vm rfl) ?_)
         refine ly (wanted_y rfl rfl rfl b0) rfl (HStep.of_val (v := (.int .i64 (IntKind.i64.wrap (Int.fdiv (IntKind.u64.wrap (IntKind.i64.wrap (a + b))) (2 ^ min (Int.toNat 1) 64))))) (vm rfl) ?_)
         refine ly (wanted_y rfl rfl rfl b0) rfl (HStep.of_val (v := (.bool (decide (a0 < (IntKind.i64.wrap (Int.fdiv (IntKind.u64.wrap (IntKind.i64.wrap (a + b))) (2 ^ min (Int.toNat 1) 64))))))) (vr rfl rfl rfl) ?_)
         refine lv rfl rfl (v := (.bool (decide (a0 < (IntKind.i64.wrap (Int.fdiv (IntKind.u64.wrap (IntKind.i64.wrap (a + b))) (2 ^ min (Int.toNat 1) 64))))))) (hv_pick_t rfl b0 rfl) ?_
         refine ln (qn ?_)
         exact ⟨rfl, (hc rfl (hc rfl (hc rfl (hc rfl (hc rfl (hc rfl (hc rfl (hc (show ((.bool (decide (a0 < (IntKind.i64.wrap (Int.fdiv (IntKind.u64.wrap (IntKind.i64.wrap (a + b))) (2 ^ min (Int.toNat 1) 64)))))) : Value) = (.bool ((decide (a < a0)) && (decide (a0 < (IntKind.i64.wrap (Int.fdiv (IntKind.u64.wrap (IntKind.i64.wrap (a + b))) (2 ^ min (Int.toNat 1) 64))))))) from (by first | rfl | ((try rw [b0]); all_goals first | rfl | (simp only [Bool.true_or, Bool.or_true, Bool.false_or, Bool.or_false, Bool.true_and, Bool.and_true, Bool.false_and, Bool.and_false, Bool.not_true, Bool.not_false, Bool.cond_true, Bool.cond_false]; done)) | simp [b0])) hn))))))))⟩
        ·refine lo (wanted_n rfl rfl rfl b0) rfl ?_
         refine lo (wanted_n rfl rfl rfl b0) rfl ?_
         refine lo (wanted_n rfl rfl rfl b0) rfl ?_
         refine lv rfl rfl (v := (.bool false)) (hv_pick_f rfl b0 rfl) ?_
         refine ln (qn ?_)
         exact ⟨rfl, (hc rfl (hc rfl (hc rfl (hc rfl (hc rfl (hc rfl (hc rfl (hc (show ((.bool false) : Value) = (.bool ((decide (a < a0)) && (decide (a0 < (IntKind.i64.wrap (Int.fdiv (IntKind.u64.wrap (IntKind.i64.wrap (a + b))) (2 ^ min (Int.toNat 1) 64))))))) from (by first | rfl | ((try rw [b0]); all_goals first | rfl | (simp only [Bool.true_or, Bool.or_true, Bool.false_or, Bool.or_false, Bool.true_and, Bool.and_true, Bool.false_and, Bool.and_false, Bool.not_true, Bool.not_false, Bool.cond_true, Bool.cond_false]; done)) | simp [b0])) hn))))))))⟩
       ·rintro ρ _ ⟨rfl, hH⟩
        refine xh _ hH ?_
        refine xc (b := ((decide (a < a0)) && (decide (a0 < (IntKind.i64.wrap (Int.fdiv (IntKind.u64.wrap (IntKind.i64.wrap (a + b))) (2 ^ min (Int.toNat 1) 64))))))) rfl (fun c7 => ?_) (fun c7 => ?_)
        ·replace H := H.1 c7
         refine xr ?_
         refine lv rfl rfl (vm rfl) (lv rfl rfl (vm rfl) (lv rfl rfl (vm rfl) (lv rfl rfl (vm rfl) (lv rfl rfl (vm rfl) ?_))))
         refine lp rfl rfl (sc TyTS.cb89 rfl (HC.mono H ?_))
         rintro _ f7 ⟨rfl, H⟩
         refine ln (qn ?_)
         exact ⟨⟨H, trivial⟩, (hc rfl (hc rfl (hc rfl (hc rfl (hc rfl hn)))))⟩
        ·replace H := H.2 c7
         refine xi (qn ?_)
         exact ⟨⟨H, trivial⟩, (hc rfl (hc rfl (hc rfl (hc rfl (hc rfl hn)))))⟩
      ·rintro ρ b9 ⟨⟨k7, -⟩, hH⟩
       have H := e3 b9 k7; clear d4 e3
       refine xh _ hH ?_
       refine xk (fun ρ h' => b9 = h' ∧ Has ρ [(0, (.slice a5 a3 a4)), (3, (.int .i64 b)), (4, a8), (18, (.int .i64 (IntKind.i64.wrap (Int.fdiv (IntKind.u64.wrap (IntKind.i64.wrap (a + b))) (2 ^ min (Int.toNat 1) 64))))), (24, (.int .i64 (IntKind.i64.wrap ((IntKind.i64.wrap ((IntKind.i64.wrap (Int.fdiv (IntKind.u64.wrap (IntKind.i64.wrap (a + b))) (2 ^ min (Int.toNat 1) 64))) + m)) - a0)))), (213, (.bool ((decide ((IntKind.i64.wrap (Int.fdiv (IntKind.u64.wrap (IntKind.i64.wrap (a + b))) (2 ^ min (Int.toNat 1) 64))) < (IntKind.i64.wrap ((IntKind.i64.wrap ((IntKind.i64.wrap (Int.fdiv (IntKind.u64.wrap (IntKind.i64.wrap (a + b))) (2 ^ min (Int.toNat 1) 64))) + m)) - a0)))) && (decide ((IntKind.i64.wrap ((IntKind.i64.wrap ((IntKind.i64.wrap (Int.fdiv (IntKind.u64.wrap (IntKind.i64.wrap (a + b))) (2 ^ min (Int.toNat 1) 64))) + m)) - a0)) < b)))))]) ?_ ?_
       ·refine xr ?_
        refine lv rfl rfl (vm rfl) (lv rfl rfl (vm rfl) (lv rfl rfl (vr rfl rfl rfl) (lv rfl rfl (vm rfl) ?_)))
        rcases bool_or (decide ((IntKind.i64.wrap (Int.fdiv (IntKind.u64.wrap (IntKind.i64.wrap (a + b))) (2 ^ min (Int.toNat 1) 64))) < (IntKind.i64.wrap ((IntKind.i64.wrap ((IntKind.i64.wrap (Int.fdiv (IntKind.u64.wrap (IntKind.i64.wrap (a + b))) (2 ^ min (Int.toNat 1) 64))) + m)) - a0)))) with b1 | b1
        ·refine ly (wanted_y rfl rfl rfl b1) rfl (HStep.of_val (v := (.int .i64 (IntKind.i64.wrap ((IntKind.i64.wrap ((IntKind.i64.wrap (Int.fdiv (IntKind.u64.wrap (IntKind.i64.wrap (a + b))) (2 ^ min (Int.toNat 1) 64))) + m)) - a0)))) (vm rfl) ?_)
         refine ly (wanted_y rfl rfl rfl b1) rfl (HStep.of_val (v := (.int .i64 b)) (vm rfl) ?_)
         refine ly (wanted_y rfl rfl rfl b1) rfl (HStep.of_val (v := (.bool (decide ((IntKind.i64.wrap ((IntKind.i64.wrap ((IntKind.i64.wrap (Int.fdiv (IntKind.u64.wrap (IntKind.i64.wrap (a + b))) (2 ^ min (Int.toNat 1) 64))) + m)) - a0)) < b)))) (vr rfl rfl rfl) ?_)
         refine lv rfl rfl (v := (.bool (decide ((IntKind.i64.wrap ((IntKind.i64.wrap ((IntKind.i64.wrap (Int.fdiv (IntKind.u64.wrap (IntKind.i64.wrap (a + b))) (2 ^ min (Int.toNat 1) 64))) + m)) - a0)) < b)))) (hv_pick_t rfl b1 rfl) ?_
         refine ln (qn ?_)
         exact ⟨rfl, (hc rfl (hc rfl (hc rfl (hc rfl (hc rfl (hc (show ((.bool (decide ((IntKind.i64.wrap ((IntKind.i64.wrap ((IntKind.i64.wrap (Int.fdiv (IntKind.u64.wrap (IntKind.i64.wrap (a + b))) (2 ^ min (Int.toNat 1) 64))) + m)) - a0)) < b))) : Value) = (.bool ((decide ((IntKind.i64.wrap (Int.fdiv (IntKind.u64.wrap (IntKind.i64.wrap (a + b))) (2 ^ min (Int.toNat 1) 64))) < (IntKind.i64.wrap ((IntKind.i64.wrap ((IntKind.i64.wrap (Int.fdiv (IntKind.u64.wrap (IntKind.i64.wrap (a + b))) (2 ^ min (Int.toNat 1) 64))) + m)) - a0)))) && (decide ((IntKind.i64.wrap ((IntKind.i64.wrap ((IntKind.i64.wrap (Int.fdiv (IntKind.u64.wrap (IntKind.i64.wrap (a + b))) (2 ^ min (Int.toNat 1) 64))) + m)) - a0)) < b)))) from (by first | rfl | ((try rw [b1]); all_goals first | rfl | (simp only [Bool.true_or, Bool.or_true, Bool.false_or, Bool.or_false, Bool.true_and, Bool.and_true, Bool.false_and, Bool.and_false, Bool.not_true, Bool.not_false, Bool.cond_true, Bool.cond_false]; done)) | simp [b1])) hn))))))⟩
        ·refine lo (wanted_n rfl rfl rfl b1) rfl ?_
         refine lo (wanted_n rfl rfl rfl b1) rfl ?_
         refine lo (wanted_n rfl rfl rfl b1) rfl ?_
         refine lv rfl rfl (v := (.bool false)) (hv_pick_f rfl b1 rfl) ?_
         refine ln (qn ?_)
         exact ⟨rfl, (hc rfl (hc rfl (hc rfl (hc rfl (hc rfl (hc (show ((.bool false) : Value) = (.bool ((decide ((IntKind.i64.wrap (Int.fdiv (IntKind.u64.wrap (IntKind.i64.wrap (a + b))) (2 ^ min (Int.toNat 1) 64))) < (IntKind.i64.wrap ((IntKind.i64.wrap ((IntKind.i64.wrap (Int.fdiv (IntKind.u64.wrap (IntKind.i64.wrap (a + b))) (2 ^ min (Int.toNat 1) 64))) + m)) - a0)))) && (decide ((IntKind.i64.wrap ((IntKind.i64.wrap ((IntKind.i64.wrap (Int.fdiv (IntKind.u64.wrap (IntKind.i64.wrap (a + b))) (2 ^ min (Int.toNat 1) 64))) + m)) - a0)) < b)))) from (by first | rfl | ((try rw [b1]); all_goals first | rfl | (simp only [Bool.true_or, Bool.or_true, Bool.false_or, Bool.or_false, Bool.true_and, Bool.and_true, Bool.false_and, Bool.and_false, Bool.not_true, Bool.not_false, Bool.cond_true, Bool.cond_false]; done)) | simp [b1])) hn))))))⟩
       ·rintro ρ _ ⟨rfl, hH⟩
        refine xh _ hH ?_
        refine xc (b := ((decide ((IntKind.i64.wrap (Int.fdiv (IntKind.u64.wrap (IntKind.i64.wrap (a + b))) (2 ^ min (Int.toNat 1) 64))) < (IntKind.i64.wrap ((IntKind.i64.wrap ((IntKind.i64.wrap (Int.fdiv (IntKind.u64.wrap (IntKind.i64.wrap (a + b))) (2 ^ min (Int.toNat 1) 64))) + m)) - a0)))) && (decide ((IntKind.i64.wrap ((IntKind.i64.wrap ((IntKind.i64.wrap (Int.fdiv (IntKind.u64.wrap (IntKind.i64.wrap (a + b))) (2 ^ min (Int.toNat 1) 64))) + m)) - a0)) < b)))) rfl (fun c5 => ?_) (fun c5 => ?_)
        ·replace H := H.1 c5
         refine xr ?_
         refine lv rfl rfl (vm rfl) (lv rfl rfl (vm rfl) (lv rfl rfl (vm rfl) (lv rfl rfl (vm rfl) (lv rfl rfl (vm rfl) ?_))))
         refine lp rfl rfl (sc TyTS.cb89 rfl (HC.mono H ?_))
         rintro _ f8 ⟨rfl, H⟩
         refine ln ?_
         exact endQ_n _ (res_none Tryd.results89 ) H
        ·replace H := H.2 c5
         refine xi ?_
         exact endQ_n _ (res_none Tryd.results89 ) H
theorem f107_sh (a2 : Option Addr) (a1 : Nat) (a0 : Nat) (a : Int) (m : Int) (b : Int) (a3 : Value) (h : Heap) (R : Value → Heap → Prop)
  (H : (∃ (I1 : Int → Int → Heap → Prop) (a4 : Int → Int → Heap → Nat), I1 (IntKind.i64.wrap (m - a)) (IntKind.i64.wrap (b - m)) h ∧ (∀ (i : Int) (j : Int) (h1 : Heap), I1 i j h1 → (((i != j) = true → (((decide (i > j)) = true → HC Tryd.prog 116 #[(.slice a2 a1 a0), (.int .i64 (IntKind.i64.wrap (m - i))), (.int .i64 m), (.int .i64 j), a3] h1 (fun vv h2 => vv = (.tuple #[]) ∧ (I1 (IntKind.i64.wrap (i - j)) j h2 ∧ a4 (IntKind.i64.wrap (i - j)) j h2 < a4 i j h1))) ∧ ((decide (i > j)) = false → HC Tryd.prog 116 #[(.slice a2 a1 a0), (.int .i64 (IntKind.i64.wrap (m - i))), (.int .i64 (IntKind.i64.wrap ((IntKind.i64.wrap (m + j)) - i))), (.int .i64 i), a3] h1 (fun vv h3 => vv = (.tuple #[]) ∧ (I1 i (IntKind.i64.wrap (j - i)) h3 ∧ a4 i (IntKind.i64.wrap (j - i)) h3 < a4 i j h1))))) ∧ ((i != j) = false → HC Tryd.prog 116 #[(.slice a2 a1 a0), (.int .i64 (IntKind.i64.wrap (m - i))), (.int .i64 m), (.int .i64 i), a3] h1 (fun vv h4 => vv = (.tuple #[]) ∧ R (.tuple #[]) h4)))))) :
  HC Tryd.prog 107 #[(.slice a2 a1 a0), (.int .i64 a), (.int .i64 m), (.int .i64 b), a3] h R := by
 refine hc_of (args := [(.slice a2 a1 a0), (.int .i64 a), (.int .i64 m), (.int .i64 b), a3]) Tryd.func107 rfl Tryd.ntmps107 (Nat.le_of_ble_eq_true rfl) ?_
 refine xs (xr ?_)
 refine lv rfl rfl (vm rfl) (lv rfl rfl (vm rfl) (lv rfl rfl (vr rfl rfl rfl) (lv rfl rfl (va rfl) ?_)))
 refine ln (qn (xs (xr ?_)))
 refine lv rfl rfl (vm rfl) (lv rfl rfl (vm rfl) (lv rfl rfl (vr rfl rfl rfl) (lv rfl rfl (va rfl) ?_)))
 refine ln (qn (xs (xb ?_)))
 obtain ⟨I1, a4, a8, a9⟩ := H
 refine xl (σ := Int × Int) (fun s => [(0, (.slice a2 a1 a0)), (2, (.int .i64 m)), (4, a3), (10, (.int .i64 s.1)), (11, (.int .i64 s.2))]) (fun s h' => I1 s.1 s.2 h' ∧ True) (fun s h' => a4 s.1 s.2 h') (IntKind.i64.wrap (m - a), IntKind.i64.wrap (b - m)) ⟨a8, trivial⟩ (hc rfl (hc rfl (hc rfl (hc rfl (hc rfl hn))))) ?_
 rintro ⟨i, j⟩ ρ h1 ⟨a7, -⟩
 have H := a9 i j h1 a7
 refine xs (xs (xr ?_))
 refine lv rfl rfl (vm rfl) (lv rfl rfl (vm rfl) (lv rfl rfl (vr rfl rfl rfl) ?_))
 refine ln (qn ?_)
 refine xc (b := i != j) rfl (fun a6 => ?_) (fun a6 => ?_)
 ·replace H := H.1 a6
  refine xi (qn (xb (xs (xr ?_))))
  refine lv rfl rfl (vm rfl) (lv rfl rfl (vm rfl) (lv rfl rfl (vr rfl rfl rfl) ?_))
  refine ln (qn ?_)
  refine xc (b := decide (i > j)) rfl (fun a5 => ?_) (fun a5 => ?_)
  ·replace H := H.1 a5
   refine xs (xr ?_)
   refine lv rfl rfl (vm rfl) (lv rfl rfl (vm rfl) (lv rfl rfl (vm rfl) (lv rfl rfl (vr rfl rfl rfl) (lv rfl rfl (vm rfl) (lv rfl rfl (vm rfl) ?_)))))
   refine lv rfl rfl (vm rfl) ?_
   refine lp rfl rfl (sc TyTS.cb116 rfl (HC.mono H ?_))
   rintro _ h2 ⟨rfl, H⟩
   refine ln (qn (xr ?_))
   refine lv rfl rfl (vm rfl) (lv rfl rfl (vm rfl) (lv rfl rfl (vr rfl rfl rfl) (lv rfl rfl (va rfl) ?_)))
   refine ln (bn (qn ?_))
   exact ⟨(IntKind.i64.wrap (i - j), j), ⟨⟨H.1, trivial⟩, H.2⟩, (hc rfl (hc rfl (hc rfl (hc rfl (hc rfl hn)))))⟩
  ·replace H := H.2 a5
   refine xs (xr ?_)
   refine lv rfl rfl (vm rfl) (lv rfl rfl (vm rfl) (lv rfl rfl (vm rfl) (lv rfl rfl (vr rfl rfl rfl) (lv rfl rfl (vm rfl) (lv rfl rfl (vm rfl) ?_)))))
   refine lv rfl rfl (vr rfl rfl rfl) (lv rfl rfl (vm rfl) (lv rfl rfl (vr rfl rfl rfl) (lv rfl rfl (vm rfl) (lv rfl rfl (vm rfl) ?_))))
   refine lp rfl rfl (sc TyTS.cb116 rfl (HC.mono H ?_))
   rintro _ h3 ⟨rfl, H⟩
   refine ln (qn (xr ?_))
   refine lv rfl rfl (vm rfl) (lv rfl rfl (vm rfl) (lv rfl rfl (vr rfl rfl rfl) (lv rfl rfl (va rfl) ?_)))
   refine ln (bn (qn ?_))
   exact ⟨(i, IntKind.i64.wrap (j - i)), ⟨⟨H.1, trivial⟩, H.2⟩, (hc rfl (hc rfl (hc rfl (hc rfl (hc rfl hn)))))⟩
 ·replace H := H.2 a6
  refine xe (qe (qe (bh (qn (xr ?_)))))
  refine lv rfl rfl (vm rfl) (lv rfl rfl (vm rfl) (lv rfl rfl (vm rfl) (lv rfl rfl (vr rfl rfl rfl) (lv rfl rfl (vm rfl) (lv rfl rfl (vm rfl) ?_)))))
  refine lv rfl rfl (vm rfl) ?_
  refine lp rfl rfl (sc TyTS.cb116 rfl (HC.mono H ?_))
  rintro _ h4 ⟨rfl, H⟩
  refine ln ?_
  exact endQ_n _ (res_none Tryd.results107 ) H
theorem f116_sh (a4 : Option Addr) (a2 : Nat) (a3 : Nat) (a : Int) (b : Int) (n : Int) (b1 : Value) (h : Heap) (R : Value → Heap → Prop)
  (H : (∃ (I1 : Int → Heap → Prop) (a6 : Int → Heap → Nat), I1 0 h ∧ (∀ (i : Int) (h1 : Heap), I1 i h1 → (((decide (i < n)) = true → (∃ a1 a0 : Nat, a4 = some ⟨a1, a0, none⟩ ∧ (0 : Int) ≤ IntKind.i64.wrap (b + i) ∧ IntKind.i64.wrap (b + i) < (a2 : Int) ∧ (∃ x : Int, hcell h1 a1 (a0 + (Int.toNat (IntKind.i64.wrap (b + i))) * 1) = some (.int .i64 x) ∧ ((0 : Int) ≤ IntKind.i64.wrap (a + i) ∧ IntKind.i64.wrap (a + i) < (a2 : Int) ∧ (∃ a5 : Int, hcell h1 a1 (a0 + (Int.toNat (IntKind.i64.wrap (a + i))) * 1) = some (.int .i64 a5) ∧ (HW h1 a1 (a0 + (Int.toNat (IntKind.i64.wrap (a + i))) * 1) ∧ ∀ h2, h2 = hset h1 a1 (a0 + (Int.toNat (IntKind.i64.wrap (a + i))) * 1) (.int .i64 x) → (HW h2 a1 (a0 + (Int.toNat (IntKind.i64.wrap (b + i))) * 1) ∧ ∀ h3, h3 = hset h2 a1 (a0 + (Int.toNat (IntKind.i64.wrap (b + i))) * 1) (.int .i64 a5) → (I1 (IntKind.i64.wrap (i + 1)) h3 ∧ a6 (IntKind.i64.wrap (i + 1)) h3 < a6 i h1)))))))) ∧ ((decide (i < n)) = false → R (.tuple #[]) h1))))) :
  HC Tryd.prog 116 #[(.slice a4 a2 a3), (.int .i64 a), (.int .i64 b), (.int .i64 n), b1] h R := by
 refine hc_of (args := [(.slice a4 a2 a3), (.int .i64 a), (.int .i64 b), (.int .i64 n), b1]) Tryd.func116 rfl Tryd.ntmps116 (Nat.le_of_ble_eq_true rfl) ?_
 refine xs (xr ?_)
 refine lv rfl rfl (va rfl) ?_
 refine ln (qn (xb ?_))
 obtain ⟨I1, a6, c1, c2⟩ := H
 refine xl (σ := Int) (fun s => [(0, (.slice a4 a2 a3)), (1, (.int .i64 a)), (2, (.int .i64 b)), (3, (.int .i64 n)), (10, (.int .i64 s))]) (fun s h' => I1 s h' ∧ True) (fun s h' => a6 s h') 0 ⟨c1, trivial⟩ (hc rfl (hc rfl (hc rfl (hc rfl (hc rfl hn))))) ?_
 rintro i ρ h1 ⟨b8, -⟩
 have H := c2 i h1 b8
 refine xs (xs (xr ?_))
 refine lv rfl rfl (vm rfl) (lv rfl rfl (vm rfl) (lv rfl rfl (vr rfl rfl rfl) ?_))
 refine ln (qn ?_)
 refine xc (b := decide (i < n)) rfl (fun a7 => ?_) (fun a7 => ?_)
 ·replace H := H.1 a7
  refine xi (qn (xs (xb ?_)))
  refine hx_draw TyTS.mixed [.pure, .pure, .pure, .pure, .pure, .pure, .pure, .pure, .pure, .pure, .pure, .pure, .pure, .read, .pure, .pure, .pure, .pure, .pure, .read, .pure, .wild, .pure, .wild] [0, 1, 2, 3, 4, 5, 6, 7, 8, 9, 10, 11, 12, 13, 14, 15, 16, 17, 18, 19, 20, 21, 22, 23] (by kernel_rfl) ?_
  refine pp (i := 0) rfl (wanted_0 rfl) rfl (.slice a4 a2 a3) (fun _ => vm rfl) ?_
  refine pp (i := 1) rfl (wanted_0 rfl) rfl (.int .i64 a) (fun _ => vm rfl) ?_
  refine pp (i := 2) rfl (wanted_0 rfl) rfl (.int .i64 i) (fun _ => vm rfl) ?_
  refine pp (i := 3) rfl (wanted_0 rfl) rfl (.int .i64 (IntKind.i64.wrap (a + i))) (fun _ => vr rfl rfl rfl) ?_
  refine pp (i := 4) rfl (wanted_0 rfl) rfl (.slice a4 a2 a3) (fun _ => vm rfl) ?_
  refine pp (i := 5) rfl (wanted_0 rfl) rfl (.int .i64 b) (fun _ => vm rfl) ?_
  refine pp (i := 6) rfl (wanted_0 rfl) rfl (.int .i64 i) (fun _ => vm rfl) ?_
  refine pp (i := 7) rfl (wanted_0 rfl) rfl (.int .i64 (IntKind.i64.wrap (b + i))) (fun _ => vr rfl rfl rfl) ?_
  refine pp (i := 8) rfl (wanted_0 rfl) rfl (.slice a4 a2 a3) (fun _ => vm rfl) ?_
  refine pp (i := 9) rfl (wanted_0 rfl) rfl (.int .i64 b) (fun _ => vm rfl) ?_
  refine pp (i := 10) rfl (wanted_0 rfl) rfl (.int .i64 i) (fun _ => vm rfl) ?_
  refine pp (i := 11) rfl (wanted_0 rfl) rfl (.int .i64 (IntKind.i64.wrap (b + i))) (fun _ => vr rfl rfl rfl) ?_
  obtain ⟨a1, a0, c0, b0, b2, Hq⟩ := H
  subst c0
  have H := Hq; clear Hq
  refine pp (i := 12) rfl (wanted_0 rfl) rfl (ptr a1 (a0 + (Int.toNat (IntKind.i64.wrap (b + i))) * 1)) (fun _ => vi TyTS.el71 rfl rfl b0 b2) ?_
  obtain ⟨x, b9, H⟩ := H
  refine pr (i := 13) rfl (wanted_0 rfl) rfl (.int .i64 x) (fun _ he => vl TyTS.agg3 rfl (Ext.cell he b9)) ?_
  refine pp (i := 14) rfl (wanted_0 rfl) rfl (.slice (some ⟨a1, a0, none⟩) a2 a3) (fun _ => vm rfl) ?_
  refine pp (i := 15) rfl (wanted_0 rfl) rfl (.int .i64 a) (fun _ => vm rfl) ?_
  refine pp (i := 16) rfl (wanted_0 rfl) rfl (.int .i64 i) (fun _ => vm rfl) ?_
  refine pp (i := 17) rfl (wanted_0 rfl) rfl (.int .i64 (IntKind.i64.wrap (a + i))) (fun _ => vr rfl rfl rfl) ?_
  obtain ⟨a8, a9, H⟩ := H
  refine pp (i := 18) rfl (wanted_0 rfl) rfl (ptr a1 (a0 + (Int.toNat (IntKind.i64.wrap (a + i))) * 1)) (fun _ => vi TyTS.el71 rfl rfl a8 a9) ?_
  obtain ⟨a5, b4, H⟩ := H
  refine pr (i := 19) rfl (wanted_0 rfl) rfl (.int .i64 a5) (fun _ he => vl TyTS.agg3 rfl (Ext.cell he b4)) ?_
  refine pp (i := 20) rfl (wanted_0 rfl) rfl (ptr a1 (a0 + (Int.toNat (IntKind.i64.wrap (a + i))) * 1)) (fun _ => vi TyTS.el71 rfl rfl a8 a9) ?_
  obtain ⟨b5, H⟩ := H
  refine hp_wild (i := 21) rfl (wanted_0 rfl) rfl (hn_store (v := (.int .i64 x)) rfl rfl TyTS.sz3 rfl b5 ?_)
  intro h2 b3
  replace H := H h2 b3
  refine pp (i := 22) rfl (wanted_0 rfl) rfl (ptr a1 (a0 + (Int.toNat (IntKind.i64.wrap (b + i))) * 1)) (fun _ => vi TyTS.el71 rfl rfl b0 b2) ?_
  obtain ⟨b7, H⟩ := H
  refine hp_wild (i := 23) rfl (wanted_0 rfl) rfl (hn_store (v := (.int .i64 a5)) rfl rfl TyTS.sz3 rfl b7 ?_)
  intro h3 b6
  replace H := H h3 b6
  refine hp_nil ?_
  refine bn (qn (xr ?_))
  refine lv rfl rfl (vm rfl) (lv rfl rfl (vr rfl rfl rfl) (lv rfl rfl (va rfl) ?_))
  refine ln (qn ?_)
  exact ⟨IntKind.i64.wrap (i + 1), ⟨⟨H.1, trivial⟩, H.2⟩, (hc rfl (hc rfl (hc rfl (hc rfl (hc rfl hn)))))⟩
 ·replace H := H.2 a7
  refine xe (qe (qe (bh ?_)))
  exact endQ_n _ (res_none Tryd.results116 ) H
theorem f52_sh (x : Option Addr) (a0 : Nat) (a1 : Nat) (a2 : Value) (h : Heap) (R : Value → Heap → Prop)
  (H : HC Tryd.prog 74 #[(.slice x a0 a1), (.int .i64 (a0 : Int)), a2] h (fun vv h1 => vv = (.tuple #[]) ∧ R (.tuple #[]) h1)) :
  HC Tryd.prog 52 #[(.slice x a0 a1), a2] h R := by
 refine hc_of (args := [(.slice x a0 a1), a2]) Tryd.func52 rfl Tryd.ntmps52 (Nat.le_of_ble_eq_true rfl) ?_
 refine xr ?_
 refine lv rfl rfl (vm rfl) (lv rfl rfl (vm rfl) (lv rfl rfl (v := (.int .i64 (a0 : Int))) (hv_len (n := a0) TyTS.u71 rfl) (lv rfl rfl (vm rfl) ?_)))
 refine lp rfl rfl (sc TyTS.cb74 rfl (HC.mono H ?_))
 rintro _ h1 ⟨rfl, H⟩
 refine ln ?_
 exact endQ_n _ (res_none Tryd.results52 ) H
end Go.Proofs.YthjehlocmikchaaDoor
namespace Go.Proofs.YthjehlocmikchaaDoor
namespace Stb
open Go
abbrev eI : Elt Int := eInt .i64
structure St (h0 : Heap) (a : Option Addr) (c N : Nat) (T : TypeId) (h : Heap) (M : List (Int × Nat)) : Prop where
  sl : Sl eI h a c (M.map Prod.fst)
  own : Own eI.k T N h a c
  fr : Fr (blkA a) h0 h
section
variable {h0 h h' : Heap} {a : Option Addr} {c N : Nat} {T : TypeId} {M : List (Int × Nat)}
theorem map_get {M : List (Int × Nat)} {i : Nat} {x : Int × Nat} (hx : M[i]? = some x) : (M.map Prod.fst)[i]? = some x.1 := by rw [List.getElem?_map, hx]; rfl
theorem St.ext (s : St h0 a c N T h M) (x : Ext h h') : St h0 a c N T h' M := ⟨s.sl.ext x, s.own.ext x, s.fr.trans (x.fr _) fun _ _ q => q⟩
theorem St.get (s : St h0 a c N T h M) {i : Nat} {x : Int × Nat} (hx : M[i]? = some x) : ∃ b o, a = some ⟨b, o, none⟩ ∧ hcell h b (o + i * 1) = some (.int .i64 x.1) := by
  obtain ⟨b, o, e, d⟩ := s.sl.at (map_get hx)
  exact ⟨b, o, e, d.1⟩
theorem St.swap (s : St h0 a c N T h M) {i j : Nat} {x y : Int × Nat} (hx : M[i]? = some x) (hy : M[j]? = some y) : ∃ b o, a = some ⟨b, o, none⟩ ∧ hcell h b (o + i * 1) = some (.int .i64 x.1) ∧ hcell h b (o + j * 1) = some (.int .i64 y.1) ∧
    HW h b (o + i * 1) ∧ ∀ h2, h2 = hset h b (o + i * 1) (.int .i64 y.1) → HW h2 b (o + j * 1) ∧ ∀ h3, h3 = hset h2 b (o + j * 1) (.int .i64 x.1) → St h0 a c N T h3 ((M.set i y).set j x) := by
  obtain ⟨b, o, e, d⟩ := s.get hx
  obtain ⟨b', o', e', d'⟩ := s.get hy
  rw [e] at e'; cases e'
  subst e
  have li := (List.getElem?_eq_some_iff.1 hx).1
  have lj := (List.getElem?_eq_some_iff.1 hy).1
  obtain ⟨u1, u2⟩ := s.sl.word s.own (i := i) (r := 0) (x' := y.1) (v := .int .i64 y.1) (by simpa using li) (by decide) rfl (p := o + i * 1) rfl
  refine ⟨b, o, rfl, d, d', u1, fun h2 e2 => ?_⟩
  obtain ⟨s2, w2, f2⟩ := u2 h2 e2
  obtain ⟨v1, v2⟩ := s2.word w2 (i := j) (r := 0) (x' := x.1) (v := .int .i64 x.1) (by simpa using lj) (by decide) rfl (p := o + j * 1) rfl
  refine ⟨v1, fun h3 e3 => ?_⟩
  obtain ⟨s3, w3, f3⟩ := v2 h3 e3
  refine ⟨?_, w3, s.fr.trans ((f2.trans f3 fun _ _ q => q).mono fun i _ q => by subst q; exact blkA_of rfl) fun _ _ q => q⟩
  rw [List.map_set, List.map_set]; exact s3
theorem St.len (s : St h0 a c N T h M) (hl : M.length ≤ 1152921504606846976) {i : Nat} {x : Int × Nat} (hx : M[i]? = some x) : i < M.length := (List.getElem?_eq_some_iff.1 hx).1
theorem half {i j : Nat} (h : i + j ≤ 4611686018427387904) : IntKind.i64.wrap (Int.fdiv (IntKind.u64.wrap (IntKind.i64.wrap ((i : Int) + (j : Int)))) (2 ^ min (Int.toNat 1) 64)) = (((i + j) / 2 : Nat) : Int) := by
  rw [w64 (x := (i : Int) + j) (by omega) (by omega), wu64 (by omega) (by omega)]
  have e : (2 : Int) ^ min (Int.toNat 1) 64 = 2 := by decide
  rw [e, Int.fdiv_eq_ediv_of_nonneg _ (by decide), w64 (by omega) (by omega)]
  omega
variable {cmp : Value} {cf : Int → Int → Int} {D : Int → Prop}
def bf (x y : Int × Nat) : Prop := x.2 < y.2
def ltS (cf : Int → Int → Int) (x y : Int × Nat) : Prop := cf x.1 y.1 < 0 ∨ (¬ cf y.1 x.1 < 0 ∧ x.2 < y.2)
structure Cmp (P : Program) (h0 : Heap) (a : Option Addr) (cmp : Value) (cf : Int → Int → Int) (D : Int → Prop) : Prop where
  call : ∀ h2, Fr (blkA a) h0 h2 → ∀ u v, D u → D v → HCV P cmp [.int .i64 u, .int .i64 v] h2 fun w h3 => w = .int .i64 (cf u v) ∧ Ext h2 h3
  tr : ∀ x y z, D x → D y → D z → cf x y < 0 → cf y z < 0 → cf x z < 0
  asy : ∀ x y, D x → D y → cf x y < 0 → ¬ cf y x < 0
  nt : ∀ x y z, D x → D y → D z → ¬ cf x y < 0 → ¬ cf y z < 0 → ¬ cf x z < 0
structure Ok (D : Int → Prop) (M : List (Int × Nat)) : Prop where
  dom : ∀ (p : Nat) x, M[p]? = some x → D x.1
  lab : ∀ (p q : Nat) x y, p ≠ q → M[p]? = some x → M[q]? = some y → x.2 ≠ y.2
  len : M.length ≤ 1152921504606846976
theorem Ok.seg {M M' : List (Int × Nat)} {a b : Nat} (o : Ok D M) (s : Seg M M' a b) : Ok D M' := by
  have sl := s.len
  obtain ⟨u, t, _, k2, _, k4⟩ := s.ex
  refine ⟨fun p x h => o.dom (u p) x (by rw [← k4]; exact h), fun p q x y hpq hx hy => o.lab (u p) (u q) x y (fun e => hpq ?_) (by rw [← k4]; exact hx) (by rw [← k4]; exact hy), by rw [sl]; exact o.len⟩
  have := congrArg t e
  rw [k2, k2] at this; exact this
theorem lt_before {x y : Int × Nat} (h : bf x y) : ltS cf y x ↔ cf y.1 x.1 < 0 := ⟨fun q => q.resolve_right fun r => by have := r.2; unfold bf at h; omega, .inl⟩
def ltD (cf : Int → Int → Int) (D : Int → Prop) (x y : Int × Nat) : Prop := ltS cf x y ∧ D x.1 ∧ D y.1
theorem ord_of {P : Program} (C : Cmp P h0 a cmp cf D) (o : Ok D M) : Ord (ltD cf D) M := by
  refine ⟨fun x h => ?_, fun x y z h1 h2 => ⟨?_, h1.2.1, h2.2.2⟩, fun p q x y hpq hx hy => ?_⟩
  · obtain ⟨h, d, _⟩ := h
    rcases h with h | h
    · exact C.asy _ _ d d h h
    · exact absurd h.2 (Nat.lt_irrefl _)
  · obtain ⟨h1, dx, dy⟩ := h1
    obtain ⟨h2, _, dz⟩ := h2
    have key : ∀ u v w, D u → D v → D w → ¬ cf v u < 0 → cf v w < 0 → cf u w < 0 := fun u v w du dv dw q1 q2 => by
      rcases Decidable.em (cf u w < 0) with r | r
      · exact r
      · exact absurd q2 (C.nt v u w dv du dw q1 r)
    have key2 : ∀ u v w, D u → D v → D w → cf u v < 0 → ¬ cf w v < 0 → cf u w < 0 := fun u v w du dv dw q1 q2 => by
      rcases Decidable.em (cf u w < 0) with r | r
      · exact r
      · exact absurd q1 (C.nt u w v du dw dv r q2)
    rcases h1 with h1 | ⟨h1, l1⟩
    · rcases h2 with h2 | ⟨h2, _⟩
      · exact .inl (C.tr _ _ _ dx dy dz h1 h2)
      · exact .inl (key2 _ _ _ dx dy dz h1 h2)
    · rcases h2 with h2 | ⟨h2, l2⟩
      · exact .inl (key _ _ _ dx dy dz h1 h2)
      · exact .inr ⟨C.nt _ _ _ dz dy dx h2 h1, by omega⟩
  · have dx := o.dom p x hx
    have dy := o.dom q y hy
    have hl := o.lab p q x y hpq hx hy
    by_cases h1 : cf x.1 y.1 < 0
    · exact .inl ⟨.inl h1, dx, dy⟩
    · by_cases h2 : cf y.1 x.1 < 0
      · exact .inr ⟨.inl h2, dy, dx⟩
      · rcases Nat.lt_or_ge x.2 y.2 with q | q
        · exact .inl ⟨.inr ⟨h2, q⟩, dx, dy⟩
        · exact .inr ⟨.inr ⟨h1, by omega⟩, dy, dx⟩
theorem ltD_before {x y : Int × Nat} (h : bf x y) (dx : D x.1) (dy : D y.1) : ltD cf D y x ↔ cf y.1 x.1 < 0 := ⟨fun q => (lt_before h).1 q.1, fun q => ⟨(lt_before h).2 q, dy, dx⟩⟩
set_option maxHeartbeats 1600000 in
theorem swapRange_c (s : St h0 a c N T h M) (hl : M.length ≤ 1152921504606846976) {i j n : Nat} (h1 : i + n ≤ j) (h2 : j + n ≤ M.length) :
    HC Tryd.prog 116 #[.slice a M.length c, .int .i64 (i : Nat), .int .i64 (j : Nat), .int .i64 (n : Nat), cmp] h fun v h' => v = .tuple #[] ∧ ∃ M', St h0 a c N T h' M' ∧ M'.length = M.length ∧
      ∀ p : Nat, M'[p]? = M[if i ≤ p ∧ p < i + n then p + (j - i) else if j ≤ p ∧ p < j + n then p - (j - i) else p]? := by
  refine f116_sh _ _ _ _ _ _ _ _ _ ⟨fun k h1 => ∃ (k' : Nat) (C : List (Int × Nat)), k = k' ∧ k' ≤ n ∧ St h0 a c N T h1 C ∧ C.length = M.length ∧ ∀ p : Nat, C[p]? = M[if i ≤ p ∧ p < i + k' then p + (j - i) else if j ≤ p ∧ p < j + k' then p - (j - i) else p]?, fun k _ => n - k.toNat,
    ⟨0, M, rfl, Nat.zero_le _, s, rfl, fun p => by rw [if_neg (by omega), if_neg (by omega)]⟩, ?_⟩
  rintro _ hh ⟨k, C, rfl, hk, sC, lC, hC⟩
  refine ⟨fun e => ?_, fun e => ?_⟩
  · have hkn := lt_of_dec e
    have ex : ∃ x, C[i + k]? = some x := ⟨_, List.getElem?_eq_getElem (by omega)⟩
    have ey : ∃ y, C[j + k]? = some y := ⟨_, List.getElem?_eq_getElem (by omega)⟩
    obtain ⟨x, hx⟩ := ex
    obtain ⟨y, hy⟩ := ey
    rw [w64 (x := (j : Int) + k) (by omega) (by omega), w64 (x := (i : Int) + k) (by omega) (by omega)]
    have e1 : Int.toNat ((j : Int) + k) = j + k := by omega
    have e2 : Int.toNat ((i : Int) + k) = i + k := by omega
    rw [e1, e2]
    obtain ⟨b, o, ea, c1, c2, w1, w2⟩ := sC.swap hx hy
    refine ⟨b, o, ea, by omega, by omega, _, c2, by omega, by omega, _, c1, w1, fun h2' e2' => ⟨(w2 h2' e2').1, fun h3' e3' => ?_⟩⟩
    have s3 := (w2 h2' e2').2 h3' e3'
    rw [wadd k (by omega)]
    refine ⟨⟨k + 1, _, rfl, hkn, s3, by simpa using lC, fun p => ?_⟩, by simp only [Int.toNat_natCast]; omega⟩
    have key := (Seg.swap (a := 0) (b := C.length) hx hy (by omega) (by omega) (by omega) (by omega)).2 p
    rw [key, hC]
    congr 1
    (repeat' split) <;> omega
  · have hkn : k = n := by have := ge_of_dec e; omega
    subst hkn
    exact ⟨rfl, C, sC, lC, hC⟩
set_option maxHeartbeats 1600000 in
theorem rotate_c (s : St h0 a c N T h M) (hl : M.length ≤ 1152921504606846976) {i m b : Nat} (h1 : i < m) (h2 : m < b) (h3 : b ≤ M.length) :
    HC Tryd.prog 107 #[.slice a M.length c, .int .i64 (i : Nat), .int .i64 (m : Nat), .int .i64 (b : Nat), cmp] h fun v h' => v = .tuple #[] ∧ ∃ M', St h0 a c N T h' M' ∧ Rot M M' i m b := by
  refine f107_sh _ _ _ _ _ _ _ _ _ ⟨fun u v h1 => ∃ (i' j' : Nat) (C : List (Int × Nat)), u = i' ∧ v = j' ∧ 0 < i' ∧ 0 < j' ∧ i' ≤ m - i ∧ j' ≤ b - m ∧ St h0 a c N T h1 C ∧ C.length = M.length ∧ ∀ p : Nat, C[rho (m - i') m (m + j') p]? = M[rho i m b p]?, fun u v _ => u.toNat + v.toNat, ?_, ?_⟩
  · rw [w64 (x := (m : Int) - i) (by omega) (by omega), w64 (x := (b : Int) - m) (by omega) (by omega)]
    refine ⟨m - i, b - m, M, by omega, by omega, by omega, by omega, Nat.le_refl _, Nat.le_refl _, s, rfl, fun p => ?_⟩
    congr 1
    unfold rho
    (repeat' split) <;> omega
  rintro _ _ hh ⟨i', j', C, rfl, rfl, k1, k2, k3, k4, sC, lC, hC⟩
  have e1 : IntKind.i64.wrap ((m : Int) - (i' : Int)) = ((m - i' : Nat) : Int) := by rw [w64 (by omega) (by omega)]; omega
  rw [← lC]
  refine ⟨fun e => ⟨fun e2 => ?_, fun e2 => ?_⟩, fun e => ?_⟩
  · have hlt := of_decide_eq_true e2
    rw [e1]
    refine (swapRange_c sC (by omega) (i := m - i') (j := m) (n := j') (by omega) (by omega)).mono ?_
    rintro v h2' ⟨rfl, M', s', l', hM⟩
    rw [show IntKind.i64.wrap ((i' : Int) - (j' : Int)) = ((i' - j' : Nat) : Int) by rw [w64 (by omega) (by omega)]; omega]
    refine ⟨rfl, ⟨i' - j', j', M', rfl, rfl, by omega, by omega, by omega, by omega, s', by omega, ?_⟩, by simp only [Int.toNat_natCast]; omega⟩
    refine rot_step hC (by omega) k1 k2 (.inl ⟨by omega, rfl, rfl, fun p => ?_⟩)
    rw [hM]
    congr 1
    (repeat' split) <;> omega
  · have hlt := of_decide_eq_false e2
    have hne : ¬ (i' : Int) = j' := by simpa using e
    rw [e1, show IntKind.i64.wrap (IntKind.i64.wrap ((m : Int) + (j' : Int)) - (i' : Int)) = ((m + j' - i' : Nat) : Int) by rw [w64 (x := (m : Int) + j') (by omega) (by omega), w64 (by omega) (by omega)]; omega]
    refine (swapRange_c sC (by omega) (i := m - i') (j := m + j' - i') (n := i') (by omega) (by omega)).mono ?_
    rintro v h2' ⟨rfl, M', s', l', hM⟩
    rw [show IntKind.i64.wrap ((j' : Int) - (i' : Int)) = ((j' - i' : Nat) : Int) by rw [w64 (by omega) (by omega)]; omega]
    refine ⟨rfl, ⟨i', j' - i', M', rfl, rfl, by omega, by omega, by omega, by omega, s', by omega, ?_⟩, by simp only [Int.toNat_natCast]; omega⟩
    refine rot_step hC (by omega) k1 k2 (.inr ⟨by omega, rfl, rfl, fun p => ?_⟩)
    rw [hM]
    congr 1
    (repeat' split) <;> omega
  · have he : (i' : Int) = j' := by simpa using e
    have he : i' = j' := by omega
    subst he
    rw [e1]
    refine (swapRange_c sC (by omega) (i := m - i') (j := m) (n := i') (by omega) (by omega)).mono ?_
    rintro v h2' ⟨rfl, M', s', l', hM⟩
    refine ⟨rfl, rfl, M', s', rot_last hC (by omega) (by omega) fun p => ?_⟩
    rw [hM]
    congr 1
    (repeat' split) <;> omega
end
end Stb
end Go.Proofs.YthjehlocmikchaaDoor
namespace Go.Proofs.YthjehlocmikchaaDoor
namespace Stb
open Go
section
variable {h0 h h' : Heap} {a : Option Addr} {c N : Nat} {T : TypeId} {M : List (Int × Nat)} {cmp : Value} {cf : Int → Int → Int} {D : Int → Prop}
set_option maxHeartbeats 3200000 in
theorem insertion_c (C : Cmp Tryd.prog h0 a cmp cf D) (s : St h0 a c N T h M) (o : Ok D M) {i b : Nat} (h1 : i ≤ b) (h2 : b ≤ M.length) (hb : Srt bf M i b) :
    HC Tryd.prog 88 #[.slice a M.length c, .int .i64 (i : Nat), .int .i64 (b : Nat), cmp] h fun v h' => v = .tuple #[] ∧ ∃ M', St h0 a c N T h' M' ∧ Seg M M' i b ∧ Srt (ltD cf D) M' i b := by
  have hl := o.len
  refine f88_sh _ _ _ _ _ _ _ _ ⟨fun k h1 => ∃ (k' : Nat) (Q : List (Int × Nat)), k = k' ∧ i < k' ∧ (k' ≤ b ∨ k' = i + 1) ∧ St h0 a c N T h1 Q ∧ Seg M Q i k' ∧ Srt (ltD cf D) Q i k', fun k _ => b - k.toNat, ?_, ?_⟩
  · rw [wadd i (by omega)]
    exact ⟨i + 1, M, rfl, by omega, .inr rfl, s, Seg.refl _ _ _, srt_one (Nat.le_refl _)⟩
  rintro _ hh ⟨k, Q, rfl, hik, hkb, sQ, gQ, rQ⟩
  refine ⟨fun e => ?_, fun e => ?_⟩
  rotate_left
  · have hge := ge_of_dec e
    rcases hkb with hkb | hkb
    · have : k = b := by omega
      subst this
      exact ⟨rfl, Q, sQ, gQ, rQ⟩
    · by_cases hbi : b = i
      · subst hbi
        have hQM : Q = M := by
          apply List.ext_getElem?
          intro p
          by_cases hp : p = b
          · subst hp
            obtain ⟨q, q1, q2, q3⟩ := gQ.mem (Nat.le_refl p) (by omega)
            rw [q3, show q = p by omega]
          · exact gQ.out (by omega)
        subst hQM
        exact ⟨rfl, Q, sQ, Seg.refl _ _ _, srt_one (by omega)⟩
      · have : k = b := by omega
        subst this
        exact ⟨rfl, Q, sQ, gQ, rQ⟩
  have hkn := lt_of_dec e
  have hk2 : k ≤ b := by omega
  have lQ := gQ.len
  obtain ⟨el, hel⟩ : ∃ x, Q[k]? = some x := ⟨_, List.getElem?_eq_getElem (by omega)⟩
  have helM : M[k]? = some el := by rw [← gQ.out (p := k) (.inr (Nat.le_refl _))]; exact hel
  have oQ := o.seg gQ
  have ordQ := ord_of C oQ
  have before : ∀ (p : Nat) y, i ≤ p → p < k → Q[p]? = some y → bf y el := fun p y k1 k2 hy => by
    obtain ⟨q, q1, q2, q3⟩ := gQ.mem k1 k2
    exact hb q k y el q1 q2 hkn (by rw [← q3]; exact hy) helM
  refine ⟨fun j h1 => ∃ (j' : Nat) (X : List (Int × Nat)), j = j' ∧ i ≤ j' ∧ j' ≤ k ∧ St h0 a c N T h1 X ∧ Seg Q X i (k + 1) ∧ X[j']? = some el ∧ Ins (ltD cf D) X i (k + 1) j' ∧ ∀ (p : Nat) y, i ≤ p → p < k + 1 → p ≠ j' → X[p]? = some y → bf y el, fun j _ => j.toNat,
    ⟨k, Q, rfl, by omega, Nat.le_refl _, sQ, Seg.refl _ _ _, hel, Ins.start rQ, fun p y k1 k2 k3 hy => before p y k1 (by omega) hy⟩, ?_⟩
  rintro _ h2' ⟨j, X, rfl, hij, hjk, sX, gX, hX, IX, bX⟩
  have lX := gX.len
  have oX := oQ.seg gX
  have fin : ∀ {h3 : Heap}, St h0 a c N T h3 X → (j ≤ i ∨ ∃ x y, X[j]? = some x ∧ X[j - 1]? = some y ∧ ¬ ltD cf D x y) → ((∃ (k' : Nat) (Q : List (Int × Nat)), IntKind.i64.wrap ((k : Int) + 1) = k' ∧ i < k' ∧ (k' ≤ b ∨ k' = i + 1) ∧ St h0 a c N T h3 Q ∧ Seg M Q i k' ∧ Srt (ltD cf D) Q i k') ∧ b - (IntKind.i64.wrap ((k : Int) + 1)).toNat < b - (k : Int).toNat) := fun {h3} s3 hc => by
    rw [wadd k (by omega)]
    exact ⟨⟨k + 1, X, rfl, by omega, .inl (by omega), s3, (gQ.mono (Nat.le_refl _) (by omega)).trans gX, Ins.done (ordQ.seg gX) IX (by omega) hc⟩, by simp only [Int.toNat_natCast]; omega⟩
  refine ⟨fun q h3 => St h0 a c N T h3 X ∧ (q = true → i < j ∧ ∃ y, X[j - 1]? = some y ∧ ltD cf D el y) ∧ (q = false → j ≤ i ∨ ∃ x y, X[j]? = some x ∧ X[j - 1]? = some y ∧ ¬ ltD cf D x y), ⟨fun e2 => ?_, fun e2 => ⟨sX, fun e => (by cases e), fun _ => .inl ?_⟩⟩, ?_⟩
  · have hji := of_decide_eq_true e2
    obtain ⟨y, hy⟩ : ∃ y, X[j - 1]? = some y := ⟨_, List.getElem?_eq_getElem (by omega)⟩
    obtain ⟨rb, ro, ea, c1⟩ := sX.get hX
    obtain ⟨rb', ro', ea', c2⟩ := sX.get hy
    rw [ea] at ea'; cases ea'
    rw [show IntKind.i64.wrap ((j : Int) - 1) = ((j - 1 : Nat) : Int) by rw [w64 (by omega) (by omega)]; omega]
    refine ⟨rb, ro, ea, by omega, by omega, _, c1, by omega, by omega, _, c2, HCV.mono (C.call h2' sX.fr _ _ (oX.dom j el hX) (oX.dom (j - 1) y hy)) ?_⟩
    rintro _ h3 ⟨rfl, x3⟩
    have hby := bX (j - 1) y (by omega) (by omega) (by omega) hy
    have hiff := ltD_before (cf := cf) hby (oX.dom (j - 1) y hy) (oX.dom j el hX)
    refine ⟨_, rfl, sX.ext x3, fun e3 => ⟨by omega, y, hy, hiff.2 (of_decide_eq_true e3)⟩, fun e3 => .inr ⟨el, y, hX, hy, fun q => of_decide_eq_false e3 (hiff.1 q)⟩⟩
  · have := of_decide_eq_false e2; omega
  · rintro q h3 ⟨s3, ht, hf⟩
    refine ⟨fun e3 => ?_, fun e3 => fin s3 (hf e3)⟩
    obtain ⟨hij2, y, hy, hlt⟩ := ht e3
    obtain ⟨rb, ro, ea, c1, c2, w1, w2⟩ := s3.swap hX hy
    rw [show IntKind.i64.wrap ((j : Int) - 1) = ((j - 1 : Nat) : Int) by rw [w64 (by omega) (by omega)]; omega]
    refine ⟨rb, ro, ea, by omega, by omega, _, c2, by omega, by omega, _, c1, w1, fun h5 e5 => ⟨(w2 h5 e5).1, fun h6 e6 => ?_⟩⟩
    have s6 := (w2 h5 e5).2 h6 e6
    have sw := Seg.swap (a := i) (b := k + 1) hX hy (by omega) (by omega) (by omega) (by omega)
    refine ⟨⟨j - 1, _, rfl, by omega, by omega, s6, gX.trans sw.1, ?_, IX.step hij2 hX hy hlt (by omega), fun p z k1 k2 k3 hz => ?_⟩, by simp only [Int.toNat_natCast]; omega⟩
    · rw [sw.2, if_neg (by omega), if_pos rfl]; exact hX
    · rw [sw.2] at hz
      by_cases e4 : p = j
      · rw [if_pos e4] at hz
        exact bX (j - 1) z (by omega) (by omega) (by omega) hz
      · rw [if_neg e4, if_neg k3] at hz
        exact bX p z k1 k2 e4 hz
set_option maxHeartbeats 12800000 in
theorem merge_c (C : Cmp Tryd.prog h0 a cmp cf D) : ∀ (n : Nat) {h : Heap} {M : List (Int × Nat)} {i m b : Nat}, b - i ≤ n → St h0 a c N T h M → Ok D M → i < m → m < b → b ≤ M.length → Srt (ltD cf D) M i m → Srt (ltD cf D) M m b → Lab bf M i m b →
    HC Tryd.prog 89 #[.slice a M.length c, .int .i64 (i : Nat), .int .i64 (m : Nat), .int .i64 (b : Nat), cmp] h fun v h' => v = .tuple #[] ∧ ∃ M', St h0 a c N T h' M' ∧ Seg M M' i b ∧ Srt (ltD cf D) M' i b
  | 0, h, M, i, m, b, hn, _, _, h1, h2, _, _, _, _ => by omega
  | n + 1, h, M, i, m, b, hn, s, o, h1, h2, h3, hL, hR, hlab => by
    have hl := o.len
    have ord := ord_of C o
    have got : ∀ r, r < M.length → ∃ z, M[r]? = some z := fun r hr => ⟨_, List.getElem?_eq_getElem hr⟩
    refine f89_sh _ _ _ _ _ _ _ _ _ ⟨fun e1 => ?_, fun e1 => ⟨fun e2 => ?_, fun e2 => ?_⟩⟩
    · -- one element ahead
      have hm : m = i + 1 := by rw [w64 (by omega) (by omega)] at e1; simp at e1; omega
      subst hm
      obtain ⟨x, hx⟩ := got i (by omega)
      refine ⟨fun u v h1 => ∃ u' v' : Nat, u = u' ∧ v = v' ∧ i + 1 ≤ u' ∧ u' ≤ v' ∧ v' ≤ b ∧ St h0 a c N T h1 M ∧ (∀ (q : Nat) y, i + 1 ≤ q → q < u' → M[q]? = some y → ltD cf D y x) ∧ (∀ (q : Nat) y, v' ≤ q → q < b → M[q]? = some y → ltD cf D x y), fun u v _ => v.toNat - u.toNat,
        ⟨i + 1, b, rfl, rfl, Nat.le_refl _, by omega, Nat.le_refl _, s, fun q y k1 k2 => by omega, fun q y k1 k2 => by omega⟩, ?_⟩
      rintro _ _ h1' ⟨u, v, rfl, rfl, k1, k2, k3, s1, fu, fv⟩
      refine ⟨fun e => ?_, fun e => ?_⟩
      · have huv := lt_of_dec e
        rw [half (i := u) (j := v) (by omega)]
        obtain ⟨y, hy⟩ := got ((u + v) / 2) (by omega)
        obtain ⟨rb, ro, ea, c1⟩ := s1.get hy
        obtain ⟨rb', ro', ea', c2⟩ := s1.get hx
        rw [ea] at ea'; cases ea'
        refine ⟨rb, ro, ea, by omega, by omega, _, c1, by omega, by omega, _, c2, HCV.mono (C.call h1' s1.fr _ _ (o.dom _ _ hy) (o.dom _ _ hx)) ?_⟩
        rintro _ h2' ⟨rfl, x2⟩
        have hby : bf x y := hlab i ((u + v) / 2) x y (Nat.le_refl _) (by omega) (by omega) (by omega) hx hy
        have hiff := ltD_before (cf := cf) hby (o.dom _ _ hx) (o.dom _ _ hy)
        refine ⟨_, rfl, fun e3 => ?_, fun e3 => ?_⟩
        · have hlt := hiff.2 (of_decide_eq_true e3)
          rw [wadd _ (by omega)]
          refine ⟨⟨(u + v) / 2 + 1, v, rfl, rfl, by omega, by omega, k3, s1.ext x2, fun q z q1 q2 hz => ?_, fv⟩, by simp only [Int.toNat_natCast]; omega⟩
          by_cases eq : q = (u + v) / 2
          · rw [eq, hy] at hz; cases hz; exact hlt
          · exact ord.tr _ _ _ (hR q _ z y q1 (by omega) (by omega) hz hy) hlt
        · have hlt : ltD cf D x y := ord.no (p := i) (q := (u + v) / 2) (by omega) hx hy fun q => of_decide_eq_false e3 (hiff.1 q)
          refine ⟨⟨u, (u + v) / 2, rfl, rfl, k1, by omega, by omega, s1.ext x2, fu, fun q z q1 q2 hz => ?_⟩, by simp only [Int.toNat_natCast]; omega⟩
          by_cases eq : q = (u + v) / 2
          · rw [eq, hy] at hz; cases hz; exact hlt
          · exact ord.tr _ _ _ hlt (hR _ q y z (by omega) (by omega) q2 hy hz)
      · have huv : u = v := by have := ge_of_dec e; omega
        subst huv
        rw [show IntKind.i64.wrap ((u : Int) - 1) = ((u - 1 : Nat) : Int) by rw [w64 (by omega) (by omega)]; omega]
        refine ⟨fun k h3 => ∃ (k' : Nat) (Q : List (Int × Nat)), k = k' ∧ i ≤ k' ∧ k' ≤ u - 1 ∧ St h0 a c N T h3 Q ∧ Rot M Q i (i + 1) (k' + 1), fun k _ => u - k.toNat, ⟨i, M, rfl, Nat.le_refl _, by omega, s1, Rot.none (.inr rfl)⟩, ?_⟩
        rintro _ h3' ⟨k, Q, rfl, q1, q2, sQ, rQ⟩
        have lQ := rQ.len
        refine ⟨fun e => ?_, fun e => ?_⟩
        · have hku := lt_of_dec e
          obtain ⟨z, hz⟩ : ∃ z, Q[k]? = some z := ⟨_, List.getElem?_eq_getElem (by omega)⟩
          obtain ⟨w, hw⟩ : ∃ w, Q[k + 1]? = some w := ⟨_, List.getElem?_eq_getElem (by omega)⟩
          obtain ⟨rb, ro, ea, c1, c2, w1, w2⟩ := sQ.swap hz hw
          rw [wadd k (by omega)]
          refine ⟨rb, ro, ea, by omega, by omega, _, c2, by omega, by omega, _, c1, w1, fun h5 e5 => ⟨(w2 h5 e5).1, fun h6 e6 => ?_⟩⟩
          have s6 := (w2 h5 e5).2 h6 e6
          refine ⟨⟨k + 1, _, rfl, by omega, by omega, s6, ⟨by simpa using lQ, fun p => ?_⟩⟩, by simp only [Int.toNat_natCast]; omega⟩
          rw [(Seg.swap (a := 0) (b := Q.length) hz hw (by omega) (by omega) (by omega) (by omega)).2, rQ.at_]
          congr 1
          unfold rho
          (repeat' split) <;> omega
        · have hku : k + 1 = u := by have := ge_of_dec e; omega
          rw [hku] at rQ
          exact ⟨rfl, Q, sQ, (rQ.seg (by omega) (by omega)).mono (Nat.le_refl _) (by omega), one_left hx hR rQ (by omega) (by omega) fu fv⟩
    · -- one element behind
      have hb : b = m + 1 := by rw [w64 (by omega) (by omega)] at e2; simp at e2; omega
      subst hb
      obtain ⟨x, hx⟩ := got m (by omega)
      refine ⟨fun u v h1 => ∃ u' v' : Nat, u = u' ∧ v = v' ∧ i ≤ u' ∧ u' ≤ v' ∧ v' ≤ m ∧ St h0 a c N T h1 M ∧ (∀ (q : Nat) y, i ≤ q → q < u' → M[q]? = some y → ltD cf D y x) ∧ (∀ (q : Nat) y, v' ≤ q → q < m → M[q]? = some y → ltD cf D x y), fun u v _ => v.toNat - u.toNat,
        ⟨i, m, rfl, rfl, Nat.le_refl _, by omega, Nat.le_refl _, s, fun q y k1 k2 => by omega, fun q y k1 k2 => by omega⟩, ?_⟩
      rintro _ _ h1' ⟨u, v, rfl, rfl, k1, k2, k3, s1, fu, fv⟩
      refine ⟨fun e => ?_, fun e => ?_⟩
      · have huv := lt_of_dec e
        rw [half (i := u) (j := v) (by omega)]
        obtain ⟨y, hy⟩ := got ((u + v) / 2) (by omega)
        obtain ⟨rb, ro, ea, c1⟩ := s1.get hy
        obtain ⟨rb', ro', ea', c2⟩ := s1.get hx
        rw [ea] at ea'; cases ea'
        refine ⟨rb, ro, ea, by omega, by omega, _, c2, by omega, by omega, _, c1, HCV.mono (C.call h1' s1.fr _ _ (o.dom _ _ hx) (o.dom _ _ hy)) ?_⟩
        rintro _ h2' ⟨rfl, x2⟩
        have hby : bf y x := hlab ((u + v) / 2) m y x (by omega) (by omega) (Nat.le_refl _) (by omega) hy hx
        have hiff := ltD_before (cf := cf) hby (o.dom _ _ hy) (o.dom _ _ hx)
        refine ⟨_, rfl, fun e3 => ?_, fun e3 => ?_⟩
        · have hlt : ltD cf D y x := ord.no (p := (u + v) / 2) (q := m) (by omega) hy hx fun q => by
            have := hiff.1 q
            simp [this] at e3
          rw [wadd _ (by omega)]
          refine ⟨⟨(u + v) / 2 + 1, v, rfl, rfl, by omega, by omega, k3, s1.ext x2, fun q z q1 q2 hz => ?_, fv⟩, by simp only [Int.toNat_natCast]; omega⟩
          by_cases eq : q = (u + v) / 2
          · rw [eq, hy] at hz; cases hz; exact hlt
          · exact ord.tr _ _ _ (hL q _ z y q1 (by omega) (by omega) hz hy) hlt
        · have hlt : ltD cf D x y := hiff.2 (by simpa using e3)
          refine ⟨⟨u, (u + v) / 2, rfl, rfl, k1, by omega, by omega, s1.ext x2, fu, fun q z q1 q2 hz => ?_⟩, by simp only [Int.toNat_natCast]; omega⟩
          by_cases eq : q = (u + v) / 2
          · rw [eq, hy] at hz; cases hz; exact hlt
          · exact ord.tr _ _ _ hlt (hL _ q y z (by omega) (by omega) q2 hy hz)
      · have huv : u = v := by have := ge_of_dec e; omega
        subst huv
        refine ⟨fun k h3 => ∃ (k' : Nat) (Q : List (Int × Nat)), k = k' ∧ u ≤ k' ∧ k' ≤ m ∧ St h0 a c N T h3 Q ∧ Rot M Q k' m (m + 1), fun k _ => k.toNat, ⟨m, M, rfl, by omega, Nat.le_refl _, s1, Rot.none (.inl rfl)⟩, ?_⟩
        rintro _ h3' ⟨k, Q, rfl, q1, q2, sQ, rQ⟩
        have lQ := rQ.len
        refine ⟨fun e => ?_, fun e => ?_⟩
        · have hku : u < k := by have := of_decide_eq_true e; omega
          obtain ⟨z, hz⟩ : ∃ z, Q[k]? = some z := ⟨_, List.getElem?_eq_getElem (by omega)⟩
          obtain ⟨w, hw⟩ : ∃ w, Q[k - 1]? = some w := ⟨_, List.getElem?_eq_getElem (by omega)⟩
          obtain ⟨rb, ro, ea, c1, c2, w1, w2⟩ := sQ.swap hz hw
          rw [show IntKind.i64.wrap ((k : Int) - 1) = ((k - 1 : Nat) : Int) by rw [w64 (by omega) (by omega)]; omega]
          refine ⟨rb, ro, ea, by omega, by omega, _, c2, by omega, by omega, _, c1, w1, fun h5 e5 => ⟨(w2 h5 e5).1, fun h6 e6 => ?_⟩⟩
          have s6 := (w2 h5 e5).2 h6 e6
          refine ⟨⟨k - 1, _, rfl, by omega, by omega, s6, ⟨by simpa using lQ, fun p => ?_⟩⟩, by simp only [Int.toNat_natCast]; omega⟩
          rw [(Seg.swap (a := 0) (b := Q.length) hz hw (by omega) (by omega) (by omega) (by omega)).2, rQ.at_]
          congr 1
          unfold rho
          (repeat' split) <;> omega
        · have hku : k = u := by have := of_decide_eq_false e; omega
          subst hku
          exact ⟨rfl, Q, sQ, (rQ.seg (by omega) (by omega)).mono (by omega) (Nat.le_refl _), one_right hx hL rQ (by omega) (by omega) fu fv⟩
    · -- halves
      have hm1 : i + 2 ≤ m := by rw [w64 (by omega) (by omega)] at e1; simp at e1; omega
      have hb1 : m + 2 ≤ b := by rw [w64 (by omega) (by omega)] at e2; simp at e2; omega
      rw [half (i := i) (j := b) (by omega)]
      generalize hmid : (i + b) / 2 = mid at *
      have hmid1 : i < mid := by omega
      have hmid2 : mid < b := by omega
      have e3 : IntKind.i64.wrap ((mid : Int) + (m : Int)) = ((mid + m : Nat) : Int) := by rw [w64 (by omega) (by omega)]; omega
      have e4 : IntKind.i64.wrap (((mid + m : Nat) : Int) - 1) = ((mid + m - 1 : Nat) : Int) := by rw [w64 (by omega) (by omega)]; omega
      rw [e3, e4]
      intro start hstart r hr
      obtain ⟨lo, hlo, hlo2, hlo3⟩ : ∃ lo : Nat, start = lo ∧ i ≤ lo ∧ ((m > mid ∧ lo + b = mid + m) ∨ (m ≤ mid ∧ lo = i)) := by
        by_cases hc : mid < m
        · have : decide ((m : Int) > (mid : Int)) = true := decide_eq_true (by omega)
          rw [this, cond_true] at hstart
          exact ⟨mid + m - b, by rw [hstart, w64 (by omega) (by omega)]; omega, by omega, .inl ⟨hc, by omega⟩⟩
        · have : decide ((m : Int) > (mid : Int)) = false := decide_eq_false (by omega)
          rw [this, cond_false] at hstart
          exact ⟨i, hstart, Nat.le_refl _, .inr ⟨by omega, rfl⟩⟩
      obtain ⟨hi, hhi, hhi2⟩ : ∃ hi : Nat, r = hi ∧ ((m > mid ∧ hi = mid) ∨ (m ≤ mid ∧ hi = m)) := by
        by_cases hc : mid < m
        · have : decide ((m : Int) > (mid : Int)) = true := decide_eq_true (by omega)
          rw [this, cond_true] at hr
          exact ⟨mid, hr, .inl ⟨hc, rfl⟩⟩
        · have : decide ((m : Int) > (mid : Int)) = false := decide_eq_false (by omega)
          rw [this, cond_false] at hr
          exact ⟨m, hr, .inr ⟨by omega, rfl⟩⟩
      subst hlo; subst hhi
      have hlohi : lo ≤ hi := by omega
      refine ⟨fun u v h1 => ∃ u' v' : Nat, u = u' ∧ v = v' ∧ lo ≤ u' ∧ u' ≤ v' ∧ v' ≤ hi ∧ St h0 a c N T h1 M ∧ (∀ (q : Nat) x y, lo ≤ q → q < u' → M[q]? = some x → M[mid + m - 1 - q]? = some y → ltD cf D x y) ∧ (∀ (q : Nat) x y, v' ≤ q → q < hi → M[mid + m - 1 - q]? = some x → M[q]? = some y → ltD cf D x y), fun u v _ => v.toNat - u.toNat,
        ⟨lo, hi, rfl, rfl, Nat.le_refl _, hlohi, Nat.le_refl _, s, fun q x y k1 k2 => by omega, fun q x y k1 k2 => by omega⟩, ?_⟩
      rintro _ _ h1' ⟨u, v, rfl, rfl, k1, k2, k3, s1, fu, fv⟩
      refine ⟨fun e => ?_, fun e => ?_⟩
      · have huv := lt_of_dec e
        rw [half (i := u) (j := v) (by omega)]
        generalize hq : (u + v) / 2 = q at *
        rw [show IntKind.i64.wrap (((mid + m - 1 : Nat) : Int) - (q : Int)) = ((mid + m - 1 - q : Nat) : Int) by rw [w64 (by omega) (by omega)]; omega]
        obtain ⟨x, hx⟩ := got q (by omega)
        obtain ⟨y, hy⟩ := got (mid + m - 1 - q) (by omega)
        obtain ⟨rb, ro, ea, c1⟩ := s1.get hx
        obtain ⟨rb', ro', ea', c2⟩ := s1.get hy
        rw [ea] at ea'; cases ea'
        refine ⟨rb, ro, ea, by omega, by omega, _, c2, by omega, by omega, _, c1, HCV.mono (C.call h1' s1.fr _ _ (o.dom _ _ hy) (o.dom _ _ hx)) ?_⟩
        rintro _ h2' ⟨rfl, x2⟩
        have hby : bf x y := hlab q _ x y (by omega) (by omega) (by omega) (by omega) hx hy
        have hiff := ltD_before (cf := cf) hby (o.dom _ _ hx) (o.dom _ _ hy)
        refine ⟨_, rfl, fun e3 => ?_, fun e3 => ?_⟩
        · have hlt : ltD cf D x y := ord.no (p := q) (q := mid + m - 1 - q) (by omega) hx hy fun z => by
            have := hiff.1 z
            simp [this] at e3
          rw [wadd _ (by omega)]
          refine ⟨⟨q + 1, v, rfl, rfl, by omega, by omega, k3, s1.ext x2, fun p z w p1 p2 hz hw => ?_, fv⟩, by simp only [Int.toNat_natCast]; omega⟩
          by_cases eq : p = q
          · subst eq; rw [hx] at hz; cases hz; rw [hy] at hw; cases hw; exact hlt
          · have g1 := hL p q z x (by omega) (by omega) (by omega) hz hx
            have g2 := hR (mid + m - 1 - q) (mid + m - 1 - p) y w (by omega) (by omega) (by omega) hy hw
            exact ord.tr _ _ _ g1 (ord.tr _ _ _ hlt g2)
        · have hlt : ltD cf D y x := hiff.2 (by simpa using e3)
          refine ⟨⟨u, q, rfl, rfl, k1, by omega, by omega, s1.ext x2, fu, fun p z w p1 p2 hz hw => ?_⟩, by simp only [Int.toNat_natCast]; omega⟩
          by_cases eq : p = q
          · subst eq; rw [hy] at hz; cases hz; rw [hx] at hw; cases hw; exact hlt
          · have g1 := hL q p x w (by omega) (by omega) (by omega) hx hw
            have g2 := hR (mid + m - 1 - p) (mid + m - 1 - q) z y (by omega) (by omega) (by omega) hz hy
            exact ord.tr _ _ _ g2 (ord.tr _ _ _ hlt g1)
      · have huv : u = v := by have := ge_of_dec e; omega
        subst huv
        rw [show IntKind.i64.wrap (((mid + m : Nat) : Int) - (u : Int)) = ((mid + m - u : Nat) : Int) by rw [w64 (by omega) (by omega)]; omega]
        have hme : m ≤ mid + m - u := by omega
        have heb : mid + m - u ≤ b := by omega
        have hum : u ≤ m := by omega
        refine ⟨fun h2 => ∃ Q, St h0 a c N T h2 Q ∧ Rot M Q u m (mid + m - u), ⟨fun e5 => ?_, fun e5 => ?_⟩, ?_⟩
        · simp only [Bool.and_eq_true, decide_eq_true_eq] at e5
          refine (rotate_c s1 hl (i := u) (m := m) (b := mid + m - u) (by omega) (by omega) (by omega)).mono ?_
          rintro w h2' ⟨rfl, Q, sQ, rQ⟩
          exact ⟨rfl, Q, sQ, rQ⟩
        · simp only [Bool.and_eq_false_iff, decide_eq_false_iff_not] at e5
          exact ⟨M, s1, Rot.none (by omega)⟩
        rintro h2' ⟨Q, sQ, rQ⟩
        have segQ := rQ.seg hum hme
        have lQ := rQ.len
        have oQ := o.seg segQ
        obtain ⟨p1, p2, p3, p4⟩ := rot_srt rQ hum hme hL hR (show i ≤ u by omega) heb
        obtain ⟨l1, l2⟩ := rot_lab rQ hum hme hlab (show i ≤ u by omega) heb
        have hmids : u + (mid + m - u - m) = mid := by omega
        rw [hmids] at p2 p3 l1 l2
        have crs : Crs (ltD cf D) Q i mid b := rot_crs ord hL hR h3 rQ (show i ≤ lo by omega) k1 k3 (show hi ≤ m by omega) (show hi ≤ mid by omega) (by omega) (by omega) (by omega) fu fv
        refine ⟨fun h3 => ∃ X, St h0 a c N T h3 X ∧ Seg Q X i mid ∧ Srt (ltD cf D) X i mid, ⟨fun e5 => ?_, fun e5 => ?_⟩, ?_⟩
        · simp only [Bool.and_eq_true, decide_eq_true_eq] at e5
          rw [← lQ]
          refine (merge_c C n (i := i) (m := u) (b := mid) (by omega) sQ oQ (by omega) (by omega) (by omega) p1 p2 l1).mono ?_
          rintro w h3' ⟨rfl, X, sX, gX, rX⟩
          exact ⟨rfl, X, sX, gX, rX⟩
        · simp only [Bool.and_eq_false_iff, decide_eq_false_iff_not] at e5
          refine ⟨Q, sQ, Seg.refl _ _ _, ?_⟩
          rcases Nat.lt_or_ge i u with q | q
          · have : u = mid := by omega
            rw [this] at p1; exact p1
          · have : u = i := by omega
            rw [this] at p2; exact p2
        rintro h3' ⟨X, sX, gX, rX⟩
        have lX := gX.len
        have oX := oQ.seg gX
        have crs2 : Crs (ltD cf D) X i mid b := crs_seg gX (.inl ⟨Nat.le_refl _, Nat.le_refl _⟩) crs
        have p3' := srt_out gX (.inr (Nat.le_refl _)) p3
        have p4' := srt_out gX (.inr (by omega)) p4
        have l2' : Lab bf X mid (mid + m - u) b := fun p q x y z1 z2 z3 z4 hx hy => l2 p q x y z1 z2 z3 z4 (by rw [← gX.out (by omega)]; exact hx) (by rw [← gX.out (by omega)]; exact hy)
        have done : ∀ {Y : List (Int × Nat)}, Seg X Y mid b → Srt (ltD cf D) Y mid b → Seg M Y i b ∧ Srt (ltD cf D) Y i b := fun {Y} gY rY =>
          ⟨((segQ.mono (by omega) heb).trans (gX.mono (Nat.le_refl _) (by omega))).trans (gY.mono (by omega) (Nat.le_refl _)), srt_join (srt_out gY (.inl (Nat.le_refl _)) rX) rY (crs_seg gY (.inr ⟨Nat.le_refl _, Nat.le_refl _⟩) crs2)⟩
        refine ⟨fun e5 => ?_, fun e5 => ?_⟩
        · simp only [Bool.and_eq_true, decide_eq_true_eq] at e5
          rw [← lQ, ← lX]
          refine (merge_c C n (i := mid) (m := mid + m - u) (b := b) (by omega) sX oX (by omega) (by omega) (by omega) p3' p4' l2').mono ?_
          rintro w h4' ⟨rfl, Y, sY, gY, rY⟩
          exact ⟨rfl, rfl, Y, sY, (done gY rY).1, (done gY rY).2⟩
        · simp only [Bool.and_eq_false_iff, decide_eq_false_iff_not] at e5
          have hs : Srt (ltD cf D) X mid b := by
            rcases Nat.lt_or_ge mid (mid + m - u) with q | q
            · have : mid + m - u = b := by omega
              rw [this] at p3'; exact p3'
            · have : mid + m - u = mid := by omega
              rw [this] at p4'; exact p4'
          exact ⟨rfl, X, sX, (done (Seg.refl _ _ _) hs).1, (done (Seg.refl _ _ _) hs).2⟩
end
end Stb
end Go.Proofs.YthjehlocmikchaaDoor
namespace Go.Proofs.YthjehlocmikchaaDoor
namespace Stb
open Go
theorem dv1 {w a p : Nat} (ha : a % w = 0) (h1 : a ≤ p) (h2 : p < a + w) : p / w = a / w := by
  have hw : 0 < w := by omega
  obtain ⟨k, rfl⟩ := Nat.dvd_of_mod_eq_zero ha
  obtain ⟨r, rfl⟩ : ∃ r, p = w * k + r := ⟨p - w * k, by omega⟩
  rw [Nat.mul_add_div hw, Nat.div_eq_of_lt (by omega), Nat.mul_div_cancel_left _ hw, Nat.add_zero]
theorem dv2 {w a p q : Nat} (hw : 0 < w) (ha : a % w = 0) (h1 : p < a) (h2 : a ≤ q) : p / w < q / w := by
  obtain ⟨k, rfl⟩ := Nat.dvd_of_mod_eq_zero ha
  have e1 : p / w < k := (Nat.div_lt_iff_lt_mul hw).2 (by rw [Nat.mul_comm]; exact h1)
  have e2 : k ≤ q / w := (Nat.le_div_iff_mul_le hw).2 (by rw [Nat.mul_comm]; exact h2)
  omega
theorem dv3 {w p q : Nat} (h : p / w = q / w) : p / (2 * w) = q / (2 * w) := by
  rw [Nat.mul_comm 2 w, ← Nat.div_div_eq_div_mul, ← Nat.div_div_eq_div_mul, h]
theorem dv5 {w p q : Nat} (h : p / w < q / w) : p < q := by
  rcases Nat.lt_or_ge p q with c | c
  · exact c
  · have := Nat.div_le_div_right (c := w) c; omega
section
variable {h0 h h' : Heap} {a : Option Addr} {c N : Nat} {T : TypeId} {M : List (Int × Nat)} {cmp : Value} {cf : Int → Int → Int} {D : Int → Prop}
def BS (lt : Int × Nat → Int × Nat → Prop) (w : Nat) (Q : List (Int × Nat)) (lo hi : Nat) : Prop := ∀ (p q : Nat) x y, lo ≤ p → p < q → q < hi → p / w = q / w → Q[p]? = some x → Q[q]? = some y → lt x y
theorem BS.srt {lt : Int × Nat → Int × Nat → Prop} {w : Nat} {Q : List (Int × Nat)} {lo hi i b : Nat} (s : BS lt w Q lo hi) (hi' : i % w = 0) (h1 : lo ≤ i) (h2 : b ≤ hi) (h3 : b ≤ i + w) : Srt lt Q i b := fun p q x y k1 k2 k3 hx hy =>
  s p q x y (by omega) k2 (by omega) ((dv1 hi' k1 (by omega)).trans (dv1 hi' (by omega : i ≤ q) (by omega)).symm) hx hy
set_option maxHeartbeats 6400000 in
theorem stable_c (C : Cmp Tryd.prog h0 a cmp cf D) (s : St h0 a c N T h M) (o : Ok D M) (hb : Srt bf M 0 M.length) :
    HC Tryd.prog 74 #[.slice a M.length c, .int .i64 (M.length : Nat), cmp] h fun v h' => v = .tuple #[] ∧ ∃ M', St h0 a c N T h' M' ∧ Seg M M' 0 M.length ∧ Srt (ltD cf D) M' 0 M.length := by
  have hl := o.len
  generalize hn : M.length = n at *
  refine f74_sh _ _ _ _ _ _ _ ⟨fun u v h1 => ∃ (i : Nat) (Q : List (Int × Nat)), u = i ∧ v = i + 20 ∧ i % 20 = 0 ∧ i ≤ n ∧ St h0 a c N T h1 Q ∧ Seg M Q 0 i ∧ BS (ltD cf D) 20 Q 0 i ∧ ∀ p, p < n → ∃ q, q < n ∧ q / 20 = p / 20 ∧ Q[p]? = M[q]?, fun u _ _ => n - u.toNat,
    ⟨0, M, rfl, rfl, rfl, Nat.zero_le _, s, Seg.refl _ _ _, fun p q x y k1 k2 k3 => by omega, fun p hp => ⟨p, hp, rfl, rfl⟩⟩, ?_⟩
  rintro _ _ h1' ⟨i, Q, rfl, rfl, hi20, hin, sQ, gQ, bQ, lQ⟩
  have lenQ := gQ.len
  have oQ := o.seg gQ
  have hsb : ∀ b, i ≤ b → b ≤ n → Srt bf Q i b := fun b hib hbn p q x y k1 k2 k3 hx hy => hb p q x y (Nat.zero_le _) k2 (by omega) (by rw [← gQ.out (.inr (by omega))]; exact hx) (by rw [← gQ.out (.inr (by omega))]; exact hy)
  have after : ∀ {b : Nat} {X : List (Int × Nat)}, i ≤ b → b ≤ n → b ≤ i + 20 → Seg Q X i b → Srt (ltD cf D) X i b → Seg M X 0 b ∧ BS (ltD cf D) 20 X 0 b ∧ ∀ p, p < n → ∃ q, q < n ∧ q / 20 = p / 20 ∧ X[p]? = M[q]? := fun {b X} hib hbn hb20 gX rX => by
    refine ⟨(gQ.mono (Nat.le_refl _) hib).trans (gX.mono (by omega) (Nat.le_refl _)), fun p q x y k1 k2 k3 k4 hx hy => ?_, fun p hp => ?_⟩
    · rcases Nat.lt_or_ge q i with z | z
      · exact bQ p q x y k1 k2 z k4 (by rw [← gX.out (.inl (by omega))]; exact hx) (by rw [← gX.out (.inl z)]; exact hy)
      · rcases Nat.lt_or_ge p i with z2 | z2
        · have := dv2 (by decide) hi20 z2 z; omega
        · exact rX p q x y z2 k2 k3 hx hy
    · by_cases hpi : i ≤ p ∧ p < b
      · obtain ⟨q, q1, q2, q3⟩ := gX.mem hpi.1 hpi.2
        obtain ⟨r, r1, r2, r3⟩ := lQ q (by omega)
        exact ⟨r, r1, by rw [r2, dv1 hi20 q1 (by omega)]; exact (dv1 hi20 hpi.1 (by omega)).symm, q3.trans r3⟩
      · obtain ⟨r, r1, r2, r3⟩ := lQ p hp
        exact ⟨r, r1, r2, (gX.out (by omega)).trans r3⟩
  have e20 : ((i : Int) + 20) = ((i + 20 : Nat) : Int) := by omega
  refine ⟨fun e => ?_, fun e => ?_⟩
  · have hle := of_decide_eq_true e
    rw [e20]
    have := insertion_c C sQ oQ (i := i) (b := i + 20) (by omega) (by omega) (hsb _ (by omega) (by omega))
    rw [lenQ, hn] at this
    refine this.mono ?_
    rintro w h2' ⟨rfl, X, sX, gX, rX⟩
    obtain ⟨y1, y2, y3⟩ := after (by omega) (by omega) (Nat.le_refl _) gX rX
    rw [w64 (x := ((i + 20 : Nat) : Int) + 20) (by omega) (by omega)]
    exact ⟨rfl, ⟨i + 20, X, rfl, by omega, by omega, by omega, sX, y1, y2, y3⟩, by simp only [Int.toNat_natCast]; omega⟩
  · have hgt := of_decide_eq_false e
    have := insertion_c C sQ oQ (i := i) (b := n) hin (by omega) (hsb _ hin (Nat.le_refl _))
    rw [lenQ, hn] at this
    refine this.mono ?_
    rintro w h3' ⟨rfl, X, sX, gX, rX⟩
    obtain ⟨y1, y2, y3⟩ := after hin (Nat.le_refl _) (by omega) gX rX
    refine ⟨rfl, fun z h4 => ∃ (w : Nat) (Q : List (Int × Nat)), z = w ∧ 0 < w ∧ (w = 20 ∨ w ≤ 2 * n) ∧ St h0 a c N T h4 Q ∧ Seg M Q 0 n ∧ BS (ltD cf D) w Q 0 n ∧ ∀ p, p < n → ∃ q, q < n ∧ q / w = p / w ∧ Q[p]? = M[q]?, fun z _ => n - z.toNat,
      ⟨20, X, rfl, by decide, .inl rfl, sX, y1, y2, y3⟩, ?_⟩
    clear this y1 y2 y3 rX gX sX X after hsb oQ lenQ lQ bQ gQ sQ Q
    rintro _ h4' ⟨w, Q, rfl, hw, hwn, sQ, gQ, bQ, lQ⟩
    have lenQ := gQ.len
    refine ⟨fun e => ?_, fun e => ?_⟩
    rotate_left
    · have hge := ge_of_dec e
      exact ⟨rfl, Q, sQ, gQ, fun p q x y k1 k2 k3 hx hy => bQ p q x y k1 k2 k3 (by rw [Nat.div_eq_of_lt (by omega), Nat.div_eq_of_lt (by omega)]) hx hy⟩
    have hwlt := lt_of_dec e
    rw [show IntKind.i64.wrap (2 * (w : Int)) = ((2 * w : Nat) : Int) by rw [w64 (by omega) (by omega)]; omega]
    refine ⟨fun u v h5 => ∃ (i : Nat) (Q : List (Int × Nat)), u = i ∧ v = i + ((2 * w : Nat) : Int) ∧ i % (2 * w) = 0 ∧ i ≤ n ∧ St h0 a c N T h5 Q ∧ Seg M Q 0 n ∧ BS (ltD cf D) (2 * w) Q 0 i ∧ BS (ltD cf D) w Q i n ∧ ∀ p, p < n → ∃ q, q < n ∧ Q[p]? = M[q]? ∧ (p < i → q / (2 * w) = p / (2 * w)) ∧ (i ≤ p → q / w = p / w), fun u _ _ => n - u.toNat,
      ⟨0, Q, rfl, by omega, Nat.zero_mod _, Nat.zero_le _, sQ, gQ, fun p q x y k1 k2 k3 => by omega, bQ, fun p hp => ?_⟩, ?_⟩
    · obtain ⟨q, q1, q2, q3⟩ := lQ p hp
      exact ⟨q, q1, q3, fun z => by omega, fun _ => q2⟩
    clear lenQ lQ bQ gQ sQ Q
    rintro _ _ h5' ⟨i, Q, rfl, rfl, hiw, hin, sQ, gQ, b2Q, bQ, lQ⟩
    have lenQ := gQ.len
    have oQ := o.seg gQ
    have hiw1 : i % w = 0 := by
      obtain ⟨k, rfl⟩ := Nat.dvd_of_mod_eq_zero hiw
      rw [Nat.mul_comm 2 w, Nat.mul_assoc]; exact Nat.mul_mod_right _ _
    have hiw2 : (i + w) % w = 0 := by rw [Nat.add_mod_right]; exact hiw1
    have lab : ∀ b, b ≤ n → Lab bf Q i (i + w) b := fun b hbn p q x y k1 k2 k3 k4 hx hy => by
      obtain ⟨p1, a1, a2, _, a3⟩ := lQ p (by omega)
      obtain ⟨q1, b1, b2, _, b3⟩ := lQ q (by omega)
      have hlt := dv2 hw hiw2 k2 k3
      rw [← a3 k1, ← b3 (by omega)] at hlt
      exact hb p1 q1 x y (Nat.zero_le _) (dv5 hlt) b1 (by rw [← a2]; exact hx) (by rw [← b2]; exact hy)
    have after : ∀ {b : Nat} {X : List (Int × Nat)}, i ≤ b → b ≤ n → b ≤ i + 2 * w → (b = i + 2 * w ∨ b = n) → Seg Q X i b → Srt (ltD cf D) X i b → Seg M X 0 n ∧ BS (ltD cf D) (2 * w) X 0 b ∧ BS (ltD cf D) w X b n ∧ ∀ p, p < n → ∃ q, q < n ∧ X[p]? = M[q]? ∧ (p < b → q / (2 * w) = p / (2 * w)) ∧ (b ≤ p → q / w = p / w) := fun {b X} hib hbn hb2 hbe gX rX => by
      refine ⟨gQ.trans (gX.mono (by omega) hbn), fun p q x y k1 k2 k3 k4 hx hy => ?_, fun p q x y k1 k2 k3 k4 hx hy => ?_, fun p hp => ?_⟩
      · rcases Nat.lt_or_ge q i with z | z
        · exact b2Q p q x y k1 k2 z k4 (by rw [← gX.out (.inl (by omega))]; exact hx) (by rw [← gX.out (.inl z)]; exact hy)
        · rcases Nat.lt_or_ge p i with z2 | z2
          · have := dv2 (by omega) hiw z2 z; omega
          · exact rX p q x y z2 k2 k3 hx hy
      · exact bQ p q x y (by omega) k2 k3 k4 (by rw [← gX.out (.inr k1)]; exact hx) (by rw [← gX.out (.inr (by omega))]; exact hy)
      · by_cases hpi : i ≤ p ∧ p < b
        · obtain ⟨q, q1, q2, q3⟩ := gX.mem hpi.1 hpi.2
          obtain ⟨r, r1, r2, _, r3⟩ := lQ q (by omega)
          refine ⟨r, r1, q3.trans r2, fun _ => ?_, fun z => by omega⟩
          rw [dv3 (r3 q1), dv1 hiw q1 (by omega)]; exact (dv1 hiw hpi.1 (by omega)).symm
        · obtain ⟨r, r1, r2, r3, r4⟩ := lQ p hp
          exact ⟨r, r1, (gX.out (by omega)).trans r2, fun z => r3 (by omega), fun z => r4 (by omega)⟩
    have ei : IntKind.i64.wrap ((i : Int) + (w : Int)) = ((i + w : Nat) : Int) := by rw [w64 (by omega) (by omega)]; omega
    have ei2 : (i : Int) + ((2 * w : Nat) : Int) = ((i + 2 * w : Nat) : Int) := by omega
    rw [ei, ei2]
    refine ⟨fun e => ?_, fun e => ?_⟩
    · have hle := of_decide_eq_true e
      have := merge_c C (i + 2 * w) (i := i) (m := i + w) (b := i + 2 * w) (by omega) sQ oQ (by omega) (by omega) (by omega) (bQ.srt hiw1 (Nat.le_refl _) (by omega) (by omega)) (bQ.srt hiw2 (by omega) (by omega) (by omega)) (lab _ (by omega))
      rw [lenQ, hn] at this
      refine this.mono ?_
      rintro z h6' ⟨rfl, X, sX, gX, rX⟩
      obtain ⟨y1, y2, y3, y4⟩ := after (by omega) (by omega) (Nat.le_refl _) (.inl rfl) gX rX
      rw [w64 (x := ((i + 2 * w : Nat) : Int) + ((2 * w : Nat) : Int)) (by omega) (by omega)]
      refine ⟨rfl, ⟨i + 2 * w, X, rfl, rfl, ?_, by omega, sX, y1, y2, y3, y4⟩, by simp only [Int.toNat_natCast]; omega⟩
      rw [Nat.add_mod_right]; exact hiw
    · have hgt := of_decide_eq_false e
      refine ⟨fun h7 => ∃ X, St h0 a c N T h7 X ∧ Seg M X 0 n ∧ BS (ltD cf D) (2 * w) X 0 n ∧ ∀ p, p < n → ∃ q, q < n ∧ q / (2 * w) = p / (2 * w) ∧ X[p]? = M[q]?, ⟨fun e2 => ?_, fun e2 => ?_⟩, ?_⟩
      · have hlt := lt_of_dec e2
        have := merge_c C n (i := i) (m := i + w) (b := n) (by omega) sQ oQ (by omega) hlt (by omega) (bQ.srt hiw1 (Nat.le_refl _) (by omega) (by omega)) (bQ.srt hiw2 (by omega) (by omega) (by omega)) (lab _ (Nat.le_refl _))
        rw [lenQ, hn] at this
        refine this.mono ?_
        rintro z h6' ⟨rfl, X, sX, gX, rX⟩
        obtain ⟨y1, y2, _, y4⟩ := after hin (Nat.le_refl _) (by omega) (.inr rfl) gX rX
        refine ⟨rfl, X, sX, y1, y2, fun p hp => ?_⟩
        obtain ⟨r, r1, r2, r3, _⟩ := y4 p hp
        exact ⟨r, r1, r3 hp, r2⟩
      · have hge := ge_of_dec e2
        obtain ⟨y1, y2, _, y4⟩ := after hin (Nat.le_refl _) (by omega) (.inr rfl) (Seg.refl _ _ _) (bQ.srt hiw1 (Nat.le_refl _) (Nat.le_refl _) (by omega))
        refine ⟨Q, sQ, y1, y2, fun p hp => ?_⟩
        obtain ⟨r, r1, r2, r3, _⟩ := y4 p hp
        exact ⟨r, r1, r3 hp, r2⟩
      · rintro h7' ⟨X, sX, gX, bX, lX⟩
        rw [show IntKind.i64.wrap ((w : Int) * 2) = ((2 * w : Nat) : Int) by rw [w64 (by omega) (by omega)]; omega]
        exact ⟨⟨2 * w, X, rfl, by omega, .inr (by omega), sX, gX, bX, lX⟩, by simp only [Int.toNat_natCast]; omega⟩
def lbl (L : List Int) : List (Int × Nat) := L.zip (List.range L.length)
theorem lbl_fst (L : List Int) : (lbl L).map Prod.fst = L := by unfold lbl; rw [List.map_fst_zip (by simp)]
theorem lbl_len (L : List Int) : (lbl L).length = L.length := by unfold lbl; simp
theorem lbl_get {L : List Int} {p : Nat} {x : Int × Nat} (h : (lbl L)[p]? = some x) : x.2 = p ∧ L[p]? = some x.1 := by
  unfold lbl at h
  rw [List.getElem?_zip_eq_some] at h
  obtain ⟨h1, h2⟩ := h
  have hp := (List.getElem?_eq_some_iff.1 h2).1
  rw [List.getElem?_range (by simpa using hp)] at h2
  cases h2
  exact ⟨rfl, h1⟩
theorem lbl_ok {L : List Int} (hD : ∀ x ∈ L, D x) (hl : L.length ≤ 1152921504606846976) : Ok D (lbl L) ∧ Srt bf (lbl L) 0 (lbl L).length := by
  refine ⟨⟨fun p x h => hD _ (List.mem_of_getElem? (lbl_get h).2), fun p q x y hpq hx hy => ?_, by rw [lbl_len]; exact hl⟩, fun p q x y k1 k2 k3 hx hy => ?_⟩
  · rw [(lbl_get hx).1, (lbl_get hy).1]; exact hpq
  · show x.2 < y.2
    rw [(lbl_get hx).1, (lbl_get hy).1]; exact k2
theorem sort_stable {L : List Int} (C : Cmp Tryd.prog h a cmp cf D) (s : Sl eI h a c L) (w : Own eI.k T N h a c) (hD : ∀ x ∈ L, D x) (hl : L.length ≤ 1152921504606846976) :
    HC Tryd.prog 52 #[.slice a L.length c, cmp] h fun v h' => v = .tuple #[] ∧ Fr (blkA a) h h' ∧ ∃ M : List (Int × Nat), M.Perm (lbl L) ∧ M.Pairwise (ltD cf D) ∧ Sl eI h' a c (M.map Prod.fst) ∧ Own eI.k T N h' a c := by
  obtain ⟨o, hb⟩ := lbl_ok hD hl
  refine f52_sh _ _ _ _ _ _ ?_
  have := stable_c C (M := lbl L) ⟨by rw [lbl_fst]; exact s, w, Fr.refl _ _⟩ o hb
  rw [lbl_len] at this
  refine this.mono ?_
  rintro v h' ⟨rfl, M, sM, gM, rM⟩
  refine ⟨rfl, rfl, sM.fr, M, gM.perm, ?_, sM.sl, sM.own⟩
  rw [List.pairwise_iff_getElem]
  intro i j hi hj hij
  have hlen := gM.len
  rw [lbl_len] at hlen
  exact rM i j M[i] M[j] (Nat.zero_le _) hij (by omega) (List.getElem?_eq_getElem hi) (List.getElem?_eq_getElem hj)
end
end Stb
end Go.Proofs.YthjehlocmikchaaDoor
namespace Go.Proofs.YthjehlocmikchaaDoor
open Go
open Go.Proofs.YthjehlocmikchaaDoor renaming hl_val → lv, hl_step → lp, hl_nil → ln, hx_seq → xs, hx_region → xr, hx_cond → xc, hx_block → xb, hx_loopT → xl, hx_cut → xk, hx_has → xh, hx_skip → xi, hx_ret → xt, hx_exit → xe, seqQ_n → qn, seqQ_ret → qr, seqQ_exit → qe, blockQ_n → bn, blockQ_ret → br, blockQ_here → bh, hv_move → vm, hv_assign → va, hv_arith → vr, hv_load → vl, hv_loads → vL, hv_field → vf, hv_index → vi, hp_pure → pp, hp_read → pr, hp_no → pn, has_cons → hc, has_nil → hn, hcells_cons → cc, hcells_nil → cn, rowcell → rc, hs_call → sc
set_option maxRecDepth 100000
set_option maxHeartbeats 4000000
theorem TyTCd.agg29 : aggB Tryd.prog 29 = some false := by kernel_rfl
theorem TyTCd.agg3 : aggB Tryd.prog 3 = some false := by kernel_rfl
theorem TyTCd.agg36 : aggB Tryd.prog 36 = some true := by kernel_rfl
theorem TyTCd.agg4 : aggB Tryd.prog 4 = some false := by kernel_rfl
theorem TyTCd.agg65 : aggB Tryd.prog 65 = some false := by kernel_rfl
theorem TyTCd.cb52 : CallB Tryd.prog 52 := fun _ _ => Tryd.call52 _ _
theorem TyTCd.cb54 : CallB Tryd.prog 54 := fun _ _ => Tryd.call54 _ _
theorem TyTCd.cb58 : CallB Tryd.prog 58 := fun _ _ => Tryd.call58 _ _
theorem TyTCd.cb75 : CallB Tryd.prog 75 := fun _ _ => Tryd.call75 _ _
theorem TyTCd.cb76 : CallB Tryd.prog 76 := fun _ _ => Tryd.call76 _ _
theorem TyTCd.cb77 : CallB Tryd.prog 77 := fun _ _ => Tryd.call77 _ _
theorem TyTCd.cb90 : CallB Tryd.prog 90 := fun _ _ => Tryd.call90 _ _
theorem TyTCd.cb91 : CallB Tryd.prog 91 := fun _ _ => Tryd.call91 _ _
theorem TyTCd.el65 : elB Tryd.prog 65 = some 9 := by kernel_rfl
theorem TyTCd.el71 : elB Tryd.prog 71 = some 1 := by kernel_rfl
theorem TyTCd.fld31_1 : fldB Tryd.prog 31 1 = some 1 := by kernel_rfl
theorem TyTCd.fld36_0 : fldB Tryd.prog 36 0 = some 0 := by kernel_rfl
theorem TyTCd.fld36_1 : fldB Tryd.prog 36 1 = some 1 := by kernel_rfl
theorem TyTCd.fld36_2 : fldB Tryd.prog 36 2 = some 2 := by kernel_rfl
theorem TyTCd.mixed : Tryd.prog.follows .mixedOrders = true := by kernel_rfl
theorem TyTCd.sz3 : szB Tryd.prog 3 = some 1 := by kernel_rfl
theorem TyTCd.sz36 : szB Tryd.prog 36 = some 9 := by kernel_rfl
theorem TyTCd.u4 : Tryd.prog.underlying 4 = some (.bool) := by kernel_rfl
theorem TyTCd.u65 : Tryd.prog.underlying 65 = some (.slice 36) := by kernel_rfl
theorem TyTCd.u71 : Tryd.prog.underlying 71 = some (.slice 3) := by kernel_rfl
theorem TyTCd.z3 : zeroB Tryd.prog 3 (.int .i64 0) := by unfold zeroB; kernel_rfl
theorem ext_pushed_f28_sh {h h1 : Heap} {o : Obj} (e : h1 = Array.push h o) : Ext h h1 := by rw [e]; exact Ext.push _ _
theorem f90_sh (x : Int) (h : Heap) (R : Value → Heap → Prop)
  (H : R (.bool (x != x)) h) :
  HC Tryd.prog 90 #[(.int .u64 x)] h R := by
 refine hc_of (args := [(.int .u64 x)]) Tryd.func90 rfl Tryd.ntmps90 (Nat.le_of_ble_eq_true rfl) ?_
 refine xs (xr ?_)
 refine lv rfl rfl (va rfl) ?_
 refine ln (qn (xs (xr ?_)))
 refine lv rfl rfl (vm rfl) (lv rfl rfl (vm rfl) (lv rfl rfl (vr rfl rfl rfl) (lv rfl rfl (va rfl) ?_)))
 refine ln (qn (xt ?_))
 exact endQ_ret _ (res_one Tryd.results90 (rv_tmp rfl)) H
theorem f91_sh (x : Int) (h : Heap) (R : Value → Heap → Prop)
  (H : R (.bool (x != x)) h) :
  HC Tryd.prog 91 #[(.int .i64 x)] h R := by
 refine hc_of (args := [(.int .i64 x)]) Tryd.func91 rfl Tryd.ntmps91 (Nat.le_of_ble_eq_true rfl) ?_
 refine xs (xr ?_)
 refine lv rfl rfl (va rfl) ?_
 refine ln (qn (xs (xr ?_)))
 refine lv rfl rfl (vm rfl) (lv rfl rfl (vm rfl) (lv rfl rfl (vr rfl rfl rfl) (lv rfl rfl (va rfl) ?_)))
 refine ln (qn (xt ?_))
 exact endQ_ret _ (res_one Tryd.results91 (rv_tmp rfl)) H
theorem f75_sh (a4 : Option Addr) (a0 : Nat) (a1 : Nat) (h : Heap) (R : Value → Heap → Prop)
  (H : (∃ (I1 : Int → Prop) (a6 : Int → Nat), I1 0 ∧ (∀ (v : Int), I1 v → (((decide (v < (a0 : Int))) = true → (∃ a3 a2 : Nat, a4 = some ⟨a3, a2, none⟩ ∧ (0 : Int) ≤ v ∧ v < (a0 : Int) ∧ (∃ x : Int, hcell h a3 (a2 + (Int.toNat v) * 1) = some (.int .i64 x) ∧ (((x != 0) = true → R (.int .i64 x) h) ∧ ((x != 0) = false → (I1 (IntKind.i64.wrap (v + 1)) ∧ a6 (IntKind.i64.wrap (v + 1)) < a6 v)))))) ∧ ((decide (v < (a0 : Int))) = false → R (.int .i64 0) h))))) :
  HC Tryd.prog 75 #[(.slice a4 a0 a1)] h R := by
 refine hc_of (args := [(.slice a4 a0 a1)]) Tryd.func75 rfl Tryd.ntmps75 (Nat.le_of_ble_eq_true rfl) ?_
 refine xs (xr ?_)
 refine lv rfl rfl (va rfl) ?_
 refine ln (qn (xs (xr ?_)))
 refine lv rfl rfl (va rfl) ?_
 refine ln (qn (xs (xs (xr ?_))))
 refine lv rfl rfl (vm rfl) (lv rfl rfl (v := (.int .i64 (a0 : Int))) (hv_len (n := a0) TyTCd.u71 rfl) (lv rfl rfl (vm rfl) ?_))
 refine ln (qn (xb ?_))
 obtain ⟨I1, a6, b4, b2⟩ := H
 refine xl (σ := Int) (fun s => [(3, (.int .i64 0)), (6, (.slice a4 a0 a1)), (7, (.int .i64 (a0 : Int))), (8, (.int .i64 s))]) (fun s h' => I1 s ∧ h = h') (fun s _ => a6 s) 0 ⟨b4, rfl⟩ (hc rfl (hc rfl (hc rfl (hc rfl hn)))) ?_
 rintro v ρ _ ⟨a9, rfl⟩
 have H := b2 v a9
 refine xs (xr ?_)
 refine lv rfl rfl (vr rfl rfl rfl) ?_
 refine ln (qn (xs ?_))
 refine xc (b := decide (v < (a0 : Int))) rfl (fun a7 => ?_) (fun a7 => ?_)
 ·replace H := H.1 a7
  refine xi (qn (xs (xb (xs (xr ?_)))))
  obtain ⟨a3, a2, b3, a8, b1, Hq⟩ := H
  subst b3
  have H := Hq; clear Hq
  refine lv rfl rfl (v := (ptr a3 (a2 + (Int.toNat v) * 1))) (vi TyTCd.el71 rfl rfl a8 b1) ?_
  obtain ⟨x, b0, H⟩ := H
  refine lv rfl rfl (vl TyTCd.agg3 rfl b0) (lv rfl rfl (va rfl) ?_)
  refine ln (qn (xs (xr ?_)))
  refine lv rfl rfl (vm rfl) (lv rfl rfl (vm rfl) (lv rfl rfl (vr rfl rfl rfl) ?_))
  refine ln (qn ?_)
  refine xc (b := x != 0) rfl (fun a5 => ?_) (fun a5 => ?_)
  ·replace H := H.1 a5
   refine xs (xr ?_)
   refine lv rfl rfl (vm rfl) (lv rfl rfl (va rfl) ?_)
   refine ln (qn (xt (br (qr (qr (br (qr ?_)))))))
   exact endQ_ret _ (res_one Tryd.results75 (rv_tmp rfl)) H
  ·replace H := H.2 a5
   refine xi (bn (qn (xr ?_)))
   refine lv rfl rfl (vr rfl rfl rfl) (lv rfl rfl (vm rfl) ?_)
   refine ln (qn ?_)
   exact ⟨IntKind.i64.wrap (v + 1), ⟨⟨H.1, rfl⟩, H.2⟩, (hc rfl (hc rfl (hc rfl (hc rfl hn))))⟩
 ·replace H := H.2 a7
  refine xe (qe (qe (bh (qn (xs (xr ?_))))))
  refine lv rfl rfl (vm rfl) (lv rfl rfl (va rfl) ?_)
  refine ln (qn (xt ?_))
  exact endQ_ret _ (res_one Tryd.results75 (rv_tmp rfl)) H
theorem f76_sh (x : Int) (y : Int) (h : Heap) (R : Value → Heap → Prop)
  (H : HC Tryd.prog 90 #[(.int .u64 x)] h (fun vv h1 => ∃ r : Bool, vv = (.bool r) ∧ HC Tryd.prog 90 #[(.int .u64 y)] h1 (fun vv h2 => ∃ a0 : Bool, vv = (.bool a0) ∧ ((r = true → ((a0 = true → R (.int .i64 0) h2) ∧ (a0 = false → R (.int .i64 (-1)) h2))) ∧ (r = false → ((a0 = true → R (.int .i64 1) h2) ∧ (a0 = false → (((decide (x < y)) = true → R (.int .i64 (-1)) h2) ∧ ((decide (x < y)) = false → (((decide (x > y)) = true → R (.int .i64 1) h2) ∧ ((decide (x > y)) = false → R (.int .i64 0) h2))))))))))) :
  HC Tryd.prog 76 #[(.int .u64 x), (.int .u64 y)] h R := by
 refine hc_of (args := [(.int .u64 x), (.int .u64 y)]) Tryd.func76 rfl Tryd.ntmps76 (Nat.le_of_ble_eq_true rfl) ?_
 refine xs (xr ?_)
 refine lv rfl rfl (va rfl) ?_
 refine ln (qn (xs (xr ?_)))
 refine lv rfl rfl (vm rfl) ?_
 refine lp rfl rfl (sc TyTCd.cb90 rfl (HC.mono H ?_))
 rintro _ h1 ⟨r, rfl, H⟩
 refine lv rfl rfl (va rfl) ?_
 refine ln (qn (xs (xr ?_)))
 refine lv rfl rfl (vm rfl) ?_
 refine lp rfl rfl (sc TyTCd.cb90 rfl (HC.mono H ?_))
 rintro _ h2 ⟨a0, rfl, H⟩
 refine lv rfl rfl (va rfl) ?_
 refine ln (qn (xs (xs (xr ?_))))
 refine lv rfl rfl (vm rfl) ?_
 refine ln (qn ?_)
 refine xc (b := r) rfl (fun a5 => ?_) (fun a5 => ?_)
 ·replace H := H.1 a5
  refine xs (xs (xr ?_))
  refine lv rfl rfl (vm rfl) ?_
  refine ln (qn ?_)
  refine xc (b := a0) rfl (fun a2 => ?_) (fun a2 => ?_)
  ·replace H := H.1 a2
   refine xs (xr ?_)
   refine lv rfl rfl (va rfl) ?_
   refine ln (qn (xt (qr (qr ?_))))
   exact endQ_ret _ (res_one Tryd.results76 (rv_tmp rfl)) H
  ·replace H := H.2 a2
   refine xi (qn (xs (xr ?_)))
   refine lv rfl rfl (va rfl) ?_
   refine ln (qn (xt (qr ?_)))
   exact endQ_ret _ (res_one Tryd.results76 (rv_tmp rfl)) H
 ·replace H := H.2 a5
  refine xi (qn (xs (xs (xr ?_))))
  refine lv rfl rfl (vm rfl) ?_
  refine ln (qn ?_)
  refine xc (b := a0) rfl (fun a3 => ?_) (fun a3 => ?_)
  ·replace H := H.1 a3
   refine xs (xr ?_)
   refine lv rfl rfl (va rfl) ?_
   refine ln (qn (xt (qr ?_)))
   exact endQ_ret _ (res_one Tryd.results76 (rv_tmp rfl)) H
  ·replace H := H.2 a3
   refine xi (qn (xs (xs (xr ?_))))
   refine lv rfl rfl (vm rfl) (lv rfl rfl (vm rfl) (lv rfl rfl (vr rfl rfl rfl) ?_))
   refine ln (qn ?_)
   refine xc (b := decide (x < y)) rfl (fun a1 => ?_) (fun a1 => ?_)
   ·replace H := H.1 a1
    refine xs (xr ?_)
    refine lv rfl rfl (va rfl) ?_
    refine ln (qn (xt (qr ?_)))
    exact endQ_ret _ (res_one Tryd.results76 (rv_tmp rfl)) H
   ·replace H := H.2 a1
    refine xi (qn (xs (xs (xr ?_))))
    refine lv rfl rfl (vm rfl) (lv rfl rfl (vm rfl) (lv rfl rfl (vr rfl rfl rfl) ?_))
    refine ln (qn ?_)
    refine xc (b := decide (x > y)) rfl (fun a4 => ?_) (fun a4 => ?_)
    ·replace H := H.1 a4
     refine xs (xr ?_)
     refine lv rfl rfl (va rfl) ?_
     refine ln (qn (xt (qr ?_)))
     exact endQ_ret _ (res_one Tryd.results76 (rv_tmp rfl)) H
    ·replace H := H.2 a4
     refine xi (qn (xs (xr ?_)))
     refine lv rfl rfl (va rfl) ?_
     refine ln (qn (xt ?_))
     exact endQ_ret _ (res_one Tryd.results76 (rv_tmp rfl)) H
theorem f77_sh (x : Int) (y : Int) (h : Heap) (R : Value → Heap → Prop)
  (H : HC Tryd.prog 91 #[(.int .i64 x)] h (fun vv h1 => ∃ r : Bool, vv = (.bool r) ∧ HC Tryd.prog 91 #[(.int .i64 y)] h1 (fun vv h2 => ∃ a0 : Bool, vv = (.bool a0) ∧ ((r = true → ((a0 = true → R (.int .i64 0) h2) ∧ (a0 = false → R (.int .i64 (-1)) h2))) ∧ (r = false → ((a0 = true → R (.int .i64 1) h2) ∧ (a0 = false → (((decide (x < y)) = true → R (.int .i64 (-1)) h2) ∧ ((decide (x < y)) = false → (((decide (x > y)) = true → R (.int .i64 1) h2) ∧ ((decide (x > y)) = false → R (.int .i64 0) h2))))))))))) :
  HC Tryd.prog 77 #[(.int .i64 x), (.int .i64 y)] h R := by
 refine hc_of (args := [(.int .i64 x), (.int .i64 y)]) Tryd.func77 rfl Tryd.ntmps77 (Nat.le_of_ble_eq_true rfl) ?_
 refine xs (xr ?_)
 refine lv rfl rfl (va rfl) ?_
 refine ln (qn (xs (xr ?_)))
 refine lv rfl rfl (vm rfl) ?_
 refine lp rfl rfl (sc TyTCd.cb91 rfl (HC.mono H ?_))
 rintro _ h1 ⟨r, rfl, H⟩
 refine lv rfl rfl (va rfl) ?_
 refine ln (qn (xs (xr ?_)))
 refine lv rfl rfl (vm rfl) ?_
 refine lp rfl rfl (sc TyTCd.cb91 rfl (HC.mono H ?_))
 rintro _ h2 ⟨a0, rfl, H⟩
 refine lv rfl rfl (va rfl) ?_
 refine ln (qn (xs (xs (xr ?_))))
 refine lv rfl rfl (vm rfl) ?_
 refine ln (qn ?_)
 refine xc (b := r) rfl (fun a5 => ?_) (fun a5 => ?_)
 ·replace H := H.1 a5
  refine xs (xs (xr ?_))
  refine lv rfl rfl (vm rfl) ?_
  refine ln (qn ?_)
  refine xc (b := a0) rfl (fun a2 => ?_) (fun a2 => ?_)
  ·replace H := H.1 a2
   refine xs (xr ?_)
   refine lv rfl rfl (va rfl) ?_
   refine ln (qn (xt (qr (qr ?_))))
   exact endQ_ret _ (res_one Tryd.results77 (rv_tmp rfl)) H
  ·replace H := H.2 a2
   refine xi (qn (xs (xr ?_)))
   refine lv rfl rfl (va rfl) ?_
   refine ln (qn (xt (qr ?_)))
   exact endQ_ret _ (res_one Tryd.results77 (rv_tmp rfl)) H
 ·replace H := H.2 a5
  refine xi (qn (xs (xs (xr ?_))))
  refine lv rfl rfl (vm rfl) ?_
  refine ln (qn ?_)
  refine xc (b := a0) rfl (fun a3 => ?_) (fun a3 => ?_)
  ·replace H := H.1 a3
   refine xs (xr ?_)
   refine lv rfl rfl (va rfl) ?_
   refine ln (qn (xt (qr ?_)))
   exact endQ_ret _ (res_one Tryd.results77 (rv_tmp rfl)) H
  ·replace H := H.2 a3
   refine xi (qn (xs (xs (xr ?_))))
   refine lv rfl rfl (vm rfl) (lv rfl rfl (vm rfl) (lv rfl rfl (vr rfl rfl rfl) ?_))
   refine ln (qn ?_)
   refine xc (b := decide (x < y)) rfl (fun a1 => ?_) (fun a1 => ?_)
   ·replace H := H.1 a1
    refine xs (xr ?_)
    refine lv rfl rfl (va rfl) ?_
    refine ln (qn (xt (qr ?_)))
    exact endQ_ret _ (res_one Tryd.results77 (rv_tmp rfl)) H
   ·replace H := H.2 a1
    refine xi (qn (xs (xs (xr ?_))))
    refine lv rfl rfl (vm rfl) (lv rfl rfl (vm rfl) (lv rfl rfl (vr rfl rfl rfl) ?_))
    refine ln (qn ?_)
    refine xc (b := decide (x > y)) rfl (fun a4 => ?_) (fun a4 => ?_)
    ·replace H := H.1 a4
     refine xs (xr ?_)
     refine lv rfl rfl (va rfl) ?_
     refine ln (qn (xt (qr ?_)))
     exact endQ_ret _ (res_one Tryd.results77 (rv_tmp rfl)) H
    ·replace H := H.2 a4
     refine xi (qn (xs (xr ?_)))
     refine lv rfl rfl (va rfl) ?_
     refine ln (qn (xt ?_))
     exact endQ_ret _ (res_one Tryd.results77 (rv_tmp rfl)) H
theorem f54_sh (a6 : Int) (a2 : Bool) (a8 : Int) (a0 : Int) (a4 : Int) (b6 : Option Addr) (b1 : Nat) (b0 : Nat) (c1 : Int) (b4 : Int) (b9 : Bool) (a5 : Int) (b3 : Bool) (a7 : Int) (a1 : Int) (a3 : Int) (b7 : Option Addr) (b2 : Nat) (a9 : Nat) (c0 : Int) (b5 : Int) (b8 : Bool) (h : Heap) (R : Value → Heap → Prop)
  (H : (((a2 != b3) = true → ((a2 = true → (∀ (h2 : Heap), Ext h h2 → R (.int .i64 (-1)) h2)) ∧ (a2 = false → (∀ (h2 : Heap), Ext h h2 → R (.int .i64 1) h2)))) ∧ ((a2 != b3) = false → (∀ (a : Nat) (b : Nat) (h2 : Heap), Array.size h ≤ a → a < Array.size h2 → Array.size h ≤ b → b < Array.size h2 → Ext h h2 → (∃ r : Int, (∀ h6, Ext h2 h6 → HC Tryd.prog 76 #[(.int .u64 a0), (.int .u64 a1)] h6 (fun vv h' => vv = (.int .i64 r) ∧ h' = h6)) ∧ (∃ c3 : Int, (∀ h5, Ext h2 h5 → HC Tryd.prog 77 #[(.int .i64 a6), (.int .i64 a5)] h5 (fun vv h' => vv = (.int .i64 c3) ∧ h' = h5)) ∧ (∀ nb h3, nb = Array.size h2 → h3 = Array.push h2 (.cells #[(.int .i64 r), (.int .i64 c3)] 3) → HC Tryd.prog 75 #[(.slice (some ⟨nb, 0, none⟩) 2 2)] h3 (fun vv h4 => ∃ c9 : Int, vv = (.int .i64 c9) ∧ R (.int .i64 c9) h4)))))))) :
  HC Tryd.prog 54 #[(.agg #[(.int .i64 a6), (.bool a2), (.int .u64 a8), (.int .u64 a0), (.int .i64 a4), (.slice b6 b1 b0), (.int .i64 c1), (.int .i64 b4), (.bool b9)]), (.agg #[(.int .i64 a5), (.bool b3), (.int .u64 a7), (.int .u64 a1), (.int .i64 a3), (.slice b7 b2 a9), (.int .i64 c0), (.int .i64 b5), (.bool b8)])] h R := by
 refine hc_of (args := [(.agg #[(.int .i64 a6), (.bool a2), (.int .u64 a8), (.int .u64 a0), (.int .i64 a4), (.slice b6 b1 b0), (.int .i64 c1), (.int .i64 b4), (.bool b9)]), (.agg #[(.int .i64 a5), (.bool b3), (.int .u64 a7), (.int .u64 a1), (.int .i64 a3), (.slice b7 b2 a9), (.int .i64 c0), (.int .i64 b5), (.bool b8)])]) Tryd.func54 rfl Tryd.ntmps54 (Nat.le_of_ble_eq_true rfl) ?_
 refine xs (xr ?_)
 refine lp rfl rfl (hn_box (v := (.agg #[(.int .i64 a6), (.bool a2), (.int .u64 a8), (.int .u64 a0), (.int .i64 a4), (.slice b6 b1 b0), (.int .i64 c1), (.int .i64 b4), (.bool b9)])) rfl ?_)
 intro a h1 d6 d3
 have d5 := ext_pushed_f28_sh d3
 have e1 : Array.size h ≤ a := Nat.le_of_eq (Eq.symm d6)
 have c2 : h1[a]? = some (.cells #[(.int .i64 a6), (.bool a2), (.int .u64 a8), (.int .u64 a0), (.int .i64 a4), (.slice b6 b1 b0), (.int .i64 c1), (.int .i64 b4), (.bool b9)] 36 (0, 0)) := by rw [d3]; exact push_new d6
 refine lp rfl rfl (hn_box (v := (.agg #[(.int .i64 a5), (.bool b3), (.int .u64 a7), (.int .u64 a1), (.int .i64 a3), (.slice b7 b2 a9), (.int .i64 c0), (.int .i64 b5), (.bool b8)])) rfl ?_)
 intro b h2 d1 d4
 have d2 := ext_pushed_f28_sh d4
 have e2 := Nat.ne_of_lt (Nat.lt_of_lt_of_eq (row_lt c2) (Eq.symm d1))
 have d8 : Array.size h ≤ b := Nat.le_trans (Ext.size d5) (Nat.le_of_eq (Eq.symm d1))
 have c4 : h2[b]? = some (.cells #[(.int .i64 a5), (.bool b3), (.int .u64 a7), (.int .u64 a1), (.int .i64 a3), (.slice b7 b2 a9), (.int .i64 c0), (.int .i64 b5), (.bool b8)] 36 (0, 0)) := by rw [d4]; exact push_new d1
 replace c2 := Ext.row d2 c2
 have c6 := Ext.trans d5 d2
 refine lv rfl rfl (va rfl) ?_
 refine ln (qn (xs (xs (xr ?_))))
 refine lv rfl rfl (v := (ptr a 1)) (vf TyTCd.fld36_1 (b := a) (o := 0) rfl) (lv rfl rfl (vl TyTCd.agg4 rfl (rc c2 rfl)) (lv rfl rfl (v := (ptr b 1)) (vf TyTCd.fld36_1 (b := b) (o := 0) rfl) (lv rfl rfl (vl TyTCd.agg4 rfl (rc c4 rfl)) (lv rfl rfl (v := (.bool (a2 != b3))) (hv_eqBool TyTCd.u4 rfl rfl rfl) ?_))))
 refine ln (qn ?_)
 refine xc (b := a2 != b3) rfl (fun c5 => ?_) (fun c5 => ?_)
 ·replace H := H.1 c5
  refine xs (xs (xr ?_))
  refine lv rfl rfl (v := (ptr a 1)) (vf TyTCd.fld36_1 (b := a) (o := 0) rfl) (lv rfl rfl (vl TyTCd.agg4 rfl (rc c2 rfl)) ?_)
  refine ln (qn ?_)
  refine xc (b := a2) rfl (fun c7 => ?_) (fun c7 => ?_)
  ·replace H := H.1 c7
   refine xs (xr ?_)
   refine lv rfl rfl (va rfl) ?_
   refine ln (qn (xt (qr (qr ?_))))
   replace H := H h2 c6
   exact endQ_ret _ (res_one Tryd.results54 (rv_tmp rfl)) H
  ·replace H := H.2 c7
   refine xi (qn (xs (xr ?_)))
   refine lv rfl rfl (va rfl) ?_
   refine ln (qn (xt (qr ?_)))
   replace H := H h2 c6
   exact endQ_ret _ (res_one Tryd.results54 (rv_tmp rfl)) H
 ·replace H := H.2 c5
  refine xi (qn (xs ?_))
  refine hx_draw TyTCd.mixed [.pure, .pure, .read, .pure, .pure, .read, .read, .pure, .read, .pure, .read, .read, .ext, .wild, .pure] [0, 1, 2, 3, 4, 5, 6, 7, 8, 9, 10, 11, 12, 13, 14] (by kernel_rfl) ?_
  refine pp (i := 0) rfl (wanted_0 rfl) rfl (ptr a 2) (fun _ => vf TyTCd.fld36_2 (b := a) (o := 0) rfl) ?_
  refine pp (i := 1) rfl (wanted_0 rfl) rfl (ptr a 3) (fun _ => vf TyTCd.fld31_1 (b := a) (o := 2) rfl) ?_
  refine pr (i := 2) rfl (wanted_0 rfl) rfl (.int .u64 a0) (fun _ he => vl TyTCd.agg29 rfl (Ext.cell he (rc c2 rfl))) ?_
  refine pp (i := 3) rfl (wanted_0 rfl) rfl (ptr b 2) (fun _ => vf TyTCd.fld36_2 (b := b) (o := 0) rfl) ?_
  refine pp (i := 4) rfl (wanted_0 rfl) rfl (ptr b 3) (fun _ => vf TyTCd.fld31_1 (b := b) (o := 2) rfl) ?_
  refine pr (i := 5) rfl (wanted_0 rfl) rfl (.int .u64 a1) (fun _ he => vl TyTCd.agg29 rfl (Ext.cell he (rc c4 rfl))) ?_
  replace H := H a b h2 e1 (row_lt c2) d8 (row_lt c4) c6
  obtain ⟨r, e0, H⟩ := H
  refine pr (i := 6) rfl (wanted_0 rfl) rfl (.int .i64 r) (fun _ he => hv_call TyTCd.cb76 (vs := [(.int .u64 a0), (.int .u64 a1)]) rfl (e0 _ he)) ?_
  refine pp (i := 7) rfl (wanted_0 rfl) rfl (ptr a 0) (fun _ => vf TyTCd.fld36_0 (b := a) (o := 0) rfl) ?_
  refine pr (i := 8) rfl (wanted_0 rfl) rfl (.int .i64 a6) (fun _ he => vl TyTCd.agg3 rfl (Ext.cell he (rc c2 rfl))) ?_
  refine pp (i := 9) rfl (wanted_0 rfl) rfl (ptr b 0) (fun _ => vf TyTCd.fld36_0 (b := b) (o := 0) rfl) ?_
  refine pr (i := 10) rfl (wanted_0 rfl) rfl (.int .i64 a5) (fun _ he => vl TyTCd.agg3 rfl (Ext.cell he (rc c4 rfl))) ?_
  obtain ⟨c3, d7, H⟩ := H
  refine pr (i := 11) rfl (wanted_0 rfl) rfl (.int .i64 c3) (fun _ he => hv_call TyTCd.cb77 (vs := [(.int .i64 a6), (.int .i64 a5)]) rfl (d7 _ he)) ?_
  refine hp_ext (i := 12) rfl (wanted_0 rfl) rfl (hn_buildSlice (n := 2) (vs := [(0, (.int .i64 r)), (1, (.int .i64 c3))]) (cs := #[(.int .i64 r), (.int .i64 c3)]) TyTCd.u71 TyTCd.sz3 TyTCd.z3 rfl rfl (by kernel_rfl) ?_)
  intro nb h3 d9 d0
  replace H := H nb h3 d9 d0
  have c8 := ext_pushed_f28_sh d0
  replace c2 := Ext.row c8 c2
  replace c4 := Ext.row c8 c4
  refine ⟨c8, ?_⟩
  refine hp_wild (i := 13) rfl (wanted_0 rfl) rfl (sc TyTCd.cb75 rfl (HC.mono H ?_))
  rintro _ h4 ⟨c9, rfl, H⟩
  refine pp (i := 14) rfl (wanted_0 rfl) rfl (.int .i64 c9) (fun _ => va rfl) ?_
  refine hp_nil ?_
  refine qn (xt ?_)
  exact endQ_ret _ (res_one Tryd.results54 (rv_tmp rfl)) H
theorem f53_sh (a : Int) (b : Int) (c5 : Nat) (c4 : Nat) (h : Heap) (R : Value → Heap → Prop)
  (H : (∃ x : Option Addr, ∃ c6 c7 : Nat, hcell h c5 c4 = some (.slice x c6 c7) ∧ (∃ b3 b2 : Nat, x = some ⟨b3, b2, none⟩ ∧ (0 : Int) ≤ a ∧ a < (c6 : Int) ∧ (∃ b9 : Int, ∃ c3 : Bool, ∃ a7 a2 a4 : Int, ∃ b7 : Option Addr, ∃ a8 a9 : Nat, ∃ c0 b8 : Int, ∃ c1 : Bool, hcell h b3 (b2 + (Int.toNat a) * 9) = some (.int .i64 b9) ∧ hcell h b3 ((b2 + (Int.toNat a) * 9) + 1) = some (.bool c3) ∧ hcell h b3 ((b2 + (Int.toNat a) * 9) + 2) = some (.int .u64 a7) ∧ hcell h b3 ((b2 + (Int.toNat a) * 9) + 3) = some (.int .u64 a2) ∧ hcell h b3 ((b2 + (Int.toNat a) * 9) + 4) = some (.int .i64 a4) ∧ hcell h b3 ((b2 + (Int.toNat a) * 9) + 5) = some (.slice b7 a8 a9) ∧ hcell h b3 ((b2 + (Int.toNat a) * 9) + 6) = some (.int .i64 c0) ∧ hcell h b3 ((b2 + (Int.toNat a) * 9) + 7) = some (.int .i64 b8) ∧ hcell h b3 ((b2 + (Int.toNat a) * 9) + 8) = some (.bool c1) ∧ ((0 : Int) ≤ b ∧ b < (c6 : Int) ∧ (∃ b6 : Int, ∃ c2 : Bool, ∃ a3 a0 a1 : Int, ∃ b0 : Option Addr, ∃ a5 a6 : Nat, ∃ b4 b1 : Int, ∃ b5 : Bool, hcell h b3 (b2 + (Int.toNat b) * 9) = some (.int .i64 b6) ∧ hcell h b3 ((b2 + (Int.toNat b) * 9) + 1) = some (.bool c2) ∧ hcell h b3 ((b2 + (Int.toNat b) * 9) + 2) = some (.int .u64 a3) ∧ hcell h b3 ((b2 + (Int.toNat b) * 9) + 3) = some (.int .u64 a0) ∧ hcell h b3 ((b2 + (Int.toNat b) * 9) + 4) = some (.int .i64 a1) ∧ hcell h b3 ((b2 + (Int.toNat b) * 9) + 5) = some (.slice b0 a5 a6) ∧ hcell h b3 ((b2 + (Int.toNat b) * 9) + 6) = some (.int .i64 b4) ∧ hcell h b3 ((b2 + (Int.toNat b) * 9) + 7) = some (.int .i64 b1) ∧ hcell h b3 ((b2 + (Int.toNat b) * 9) + 8) = some (.bool b5) ∧ HC Tryd.prog 54 #[(.agg #[(.int .i64 b9), (.bool c3), (.int .u64 a7), (.int .u64 a2), (.int .i64 a4), (.slice b7 a8 a9), (.int .i64 c0), (.int .i64 b8), (.bool c1)]), (.agg #[(.int .i64 b6), (.bool c2), (.int .u64 a3), (.int .u64 a0), (.int .i64 a1), (.slice b0 a5 a6), (.int .i64 b4), (.int .i64 b1), (.bool b5)])] h (fun vv h1 => ∃ r : Int, vv = (.int .i64 r) ∧ R (.int .i64 r) h1))))))) :
  HC Tryd.prog 53 #[(.int .i64 a), (.int .i64 b), (ptr c5 c4)] h R := by
 refine hc_of (args := [(.int .i64 a), (.int .i64 b), (ptr c5 c4)]) Tryd.func53 rfl Tryd.ntmps53 (Nat.le_of_ble_eq_true rfl) ?_
 refine xs (xr ?_)
 refine lv rfl rfl (va rfl) ?_
 refine ln (qn (xs ?_))
 refine hx_draw TyTCd.mixed [.read, .pure, .pure, .read, .read, .pure, .pure, .read, .wild, .pure] [0, 1, 2, 3, 4, 5, 6, 7, 8, 9] (by kernel_rfl) ?_
 obtain ⟨x, c6, c7, c8, H⟩ := H
 refine pr (i := 0) rfl (wanted_0 rfl) rfl (.slice x c6 c7) (fun _ he => vl TyTCd.agg65 rfl (Ext.cell he c8)) ?_
 refine pp (i := 1) rfl (wanted_0 rfl) rfl (.int .i64 a) (fun _ => vm rfl) ?_
 obtain ⟨b3, b2, e7, e3, f1, Hq⟩ := H
 subst e7
 have H := Hq; clear Hq
 refine pp (i := 2) rfl (wanted_0 rfl) rfl (ptr b3 (b2 + (Int.toNat a) * 9)) (fun _ => vi TyTCd.el65 rfl rfl e3 f1) ?_
 obtain ⟨b9, c3, a7, a2, a4, b7, a8, a9, c0, b8, c1, e4, e6, f0, e9, e8, e5, d7, d2, d3, H⟩ := H
 refine pr (i := 3) rfl (wanted_0 rfl) rfl (.agg #[(.int .i64 b9), (.bool c3), (.int .u64 a7), (.int .u64 a2), (.int .i64 a4), (.slice b7 a8 a9), (.int .i64 c0), (.int .i64 b8), (.bool c1)]) (fun _ he => vL (vs := [(.int .i64 b9), (.bool c3), (.int .u64 a7), (.int .u64 a2), (.int .i64 a4), (.slice b7 a8 a9), (.int .i64 c0), (.int .i64 b8), (.bool c1)]) TyTCd.agg36 TyTCd.sz36 rfl (cc (Ext.cell he e4) (cc (Ext.cell he e6) (cc (Ext.cell he f0) (cc (Ext.cell he e9) (cc (Ext.cell he e8) (cc (Ext.cell he e5) (cc (Ext.cell he d7) (cc (Ext.cell he d2) (cc (Ext.cell he d3) cn)))))))))) ?_
 refine pr (i := 4) rfl (wanted_0 rfl) rfl (.slice (some ⟨b3, b2, none⟩) c6 c7) (fun _ he => vl TyTCd.agg65 rfl (Ext.cell he c8)) ?_
 refine pp (i := 5) rfl (wanted_0 rfl) rfl (.int .i64 b) (fun _ => vm rfl) ?_
 obtain ⟨c9, d4, H⟩ := H
 refine pp (i := 6) rfl (wanted_0 rfl) rfl (ptr b3 (b2 + (Int.toNat b) * 9)) (fun _ => vi TyTCd.el65 rfl rfl c9 d4) ?_
 obtain ⟨b6, c2, a3, a0, a1, b0, a5, a6, b4, b1, b5, e1, e2, d8, e0, d6, d0, d1, d9, d5, H⟩ := H
 refine pr (i := 7) rfl (wanted_0 rfl) rfl (.agg #[(.int .i64 b6), (.bool c2), (.int .u64 a3), (.int .u64 a0), (.int .i64 a1), (.slice b0 a5 a6), (.int .i64 b4), (.int .i64 b1), (.bool b5)]) (fun _ he => vL (vs := [(.int .i64 b6), (.bool c2), (.int .u64 a3), (.int .u64 a0), (.int .i64 a1), (.slice b0 a5 a6), (.int .i64 b4), (.int .i64 b1), (.bool b5)]) TyTCd.agg36 TyTCd.sz36 rfl (cc (Ext.cell he e1) (cc (Ext.cell he e2) (cc (Ext.cell he d8) (cc (Ext.cell he e0) (cc (Ext.cell he d6) (cc (Ext.cell he d0) (cc (Ext.cell he d1) (cc (Ext.cell he d9) (cc (Ext.cell he d5) cn)))))))))) ?_
 refine hp_wild (i := 8) rfl (wanted_0 rfl) rfl (sc TyTCd.cb54 rfl (HC.mono H ?_))
 rintro _ h1 ⟨r, rfl, H⟩
 refine pp (i := 9) rfl (wanted_0 rfl) rfl (.int .i64 r) (fun _ => va rfl) ?_
 refine hp_nil ?_
 refine qn (xt ?_)
 exact endQ_ret _ (res_one Tryd.results53 (rv_tmp rfl)) H
theorem f26_sh (l : Option Addr) (b0 : Nat) (a8 : Nat) (h : Heap) (R : Value → Heap → Prop)
  (H : (∀ a4 h1, a4 = Array.size h → h1 = Array.push h (.cells #[(.slice l b0 a8)] 65) → (∃ x : Option Addr, ∃ a3 b2 : Nat, hcell h1 a4 0 = some (.slice x a3 b2) ∧ (∃ (I5 : Option Addr → Nat → Nat → Int → Heap → Prop) (a9 : Option Addr → Nat → Nat → Int → Heap → Nat), I5 none 0 0 0 h1 ∧ (∀ (a2 : Option Addr) (a0 : Nat) (a1 : Nat) (v : Int) (h2 : Heap), I5 a2 a0 a1 v h2 → (((decide (v < (a3 : Int))) = true → (∀ nb h3, nb = Array.size h2 → h3 = Array.push h2 (.cells #[(.int .i64 v)] 3) → HAppend Tryd.prog 71 71 (.slice a2 a0 a1) (.slice (some ⟨nb, 0, none⟩) 1 1) h3 (fun vv h4 => ∃ ap : Option Addr, ∃ a6 a5 : Nat, vv = (.slice ap a6 a5) ∧ (I5 ap a6 a5 (IntKind.i64.wrap (v + 1)) h4 ∧ a9 ap a6 a5 (IntKind.i64.wrap (v + 1)) h4 < a9 a2 a0 a1 v h2)))) ∧ ((decide (v < (a3 : Int))) = false → HC Tryd.prog 52 #[(.slice a2 a0 a1), (.func (.func 53) #[] #[(ptr a4 0)])] h2 (fun vv h5 => vv = (.tuple #[]) ∧ R (.slice a2 a0 a1) h5)))))))) :
  HC Tryd.prog 26 #[(.slice l b0 a8)] h R := by
 refine hc_of (args := [(.slice l b0 a8)]) Tryd.func26 rfl Tryd.ntmps26 (Nat.le_of_ble_eq_true rfl) ?_
 refine xs (xr ?_)
 refine lp rfl rfl (hn_box (v := (.slice l b0 a8)) rfl ?_)
 intro a4 h1 b9 b3
 replace H := H a4 h1 b9 b3
 have c1 := ext_pushed_f28_sh b3
 refine lv rfl rfl (va rfl) ?_
 refine ln (qn (xs (xr ?_)))
 refine lv rfl rfl (va rfl) ?_
 refine ln (qn (xs (xs (xr ?_))))
 obtain ⟨x, a3, b2, b6, H⟩ := H
 refine lv rfl rfl (vl TyTCd.agg65 rfl b6) (lv rfl rfl (v := (.int .i64 (a3 : Int))) (hv_len (n := a3) TyTCd.u65 rfl) (lv rfl rfl (vm rfl) ?_))
 refine ln (qn (xb ?_))
 obtain ⟨I5, a9, b5, b8⟩ := H
 refine xl (σ := Option Addr × Nat × Nat × Int) (fun s => [(1, (ptr a4 0)), (3, (.slice s.1 s.2.1 s.2.2.1)), (6, (.int .i64 (a3 : Int))), (7, (.int .i64 s.2.2.2))]) (fun s h' => I5 s.1 s.2.1 s.2.2.1 s.2.2.2 h' ∧ True) (fun s h' => a9 s.1 s.2.1 s.2.2.1 s.2.2.2 h') (none, 0, 0, 0) ⟨b5, trivial⟩ (hc rfl (hc rfl (hc rfl (hc rfl hn)))) ?_
 rintro ⟨a2, a0, a1, v⟩ ρ h2 ⟨b7, -⟩
 have H := b8 a2 a0 a1 v h2 b7
 refine xs (xr ?_)
 refine lv rfl rfl (vr rfl rfl rfl) ?_
 refine ln (qn (xs ?_))
 refine xc (b := decide (v < (a3 : Int))) rfl (fun a7 => ?_) (fun a7 => ?_)
 ·replace H := H.1 a7
  refine xi (qn (xs (xb (xs (xr ?_)))))
  refine lv rfl rfl (vm rfl) (lv rfl rfl (va rfl) ?_)
  refine ln (qn (xr ?_))
  refine lv rfl rfl (vm rfl) (lv rfl rfl (vm rfl) ?_)
  refine lp rfl rfl (hn_buildSlice (n := 1) (vs := [(0, (.int .i64 v))]) (cs := #[(.int .i64 v)]) TyTCd.u71 TyTCd.sz3 TyTCd.z3 rfl rfl (by kernel_rfl) ?_)
  intro nb h3 b4 b1
  replace H := H nb h3 b4 b1
  have c0 := ext_pushed_f28_sh b1
  refine lp rfl rfl (hs_append rfl rfl (HAppend.mono H ?_))
  rintro _ h4 ⟨ap, a6, a5, rfl, H⟩
  refine lv rfl rfl (va rfl) ?_
  refine ln (bn (qn (xr ?_)))
  refine lv rfl rfl (vr rfl rfl rfl) (lv rfl rfl (vm rfl) ?_)
  refine ln (qn ?_)
  exact ⟨(ap, a6, a5, IntKind.i64.wrap (v + 1)), ⟨⟨H.1, trivial⟩, H.2⟩, (hc rfl (hc rfl (hc rfl (hc rfl hn))))⟩
 ·replace H := H.2 a7
  refine xe (qe (qe (bh (qn (xs (xr ?_))))))
  refine lv rfl rfl (vm rfl) (lv rfl rfl (v := (.func (.func 53) #[] #[(ptr a4 0)])) (hv_makeFunc (fv := []) (cv := [(ptr a4 0)]) rfl rfl) ?_)
  refine lp rfl rfl (sc TyTCd.cb52 rfl (HC.mono H ?_))
  rintro _ h5 ⟨rfl, H⟩
  refine ln (qn (xs (xr ?_)))
  refine lv rfl rfl (vm rfl) (lv rfl rfl (va rfl) ?_)
  refine ln (qn (xt ?_))
  exact endQ_ret _ (res_one Tryd.results26 (rv_tmp rfl)) H
theorem f58_sh (a3 : Int) (a6 : Bool) (a8 : Int) (a0 : Int) (a5 : Int) (b6 : Option Addr) (b1 : Nat) (b0 : Nat) (c1 : Int) (b4 : Int) (b9 : Bool) (a2 : Int) (b3 : Bool) (a7 : Int) (a1 : Int) (a4 : Int) (b7 : Option Addr) (b2 : Nat) (a9 : Nat) (c0 : Int) (b5 : Int) (b8 : Bool) (h : Heap) (R : Value → Heap → Prop)
  (H : (((a6 != b3) = true → (∀ (h2 : Heap), Ext h h2 → R (.bool a6) h2)) ∧ ((a6 != b3) = false → (((a0 != a1) = true → (∀ (h2 : Heap), Ext h h2 → R (.bool (decide (a0 < a1))) h2)) ∧ ((a0 != a1) = false → (∀ (h2 : Heap), Ext h h2 → R (.bool (decide (a3 < a2))) h2)))))) :
  HC Tryd.prog 58 #[(.agg #[(.int .i64 a3), (.bool a6), (.int .u64 a8), (.int .u64 a0), (.int .i64 a5), (.slice b6 b1 b0), (.int .i64 c1), (.int .i64 b4), (.bool b9)]), (.agg #[(.int .i64 a2), (.bool b3), (.int .u64 a7), (.int .u64 a1), (.int .i64 a4), (.slice b7 b2 a9), (.int .i64 c0), (.int .i64 b5), (.bool b8)])] h R := by
 refine hc_of (args := [(.agg #[(.int .i64 a3), (.bool a6), (.int .u64 a8), (.int .u64 a0), (.int .i64 a5), (.slice b6 b1 b0), (.int .i64 c1), (.int .i64 b4), (.bool b9)]), (.agg #[(.int .i64 a2), (.bool b3), (.int .u64 a7), (.int .u64 a1), (.int .i64 a4), (.slice b7 b2 a9), (.int .i64 c0), (.int .i64 b5), (.bool b8)])]) Tryd.func58 rfl Tryd.ntmps58 (Nat.le_of_ble_eq_true rfl) ?_
 refine xs (xr ?_)
 refine lp rfl rfl (hn_box (v := (.agg #[(.int .i64 a3), (.bool a6), (.int .u64 a8), (.int .u64 a0), (.int .i64 a5), (.slice b6 b1 b0), (.int .i64 c1), (.int .i64 b4), (.bool b9)])) rfl ?_)
 intro a h1 d2 c9
 have d1 := ext_pushed_f28_sh c9
 have d5 : Array.size h ≤ a := Nat.le_of_eq (Eq.symm d2)
 have c2 : h1[a]? = some (.cells #[(.int .i64 a3), (.bool a6), (.int .u64 a8), (.int .u64 a0), (.int .i64 a5), (.slice b6 b1 b0), (.int .i64 c1), (.int .i64 b4), (.bool b9)] 36 (0, 0)) := by rw [c9]; exact push_new d2
 refine lp rfl rfl (hn_box (v := (.agg #[(.int .i64 a2), (.bool b3), (.int .u64 a7), (.int .u64 a1), (.int .i64 a4), (.slice b7 b2 a9), (.int .i64 c0), (.int .i64 b5), (.bool b8)])) rfl ?_)
 intro b h2 c7 d0
 have c8 := ext_pushed_f28_sh d0
 have d4 := Nat.ne_of_lt (Nat.lt_of_lt_of_eq (row_lt c2) (Eq.symm c7))
 have d3 : Array.size h ≤ b := Nat.le_trans (Ext.size d1) (Nat.le_of_eq (Eq.symm c7))
 have c6 : h2[b]? = some (.cells #[(.int .i64 a2), (.bool b3), (.int .u64 a7), (.int .u64 a1), (.int .i64 a4), (.slice b7 b2 a9), (.int .i64 c0), (.int .i64 b5), (.bool b8)] 36 (0, 0)) := by rw [d0]; exact push_new c7
 replace c2 := Ext.row c8 c2
 have c4 := Ext.trans d1 c8
 refine lv rfl rfl (va rfl) ?_
 refine ln (qn (xs (xs (xr ?_))))
 refine lv rfl rfl (v := (ptr a 1)) (vf TyTCd.fld36_1 (b := a) (o := 0) rfl) (lv rfl rfl (vl TyTCd.agg4 rfl (rc c2 rfl)) (lv rfl rfl (v := (ptr b 1)) (vf TyTCd.fld36_1 (b := b) (o := 0) rfl) (lv rfl rfl (vl TyTCd.agg4 rfl (rc c6 rfl)) (lv rfl rfl (v := (.bool (a6 != b3))) (hv_eqBool TyTCd.u4 rfl rfl rfl) ?_))))
 refine ln (qn ?_)
 refine xc (b := a6 != b3) rfl (fun c3 => ?_) (fun c3 => ?_)
 ·replace H := H.1 c3
  refine xs (xr ?_)
  refine lv rfl rfl (v := (ptr a 1)) (vf TyTCd.fld36_1 (b := a) (o := 0) rfl) (lv rfl rfl (vl TyTCd.agg4 rfl (rc c2 rfl)) (lv rfl rfl (va rfl) ?_))
  refine ln (qn (xt (qr ?_)))
  replace H := H h2 c4
  exact endQ_ret _ (res_one Tryd.results58 (rv_tmp rfl)) H
 ·replace H := H.2 c3
  refine xi (qn (xs (xs (xr ?_))))
  refine lv rfl rfl (v := (ptr a 2)) (vf TyTCd.fld36_2 (b := a) (o := 0) rfl) (lv rfl rfl (v := (ptr a 3)) (vf TyTCd.fld31_1 (b := a) (o := 2) rfl) (lv rfl rfl (vl TyTCd.agg29 rfl (rc c2 rfl)) (lv rfl rfl (v := (ptr b 2)) (vf TyTCd.fld36_2 (b := b) (o := 0) rfl) (lv rfl rfl (v := (ptr b 3)) (vf TyTCd.fld31_1 (b := b) (o := 2) rfl) (lv rfl rfl (vl TyTCd.agg29 rfl (rc c6 rfl)) ?_)))))
  refine lv rfl rfl (vr rfl rfl rfl) ?_
  refine ln (qn ?_)
  refine xc (b := a0 != a1) rfl (fun c5 => ?_) (fun c5 => ?_)
  ·replace H := H.1 c5
   refine xs (xr ?_)
   refine lv rfl rfl (v := (ptr a 2)) (vf TyTCd.fld36_2 (b := a) (o := 0) rfl) (lv rfl rfl (v := (ptr a 3)) (vf TyTCd.fld31_1 (b := a) (o := 2) rfl) (lv rfl rfl (vl TyTCd.agg29 rfl (rc c2 rfl)) (lv rfl rfl (v := (ptr b 2)) (vf TyTCd.fld36_2 (b := b) (o := 0) rfl) (lv rfl rfl (v := (ptr b 3)) (vf TyTCd.fld31_1 (b := b) (o := 2) rfl) (lv rfl rfl (vl TyTCd.agg29 rfl (rc c6 rfl)) ?_)))))
   refine lv rfl rfl (vr rfl rfl rfl) (lv rfl rfl (va rfl) ?_)
   refine ln (qn (xt (qr ?_)))
   replace H := H h2 c4
   exact endQ_ret _ (res_one Tryd.results58 (rv_tmp rfl)) H
  ·replace H := H.2 c5
   refine xi (qn (xs (xr ?_)))
   refine lv rfl rfl (v := (ptr a 0)) (vf TyTCd.fld36_0 (b := a) (o := 0) rfl) (lv rfl rfl (vl TyTCd.agg3 rfl (rc c2 rfl)) (lv rfl rfl (v := (ptr b 0)) (vf TyTCd.fld36_0 (b := b) (o := 0) rfl) (lv rfl rfl (vl TyTCd.agg3 rfl (rc c6 rfl)) (lv rfl rfl (vr rfl rfl rfl) (lv rfl rfl (va rfl) ?_)))))
   refine ln (qn (xt ?_))
   replace H := H h2 c4
   exact endQ_ret _ (res_one Tryd.results58 (rv_tmp rfl)) H
theorem f28_sh (l : Option Addr) (c4 : Nat) (d6 : Nat) (h : Heap) (R : Value → Heap → Prop)
  (H : (∃ (I1 : Option Addr → Nat → Nat → Int → Heap → Prop) (e6 : Option Addr → Nat → Nat → Int → Heap → Nat), I1 none 0 0 0 h ∧ (∀ (d5 : Option Addr) (c8 : Nat) (c9 : Nat) (v : Int) (h1 : Heap), I1 d5 c8 c9 v h1 → (((decide (v < (c4 : Int))) = true → (∀ nb h2, nb = Array.size h1 → h2 = Array.push h1 (.cells #[(.int .i64 v)] 3) → HAppend Tryd.prog 71 71 (.slice d5 c8 c9) (.slice (some ⟨nb, 0, none⟩) 1 1) h2 (fun vv h3 => ∃ ap : Option Addr, ∃ a4 c1 : Nat, vv = (.slice ap a4 c1) ∧ (∃ (e2 : Int → Heap → Prop) (d7 : Int → Heap → Nat), e2 (IntKind.i64.wrap ((a4 : Int) - 1)) h3 ∧ (∀ (k : Int) (h4 : Heap), e2 k h4 → (∃ d9 : Bool → Heap → Prop, (((decide (k > 0)) = true → (∃ d3 d4 : Nat, ap = some ⟨d3, d4, none⟩ ∧ (0 : Int) ≤ k ∧ k < (a4 : Int) ∧ (∃ x : Int, hcell h4 d3 (d4 + (Int.toNat k) * 1) = some (.int .i64 x) ∧ (∃ b6 b7 : Nat, l = some ⟨b6, b7, none⟩ ∧ (0 : Int) ≤ x ∧ x < (c4 : Int) ∧ (∃ c6 : Int, ∃ d2 : Bool, ∃ a9 a3 a6 : Int, ∃ c3 : Option Addr, ∃ b2 b3 : Nat, ∃ c7 c2 : Int, ∃ c5 : Bool, hcell h4 b6 (b7 + (Int.toNat x) * 9) = some (.int .i64 c6) ∧ hcell h4 b6 ((b7 + (Int.toNat x) * 9) + 1) = some (.bool d2) ∧ hcell h4 b6 ((b7 + (Int.toNat x) * 9) + 2) = some (.int .u64 a9) ∧ hcell h4 b6 ((b7 + (Int.toNat x) * 9) + 3) = some (.int .u64 a3) ∧ hcell h4 b6 ((b7 + (Int.toNat x) * 9) + 4) = some (.int .i64 a6) ∧ hcell h4 b6 ((b7 + (Int.toNat x) * 9) + 5) = some (.slice c3 b2 b3) ∧ hcell h4 b6 ((b7 + (Int.toNat x) * 9) + 6) = some (.int .i64 c7) ∧ hcell h4 b6 ((b7 + (Int.toNat x) * 9) + 7) = some (.int .i64 c2) ∧ hcell h4 b6 ((b7 + (Int.toNat x) * 9) + 8) = some (.bool c5) ∧ ((0 : Int) ≤ IntKind.i64.wrap (k - 1) ∧ IntKind.i64.wrap (k - 1) < (a4 : Int) ∧ (∃ d1 : Int, hcell h4 d3 (d4 + (Int.toNat (IntKind.i64.wrap (k - 1))) * 1) = some (.int .i64 d1) ∧ ((0 : Int) ≤ d1 ∧ d1 < (c4 : Int) ∧ (∃ c0 : Int, ∃ d0 : Bool, ∃ a5 a1 a2 : Int, ∃ b4 : Option Addr, ∃ a8 a7 : Nat, ∃ b8 b5 : Int, ∃ b9 : Bool, hcell h4 b6 (b7 + (Int.toNat d1) * 9) = some (.int .i64 c0) ∧ hcell h4 b6 ((b7 + (Int.toNat d1) * 9) + 1) = some (.bool d0) ∧ hcell h4 b6 ((b7 + (Int.toNat d1) * 9) + 2) = some (.int .u64 a5) ∧ hcell h4 b6 ((b7 + (Int.toNat d1) * 9) + 3) = some (.int .u64 a1) ∧ hcell h4 b6 ((b7 + (Int.toNat d1) * 9) + 4) = some (.int .i64 a2) ∧ hcell h4 b6 ((b7 + (Int.toNat d1) * 9) + 5) = some (.slice b4 a8 a7) ∧ hcell h4 b6 ((b7 + (Int.toNat d1) * 9) + 6) = some (.int .i64 b8) ∧ hcell h4 b6 ((b7 + (Int.toNat d1) * 9) + 7) = some (.int .i64 b5) ∧ hcell h4 b6 ((b7 + (Int.toNat d1) * 9) + 8) = some (.bool b9) ∧ HC Tryd.prog 58 #[(.agg #[(.int .i64 c6), (.bool d2), (.int .u64 a9), (.int .u64 a3), (.int .i64 a6), (.slice c3 b2 b3), (.int .i64 c7), (.int .i64 c2), (.bool c5)]), (.agg #[(.int .i64 c0), (.bool d0), (.int .u64 a5), (.int .u64 a1), (.int .i64 a2), (.slice b4 a8 a7), (.int .i64 b8), (.int .i64 b5), (.bool b9)])] h4 (fun vv h6 => ∃ r : Bool, vv = (.bool r) ∧ (d9 r h6))))))))))) ∧ ((decide (k > 0)) = false → (d9 false h4))) ∧ (∀ (j : Bool) (h5 : Heap), d9 j h5 → ((j = true → (∃ b1 b0 : Nat, ap = some ⟨b1, b0, none⟩ ∧ (0 : Int) ≤ IntKind.i64.wrap (k - 1) ∧ IntKind.i64.wrap (k - 1) < (a4 : Int) ∧ (∃ d8 : Int, hcell h5 b1 (b0 + (Int.toNat (IntKind.i64.wrap (k - 1))) * 1) = some (.int .i64 d8) ∧ ((0 : Int) ≤ k ∧ k < (a4 : Int) ∧ (∃ e0 : Int, hcell h5 b1 (b0 + (Int.toNat k) * 1) = some (.int .i64 e0) ∧ (HW h5 b1 (b0 + (Int.toNat k) * 1) ∧ ∀ h7, h7 = hset h5 b1 (b0 + (Int.toNat k) * 1) (.int .i64 d8) → (HW h7 b1 (b0 + (Int.toNat (IntKind.i64.wrap (k - 1))) * 1) ∧ ∀ h8, h8 = hset h7 b1 (b0 + (Int.toNat (IntKind.i64.wrap (k - 1))) * 1) (.int .i64 e0) → (e2 (IntKind.i64.wrap (k - 1)) h8 ∧ d7 (IntKind.i64.wrap (k - 1)) h8 < d7 k h4)))))))) ∧ (j = false → (I1 ap a4 c1 (IntKind.i64.wrap (v + 1)) h5 ∧ e6 ap a4 c1 (IntKind.i64.wrap (v + 1)) h5 < e6 d5 c8 c9 v h1)))))))))) ∧ ((decide (v < (c4 : Int))) = false → R (.slice d5 c8 c9) h1))))) :
  HC Tryd.prog 28 #[(.slice l c4 d6)] h R := by
 refine hc_of (args := [(.slice l c4 d6)]) Tryd.func28 rfl Tryd.ntmps28 (Nat.le_of_ble_eq_true rfl) ?_
 refine xs (xr ?_)
 refine lv rfl rfl (va rfl) ?_
 refine ln (qn (xs (xr ?_)))
 refine lv rfl rfl (va rfl) ?_
 refine ln (qn (xs (xs (xr ?_))))
 refine lv rfl rfl (vm rfl) (lv rfl rfl (v := (.int .i64 (c4 : Int))) (hv_len (n := c4) TyTCd.u65 rfl) (lv rfl rfl (vm rfl) ?_))
 refine ln (qn (xb ?_))
 obtain ⟨I1, e6, k1, k3⟩ := H
 refine xl (σ := Option Addr × Nat × Nat × Int) (fun s => [(0, (.slice l c4 d6)), (3, (.slice s.1 s.2.1 s.2.2.1)), (7, (.int .i64 (c4 : Int))), (8, (.int .i64 s.2.2.2))]) (fun s h' => I1 s.1 s.2.1 s.2.2.1 s.2.2.2 h' ∧ True) (fun s h' => e6 s.1 s.2.1 s.2.2.1 s.2.2.2 h') (none, 0, 0, 0) ⟨k1, trivial⟩ (hc rfl (hc rfl (hc rfl (hc rfl hn)))) ?_
 rintro ⟨d5, c8, c9, v⟩ ρ h1 ⟨k2, -⟩
 have H := k3 d5 c8 c9 v h1 k2
 refine xs (xr ?_)
 refine lv rfl rfl (vr rfl rfl rfl) ?_
 refine ln (qn (xs ?_))
 refine xc (b := decide (v < (c4 : Int))) rfl (fun f1 => ?_) (fun f1 => ?_)
 ·replace H := H.1 f1
  refine xi (qn (xs (xb (xs (xr ?_)))))
  refine lv rfl rfl (vm rfl) (lv rfl rfl (va rfl) ?_)
  refine ln (qn (xs (xr ?_)))
  refine lv rfl rfl (vm rfl) (lv rfl rfl (vm rfl) ?_)
  refine lp rfl rfl (hn_buildSlice (n := 1) (vs := [(0, (.int .i64 v))]) (cs := #[(.int .i64 v)]) TyTCd.u71 TyTCd.sz3 TyTCd.z3 rfl rfl (by kernel_rfl) ?_)
  intro nb h2 k4 f2
  replace H := H nb h2 k4 f2
  have k5 := ext_pushed_f28_sh f2
  refine lp rfl rfl (hs_append rfl rfl (HAppend.mono H ?_))
  rintro _ h3 ⟨ap, a4, c1, rfl, H⟩
  refine lv rfl rfl (va rfl) ?_
  refine ln (qn (xs (xr ?_)))
  refine lv rfl rfl (vm rfl) (lv rfl rfl (v := (.int .i64 (a4 : Int))) (hv_len (n := a4) TyTCd.u71 rfl) (lv rfl rfl (vr rfl rfl rfl) (lv rfl rfl (va rfl) ?_)))
  refine ln (qn (xb ?_))
  obtain ⟨e2, d7, i6, f9⟩ := H
  refine xl (σ := Int) (fun s => [(0, (.slice l c4 d6)), (3, (.slice ap a4 c1)), (5, (.int .i64 s)), (7, (.int .i64 (c4 : Int))), (8, (.int .i64 v))]) (fun s h' => e2 s h' ∧ True) (fun s h' => d7 s h') (IntKind.i64.wrap ((a4 : Int) - 1)) ⟨i6, trivial⟩ (hc rfl (hc rfl (hc rfl (hc rfl (hc rfl hn))))) ?_
  rintro k ρ h4 ⟨f8, -⟩
  have H := f9 k h4 f8
  refine xs ?_
  obtain ⟨d9, e5, e4⟩ := H
  refine xk (fun ρ h' => ∃ j : Bool, (d9 j h' ∧ True) ∧ Has ρ [(0, (.slice l c4 d6)), (3, (.slice ap a4 c1)), (5, (.int .i64 k)), (7, (.int .i64 (c4 : Int))), (8, (.int .i64 v)), (37, (.bool j))]) ?_ ?_
  ·have H := e5; clear e5 e4
   refine hx_draw TyTCd.mixed [.pure, .pure, .pure, .pure, .pure, .pure, .pure, .read, .pure, .read, .pure, .pure, .pure, .pure, .pure, .read, .pure, .read, .wild, .pure] [0, 1, 2, 3, 4, 5, 6, 7, 8, 9, 10, 11, 12, 13, 14, 15, 16, 17, 18, 19] (by kernel_rfl) ?_
   refine pp (i := 0) rfl (wanted_0 rfl) rfl (.int .i64 k) (fun _ => vm rfl) ?_
   refine pp (i := 1) rfl (wanted_0 rfl) rfl (.bool (decide (k > 0))) (fun _ => vr rfl rfl rfl) ?_
   refine pp (i := 2) rfl (wanted_0 rfl) rfl (.bool (decide (k > 0))) (fun _ => vm rfl) ?_
   rcases bool_or (decide (k > 0)) with a0 | a0
   ·replace H := H.1 a0
    refine pp (i := 3) rfl (wanted_y rfl rfl rfl a0) rfl (.slice l c4 d6) (fun _ => vm rfl) ?_
    refine pp (i := 4) rfl (wanted_y rfl rfl rfl a0) rfl (.slice ap a4 c1) (fun _ => vm rfl) ?_
    refine pp (i := 5) rfl (wanted_y rfl rfl rfl a0) rfl (.int .i64 k) (fun _ => vm rfl) ?_
    obtain ⟨d3, d4, e1, i3, g2, Hq⟩ := H
    subst e1
    have H := Hq; clear Hq
    refine pp (i := 6) rfl (wanted_y rfl rfl rfl a0) rfl (ptr d3 (d4 + (Int.toNat k) * 1)) (fun _ => vi TyTCd.el71 rfl rfl i3 g2) ?_
    obtain ⟨x, i0, H⟩ := H
    refine pr (i := 7) rfl (wanted_y rfl rfl rfl a0) rfl (.int .i64 x) (fun _ he => vl TyTCd.agg3 rfl (Ext.cell he i0)) ?_
    obtain ⟨b6, b7, e1, j7, j4, Hq⟩ := H
    subst e1
    have H := Hq; clear Hq
    refine pp (i := 8) rfl (wanted_y rfl rfl rfl a0) rfl (ptr b6 (b7 + (Int.toNat x) * 9)) (fun _ => vi TyTCd.el65 rfl rfl j7 j4) ?_
    obtain ⟨c6, d2, a9, a3, a6, c3, b2, b3, c7, c2, c5, g0, j0, i4, i5, g5, g3, j2, g8, g9, H⟩ := H
    refine pr (i := 9) rfl (wanted_y rfl rfl rfl a0) rfl (.agg #[(.int .i64 c6), (.bool d2), (.int .u64 a9), (.int .u64 a3), (.int .i64 a6), (.slice c3 b2 b3), (.int .i64 c7), (.int .i64 c2), (.bool c5)]) (fun _ he => vL (vs := [(.int .i64 c6), (.bool d2), (.int .u64 a9), (.int .u64 a3), (.int .i64 a6), (.slice c3 b2 b3), (.int .i64 c7), (.int .i64 c2), (.bool c5)]) TyTCd.agg36 TyTCd.sz36 rfl (cc (Ext.cell he g0) (cc (Ext.cell he j0) (cc (Ext.cell he i4) (cc (Ext.cell he i5) (cc (Ext.cell he g5) (cc (Ext.cell he g3) (cc (Ext.cell he j2) (cc (Ext.cell he g8) (cc (Ext.cell he g9) cn)))))))))) ?_
    refine pp (i := 10) rfl (wanted_y rfl rfl rfl a0) rfl (.slice (some ⟨b6, b7, none⟩) c4 d6) (fun _ => vm rfl) ?_
    refine pp (i := 11) rfl (wanted_y rfl rfl rfl a0) rfl (.slice (some ⟨d3, d4, none⟩) a4 c1) (fun _ => vm rfl) ?_
    refine pp (i := 12) rfl (wanted_y rfl rfl rfl a0) rfl (.int .i64 k) (fun _ => vm rfl) ?_
    refine pp (i := 13) rfl (wanted_y rfl rfl rfl a0) rfl (.int .i64 (IntKind.i64.wrap (k - 1))) (fun _ => vr rfl rfl rfl) ?_
    obtain ⟨f5, j9, H⟩ := H
    refine pp (i := 14) rfl (wanted_y rfl rfl rfl a0) rfl (ptr d3 (d4 + (Int.toNat (IntKind.i64.wrap (k - 1))) * 1)) (fun _ => vi TyTCd.el71 rfl rfl f5 j9) ?_
    obtain ⟨d1, i7, H⟩ := H
    refine pr (i := 15) rfl (wanted_y rfl rfl rfl a0) rfl (.int .i64 d1) (fun _ he => vl TyTCd.agg3 rfl (Ext.cell he i7)) ?_
    obtain ⟨f4, i8, H⟩ := H
    refine pp (i := 16) rfl (wanted_y rfl rfl rfl a0) rfl (ptr b6 (b7 + (Int.toNat d1) * 9)) (fun _ => vi TyTCd.el65 rfl rfl f4 i8) ?_
    obtain ⟨c0, d0, a5, a1, a2, b4, a8, a7, b8, b5, b9, j8, g6, i1, f7, g7, k0, f3, j6, f6, H⟩ := H
    refine pr (i := 17) rfl (wanted_y rfl rfl rfl a0) rfl (.agg #[(.int .i64 c0), (.bool d0), (.int .u64 a5), (.int .u64 a1), (.int .i64 a2), (.slice b4 a8 a7), (.int .i64 b8), (.int .i64 b5), (.bool b9)]) (fun _ he => vL (vs := [(.int .i64 c0), (.bool d0), (.int .u64 a5), (.int .u64 a1), (.int .i64 a2), (.slice b4 a8 a7), (.int .i64 b8), (.int .i64 b5), (.bool b9)]) TyTCd.agg36 TyTCd.sz36 rfl (cc (Ext.cell he j8) (cc (Ext.cell he g6) (cc (Ext.cell he i1) (cc (Ext.cell he f7) (cc (Ext.cell he g7) (cc (Ext.cell he k0) (cc (Ext.cell he f3) (cc (Ext.cell he j6) (cc (Ext.cell he f6) cn)))))))))) ?_
    refine hp_wild (i := 18) rfl (wanted_y rfl rfl rfl a0) rfl (sc TyTCd.cb58 rfl (HC.mono H ?_))
    rintro _ h6 ⟨r, rfl, H⟩
    refine pp (i := 19) rfl (wanted_0 rfl) rfl (.bool r) (fun _ => hv_pick_t rfl a0 rfl) ?_
    refine hp_nil ?_
    refine qn ?_
    exact ⟨_, ⟨H, trivial⟩, (hc rfl (hc rfl (hc rfl (hc rfl (hc rfl (hc rfl hn))))))⟩
   ·replace H := H.2 a0
    refine pn (i := 3) rfl (wanted_n rfl rfl rfl a0) ?_
    refine pn (i := 4) rfl (wanted_n rfl rfl rfl a0) ?_
    refine pn (i := 5) rfl (wanted_n rfl rfl rfl a0) ?_
    refine pn (i := 6) rfl (wanted_n rfl rfl rfl a0) ?_
    refine pn (i := 7) rfl (wanted_n rfl rfl rfl a0) ?_
    refine pn (i := 8) rfl (wanted_n rfl rfl rfl a0) ?_
    refine pn (i := 9) rfl (wanted_n rfl rfl rfl a0) ?_
    refine pn (i := 10) rfl (wanted_n rfl rfl rfl a0) ?_
    refine pn (i := 11) rfl (wanted_n rfl rfl rfl a0) ?_
    refine pn (i := 12) rfl (wanted_n rfl rfl rfl a0) ?_
    refine pn (i := 13) rfl (wanted_n rfl rfl rfl a0) ?_
    refine pn (i := 14) rfl (wanted_n rfl rfl rfl a0) ?_
    refine pn (i := 15) rfl (wanted_n rfl rfl rfl a0) ?_
    refine pn (i := 16) rfl (wanted_n rfl rfl rfl a0) ?_
    refine pn (i := 17) rfl (wanted_n rfl rfl rfl a0) ?_
    refine pn (i := 18) rfl (wanted_n rfl rfl rfl a0) ?_
    refine pp (i := 19) rfl (wanted_0 rfl) rfl (.bool false) (fun _ => hv_pick_f rfl a0 rfl) ?_
    refine hp_nil ?_
    refine qn ?_
    exact ⟨_, ⟨H, trivial⟩, (hc rfl (hc rfl (hc rfl (hc rfl (hc rfl (hc rfl hn))))))⟩
  ·rintro ρ h5 ⟨j, ⟨j3, -⟩, hH⟩
   have H := e4 j h5 j3; clear e5 e4
   refine xh _ hH ?_
   refine xc (b := j) rfl (fun e3 => ?_) (fun e3 => ?_)
   ·replace H := H.1 e3
    refine xi (qn (xs (xb ?_)))
    refine hx_draw TyTCd.mixed [.pure, .pure, .pure, .pure, .pure, .pure, .pure, .pure, .pure, .read, .pure, .pure, .pure, .read, .pure, .wild, .pure, .wild] [0, 1, 2, 3, 4, 5, 6, 7, 8, 9, 10, 11, 12, 13, 14, 15, 16, 17] (by kernel_rfl) ?_
    refine pp (i := 0) rfl (wanted_0 rfl) rfl (.slice ap a4 c1) (fun _ => vm rfl) ?_
    refine pp (i := 1) rfl (wanted_0 rfl) rfl (.int .i64 k) (fun _ => vm rfl) ?_
    refine pp (i := 2) rfl (wanted_0 rfl) rfl (.slice ap a4 c1) (fun _ => vm rfl) ?_
    refine pp (i := 3) rfl (wanted_0 rfl) rfl (.int .i64 k) (fun _ => vm rfl) ?_
    refine pp (i := 4) rfl (wanted_0 rfl) rfl (.int .i64 (IntKind.i64.wrap (k - 1))) (fun _ => vr rfl rfl rfl) ?_
    refine pp (i := 5) rfl (wanted_0 rfl) rfl (.slice ap a4 c1) (fun _ => vm rfl) ?_
    refine pp (i := 6) rfl (wanted_0 rfl) rfl (.int .i64 k) (fun _ => vm rfl) ?_
    refine pp (i := 7) rfl (wanted_0 rfl) rfl (.int .i64 (IntKind.i64.wrap (k - 1))) (fun _ => vr rfl rfl rfl) ?_
    obtain ⟨b1, b0, e1, f0, e8, Hq⟩ := H
    subst e1
    have H := Hq; clear Hq
    refine pp (i := 8) rfl (wanted_0 rfl) rfl (ptr b1 (b0 + (Int.toNat (IntKind.i64.wrap (k - 1))) * 1)) (fun _ => vi TyTCd.el71 rfl rfl f0 e8) ?_
    obtain ⟨d8, g4, H⟩ := H
    refine pr (i := 9) rfl (wanted_0 rfl) rfl (.int .i64 d8) (fun _ he => vl TyTCd.agg3 rfl (Ext.cell he g4)) ?_
    refine pp (i := 10) rfl (wanted_0 rfl) rfl (.slice (some ⟨b1, b0, none⟩) a4 c1) (fun _ => vm rfl) ?_
    refine pp (i := 11) rfl (wanted_0 rfl) rfl (.int .i64 k) (fun _ => vm rfl) ?_
    obtain ⟨e7, e9, H⟩ := H
    refine pp (i := 12) rfl (wanted_0 rfl) rfl (ptr b1 (b0 + (Int.toNat k) * 1)) (fun _ => vi TyTCd.el71 rfl rfl e7 e9) ?_
    obtain ⟨e0, g1, H⟩ := H
    refine pr (i := 13) rfl (wanted_0 rfl) rfl (.int .i64 e0) (fun _ he => vl TyTCd.agg3 rfl (Ext.cell he g1)) ?_
    refine pp (i := 14) rfl (wanted_0 rfl) rfl (ptr b1 (b0 + (Int.toNat k) * 1)) (fun _ => vi TyTCd.el71 rfl rfl e7 e9) ?_
    obtain ⟨i2, H⟩ := H
    refine hp_wild (i := 15) rfl (wanted_0 rfl) rfl (hn_store (v := (.int .i64 d8)) rfl rfl TyTCd.sz3 rfl i2 ?_)
    intro h7 j5
    replace H := H h7 j5
    refine pp (i := 16) rfl (wanted_0 rfl) rfl (ptr b1 (b0 + (Int.toNat (IntKind.i64.wrap (k - 1))) * 1)) (fun _ => vi TyTCd.el71 rfl rfl f0 e8) ?_
    obtain ⟨j1, H⟩ := H
    refine hp_wild (i := 17) rfl (wanted_0 rfl) rfl (hn_store (v := (.int .i64 e0)) rfl rfl TyTCd.sz3 rfl j1 ?_)
    intro h8 i9
    replace H := H h8 i9
    refine hp_nil ?_
    refine bn (qn (xr ?_))
    refine lv rfl rfl (vm rfl) (lv rfl rfl (vr rfl rfl rfl) (lv rfl rfl (va rfl) ?_))
    refine ln (qn ?_)
    exact ⟨IntKind.i64.wrap (k - 1), ⟨⟨H.1, trivial⟩, H.2⟩, (hc rfl (hc rfl (hc rfl (hc rfl (hc rfl hn)))))⟩
   ·replace H := H.2 e3
    refine xe (qe (qe (bh (bn (qn (xr ?_))))))
    refine lv rfl rfl (vr rfl rfl rfl) (lv rfl rfl (vm rfl) ?_)
    refine ln (qn ?_)
    exact ⟨(ap, a4, c1, IntKind.i64.wrap (v + 1)), ⟨⟨H.1, trivial⟩, H.2⟩, (hc rfl (hc rfl (hc rfl (hc rfl hn))))⟩
 ·replace H := H.2 f1
  refine xe (qe (qe (bh (qn (xs (xr ?_))))))
  refine lv rfl rfl (vm rfl) (lv rfl rfl (va rfl) ?_)
  refine ln (qn (xt ?_))
  exact endQ_ret _ (res_one Tryd.results28 (rv_tmp rfl)) H
end Go.Proofs.YthjehlocmikchaaDoor
