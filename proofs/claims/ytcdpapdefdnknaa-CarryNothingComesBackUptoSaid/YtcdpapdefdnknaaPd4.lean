import Derived.Shelf.SlSortCmp.NoneTotal
import Derived.Shelf.Sort.Plain
import Derived.Test.YtcdpapdefdnknaaProg
import Derived.Test.YtcdpapdefdnknaaPd1
import Derived.Test.YtcdpapdefdnknaaPd2
import Derived.Test.YtcdpapdefdnknaaPd3
namespace Go.Proofs.Ytcdpapdefdnknaa
open Go
open Go.Proofs.Ytcdpapdefdnknaa renaming hl_val → lv, hl_step → lp, hl_nil → ln, hl_yes → ly, hl_no → lo, hx_seq → xs, hx_region → xr, hx_cond → xc, hx_block → xb, hx_loopT → xl, hx_cut → xk, hx_has → xh, hx_skip → xi, hx_ret → xt, hx_exit → xe, seqQ_n → qn, seqQ_ret → qr, seqQ_exit → qe, blockQ_n → bn, blockQ_ret → br, blockQ_here → bh, hv_move → vm, hv_assign → va, hv_arith → vr, hv_load → vl, hv_extract → vx, hv_index → vi, hp_pure → pp, hp_read → pr, hp_no → pn, has_cons → hc, has_nil → hn, hs_call → sc
set_option maxRecDepth 100000
set_option maxHeartbeats 4000000
theorem TyTS.agg9 : aggB Try.prog 9 = some false := by kernel_rfl
theorem TyTS.cb70 : CallB Try.prog 70 := fun _ _ => Try.call70 _ _
theorem TyTS.cb71 : CallB Try.prog 71 := fun _ _ => Try.call71 _ _
theorem TyTS.cb79 : CallB Try.prog 79 := fun _ _ => Try.call79 _ _
theorem TyTS.cb80 : CallB Try.prog 80 := fun _ _ => Try.call80 _ _
theorem TyTS.cb81 : CallB Try.prog 81 := fun _ _ => Try.call81 _ _
theorem TyTS.cb82 : CallB Try.prog 82 := fun _ _ => Try.call82 _ _
theorem TyTS.cb83 : CallB Try.prog 83 := fun _ _ => Try.call83 _ _
theorem TyTS.cb84 : CallB Try.prog 84 := fun _ _ => Try.call84 _ _
theorem TyTS.cb85 : CallB Try.prog 85 := fun _ _ => Try.call85 _ _
theorem TyTS.cb86 : CallB Try.prog 86 := fun _ _ => Try.call86 _ _
theorem TyTS.cb87 : CallB Try.prog 87 := fun _ _ => Try.call87 _ _
theorem TyTS.cb89 : CallB Try.prog 89 := fun _ _ => Try.call89 _ _
theorem TyTS.el82 : elB Try.prog 82 = some 1 := by kernel_rfl
theorem TyTS.mixed : Try.prog.follows .mixedOrders = true := by kernel_rfl
theorem TyTS.sz9 : szB Try.prog 9 = some 1 := by kernel_rfl
theorem TyTS.u115 : Try.prog.underlying 115 = some (.int .u64) := by kernel_rfl
theorem TyTS.u3 : Try.prog.underlying 3 = some (.int .i64) := by kernel_rfl
theorem TyTS.u31 : Try.prog.underlying 31 = some (.int .u64) := by kernel_rfl
theorem TyTS.u5 : Try.prog.underlying 5 = some (.int .u8) := by kernel_rfl
theorem TyTS.u82 : Try.prog.underlying 82 = some (.slice 9) := by kernel_rfl
theorem TyTS.u9 : Try.prog.underlying 9 = some (.string) := by kernel_rfl
theorem f54_sh (x : Option Addr) (a0 : Nat) (a1 : Nat) (h : Heap) (R : Value → Heap → Prop)
  (H : HC Try.prog 71 #[(.int .u64 (IntKind.u64.wrap (a0 : Int)))] h (fun vv h1 => ∃ r : Int, vv = (.int .i64 r) ∧ HC Try.prog 70 #[(.slice x a0 a1), (.int .i64 0), (.int .i64 (a0 : Int)), (.int .i64 r)] h1 (fun vv h2 => vv = (.tuple #[]) ∧ R (.tuple #[]) h2))) :
  HC Try.prog 54 #[(.slice x a0 a1)] h R := by
 refine hc_of (args := [(.slice x a0 a1)]) Try.func54 rfl Try.ntmps54 (Nat.le_of_ble_eq_true rfl) ?_
 refine xs (xr ?_)
 refine lv rfl rfl (vm rfl) (lv rfl rfl (v := (.int .i64 (a0 : Int))) (hv_len (n := a0) TyTS.u82 rfl) (lv rfl rfl (va rfl) ?_))
 refine ln (qn (xr ?_))
 refine lv rfl rfl (vm rfl) (lv rfl rfl (vm rfl) (lv rfl rfl (vm rfl) (lv rfl rfl (v := (.int .u64 (IntKind.u64.wrap (a0 : Int)))) (hv_convInt TyTS.u3 TyTS.u115 rfl) ?_)))
 refine lp rfl rfl (sc TyTS.cb71 rfl (HC.mono H ?_))
 rintro _ h1 ⟨r, rfl, H⟩
 refine lp rfl rfl (sc TyTS.cb70 rfl (HC.mono H ?_))
 rintro _ h2 ⟨rfl, H⟩
 refine ln ?_
 exact endQ_n _ (res_none Try.results54 ) H
theorem f71_sh (x : Int) (h : Heap) (R : Value → Heap → Prop)
  (H : HC Try.prog 89 #[(.int .u64 x)] h (fun vv h1 => ∃ r : Int, vv = (.int .i64 r) ∧ R (.int .i64 r) h1)) :
  HC Try.prog 71 #[(.int .u64 x)] h R := by
 refine hc_of (args := [(.int .u64 x)]) Try.func71 rfl Try.ntmps71 (Nat.le_of_ble_eq_true rfl) ?_
 refine xs (xr ?_)
 refine lv rfl rfl (va rfl) ?_
 refine ln (qn (xs ?_))
 refine xc (b := false) rfl (fun hb => by cases hb) (fun _ => ?_)
 refine xi (qn (xs (xr ?_)))
 refine lv rfl rfl (vm rfl) ?_
 refine lp rfl rfl (sc TyTS.cb89 rfl (HC.mono H ?_))
 rintro _ h1 ⟨r, rfl, H⟩
 refine lv rfl rfl (va rfl) ?_
 refine ln (qn (xt ?_))
 exact endQ_ret _ (res_one Try.results71 (rv_tmp rfl)) H
theorem f89_sh (x : Int) (h : Heap) (R : Value → Heap → Prop)
  (H : (∀ a2 : Int, a2 = (bif decide (x ≥ 4294967296) then Int.fdiv x (2 ^ min (Int.toNat 32) 64) else x) → (∀ n : Int, n = (bif decide (x ≥ 4294967296) then 32 else 0) → (∀ a3 : Int, a3 = (bif decide (a2 ≥ 65536) then Int.fdiv a2 (2 ^ min (Int.toNat 16) 64) else a2) → (∀ a5 : Int, a5 = (bif decide (a2 ≥ 65536) then IntKind.i64.wrap (n + 16) else n) → (∀ a6 : Int, a6 = (bif decide (a3 ≥ 256) then Int.fdiv a3 (2 ^ min (Int.toNat 8) 64) else a3) → (∀ a7 : Int, a7 = (bif decide (a3 ≥ 256) then IntKind.i64.wrap (a5 + 8) else a5) → ((0 : Int) ≤ IntKind.u8.wrap a6 ∧ ∃ u : UInt8, (ByteArray.mk #[0, 1, 2, 2, 3, 3, 3, 3, 4, 4, 4, 4, 4, 4, 4, 4, 5, 5, 5, 5, 5, 5, 5, 5, 5, 5, 5, 5, 5, 5, 5, 5, 6, 6, 6, 6, 6, 6, 6, 6, 6, 6, 6, 6, 6, 6, 6, 6, 6, 6, 6, 6, 6, 6, 6, 6, 6, 6, 6, 6, 6, 6, 6, 6, 7, 7, 7, 7, 7, 7, 7, 7, 7, 7, 7, 7, 7, 7, 7, 7, 7, 7, 7, 7, 7, 7, 7, 7, 7, 7, 7, 7, 7, 7, 7, 7, 7, 7, 7, 7, 7, 7, 7, 7, 7, 7, 7, 7, 7, 7, 7, 7, 7, 7, 7, 7, 7, 7, 7, 7, 7, 7, 7, 7, 7, 7, 7, 7, 8, 8, 8, 8, 8, 8, 8, 8, 8, 8, 8, 8, 8, 8, 8, 8, 8, 8, 8, 8, 8, 8, 8, 8, 8, 8, 8, 8, 8, 8, 8, 8, 8, 8, 8, 8, 8, 8, 8, 8, 8, 8, 8, 8, 8, 8, 8, 8, 8, 8, 8, 8, 8, 8, 8, 8, 8, 8, 8, 8, 8, 8, 8, 8, 8, 8, 8, 8, 8, 8, 8, 8, 8, 8, 8, 8, 8, 8, 8, 8, 8, 8, 8, 8, 8, 8, 8, 8, 8, 8, 8, 8, 8, 8, 8, 8, 8, 8, 8, 8, 8, 8, 8, 8, 8, 8, 8, 8, 8, 8, 8, 8, 8, 8, 8, 8, 8, 8, 8, 8, 8, 8, 8, 8, 8, 8, 8, 8])[Int.toNat (IntKind.u8.wrap a6)]? = some u ∧ R (.int .i64 (IntKind.i64.wrap (a7 + (IntKind.i64.wrap (UInt8.toNat u : Int))))) h)))))))) :
  HC Try.prog 89 #[(.int .u64 x)] h R := by
 refine hc_of (args := [(.int .u64 x)]) Try.func89 rfl Try.ntmps89 (Nat.le_of_ble_eq_true rfl) ?_
 refine xs (xr ?_)
 refine lv rfl rfl (va rfl) ?_
 refine ln (qn ?_)
 obtain ⟨a2, hq3⟩ : ∃ q : Int, q = (bif decide (x ≥ 4294967296) then Int.fdiv x (2 ^ min (Int.toNat 32) 64) else x) := ⟨_, rfl⟩
 replace H := H a2 hq3
 obtain ⟨n, hq4⟩ : ∃ q : Int, q = (bif decide (x ≥ 4294967296) then 32 else 0) := ⟨_, rfl⟩
 replace H := H n hq4
 refine xk (fun ρ h' => h = h' ∧ Has ρ [(0, (.int .u64 a2)), (2, (.int .i64 n))]) ?_ ?_
 ·refine xs (xr ?_)
  refine lv rfl rfl (vm rfl) (lv rfl rfl (vr rfl rfl rfl) ?_)
  refine ln (qn ?_)
  refine xc (b := decide (x ≥ 4294967296)) rfl (fun a4 => ?_) (fun a4 => ?_)
  ·refine xs (xr ?_)
   refine lv rfl rfl (vm rfl) (lv rfl rfl (v := (.int .u64 (Int.fdiv x (2 ^ min (Int.toNat 32) 64)))) (hv_shift rfl rfl (by decide) rfl) (lv rfl rfl (va rfl) ?_))
   refine ln (qn (xr ?_))
   refine lv rfl rfl (va rfl) ?_
   refine ln (qn ?_)
   exact ⟨rfl, (hc (show ((.int .u64 (Int.fdiv x (2 ^ min (Int.toNat 32) 64))) : Value) = (.int .u64 a2) from (by first | rfl | ((try rw [a4]); (try rw [hq3]); (try rw [hq4]); (try rw [a4]); all_goals first | rfl | (simp only [Bool.true_or, Bool.or_true, Bool.false_or, Bool.or_false, Bool.true_and, Bool.and_true, Bool.false_and, Bool.and_false, Bool.not_true, Bool.not_false, Bool.cond_true, Bool.cond_false]; done)) | simp [a4, hq3, hq4, a4])) (hc (show ((.int .i64 32) : Value) = (.int .i64 n) from (by first | rfl | ((try rw [a4]); (try rw [hq3]); (try rw [hq4]); (try rw [a4]); all_goals first | rfl | (simp only [Bool.true_or, Bool.or_true, Bool.false_or, Bool.or_false, Bool.true_and, Bool.and_true, Bool.false_and, Bool.and_false, Bool.not_true, Bool.not_false, Bool.cond_true, Bool.cond_false]; done)) | simp [a4, hq3, hq4, a4])) hn))⟩
  ·refine xi (qn ?_)
   exact ⟨rfl, (hc (show ((.int .u64 x) : Value) = (.int .u64 a2) from (by first | rfl | ((try rw [a4]); (try rw [hq3]); (try rw [hq4]); (try rw [a4]); all_goals first | rfl | (simp only [Bool.true_or, Bool.or_true, Bool.false_or, Bool.or_false, Bool.true_and, Bool.and_true, Bool.false_and, Bool.and_false, Bool.not_true, Bool.not_false, Bool.cond_true, Bool.cond_false]; done)) | simp [a4, hq3, hq4, a4])) (hc (show ((.int .i64 0) : Value) = (.int .i64 n) from (by first | rfl | ((try rw [a4]); (try rw [hq3]); (try rw [hq4]); (try rw [a4]); all_goals first | rfl | (simp only [Bool.true_or, Bool.or_true, Bool.false_or, Bool.or_false, Bool.true_and, Bool.and_true, Bool.false_and, Bool.and_false, Bool.not_true, Bool.not_false, Bool.cond_true, Bool.cond_false]; done)) | simp [a4, hq3, hq4, a4])) hn))⟩
 ·rintro ρ _ ⟨rfl, hH⟩
  refine xh _ hH ?_
  obtain ⟨a3, hq8⟩ : ∃ q : Int, q = (bif decide (a2 ≥ 65536) then Int.fdiv a2 (2 ^ min (Int.toNat 16) 64) else a2) := ⟨_, rfl⟩
  replace H := H a3 hq8
  obtain ⟨a5, hq9⟩ : ∃ q : Int, q = (bif decide (a2 ≥ 65536) then IntKind.i64.wrap (n + 16) else n) := ⟨_, rfl⟩
  replace H := H a5 hq9
  refine xk (fun ρ h' => h = h' ∧ Has ρ [(0, (.int .u64 a3)), (2, (.int .i64 a5))]) ?_ ?_
  ·refine xs (xr ?_)
   refine lv rfl rfl (vm rfl) (lv rfl rfl (vr rfl rfl rfl) ?_)
   refine ln (qn ?_)
   refine xc (b := decide (a2 ≥ 65536)) rfl (fun a1 => ?_) (fun a1 => ?_)
   ·refine xs (xr ?_)
    refine lv rfl rfl (vm rfl) (lv rfl rfl (v := (.int .u64 (Int.fdiv a2 (2 ^ min (Int.toNat 16) 64)))) (hv_shift rfl rfl (by decide) rfl) (lv rfl rfl (va rfl) ?_))
    refine ln (qn (xr ?_))
    refine lv rfl rfl (vm rfl) (lv rfl rfl (vr rfl rfl rfl) (lv rfl rfl (va rfl) ?_))
    refine ln (qn ?_)
    exact ⟨rfl, (hc (show ((.int .u64 (Int.fdiv a2 (2 ^ min (Int.toNat 16) 64))) : Value) = (.int .u64 a3) from (by first | rfl | ((try rw [a1]); (try rw [hq8]); (try rw [hq9]); (try rw [a1]); all_goals first | rfl | (simp only [Bool.true_or, Bool.or_true, Bool.false_or, Bool.or_false, Bool.true_and, Bool.and_true, Bool.false_and, Bool.and_false, Bool.not_true, Bool.not_false, Bool.cond_true, Bool.cond_false]; done)) | simp [a1, hq8, hq9, a1])) (hc (show ((.int .i64 (IntKind.i64.wrap (n + 16))) : Value) = (.int .i64 a5) from (by first | rfl | ((try rw [a1]); (try rw [hq8]); (try rw [hq9]); (try rw [a1]); all_goals first | rfl | (simp only [Bool.true_or, Bool.or_true, Bool.false_or, Bool.or_false, Bool.true_and, Bool.and_true, Bool.false_and, Bool.and_false, Bool.not_true, Bool.not_false, Bool.cond_true, Bool.cond_false]; done)) | simp [a1, hq8, hq9, a1])) hn))⟩
   ·refine xi (qn ?_)
    exact ⟨rfl, (hc (show ((.int .u64 a2) : Value) = (.int .u64 a3) from (by first | rfl | ((try rw [a1]); (try rw [hq8]); (try rw [hq9]); (try rw [a1]); all_goals first | rfl | (simp only [Bool.true_or, Bool.or_true, Bool.false_or, Bool.or_false, Bool.true_and, Bool.and_true, Bool.false_and, Bool.and_false, Bool.not_true, Bool.not_false, Bool.cond_true, Bool.cond_false]; done)) | simp [a1, hq8, hq9, a1])) (hc (show ((.int .i64 n) : Value) = (.int .i64 a5) from (by first | rfl | ((try rw [a1]); (try rw [hq8]); (try rw [hq9]); (try rw [a1]); all_goals first | rfl | (simp only [Bool.true_or, Bool.or_true, Bool.false_or, Bool.or_false, Bool.true_and, Bool.and_true, Bool.false_and, Bool.and_false, Bool.not_true, Bool.not_false, Bool.cond_true, Bool.cond_false]; done)) | simp [a1, hq8, hq9, a1])) hn))⟩
  ·rintro ρ _ ⟨rfl, hH⟩
   refine xh _ hH ?_
   obtain ⟨a6, hq13⟩ : ∃ q : Int, q = (bif decide (a3 ≥ 256) then Int.fdiv a3 (2 ^ min (Int.toNat 8) 64) else a3) := ⟨_, rfl⟩
   replace H := H a6 hq13
   obtain ⟨a7, hq14⟩ : ∃ q : Int, q = (bif decide (a3 ≥ 256) then IntKind.i64.wrap (a5 + 8) else a5) := ⟨_, rfl⟩
   replace H := H a7 hq14
   refine xk (fun ρ h' => h = h' ∧ Has ρ [(0, (.int .u64 a6)), (2, (.int .i64 a7))]) ?_ ?_
   ·refine xs (xr ?_)
    refine lv rfl rfl (vm rfl) (lv rfl rfl (vr rfl rfl rfl) ?_)
    refine ln (qn ?_)
    refine xc (b := decide (a3 ≥ 256)) rfl (fun a0 => ?_) (fun a0 => ?_)
    ·refine xs (xr ?_)
     refine lv rfl rfl (vm rfl) (lv rfl rfl (v := (.int .u64 (Int.fdiv a3 (2 ^ min (Int.toNat 8) 64)))) (hv_shift rfl rfl (by decide) rfl) (lv rfl rfl (va rfl) ?_))
     refine ln (qn (xr ?_))
     refine lv rfl rfl (vm rfl) (lv rfl rfl (vr rfl rfl rfl) (lv rfl rfl (va rfl) ?_))
     refine ln (qn ?_)
     exact ⟨rfl, (hc (show ((.int .u64 (Int.fdiv a3 (2 ^ min (Int.toNat 8) 64))) : Value) = (.int .u64 a6) from (by first | rfl | ((try rw [a0]); (try rw [hq13]); (try rw [hq14]); (try rw [a0]); all_goals first | rfl | (simp only [Bool.true_or, Bool.or_true, Bool.false_or, Bool.or_false, Bool.true_and, Bool.and_true, Bool.false_and, Bool.and_false, Bool.not_true, Bool.not_false, Bool.cond_true, Bool.cond_false]; done)) | simp [a0, hq13, hq14, a0])) (hc (show ((.int .i64 (IntKind.i64.wrap (a5 + 8))) : Value) = (.int .i64 a7) from (by first | rfl | ((try rw [a0]); (try rw [hq13]); (try rw [hq14]); (try rw [a0]); all_goals first | rfl | (simp only [Bool.true_or, Bool.or_true, Bool.false_or, Bool.or_false, Bool.true_and, Bool.and_true, Bool.false_and, Bool.and_false, Bool.not_true, Bool.not_false, Bool.cond_true, Bool.cond_false]; done)) | simp [a0, hq13, hq14, a0])) hn))⟩
    ·refine xi (qn ?_)
     exact ⟨rfl, (hc (show ((.int .u64 a3) : Value) = (.int .u64 a6) from (by first | rfl | ((try rw [a0]); (try rw [hq13]); (try rw [hq14]); (try rw [a0]); all_goals first | rfl | (simp only [Bool.true_or, Bool.or_true, Bool.false_or, Bool.or_false, Bool.true_and, Bool.and_true, Bool.false_and, Bool.and_false, Bool.not_true, Bool.not_false, Bool.cond_true, Bool.cond_false]; done)) | simp [a0, hq13, hq14, a0])) (hc (show ((.int .i64 a5) : Value) = (.int .i64 a7) from (by first | rfl | ((try rw [a0]); (try rw [hq13]); (try rw [hq14]); (try rw [a0]); all_goals first | rfl | (simp only [Bool.true_or, Bool.or_true, Bool.false_or, Bool.or_false, Bool.true_and, Bool.and_true, Bool.false_and, Bool.and_false, Bool.not_true, Bool.not_false, Bool.cond_true, Bool.cond_false]; done)) | simp [a0, hq13, hq14, a0])) hn))⟩
   ·rintro ρ _ ⟨rfl, hH⟩
    refine xh _ hH ?_
    refine xs (xr ?_)
    refine lv rfl rfl (vm rfl) (lv rfl rfl (vm rfl) (lv rfl rfl (v := (.int .u8 (IntKind.u8.wrap a6))) (hv_convInt TyTS.u31 TyTS.u5 rfl) ?_))
    obtain ⟨a9, u, a8, H⟩ := H
    refine lv rfl rfl (v := (.int .u8 (UInt8.toNat u : Int))) (hv_indexStr TyTS.u9 rfl rfl a9 a8) (lv rfl rfl (v := (.int .i64 (IntKind.i64.wrap (UInt8.toNat u : Int)))) (hv_convInt TyTS.u5 TyTS.u3 rfl) (lv rfl rfl (vr rfl rfl rfl) (lv rfl rfl (va rfl) ?_)))
    refine ln (qn (xt ?_))
    exact endQ_ret _ (res_one Try.results89 (rv_tmp rfl)) H
theorem f70_sh (a8 : Option Addr) (a4 : Nat) (a5 : Nat) (a : Int) (b : Int) (c1 : Int) (h : Heap) (R : Value → Heap → Prop)
  (H : (∃ (I1 : Int → Int → Int → Bool → Bool → Heap → Prop) (c0 : Int → Int → Int → Bool → Bool → Heap → Nat), I1 a b c1 true true h ∧ (∀ (a2 : Int) (a3 : Int) (a9 : Int) (a1 : Bool) (a0 : Bool) (h1 : Heap), I1 a2 a3 a9 a1 a0 h1 → (((decide ((IntKind.i64.wrap (a3 - a2)) ≤ 12)) = true → HC Try.prog 79 #[(.slice a8 a4 a5), (.int .i64 a2), (.int .i64 a3)] h1 (fun vv h2 => vv = (.tuple #[]) ∧ R (.tuple #[]) h2)) ∧ ((decide ((IntKind.i64.wrap (a3 - a2)) ≤ 12)) = false → (((a9 == 0) = true → HC Try.prog 80 #[(.slice a8 a4 a5), (.int .i64 a2), (.int .i64 a3)] h1 (fun vv h3 => vv = (.tuple #[]) ∧ R (.tuple #[]) h3)) ∧ ((a9 == 0) = false → (∃ c8 : Int → Heap → Prop, (((!a1) = true → HC Try.prog 81 #[(.slice a8 a4 a5), (.int .i64 a2), (.int .i64 a3)] h1 (fun vv h5 => vv = (.tuple #[]) ∧ (c8 (IntKind.i64.wrap (a9 - 1)) h5))) ∧ ((!a1) = false → (c8 a9 h1))) ∧ (∀ (a7 : Int) (h4 : Heap), c8 a7 h4 → HC Try.prog 82 #[(.slice a8 a4 a5), (.int .i64 a2), (.int .i64 a3)] h4 (fun vv h6 => ∃ r0 r1 : Int, vv = (.tuple #[(.int .i64 r0), (.int .i64 r1)]) ∧ (∃ c7 : Int → Int → Heap → Prop, (((r1 == 2) = true → HC Try.prog 83 #[(.slice a8 a4 a5), (.int .i64 a2), (.int .i64 a3)] h6 (fun vv h8 => vv = (.tuple #[]) ∧ (c7 (IntKind.i64.wrap ((IntKind.i64.wrap (a3 - 1)) - (IntKind.i64.wrap (r0 - a2)))) 1 h8))) ∧ ((r1 == 2) = false → (c7 r0 r1 h6))) ∧ (∀ (b1 : Int) (b2 : Int) (h7 : Heap), c7 b1 b2 h7 → (∃ c4 : Heap → Prop, (((a1 && (a0 && (b2 == 1))) = true → HC Try.prog 84 #[(.slice a8 a4 a5), (.int .i64 a2), (.int .i64 a3)] h7 (fun vv e9 => ∃ r : Bool, vv = (.bool r) ∧ ((r = true → R (.tuple #[]) e9) ∧ (r = false → (c4 e9))))) ∧ ((a1 && (a0 && (b2 == 1))) = false → (c4 h7))) ∧ (∀ (h9 : Heap), c4 h9 → (∃ c6 : Bool → Heap → Prop, (((decide (a2 > 0)) = true → (∃ b6 b5 : Nat, a8 = some ⟨b6, b5, none⟩ ∧ (0 : Int) ≤ IntKind.i64.wrap (a2 - 1) ∧ IntKind.i64.wrap (a2 - 1) < (a4 : Int) ∧ (∃ x : ByteArray, hcell h9 b6 (b5 + (Int.toNat (IntKind.i64.wrap (a2 - 1))) * 1) = some (.string x) ∧ ((0 : Int) ≤ b1 ∧ b1 < (a4 : Int) ∧ (∃ c3 : ByteArray, hcell h9 b6 (b5 + (Int.toNat b1) * 1) = some (.string c3) ∧ HC Try.prog 85 #[(.string x), (.string c3)] h9 (fun vv f0 => ∃ c2 : Bool, vv = (.bool c2) ∧ (c6 (!c2) f0))))))) ∧ ((decide (a2 > 0)) = false → (c6 false h9))) ∧ (∀ (b8 : Bool) (c5 : Heap), c6 b8 c5 → ((b8 = true → HC Try.prog 86 #[(.slice a8 a4 a5), (.int .i64 a2), (.int .i64 a3), (.int .i64 b1)] c5 (fun vv e6 => ∃ b9 : Int, vv = (.int .i64 b9) ∧ (I1 b9 a3 a7 a1 a0 e6 ∧ c0 b9 a3 a7 a1 a0 e6 < c0 a2 a3 a9 a1 a0 h1))) ∧ (b8 = false → HC Try.prog 87 #[(.slice a8 a4 a5), (.int .i64 a2), (.int .i64 a3), (.int .i64 b1)] c5 (fun vv e1 => ∃ a6 : Int, ∃ b3 : Bool, vv = (.tuple #[(.int .i64 a6), (.bool b3)]) ∧ (((decide ((IntKind.i64.wrap (a6 - a2)) < (IntKind.i64.wrap (a3 - a6)))) = true → HC Try.prog 70 #[(.slice a8 a4 a5), (.int .i64 a2), (.int .i64 a6), (.int .i64 a7)] e1 (fun vv e3 => vv = (.tuple #[]) ∧ (I1 (IntKind.i64.wrap (a6 + 1)) a3 a7 (decide ((IntKind.i64.wrap (a6 - a2)) ≥ (IntKind.i64.wrap (Int.tdiv (IntKind.i64.wrap (a3 - a2)) 8)))) b3 e3 ∧ c0 (IntKind.i64.wrap (a6 + 1)) a3 a7 (decide ((IntKind.i64.wrap (a6 - a2)) ≥ (IntKind.i64.wrap (Int.tdiv (IntKind.i64.wrap (a3 - a2)) 8)))) b3 e3 < c0 a2 a3 a9 a1 a0 h1))) ∧ ((decide ((IntKind.i64.wrap (a6 - a2)) < (IntKind.i64.wrap (a3 - a6)))) = false → HC Try.prog 70 #[(.slice a8 a4 a5), (.int .i64 (IntKind.i64.wrap (a6 + 1))), (.int .i64 a3), (.int .i64 a7)] e1 (fun vv e7 => vv = (.tuple #[]) ∧ (I1 a2 a6 a7 (decide ((IntKind.i64.wrap (a3 - a6)) ≥ (IntKind.i64.wrap (Int.tdiv (IntKind.i64.wrap (a3 - a2)) 8)))) b3 e7 ∧ c0 a2 a6 a7 (decide ((IntKind.i64.wrap (a3 - a6)) ≥ (IntKind.i64.wrap (Int.tdiv (IntKind.i64.wrap (a3 - a2)) 8)))) b3 e7 < c0 a2 a3 a9 a1 a0 h1))))))))))))))))))))))) :
  HC Try.prog 70 #[(.slice a8 a4 a5), (.int .i64 a), (.int .i64 b), (.int .i64 c1)] h R := by
 refine hc_of (args := [(.slice a8 a4 a5), (.int .i64 a), (.int .i64 b), (.int .i64 c1)]) Try.func70 rfl Try.ntmps70 (Nat.le_of_ble_eq_true rfl) ?_
 refine xs (xr ?_)
 refine lv rfl rfl (va rfl) ?_
 refine ln (qn (xs (xr ?_)))
 refine lv rfl rfl (va rfl) ?_
 refine ln (qn (xb ?_))
 obtain ⟨I1, c0, g2, g3⟩ := H
 refine xl (σ := Int × Int × Int × Bool × Bool) (fun s => [(0, (.slice a8 a4 a5)), (1, (.int .i64 s.1)), (2, (.int .i64 s.2.1)), (3, (.int .i64 s.2.2.1)), (8, (.bool s.2.2.2.1)), (9, (.bool s.2.2.2.2))]) (fun s h' => I1 s.1 s.2.1 s.2.2.1 s.2.2.2.1 s.2.2.2.2 h' ∧ True) (fun s h' => c0 s.1 s.2.1 s.2.2.1 s.2.2.2.1 s.2.2.2.2 h') (a, b, c1, true, true) ⟨g2, trivial⟩ (hc rfl (hc rfl (hc rfl (hc rfl (hc rfl (hc rfl hn)))))) ?_
 rintro ⟨a2, a3, a9, a1, a0⟩ ρ h1 ⟨g1, -⟩
 have H := g3 a2 a3 a9 a1 a0 h1 g1
 refine xb (xs (xr ?_))
 refine lv rfl rfl (vm rfl) (lv rfl rfl (vm rfl) (lv rfl rfl (vr rfl rfl rfl) (lv rfl rfl (va rfl) ?_)))
 refine ln (qn (xs (xs (xr ?_))))
 refine lv rfl rfl (vm rfl) (lv rfl rfl (vr rfl rfl rfl) ?_)
 refine ln (qn ?_)
 refine xc (b := decide ((IntKind.i64.wrap (a3 - a2)) ≤ 12)) rfl (fun e4 => ?_) (fun e4 => ?_)
 ·replace H := H.1 e4
  refine xs (xr ?_)
  refine lv rfl rfl (vm rfl) (lv rfl rfl (vm rfl) (lv rfl rfl (vm rfl) ?_))
  refine lp rfl rfl (sc TyTS.cb79 rfl (HC.mono H ?_))
  rintro _ h2 ⟨rfl, H⟩
  refine ln (qn (xt (qr (br (qr (br ?_))))))
  exact endQ_ret _ (res_none Try.results70 ) H
 ·replace H := H.2 e4
  refine xi (qn (xs (xs (xr ?_))))
  refine lv rfl rfl (vm rfl) (lv rfl rfl (vr rfl rfl rfl) ?_)
  refine ln (qn ?_)
  refine xc (b := a9 == 0) rfl (fun e8 => ?_) (fun e8 => ?_)
  ·replace H := H.1 e8
   refine xs (xr ?_)
   refine lv rfl rfl (vm rfl) (lv rfl rfl (vm rfl) (lv rfl rfl (vm rfl) ?_))
   refine lp rfl rfl (sc TyTS.cb80 rfl (HC.mono H ?_))
   rintro _ h3 ⟨rfl, H⟩
   refine ln (qn (xt (qr (br (qr (br ?_))))))
   exact endQ_ret _ (res_none Try.results70 ) H
  ·replace H := H.2 e8
   refine xi (qn ?_)
   obtain ⟨c8, e5, e2⟩ := H
   refine xk (fun ρ h' => ∃ a7 : Int, (c8 a7 h' ∧ True) ∧ Has ρ [(0, (.slice a8 a4 a5)), (1, (.int .i64 a2)), (2, (.int .i64 a3)), (3, (.int .i64 a7)), (8, (.bool a1)), (9, (.bool a0)), (10, (.int .i64 (IntKind.i64.wrap (a3 - a2))))]) ?_ ?_
   ·have H := e5; clear e5 e2
    refine xs (xr ?_)
    refine lv rfl rfl (vm rfl) (lv rfl rfl (v := (.bool (!a1))) (hv_not (b := a1) rfl) ?_)
    refine ln (qn ?_)
    refine xc (b := !a1) rfl (fun d6 => ?_) (fun d6 => ?_)
    ·replace H := H.1 d6
     refine xs (xr ?_)
     refine lv rfl rfl (vm rfl) (lv rfl rfl (vm rfl) (lv rfl rfl (vm rfl) ?_))
     refine lp rfl rfl (sc TyTS.cb81 rfl (HC.mono H ?_))
     rintro _ h5 ⟨rfl, H⟩
     refine ln (qn (xr ?_))
     refine lv rfl rfl (vm rfl) (lv rfl rfl (vr rfl rfl rfl) (lv rfl rfl (va rfl) ?_))
     refine ln (qn ?_)
     exact ⟨_, ⟨H, trivial⟩, (hc rfl (hc rfl (hc rfl (hc rfl (hc rfl (hc rfl (hc rfl hn)))))))⟩
    ·replace H := H.2 d6
     refine xi (qn ?_)
     exact ⟨_, ⟨H, trivial⟩, (hc rfl (hc rfl (hc rfl (hc rfl (hc rfl (hc rfl (hc rfl hn)))))))⟩
   ·rintro ρ h4 ⟨a7, ⟨f5, -⟩, hH⟩
    have H := e2 a7 h4 f5; clear e5 e2
    refine xh _ hH ?_
    refine xs (xr ?_)
    refine lv rfl rfl (vm rfl) (lv rfl rfl (vm rfl) (lv rfl rfl (vm rfl) ?_))
    refine lp rfl rfl (sc TyTS.cb82 rfl (HC.mono H ?_))
    rintro _ h6 ⟨r0, r1, rfl, H⟩
    refine lv rfl rfl (vm rfl) (lv rfl rfl (vx rfl rfl) (lv rfl rfl (vx rfl rfl) (lv rfl rfl (va rfl) (lv rfl rfl (va rfl) ?_))))
    refine ln (qn ?_)
    obtain ⟨c7, d5, d7⟩ := H
    refine xk (fun ρ h' => ∃ b1 b2 : Int, (c7 b1 b2 h' ∧ True) ∧ Has ρ [(0, (.slice a8 a4 a5)), (1, (.int .i64 a2)), (2, (.int .i64 a3)), (3, (.int .i64 a7)), (8, (.bool a1)), (9, (.bool a0)), (10, (.int .i64 (IntKind.i64.wrap (a3 - a2)))), (11, (.int .i64 b1)), (12, (.int .i64 b2))]) ?_ ?_
    ·have H := d5; clear d5 d7
     refine xs (xr ?_)
     refine lv rfl rfl (vm rfl) (lv rfl rfl (vr rfl rfl rfl) ?_)
     refine ln (qn ?_)
     refine xc (b := r1 == 2) rfl (fun d2 => ?_) (fun d2 => ?_)
     ·replace H := H.1 d2
      refine xs (xr ?_)
      refine lv rfl rfl (vm rfl) (lv rfl rfl (vm rfl) (lv rfl rfl (vm rfl) ?_))
      refine lp rfl rfl (sc TyTS.cb83 rfl (HC.mono H ?_))
      rintro _ h8 ⟨rfl, H⟩
      refine ln (qn (xs (xr ?_)))
      refine lv rfl rfl (vm rfl) (lv rfl rfl (vr rfl rfl rfl) (lv rfl rfl (vm rfl) (lv rfl rfl (vm rfl) (lv rfl rfl (vr rfl rfl rfl) (lv rfl rfl (vr rfl rfl rfl) ?_)))))
      refine lv rfl rfl (va rfl) ?_
      refine ln (qn (xr ?_))
      refine lv rfl rfl (va rfl) ?_
      refine ln (qn ?_)
      exact ⟨_, _, ⟨H, trivial⟩, (hc rfl (hc rfl (hc rfl (hc rfl (hc rfl (hc rfl (hc rfl (hc rfl (hc rfl hn)))))))))⟩
     ·replace H := H.2 d2
      refine xi (qn ?_)
      exact ⟨_, _, ⟨H, trivial⟩, (hc rfl (hc rfl (hc rfl (hc rfl (hc rfl (hc rfl (hc rfl (hc rfl (hc rfl hn)))))))))⟩
    ·rintro ρ h7 ⟨b1, b2, ⟨f6, -⟩, hH⟩
     have H := d7 b1 b2 h7 f6; clear d5 d7
     refine xh _ hH ?_
     obtain ⟨c4, d3, c9⟩ := H
     refine xk (fun ρ h' => (c4 h' ∧ True) ∧ Has ρ [(0, (.slice a8 a4 a5)), (1, (.int .i64 a2)), (2, (.int .i64 a3)), (3, (.int .i64 a7)), (8, (.bool a1)), (9, (.bool a0)), (10, (.int .i64 (IntKind.i64.wrap (a3 - a2)))), (11, (.int .i64 b1))]) ?_ ?_
     ·have H := d3; clear d3 c9
      refine xk (fun ρ h' => h7 = h' ∧ Has ρ [(0, (.slice a8 a4 a5)), (1, (.int .i64 a2)), (2, (.int .i64 a3)), (3, (.int .i64 a7)), (8, (.bool a1)), (9, (.bool a0)), (10, (.int .i64 (IntKind.i64.wrap (a3 - a2)))), (11, (.int .i64 b1)), (68, (.bool (a1 && (a0 && (b2 == 1)))))]) ?_ ?_
      ·refine xr ?_
       refine lv rfl rfl (vm rfl) (lv rfl rfl (vm rfl) ?_)
       rcases bool_or (a1) with b7 | b7
       ·refine ly (wanted_y rfl rfl rfl b7) rfl (HStep.of_val (v := (.bool a0)) (vm rfl) ?_)
        refine lv rfl rfl (v := (.bool a0)) (hv_pick_t rfl b7 rfl) (lv rfl rfl (vm rfl) ?_)
        rcases bool_or (a0) with b4 | b4
        ·refine ly (wanted_y rfl rfl rfl b4) rfl (HStep.of_val (v := (.int .i64 b2)) (vm rfl) ?_)
         refine ly (wanted_y rfl rfl rfl b4) rfl (HStep.of_val (v := (.bool (b2 == 1))) (vr rfl rfl rfl) ?_)
         refine lv rfl rfl (v := (.bool (b2 == 1))) (hv_pick_t rfl b4 rfl) ?_
         refine ln (qn ?_)
         exact ⟨rfl, (hc rfl (hc rfl (hc rfl (hc rfl (hc rfl (hc rfl (hc rfl (hc rfl (hc (show ((.bool (b2 == 1)) : Value) = (.bool (a1 && (a0 && (b2 == 1)))) from (by first | rfl | ((try rw [b7]); (try rw [b4]); all_goals first | rfl | (simp only [Bool.true_or, Bool.or_true, Bool.false_or, Bool.or_false, Bool.true_and, Bool.and_true, Bool.false_and, Bool.and_false, Bool.not_true, Bool.not_false, Bool.cond_true, Bool.cond_false]; done)) | simp [b7, b4])) hn)))))))))⟩
        ·refine lo (wanted_n rfl rfl rfl b4) rfl ?_
         refine lo (wanted_n rfl rfl rfl b4) rfl ?_
         refine lv rfl rfl (v := (.bool false)) (hv_pick_f rfl b4 rfl) ?_
         refine ln (qn ?_)
         exact ⟨rfl, (hc rfl (hc rfl (hc rfl (hc rfl (hc rfl (hc rfl (hc rfl (hc rfl (hc (show ((.bool false) : Value) = (.bool (a1 && (a0 && (b2 == 1)))) from (by first | rfl | ((try rw [b7]); (try rw [b4]); all_goals first | rfl | (simp only [Bool.true_or, Bool.or_true, Bool.false_or, Bool.or_false, Bool.true_and, Bool.and_true, Bool.false_and, Bool.and_false, Bool.not_true, Bool.not_false, Bool.cond_true, Bool.cond_false]; done)) | simp [b7, b4])) hn)))))))))⟩
       ·refine lo (wanted_n rfl rfl rfl b7) rfl ?_
        refine lv rfl rfl (v := (.bool false)) (hv_pick_f rfl b7 rfl) (lv rfl rfl (vm rfl) ?_)
        refine lo (wanted_n rfl rfl (c := false) rfl rfl) rfl ?_
        refine lo (wanted_n rfl rfl (c := false) rfl rfl) rfl ?_
        refine lv rfl rfl (v := (.bool false)) (hv_pick (t := false) rfl rfl) ?_
        refine ln (qn ?_)
        exact ⟨rfl, (hc rfl (hc rfl (hc rfl (hc rfl (hc rfl (hc rfl (hc rfl (hc rfl (hc (show ((.bool false) : Value) = (.bool (a1 && (a0 && (b2 == 1)))) from (by first | rfl | ((try rw [b7]); all_goals first | rfl | (simp only [Bool.true_or, Bool.or_true, Bool.false_or, Bool.or_false, Bool.true_and, Bool.and_true, Bool.false_and, Bool.and_false, Bool.not_true, Bool.not_false, Bool.cond_true, Bool.cond_false]; done)) | simp [b7])) hn)))))))))⟩
      ·rintro ρ _ ⟨rfl, hH⟩
       refine xh _ hH ?_
       refine xc (b := (a1 && (a0 && (b2 == 1)))) rfl (fun d1 => ?_) (fun d1 => ?_)
       ·replace H := H.1 d1
        refine xs (xr ?_)
        refine lv rfl rfl (vm rfl) (lv rfl rfl (vm rfl) (lv rfl rfl (vm rfl) ?_))
        refine lp rfl rfl (sc TyTS.cb84 rfl (HC.mono H ?_))
        rintro _ e9 ⟨r, rfl, H⟩
        refine ln (qn ?_)
        refine xc (b := r) rfl (fun d0 => ?_) (fun d0 => ?_)
        ·replace H := H.1 d0
         refine xt (qr (br (qr (br ?_))))
         exact endQ_ret _ (res_none Try.results70 ) H
        ·replace H := H.2 d0
         refine xi (qn ?_)
         exact ⟨⟨H, trivial⟩, (hc rfl (hc rfl (hc rfl (hc rfl (hc rfl (hc rfl (hc rfl (hc rfl hn))))))))⟩
       ·replace H := H.2 d1
        refine xi (qn ?_)
        exact ⟨⟨H, trivial⟩, (hc rfl (hc rfl (hc rfl (hc rfl (hc rfl (hc rfl (hc rfl (hc rfl hn))))))))⟩
     ·rintro ρ h9 ⟨⟨f8, -⟩, hH⟩
      have H := c9 h9 f8; clear d3 c9
      refine xh _ hH ?_
      refine xs ?_
      obtain ⟨c6, d4, e0⟩ := H
      refine xk (fun ρ h' => ∃ b8 : Bool, (c6 b8 h' ∧ True) ∧ Has ρ [(0, (.slice a8 a4 a5)), (1, (.int .i64 a2)), (2, (.int .i64 a3)), (3, (.int .i64 a7)), (8, (.bool a1)), (9, (.bool a0)), (10, (.int .i64 (IntKind.i64.wrap (a3 - a2)))), (11, (.int .i64 b1)), (87, (.bool b8))]) ?_ ?_
      ·have H := d4; clear d4 e0
       refine hx_draw TyTS.mixed [.pure, .pure, .pure, .pure, .pure, .pure, .pure, .read, .pure, .pure, .pure, .read, .wild, .pure, .pure] [0, 1, 2, 3, 4, 5, 6, 7, 8, 9, 10, 11, 12, 13, 14] (by kernel_rfl) ?_
       refine pp (i := 0) rfl (wanted_0 rfl) rfl (.int .i64 a2) (fun _ => vm rfl) ?_
       refine pp (i := 1) rfl (wanted_0 rfl) rfl (.bool (decide (a2 > 0))) (fun _ => vr rfl rfl rfl) ?_
       refine pp (i := 2) rfl (wanted_0 rfl) rfl (.bool (decide (a2 > 0))) (fun _ => vm rfl) ?_
       rcases bool_or (decide (a2 > 0)) with b0 | b0
       ·replace H := H.1 b0
        refine pp (i := 3) rfl (wanted_y rfl rfl rfl b0) rfl (.slice a8 a4 a5) (fun _ => vm rfl) ?_
        refine pp (i := 4) rfl (wanted_y rfl rfl rfl b0) rfl (.int .i64 a2) (fun _ => vm rfl) ?_
        refine pp (i := 5) rfl (wanted_y rfl rfl rfl b0) rfl (.int .i64 (IntKind.i64.wrap (a2 - 1))) (fun _ => vr rfl rfl rfl) ?_
        obtain ⟨b6, b5, g4, f7, f4, Hq⟩ := H
        subst g4
        have H := Hq; clear Hq
        refine pp (i := 6) rfl (wanted_y rfl rfl rfl b0) rfl (ptr b6 (b5 + (Int.toNat (IntKind.i64.wrap (a2 - 1))) * 1)) (fun _ => vi TyTS.el82 rfl rfl f7 f4) ?_
        obtain ⟨x, g0, H⟩ := H
        refine pr (i := 7) rfl (wanted_y rfl rfl rfl b0) rfl (.string x) (fun _ he => vl TyTS.agg9 rfl (Ext.cell he g0)) ?_
        refine pp (i := 8) rfl (wanted_y rfl rfl rfl b0) rfl (.slice (some ⟨b6, b5, none⟩) a4 a5) (fun _ => vm rfl) ?_
        refine pp (i := 9) rfl (wanted_y rfl rfl rfl b0) rfl (.int .i64 b1) (fun _ => vm rfl) ?_
        obtain ⟨f9, f1, H⟩ := H
        refine pp (i := 10) rfl (wanted_y rfl rfl rfl b0) rfl (ptr b6 (b5 + (Int.toNat b1) * 1)) (fun _ => vi TyTS.el82 rfl rfl f9 f1) ?_
        obtain ⟨c3, f3, H⟩ := H
        refine pr (i := 11) rfl (wanted_y rfl rfl rfl b0) rfl (.string c3) (fun _ he => vl TyTS.agg9 rfl (Ext.cell he f3)) ?_
        refine hp_wild (i := 12) rfl (wanted_y rfl rfl rfl b0) rfl (sc TyTS.cb85 rfl (HC.mono H ?_))
        rintro _ f0 ⟨c2, rfl, H⟩
        refine pp (i := 13) rfl (wanted_y rfl rfl rfl b0) rfl (.bool (!c2)) (fun _ => hv_not (b := c2) rfl) ?_
        refine pp (i := 14) rfl (wanted_0 rfl) rfl (.bool (!c2)) (fun _ => hv_pick_t rfl b0 rfl) ?_
        refine hp_nil ?_
        refine qn ?_
        exact ⟨_, ⟨H, trivial⟩, (hc rfl (hc rfl (hc rfl (hc rfl (hc rfl (hc rfl (hc rfl (hc rfl (hc rfl hn)))))))))⟩
       ·replace H := H.2 b0
        refine pn (i := 3) rfl (wanted_n rfl rfl rfl b0) ?_
        refine pn (i := 4) rfl (wanted_n rfl rfl rfl b0) ?_
        refine pn (i := 5) rfl (wanted_n rfl rfl rfl b0) ?_
        refine pn (i := 6) rfl (wanted_n rfl rfl rfl b0) ?_
        refine pn (i := 7) rfl (wanted_n rfl rfl rfl b0) ?_
        refine pn (i := 8) rfl (wanted_n rfl rfl rfl b0) ?_
        refine pn (i := 9) rfl (wanted_n rfl rfl rfl b0) ?_
        refine pn (i := 10) rfl (wanted_n rfl rfl rfl b0) ?_
        refine pn (i := 11) rfl (wanted_n rfl rfl rfl b0) ?_
        refine pn (i := 12) rfl (wanted_n rfl rfl rfl b0) ?_
        refine pn (i := 13) rfl (wanted_n rfl rfl rfl b0) ?_
        refine pp (i := 14) rfl (wanted_0 rfl) rfl (.bool false) (fun _ => hv_pick_f rfl b0 rfl) ?_
        refine hp_nil ?_
        refine qn ?_
        exact ⟨_, ⟨H, trivial⟩, (hc rfl (hc rfl (hc rfl (hc rfl (hc rfl (hc rfl (hc rfl (hc rfl (hc rfl hn)))))))))⟩
      ·rintro ρ c5 ⟨b8, ⟨f2, -⟩, hH⟩
       have H := e0 b8 c5 f2; clear d4 e0
       refine xh _ hH ?_
       refine xc (b := b8) rfl (fun d9 => ?_) (fun d9 => ?_)
       ·replace H := H.1 d9
        refine xs (xr ?_)
        refine lv rfl rfl (vm rfl) (lv rfl rfl (vm rfl) (lv rfl rfl (vm rfl) (lv rfl rfl (vm rfl) ?_)))
        refine lp rfl rfl (sc TyTS.cb86 rfl (HC.mono H ?_))
        rintro _ e6 ⟨b9, rfl, H⟩
        refine lv rfl rfl (va rfl) ?_
        refine ln (qn (xs (xr ?_)))
        refine lv rfl rfl (vm rfl) (lv rfl rfl (va rfl) ?_)
        refine ln (qn (xe (qe (bh (qn ?_)))))
        exact ⟨(b9, a3, a7, a1, a0), ⟨⟨H.1, trivial⟩, H.2⟩, (hc rfl (hc rfl (hc rfl (hc rfl (hc rfl (hc rfl hn))))))⟩
       ·replace H := H.2 d9
        refine xi (qn (xs (xr ?_)))
        refine lv rfl rfl (vm rfl) (lv rfl rfl (vm rfl) (lv rfl rfl (vm rfl) (lv rfl rfl (vm rfl) ?_)))
        refine lp rfl rfl (sc TyTS.cb87 rfl (HC.mono H ?_))
        rintro _ e1 ⟨a6, b3, rfl, H⟩
        refine lv rfl rfl (vm rfl) (lv rfl rfl (vx rfl rfl) (lv rfl rfl (vx rfl rfl) (lv rfl rfl (va rfl) (lv rfl rfl (va rfl) ?_))))
        refine ln (qn (xs (xr ?_)))
        refine lv rfl rfl (vm rfl) (lv rfl rfl (va rfl) ?_)
        refine ln (qn (xs (xr ?_)))
        refine lv rfl rfl (vm rfl) (lv rfl rfl (vm rfl) (lv rfl rfl (vr rfl rfl rfl) (lv rfl rfl (vm rfl) (lv rfl rfl (vm rfl) (lv rfl rfl (vr rfl rfl rfl) ?_)))))
        refine lv rfl rfl (va rfl) (lv rfl rfl (va rfl) ?_)
        refine ln (qn (xs (xr ?_)))
        refine lv rfl rfl (vm rfl) (lv rfl rfl (v := (.int .i64 (IntKind.i64.wrap (Int.tdiv (IntKind.i64.wrap (a3 - a2)) 8)))) (hv_quo rfl rfl (by decide)) (lv rfl rfl (va rfl) ?_))
        refine ln (qn (xs (xr ?_)))
        refine lv rfl rfl (vm rfl) (lv rfl rfl (vm rfl) (lv rfl rfl (vr rfl rfl rfl) ?_))
        refine ln (qn ?_)
        refine xc (b := decide ((IntKind.i64.wrap (a6 - a2)) < (IntKind.i64.wrap (a3 - a6)))) rfl (fun d8 => ?_) (fun d8 => ?_)
        ·replace H := H.1 d8
         refine xs (xr ?_)
         refine lv rfl rfl (vm rfl) (lv rfl rfl (vm rfl) (lv rfl rfl (vr rfl rfl rfl) (lv rfl rfl (va rfl) ?_)))
         refine ln (qn (xs (xr ?_)))
         refine lv rfl rfl (vm rfl) (lv rfl rfl (vm rfl) (lv rfl rfl (vm rfl) (lv rfl rfl (vm rfl) ?_)))
         refine lp rfl rfl (sc TyTS.cb70 rfl (HC.mono H ?_))
         rintro _ e3 ⟨rfl, H⟩
         refine ln (qn (xr ?_))
         refine lv rfl rfl (vm rfl) (lv rfl rfl (vr rfl rfl rfl) (lv rfl rfl (va rfl) ?_))
         refine ln (bn (qn ?_))
         exact ⟨(IntKind.i64.wrap (a6 + 1), a3, a7, decide ((IntKind.i64.wrap (a6 - a2)) ≥ (IntKind.i64.wrap (Int.tdiv (IntKind.i64.wrap (a3 - a2)) 8))), b3), ⟨⟨H.1, trivial⟩, H.2⟩, (hc rfl (hc rfl (hc rfl (hc rfl (hc rfl (hc rfl hn))))))⟩
        ·replace H := H.2 d8
         refine xs (xr ?_)
         refine lv rfl rfl (vm rfl) (lv rfl rfl (vm rfl) (lv rfl rfl (vr rfl rfl rfl) (lv rfl rfl (va rfl) ?_)))
         refine ln (qn (xs (xr ?_)))
         refine lv rfl rfl (vm rfl) (lv rfl rfl (vm rfl) (lv rfl rfl (vr rfl rfl rfl) (lv rfl rfl (vm rfl) (lv rfl rfl (vm rfl) ?_))))
         refine lp rfl rfl (sc TyTS.cb70 rfl (HC.mono H ?_))
         rintro _ e7 ⟨rfl, H⟩
         refine ln (qn (xr ?_))
         refine lv rfl rfl (vm rfl) (lv rfl rfl (va rfl) ?_)
         refine ln (bn (qn ?_))
         exact ⟨(a2, a6, a7, decide ((IntKind.i64.wrap (a3 - a6)) ≥ (IntKind.i64.wrap (Int.tdiv (IntKind.i64.wrap (a3 - a2)) 8))), b3), ⟨⟨H.1, trivial⟩, H.2⟩, (hc rfl (hc rfl (hc rfl (hc rfl (hc rfl (hc rfl hn))))))⟩
theorem f79_sh (a7 : Option Addr) (a3 : Nat) (a4 : Nat) (a : Int) (b : Int) (h : Heap) (R : Value → Heap → Prop)
  (H : (∃ (I1 : Int → Heap → Prop) (b7 : Int → Heap → Nat), I1 (IntKind.i64.wrap (a + 1)) h ∧ (∀ (i : Int) (h1 : Heap), I1 i h1 → (((decide (i < b)) = true → (∃ (I7 : Int → Heap → Prop) (b6 : Int → Heap → Nat), I7 i h1 ∧ (∀ (j : Int) (h2 : Heap), I7 j h2 → (∃ a9 : Bool → Heap → Prop, (((decide (j > a)) = true → (∃ a5 a6 : Nat, a7 = some ⟨a5, a6, none⟩ ∧ (0 : Int) ≤ j ∧ j < (a3 : Int) ∧ (∃ x : ByteArray, hcell h2 a5 (a6 + (Int.toNat j) * 1) = some (.string x) ∧ ((0 : Int) ≤ IntKind.i64.wrap (j - 1) ∧ IntKind.i64.wrap (j - 1) < (a3 : Int) ∧ (∃ b0 : ByteArray, hcell h2 a5 (a6 + (Int.toNat (IntKind.i64.wrap (j - 1))) * 1) = some (.string b0) ∧ HC Try.prog 85 #[(.string x), (.string b0)] h2 (fun vv h4 => ∃ r : Bool, vv = (.bool r) ∧ (a9 r h4))))))) ∧ ((decide (j > a)) = false → (a9 false h2))) ∧ (∀ (a8 : Bool) (h3 : Heap), a9 a8 h3 → ((a8 = true → (∃ a0 a1 : Nat, a7 = some ⟨a0, a1, none⟩ ∧ (0 : Int) ≤ IntKind.i64.wrap (j - 1) ∧ IntKind.i64.wrap (j - 1) < (a3 : Int) ∧ (∃ b2 : ByteArray, hcell h3 a0 (a1 + (Int.toNat (IntKind.i64.wrap (j - 1))) * 1) = some (.string b2) ∧ ((0 : Int) ≤ j ∧ j < (a3 : Int) ∧ (∃ b1 : ByteArray, hcell h3 a0 (a1 + (Int.toNat j) * 1) = some (.string b1) ∧ (HW h3 a0 (a1 + (Int.toNat j) * 1) ∧ ∀ h5, h5 = hset h3 a0 (a1 + (Int.toNat j) * 1) (.string b2) → (HW h5 a0 (a1 + (Int.toNat (IntKind.i64.wrap (j - 1))) * 1) ∧ ∀ h6, h6 = hset h5 a0 (a1 + (Int.toNat (IntKind.i64.wrap (j - 1))) * 1) (.string b1) → (I7 (IntKind.i64.wrap (j - 1)) h6 ∧ b6 (IntKind.i64.wrap (j - 1)) h6 < b6 j h2)))))))) ∧ (a8 = false → (I1 (IntKind.i64.wrap (i + 1)) h3 ∧ b7 (IntKind.i64.wrap (i + 1)) h3 < b7 i h1)))))))) ∧ ((decide (i < b)) = false → R (.tuple #[]) h1))))) :
  HC Try.prog 79 #[(.slice a7 a3 a4), (.int .i64 a), (.int .i64 b)] h R := by
 refine hc_of (args := [(.slice a7 a3 a4), (.int .i64 a), (.int .i64 b)]) Try.func79 rfl Try.ntmps79 (Nat.le_of_ble_eq_true rfl) ?_
 refine xs (xr ?_)
 refine lv rfl rfl (vm rfl) (lv rfl rfl (vr rfl rfl rfl) (lv rfl rfl (va rfl) ?_))
 refine ln (qn (xb ?_))
 obtain ⟨I1, b7, e1, d9⟩ := H
 refine xl (σ := Int) (fun s => [(0, (.slice a7 a3 a4)), (1, (.int .i64 a)), (2, (.int .i64 b)), (6, (.int .i64 s))]) (fun s h' => I1 s h' ∧ True) (fun s h' => b7 s h') (IntKind.i64.wrap (a + 1)) ⟨e1, trivial⟩ (hc rfl (hc rfl (hc rfl (hc rfl hn)))) ?_
 rintro i ρ h1 ⟨e0, -⟩
 have H := d9 i h1 e0
 refine xs (xs (xr ?_))
 refine lv rfl rfl (vm rfl) (lv rfl rfl (vm rfl) (lv rfl rfl (vr rfl rfl rfl) ?_))
 refine ln (qn ?_)
 refine xc (b := decide (i < b)) rfl (fun c0 => ?_) (fun c0 => ?_)
 ·replace H := H.1 c0
  refine xi (qn (xs (xb (xs (xr ?_)))))
  refine lv rfl rfl (vm rfl) (lv rfl rfl (va rfl) ?_)
  refine ln (qn (xb ?_))
  obtain ⟨I7, b6, e2, c9⟩ := H
  refine xl (σ := Int) (fun s => [(0, (.slice a7 a3 a4)), (1, (.int .i64 a)), (2, (.int .i64 b)), (6, (.int .i64 i)), (7, (.int .i64 s))]) (fun s h' => I7 s h' ∧ True) (fun s h' => b6 s h') i ⟨e2, trivial⟩ (hc rfl (hc rfl (hc rfl (hc rfl (hc rfl hn))))) ?_
  rintro j ρ h2 ⟨c4, -⟩
  have H := c9 j h2 c4
  refine xs ?_
  obtain ⟨a9, b4, b3⟩ := H
  refine xk (fun ρ h' => ∃ a8 : Bool, (a9 a8 h' ∧ True) ∧ Has ρ [(0, (.slice a7 a3 a4)), (1, (.int .i64 a)), (2, (.int .i64 b)), (6, (.int .i64 i)), (7, (.int .i64 j)), (30, (.bool a8))]) ?_ ?_
  ·have H := b4; clear b4 b3
   refine hx_draw TyTS.mixed [.pure, .pure, .pure, .pure, .pure, .pure, .pure, .read, .pure, .pure, .pure, .pure, .read, .wild, .pure] [0, 1, 2, 3, 4, 5, 6, 7, 8, 9, 10, 11, 12, 13, 14] (by kernel_rfl) ?_
   refine pp (i := 0) rfl (wanted_0 rfl) rfl (.int .i64 j) (fun _ => vm rfl) ?_
   refine pp (i := 1) rfl (wanted_0 rfl) rfl (.int .i64 a) (fun _ => vm rfl) ?_
   refine pp (i := 2) rfl (wanted_0 rfl) rfl (.bool (decide (j > a))) (fun _ => vr rfl rfl rfl) ?_
   refine pp (i := 3) rfl (wanted_0 rfl) rfl (.bool (decide (j > a))) (fun _ => vm rfl) ?_
   rcases bool_or (decide (j > a)) with a2 | a2
   ·replace H := H.1 a2
    refine pp (i := 4) rfl (wanted_y rfl rfl rfl a2) rfl (.slice a7 a3 a4) (fun _ => vm rfl) ?_
    refine pp (i := 5) rfl (wanted_y rfl rfl rfl a2) rfl (.int .i64 j) (fun _ => vm rfl) ?_
    obtain ⟨a5, a6, c3, d8, d2, Hq⟩ := H
    subst c3
    have H := Hq; clear Hq
    refine pp (i := 6) rfl (wanted_y rfl rfl rfl a2) rfl (ptr a5 (a6 + (Int.toNat j) * 1)) (fun _ => vi TyTS.el82 rfl rfl d8 d2) ?_
    obtain ⟨x, d7, H⟩ := H
    refine pr (i := 7) rfl (wanted_y rfl rfl rfl a2) rfl (.string x) (fun _ he => vl TyTS.agg9 rfl (Ext.cell he d7)) ?_
    refine pp (i := 8) rfl (wanted_y rfl rfl rfl a2) rfl (.slice (some ⟨a5, a6, none⟩) a3 a4) (fun _ => vm rfl) ?_
    refine pp (i := 9) rfl (wanted_y rfl rfl rfl a2) rfl (.int .i64 j) (fun _ => vm rfl) ?_
    refine pp (i := 10) rfl (wanted_y rfl rfl rfl a2) rfl (.int .i64 (IntKind.i64.wrap (j - 1))) (fun _ => vr rfl rfl rfl) ?_
    obtain ⟨d5, d1, H⟩ := H
    refine pp (i := 11) rfl (wanted_y rfl rfl rfl a2) rfl (ptr a5 (a6 + (Int.toNat (IntKind.i64.wrap (j - 1))) * 1)) (fun _ => vi TyTS.el82 rfl rfl d5 d1) ?_
    obtain ⟨b0, c7, H⟩ := H
    refine pr (i := 12) rfl (wanted_y rfl rfl rfl a2) rfl (.string b0) (fun _ he => vl TyTS.agg9 rfl (Ext.cell he c7)) ?_
    refine hp_wild (i := 13) rfl (wanted_y rfl rfl rfl a2) rfl (sc TyTS.cb85 rfl (HC.mono H ?_))
    rintro _ h4 ⟨r, rfl, H⟩
    refine pp (i := 14) rfl (wanted_0 rfl) rfl (.bool r) (fun _ => hv_pick_t rfl a2 rfl) ?_
    refine hp_nil ?_
    refine qn ?_
    exact ⟨_, ⟨H, trivial⟩, (hc rfl (hc rfl (hc rfl (hc rfl (hc rfl (hc rfl hn))))))⟩
   ·replace H := H.2 a2
    refine pn (i := 4) rfl (wanted_n rfl rfl rfl a2) ?_
    refine pn (i := 5) rfl (wanted_n rfl rfl rfl a2) ?_
    refine pn (i := 6) rfl (wanted_n rfl rfl rfl a2) ?_
    refine pn (i := 7) rfl (wanted_n rfl rfl rfl a2) ?_
    refine pn (i := 8) rfl (wanted_n rfl rfl rfl a2) ?_
    refine pn (i := 9) rfl (wanted_n rfl rfl rfl a2) ?_
    refine pn (i := 10) rfl (wanted_n rfl rfl rfl a2) ?_
    refine pn (i := 11) rfl (wanted_n rfl rfl rfl a2) ?_
    refine pn (i := 12) rfl (wanted_n rfl rfl rfl a2) ?_
    refine pn (i := 13) rfl (wanted_n rfl rfl rfl a2) ?_
    refine pp (i := 14) rfl (wanted_0 rfl) rfl (.bool false) (fun _ => hv_pick_f rfl a2 rfl) ?_
    refine hp_nil ?_
    refine qn ?_
    exact ⟨_, ⟨H, trivial⟩, (hc rfl (hc rfl (hc rfl (hc rfl (hc rfl (hc rfl hn))))))⟩
  ·rintro ρ h3 ⟨a8, ⟨c6, -⟩, hH⟩
   have H := b3 a8 h3 c6; clear b4 b3
   refine xh _ hH ?_
   refine xc (b := a8) rfl (fun b5 => ?_) (fun b5 => ?_)
   ·replace H := H.1 b5
    refine xi (qn (xs (xb ?_)))
    refine hx_draw TyTS.mixed [.pure, .pure, .pure, .pure, .pure, .pure, .pure, .pure, .pure, .read, .pure, .pure, .pure, .read, .pure, .wild, .pure, .wild] [0, 1, 2, 3, 4, 5, 6, 7, 8, 9, 10, 11, 12, 13, 14, 15, 16, 17] (by kernel_rfl) ?_
    refine pp (i := 0) rfl (wanted_0 rfl) rfl (.slice a7 a3 a4) (fun _ => vm rfl) ?_
    refine pp (i := 1) rfl (wanted_0 rfl) rfl (.int .i64 j) (fun _ => vm rfl) ?_
    refine pp (i := 2) rfl (wanted_0 rfl) rfl (.slice a7 a3 a4) (fun _ => vm rfl) ?_
    refine pp (i := 3) rfl (wanted_0 rfl) rfl (.int .i64 j) (fun _ => vm rfl) ?_
    refine pp (i := 4) rfl (wanted_0 rfl) rfl (.int .i64 (IntKind.i64.wrap (j - 1))) (fun _ => vr rfl rfl rfl) ?_
    refine pp (i := 5) rfl (wanted_0 rfl) rfl (.slice a7 a3 a4) (fun _ => vm rfl) ?_
    refine pp (i := 6) rfl (wanted_0 rfl) rfl (.int .i64 j) (fun _ => vm rfl) ?_
    refine pp (i := 7) rfl (wanted_0 rfl) rfl (.int .i64 (IntKind.i64.wrap (j - 1))) (fun _ => vr rfl rfl rfl) ?_
    obtain ⟨a0, a1, c3, c1, c2, Hq⟩ := H
    subst c3
    have H := Hq; clear Hq
    refine pp (i := 8) rfl (wanted_0 rfl) rfl (ptr a0 (a1 + (Int.toNat (IntKind.i64.wrap (j - 1))) * 1)) (fun _ => vi TyTS.el82 rfl rfl c1 c2) ?_
    obtain ⟨b2, d3, H⟩ := H
    refine pr (i := 9) rfl (wanted_0 rfl) rfl (.string b2) (fun _ he => vl TyTS.agg9 rfl (Ext.cell he d3)) ?_
    refine pp (i := 10) rfl (wanted_0 rfl) rfl (.slice (some ⟨a0, a1, none⟩) a3 a4) (fun _ => vm rfl) ?_
    refine pp (i := 11) rfl (wanted_0 rfl) rfl (.int .i64 j) (fun _ => vm rfl) ?_
    obtain ⟨b9, b8, H⟩ := H
    refine pp (i := 12) rfl (wanted_0 rfl) rfl (ptr a0 (a1 + (Int.toNat j) * 1)) (fun _ => vi TyTS.el82 rfl rfl b9 b8) ?_
    obtain ⟨b1, d6, H⟩ := H
    refine pr (i := 13) rfl (wanted_0 rfl) rfl (.string b1) (fun _ he => vl TyTS.agg9 rfl (Ext.cell he d6)) ?_
    refine pp (i := 14) rfl (wanted_0 rfl) rfl (ptr a0 (a1 + (Int.toNat j) * 1)) (fun _ => vi TyTS.el82 rfl rfl b9 b8) ?_
    obtain ⟨d4, H⟩ := H
    refine hp_wild (i := 15) rfl (wanted_0 rfl) rfl (hn_store (v := (.string b2)) rfl rfl TyTS.sz9 rfl d4 ?_)
    intro h5 c5
    replace H := H h5 c5
    refine pp (i := 16) rfl (wanted_0 rfl) rfl (ptr a0 (a1 + (Int.toNat (IntKind.i64.wrap (j - 1))) * 1)) (fun _ => vi TyTS.el82 rfl rfl c1 c2) ?_
    obtain ⟨c8, H⟩ := H
    refine hp_wild (i := 17) rfl (wanted_0 rfl) rfl (hn_store (v := (.string b1)) rfl rfl TyTS.sz9 rfl c8 ?_)
    intro h6 d0
    replace H := H h6 d0
    refine hp_nil ?_
    refine bn (qn (xr ?_))
    refine lv rfl rfl (vm rfl) (lv rfl rfl (vr rfl rfl rfl) (lv rfl rfl (va rfl) ?_))
    refine ln (qn ?_)
    exact ⟨IntKind.i64.wrap (j - 1), ⟨⟨H.1, trivial⟩, H.2⟩, (hc rfl (hc rfl (hc rfl (hc rfl (hc rfl hn)))))⟩
   ·replace H := H.2 b5
    refine xe (qe (qe (bh (bn (qn (xr ?_))))))
    refine lv rfl rfl (vm rfl) (lv rfl rfl (vr rfl rfl rfl) (lv rfl rfl (va rfl) ?_))
    refine ln (qn ?_)
    exact ⟨IntKind.i64.wrap (i + 1), ⟨⟨H.1, trivial⟩, H.2⟩, (hc rfl (hc rfl (hc rfl (hc rfl hn))))⟩
 ·replace H := H.2 c0
  refine xe (qe (qe (bh ?_)))
  exact endQ_n _ (res_none Try.results79 ) H
end Go.Proofs.Ytcdpapdefdnknaa
namespace Go.Proofs.Ytcdpapdefdnknaa
open Go Go.Shelf Go.Sort
theorem one_eq : ∀ v : Value, v.oneCell' = oneC v := fun v => by cases v <;> rfl
theorem calls_of {P : Program} {f : FuncId} {args : Array Value} {h : Heap} {R : Value → Heap → Prop} (hc : HC P f args h R) {w : World} (hw : w.heap = h) : Calls P f args w fun e w' => ∃ v, e = .returned v ∧ Sim w w' ∧ R v w'.heap := hc w hw
end Go.Proofs.Ytcdpapdefdnknaa
namespace Go.Proofs.Ytcdpapdefdnknaa
open Go Go.Shelf Go.Sort
section
variable {α : Type} [Inhabited α]
def eOne (enc : α → Value) (h1 : OneCell enc) : Elt α := ⟨1, fun x => [enc x], fun _ => rfl, fun x v hv => by simp at hv; subst hv; rw [← one_eq]; exact h1 x⟩
theorem holds1 {enc : α → Value} {h1 : OneCell enc} {T : TypeId} {N : Nat} {b o c : Nat} {L : List α} {w : World} (s : Sl (eOne enc h1) w.heap (some ⟨b, o, none⟩) c L) (ow : Own 1 T N w.heap (some ⟨b, o, none⟩) c) : Holds enc w b o L.toArray := by
  intro j hj
  have hj' : j < L.length := by simpa using hj
  obtain ⟨b', o', e, hc⟩ := s.at (List.getElem?_eq_getElem hj')
  cases e
  have h2 : hcell w.heap b (o + j * 1) = some (enc L[j]) := hc.1
  rw [Nat.mul_one] at h2
  have e1 : L.toArray[j]! = L[j] := by simp [hj']
  rw [e1]
  refine ⟨by rw [cell_hcell]; exact h2, ?_⟩
  rcases ow with ⟨e, _⟩ | ⟨b2, o2, cs, e, _, h2, _⟩
  · cases e
  · cases e
    unfold World.frozen?
    simp only [h2]
    simp
theorem heap_sort1 {enc : α → Value} {h1 : OneCell enc} {T : TypeId} {N : Nat} {b o c : Nat} {L : List α} {w : World} (s : Sl (eOne enc h1) w.heap (some ⟨b, o, none⟩) c L) (ow : Own 1 T N w.heap (some ⟨b, o, none⟩) c) {d : Array α} (hd : d.size = L.length) (m : Nat) (os : Array Obj) :
    Fr (· = b) w.heap (sortWorld enc w b o m d os).heap ∧ Sl (eOne enc h1) (sortWorld enc w b o m d os).heap (some ⟨b, o, none⟩) c d.toList ∧ Own 1 T N (sortWorld enc w b o m d os).heap (some ⟨b, o, none⟩) c ∧ Sim w (sortWorld enc w b o m d os) := by
  rcases ow with ⟨e, _⟩ | ⟨b2, o2, cs, e, hlow, h2, h3⟩
  · cases e
  cases e
  have hh : (sortWorld enc w b o m d os).heap = (w.heap.modify b (onCells (putCells enc o d))) ++ os := rfl
  have hlt := row_lt h2
  have hrow : (sortWorld enc w b o m d os).heap[b]? = some (.cells (putCells enc o d cs) T (0, 0)) := by
    rw [hh, Array.getElem?_append, if_pos (by simpa using hlt), Array.getElem?_modify, if_pos rfl, h2]; rfl
  have hother : ∀ i, i < w.heap.size → i ≠ b → (sortWorld enc w b o m d os).heap[i]? = w.heap[i]? := fun i hi hn => by
    rw [hh, Array.getElem?_append, if_pos (by simpa using hi), Array.getElem?_modify, if_neg (Ne.symm hn)]
  have hle := s.le
  refine ⟨⟨by rw [hh]; simp, fun i hi hn => hother i hi hn⟩, Sl.of_row hrow (by simpa [hd] using hle) fun j v hv => ?_, .inr ⟨b, o, _, rfl, hlow, hrow, by simpa [putCells] using h3⟩, ⟨rfl, rfl, rfl, Nat.le_add_right _ _, by rw [hh]; simp, fun i hi => ?_⟩⟩
  · obtain ⟨i, x, r, h4, h5, e⟩ := flat_inv (eOne enc h1) d.toList j v hv
    have hr := (List.getElem?_eq_some_iff.1 h5).1
    rw [(eOne enc h1).len] at hr
    have hr0 : r = 0 := by have : (eOne enc h1).k = 1 := rfl; omega
    subst hr0
    have ei : j = i := by have : (eOne enc h1).k = 1 := rfl; rw [this] at e; omega
    subst ei
    have hjd : j < d.size := by have := (List.getElem?_eq_some_iff.1 h4).1; simpa using this
    have hv' : v = enc x := by simpa [eOne] using h5.symm
    subst hv'
    have hjc : o + j < cs.size := by omega
    have h6 : d[j]? = some x := by simpa using h4
    have e3 : d[j]! = x := by
      obtain ⟨h7, h8⟩ := Array.getElem?_eq_some_iff.1 h6
      rw [getElem!_pos d j h7, h8]
    unfold putCells
    rw [Array.getElem?_mapIdx, Array.getElem?_eq_getElem hjc, Option.map_some, if_pos ⟨by omega, by omega⟩, show o + j - o = j by omega, e3]
  · by_cases hib : i = b
    · subst hib; rw [h2] at hi; cases hi
    · rw [hother i (row_lt hi) hib]; exact hi
end
end Go.Proofs.Ytcdpapdefdnknaa
namespace Go.Proofs.Ytcdpapdefdnknaa
open Go Go.Shelf Go.Proofs
def Lay.sortS_ren : Go.Shelf.Ren := ⟨fun | 190 => 54 | 125 => 71 | 258 => 70 | 128 => 88 | 129 => 89 | 302 => 79 | 303 => 80 | 304 => 81 | 305 => 82 | 306 => 83 | 307 => 84 | 308 => 85 | 309 => 86 | 310 => 87 | 333 => 91 | 329 => 92 | 330 => 93 | 334 => 94 | 335 => 95 | 336 => 96 | 344 => 98 | n => n, fun | 31 => 82 | 9 => 9 | 3 => 3 | 46 => 115 | 0 => 0 | 51 => 135 | 53 => 31 | 4 => 4 | 183 => 127 | 182 => 126 | 131 => 132 | 5 => 5 | 218 => 138 | 222 => 141 | 228 => 143 | 229 => 144 | n => n, fun | n => n⟩
theorem Lay.sortS : Go.Proofs.Lays.n190 Try.prog Lay.sortS_ren := {
  mixed := by kernel_rfl,
  f125 := Try.func71.trans (congrArg some (by kernel_rfl)),
  f128 := Try.func88.trans (congrArg some (by kernel_rfl)),
  f129 := Try.func89.trans (congrArg some (by kernel_rfl)),
  f190 := Try.func54.trans (congrArg some (by kernel_rfl)),
  f258 := Try.func70.trans (congrArg some (by kernel_rfl)),
  f302 := Try.func79.trans (congrArg some (by kernel_rfl)),
  f303 := Try.func80.trans (congrArg some (by kernel_rfl)),
  f304 := Try.func81.trans (congrArg some (by kernel_rfl)),
  f305 := Try.func82.trans (congrArg some (by kernel_rfl)),
  f306 := Try.func83.trans (congrArg some (by kernel_rfl)),
  f307 := Try.func84.trans (congrArg some (by kernel_rfl)),
  f308 := Try.func85.trans (congrArg some (by kernel_rfl)),
  f309 := Try.func86.trans (congrArg some (by kernel_rfl)),
  f310 := Try.func87.trans (congrArg some (by kernel_rfl)),
  f329 := Try.func92.trans (congrArg some (by kernel_rfl)),
  f330 := Try.func93.trans (congrArg some (by kernel_rfl)),
  f333 := Try.func91.trans (congrArg some (by kernel_rfl)),
  f334 := Try.func94.trans (congrArg some (by kernel_rfl)),
  f335 := Try.func95.trans (congrArg some (by kernel_rfl)),
  f336 := Try.func96.trans (congrArg some (by kernel_rfl)),
  f344 := Try.func98.trans (congrArg some (by kernel_rfl)),
  t0 := Try.underlying0,
  a0 := Try.isAgg0,
  z0 := Try.sizeOf0,
  v0 := Try.zeroValue0,
  t3 := Try.underlying3,
  a3 := Try.isAgg3,
  z3 := Try.sizeOf3,
  v3 := Try.zeroValue3,
  t4 := Try.underlying4,
  a4 := Try.isAgg4,
  z4 := Try.sizeOf4,
  v4 := Try.zeroValue4,
  t5 := Try.underlying5,
  a5 := Try.isAgg5,
  z5 := Try.sizeOf5,
  v5 := Try.zeroValue5,
  t9 := Try.underlying9,
  a9 := Try.isAgg9,
  z9 := Try.sizeOf9,
  v9 := Try.zeroValue9,
  t31 := Try.underlying82,
  a31 := Try.isAgg82,
  z31 := Try.sizeOf82,
  v31 := Try.zeroValue82,
  t46 := Try.underlying115,
  a46 := Try.isAgg115,
  z46 := Try.sizeOf115,
  v46 := Try.zeroValue115,
  t51 := Try.underlying135,
  a51 := Try.isAgg135,
  z51 := Try.sizeOf135,
  v51 := Try.zeroValue135,
  t53 := Try.underlying31,
  a53 := Try.isAgg31,
  z53 := Try.sizeOf31,
  v53 := Try.zeroValue31,
  t131 := Try.underlying132,
  a131 := Try.isAgg132,
  z131 := Try.sizeOf132,
  v131 := Try.zeroValue132,
  t182 := Try.underlying126,
  a182 := Try.isAgg126,
  z182 := Try.sizeOf126,
  v182 := Try.zeroValue126,
  t183 := Try.underlying127,
  a183 := Try.isAgg127,
  z183 := Try.sizeOf127,
  v183 := Try.zeroValue127,
  t218 := Try.underlying138,
  a218 := Try.isAgg138,
  z218 := Try.sizeOf138,
  v218 := Try.zeroValue138,
  t222 := Try.underlying141,
  a222 := Try.isAgg141,
  z222 := Try.sizeOf141,
  v222 := Try.zeroValue141,
  t228 := Try.underlying143,
  a228 := Try.isAgg143,
  z228 := Try.sizeOf143,
  v228 := Try.zeroValue143,
  t229 := Try.underlying144,
  a229 := Try.isAgg144,
  z229 := Try.sizeOf144,
  v229 := Try.zeroValue144 }
end Go.Proofs.Ytcdpapdefdnknaa
namespace Go.Proofs.Ytcdpapdefdnknaa
open Go
theorem Sl.set1 {α : Type} {E : Elt α} {h : Heap} {b o c : Nat} {L : List α} {T : TypeId} {N : Nat} (s : Sl E h (some ⟨b, o, none⟩) c L) (w : Own E.k T N h (some ⟨b, o, none⟩) c) {i r : Nat} {x x' : α} {v : Value} (hx : L[i]? = some x) (hr : r < E.k) (he : E.enc x' = (E.enc x).set r v) :
    Sl E (hset h b (o + i * E.k + r) v) (some ⟨b, o, none⟩) c (L.set i x') := by
  obtain ⟨cs, hrow, hcs, _⟩ := w.row
  have hi := (List.getElem?_eq_some_iff.1 hx).1
  have hle := s.le
  have f1 : (i + 1) * E.k ≤ c * E.k := Nat.mul_le_mul_right _ (by omega)
  rw [Nat.add_mul] at f1
  have hat : hcell (hset h b (o + i * E.k + r) v) b (o + i * E.k + r) = some v := by
    have hb : o + i * E.k + r < cs.size := by omega
    rw [hcell_row (hset_row hrow), Array.getElem?_setIfInBounds]; simp [hb]
  refine ⟨by simpa using s.le, .inr ⟨b, o, rfl, fun j y hy => ?_⟩⟩
  rw [List.getElem?_set] at hy
  split at hy
  · rename_i hij
    subst hij
    cases hy
    obtain ⟨b', o', e, hc⟩ := s.at hx
    cases e
    refine HCells.mk fun q u hu => ?_
    rw [he, List.getElem?_set] at hu
    split at hu
    · rename_i hq
      subst hq
      rw [if_pos (by rw [E.len]; exact hr)] at hu
      cases hu; exact hat
    · rename_i hq
      rw [hcell_hset_ne (by omega)]
      exact hc.get hu
  · rename_i hij
    obtain ⟨b', o', e, hc⟩ := s.at hy
    cases e
    refine HCells.mk fun q u hu => ?_
    have hq := (List.getElem?_eq_some_iff.1 hu).1
    rw [E.len] at hq
    rw [hcell_hset_ne ?_]
    · exact hc.get hu
    · rcases Nat.lt_or_gt_of_ne hij with g | g
      · have : (i + 1) * E.k ≤ j * E.k := Nat.mul_le_mul_right _ g
        rw [Nat.add_mul] at this; omega
      · have : (j + 1) * E.k ≤ i * E.k := Nat.mul_le_mul_right _ g
        rw [Nat.add_mul] at this; omega
theorem Sl.word {α : Type} {E : Elt α} {h : Heap} {b o c : Nat} {L : List α} {T : TypeId} {N : Nat} (s : Sl E h (some ⟨b, o, none⟩) c L) (w : Own E.k T N h (some ⟨b, o, none⟩) c) {i r : Nat} {x' : α} {v : Value} (hi : i < L.length) (hr : r < E.k) (he : E.enc x' = (E.enc L[i]).set r v) {p : Nat} (hp : p = o + i * E.k + r) :
    HW h b p ∧ ∀ h', h' = hset h b p v → Sl E h' (some ⟨b, o, none⟩) c (L.set i x') ∧ Own E.k T N h' (some ⟨b, o, none⟩) c ∧ Fr (fun x => x = b) h h' := by
  subst hp
  obtain ⟨cs, h1, h2, _⟩ := w.row
  have hle := s.le
  have f1 : L.length * E.k ≤ c * E.k := Nat.mul_le_mul_right _ hle
  have f2 : (i + 1) * E.k ≤ L.length * E.k := Nat.mul_le_mul_right _ hi
  rw [Nat.add_mul] at f2
  refine ⟨HW_row h1 (by omega), ?_⟩
  rintro h' rfl
  exact ⟨s.set1 w (List.getElem?_eq_getElem hi) hr he, Own.hsets w b _ [v], fr_hset _ fun _ => rfl⟩
end Go.Proofs.Ytcdpapdefdnknaa
namespace Go.Proofs.Ytcdpapdefdnknaa
namespace Cy
open Go
structure Rc where
  kind : Int
  ver : Int
  key : ByteArray
  val : ByteArray
abbrev Rc.cs (r : Rc) : List Value := [.int .i64 r.kind, .int .u64 r.ver, .string r.key, .string r.val]
def eRc : Elt Rc := ⟨4, Rc.cs, fun _ => rfl, fun r v hv => by simp at hv; rcases hv with rfl | rfl | rfl | rfl <;> rfl⟩
instance : Inhabited Rc := ⟨⟨0, 0, ByteArray.empty, ByteArray.empty⟩⟩
def insF (f : Rc) : List Rc → List Rc
  | [] => [f]
  | x :: t => if slt x.key f.key then x :: insF f t else if x.key = f.key then (if f.ver ≥ x.ver then f :: t else x :: t) else f :: x :: t
def kLt (x y : Rc) : Prop := slt x.key y.key = true
def fnd (D : List Rc) (k : ByteArray) : Option Rc := D.find? fun x => decide (x.key = k)
theorem kLt_trans {x y z : Rc} (a : kLt x y) (b : kLt y z) : kLt x z := slt_trans a b
theorem ins_mem {f x : Rc} : ∀ {D : List Rc}, x ∈ insF f D → x = f ∨ x ∈ D
  | [], h => .inl (by simpa [insF] using h)
  | y :: t, h => by
    unfold insF at h
    split at h
    · rcases List.mem_cons.1 h with e | e
      · exact .inr (by simp [e])
      · exact (ins_mem e).imp id fun q => List.mem_cons_of_mem _ q
    · split at h
      · split at h
        · rcases List.mem_cons.1 h with e | e
          · exact .inl e
          · exact .inr (List.mem_cons_of_mem _ e)
        · exact .inr h
      · rcases List.mem_cons.1 h with e | e
        · exact .inl e
        · exact .inr e
theorem ins_sorted {f : Rc} : ∀ {D : List Rc}, D.Pairwise kLt → (insF f D).Pairwise kLt
  | [], _ => by simp [insF]
  | y :: t, h => by
    obtain ⟨h1, h2⟩ := List.pairwise_cons.1 h
    unfold insF
    split
    · rename_i q
      refine List.pairwise_cons.2 ⟨fun z hz => ?_, ins_sorted h2⟩
      rcases ins_mem hz with rfl | hz
      · exact q
      · exact h1 z hz
    · rename_i q
      split
      · rename_i e
        split
        · exact List.pairwise_cons.2 ⟨fun z hz => by have := h1 z hz; unfold kLt at this ⊢; rw [← e]; exact this, h2⟩
        · exact h
      · rename_i e
        refine List.pairwise_cons.2 ⟨fun z hz => ?_, h⟩
        have hfy : kLt f y := by
          rcases slt_or (a := y.key) (b := f.key) (by simpa using q) with e' | e'
          · exact absurd e' e
          · exact e'
        rcases List.mem_cons.1 hz with rfl | hz
        · exact hfy
        · exact kLt_trans hfy (h1 z hz)
theorem fnd_none {D : List Rc} {k : ByteArray} (h : ∀ x ∈ D, x.key ≠ k) : fnd D k = none := List.find?_eq_none.2 fun x hx => by simpa using h x hx
theorem fnd_mem {D : List Rc} {k : ByteArray} {x : Rc} (h : fnd D k = some x) : x ∈ D ∧ x.key = k := ⟨List.mem_of_find?_eq_some h, by simpa using List.find?_some h⟩
theorem kLt_ne {x y : Rc} (h : kLt x y) : x.key ≠ y.key := fun e => by unfold kLt at h; rw [e, slt_irrefl] at h; cases h
theorem fnd_ins {f : Rc} (k : ByteArray) : ∀ {D : List Rc}, D.Pairwise kLt → fnd (insF f D) k = if f.key = k then (match fnd D k with | none => some f | some x => if f.ver ≥ x.ver then some f else some x) else fnd D k
  | [], _ => by
    unfold fnd insF
    by_cases e : f.key = k <;> simp [e]
  | y :: t, h => by
    obtain ⟨h1, h2⟩ := List.pairwise_cons.1 h
    have ih := fnd_ins (f := f) k h2
    have cons : ∀ (z : Rc) (l : List Rc), fnd (z :: l) k = if z.key = k then some z else fnd l k := fun z l => by
      unfold fnd; rw [List.find?_cons]
      by_cases e : z.key = k <;> simp [e]
    unfold insF
    split
    · rename_i q
      rw [cons, cons, ih]
      by_cases e : y.key = k
      · have : f.key ≠ k := fun e' => by rw [e, e', slt_irrefl] at q; cases q
        rw [if_pos e, if_neg this, if_pos e]
      · rw [if_neg e, if_neg e]
    · rename_i q
      split
      · rename_i e
        have hn : y.key = k → fnd t k = none := fun ek => fnd_none fun x hx e' => kLt_ne (h1 x hx) (ek.trans e'.symm)
        split
        · rename_i hv
          rw [cons, cons]
          by_cases ek : f.key = k
          · rw [if_pos ek, if_pos ek, if_pos (e.trans ek)]; simp [hv]
          · rw [if_neg ek, if_neg ek, if_neg (fun q => ek (e ▸ q))]
        · rename_i hv
          rw [cons]
          by_cases ek : f.key = k
          · rw [if_pos ek, if_pos (e.trans ek)]; simp [hv]
          · rw [if_neg ek]
      · rename_i e
        rw [cons f, cons]
        by_cases ek : f.key = k
        · have hy : y.key ≠ k := fun q => e (q.trans ek.symm)
          have hfy : kLt f y := by
            rcases slt_or (a := y.key) (b := f.key) (by simpa using q) with e' | e'
            · exact absurd e' e
            · exact e'
          have : fnd t k = none := fnd_none fun x hx e' => kLt_ne (kLt_trans hfy (h1 x hx)) (ek.trans e'.symm)
          rw [if_pos ek, if_pos ek, if_neg hy, this]
        · rw [if_neg ek, if_neg ek]
theorem rise_eq : ∀ {A B : List Rc}, A.Pairwise kLt → B.Pairwise kLt → (∀ x, x ∈ A ↔ x ∈ B) → A = B
  | [], [], _, _, _ => rfl
  | [], b :: B, _, _, h => by have := (h b).2 (by simp); simp at this
  | a :: A, [], _, _, h => by have := (h a).1 (by simp); simp at this
  | a :: A, b :: B, ha, hb, h => by
    obtain ⟨a1, a2⟩ := List.pairwise_cons.1 ha
    obtain ⟨b1, b2⟩ := List.pairwise_cons.1 hb
    have e : a = b := by
      rcases List.mem_cons.1 ((h a).1 (by simp)) with e | e
      · exact e
      · rcases List.mem_cons.1 ((h b).2 (by simp)) with e' | e'
        · exact e'.symm
        · have p := b1 a e; have q := a1 b e'
          unfold kLt at p q
          rw [slt_asymm p] at q; cases q
    subst e
    congr 1
    refine rise_eq a2 b2 fun x => ⟨fun hx => ?_, fun hx => ?_⟩
    · rcases List.mem_cons.1 ((h x).1 (List.mem_cons_of_mem _ hx)) with e | e
      · exact absurd rfl (e ▸ kLt_ne (a1 x hx))
      · exact e
    · rcases List.mem_cons.1 ((h x).2 (List.mem_cons_of_mem _ hx)) with e | e
      · exact absurd rfl (e ▸ kLt_ne (b1 x hx))
      · exact e
abbrev foV (f : Rc) : Value := .agg f.cs.toArray
def Both (kv : List (ByteArray × Value)) (D : List Rc) : Prop := ∀ k, lk kv k = (fnd D k).map foV
theorem Both.nil : Both [] [] := fun _ => rfl
theorem Both.put {kv : List (ByteArray × Value)} {D : List Rc} (b : Both kv D) (s : D.Pairwise kLt) {f : Rc} (h : ∀ x, fnd D f.key = some x → f.ver ≥ x.ver) : Both (kput kv f.key (foV f)) (insF f D) := fun k => by
  rw [lk_kput, fnd_ins k s, b k]
  by_cases e : k = f.key
  · subst e
    rw [if_pos rfl, if_pos rfl]
    cases q : fnd D f.key with
    | none => rfl
    | some x => simp [h x q]
  · rw [if_neg e, if_neg (Ne.symm e)]
theorem Both.keep {kv : List (ByteArray × Value)} {D : List Rc} (b : Both kv D) (s : D.Pairwise kLt) {f x : Rc} (h : fnd D f.key = some x) (hv : ¬ f.ver ≥ x.ver) : Both kv (insF f D) := fun k => by
  rw [fnd_ins k s, b k]
  by_cases e : f.key = k
  · subst e
    rw [if_pos rfl, h]; simp [hv]
  · rw [if_neg e]
theorem lk_of_mem {κ : Type} [DecidableEq κ] : ∀ {l : List (κ × Value)} {p : κ × Value}, (l.map (·.1)).Nodup → p ∈ l → lk l p.1 = some p.2
  | (c, u) :: t, p, hn, hp => by
    simp only [List.map_cons, List.nodup_cons] at hn
    unfold lk
    rcases List.mem_cons.1 hp with rfl | hp
    · simp
    · have hne : c ≠ p.1 := fun e => hn.1 (e ▸ List.mem_map_of_mem hp)
      rw [if_neg hne]; exact lk_of_mem hn.2 hp
theorem Both.entry {kv : List (ByteArray × Value)} {D : List Rc} (b : Both kv D) (hn : (kv.map (·.1)).Nodup) {p : ByteArray × Value} (hp : p ∈ kv) : ∃ f ∈ D, f.key = p.1 ∧ p.2 = foV f := by
  have := b p.1
  rw [lk_of_mem hn hp] at this
  cases q : fnd D p.1 with
  | none => rw [q] at this; cases this
  | some f =>
    rw [q] at this
    obtain ⟨h1, h2⟩ := fnd_mem q
    exact ⟨f, h1, h2, by simpa using this⟩
theorem fnd_self {D : List Rc} (s : D.Pairwise kLt) {f : Rc} (hf : f ∈ D) : fnd D f.key = some f := by
  cases q : fnd D f.key with
  | none => have := List.find?_eq_none.1 q f hf; simp at this
  | some x =>
    obtain ⟨h1, h2⟩ := fnd_mem q
    by_cases e : x = f
    · rw [e]
    · exfalso
      obtain ⟨i, hi, rfl⟩ := List.getElem_of_mem h1
      obtain ⟨j, hj, rfl⟩ := List.getElem_of_mem hf
      rw [List.pairwise_iff_getElem] at s
      rcases Nat.lt_trichotomy i j with h | h | h
      · exact kLt_ne (s i j hi hj h) h2
      · subst h; exact e rfl
      · exact kLt_ne (s j i hj hi h) h2.symm
theorem Both.back {kv : List (ByteArray × Value)} {D : List Rc} (b : Both kv D) (s : D.Pairwise kLt) {f : Rc} (hf : f ∈ D) : (f.key, foV f) ∈ kv := by
  have := b f.key
  rw [fnd_self s hf] at this
  exact lk_mem _ _ _ this
def liveL (rs : List Rc) : List Rc := rs.foldl (fun D f => insF f D) []
theorem fold_sorted : ∀ (rs : List Rc) {D : List Rc}, D.Pairwise kLt → (rs.foldl (fun D f => insF f D) D).Pairwise kLt
  | [], _, h => h
  | f :: rs, D, h => fold_sorted rs (ins_sorted h)
theorem live_sorted (rs : List Rc) : (liveL rs).Pairwise kLt := fold_sorted rs List.Pairwise.nil
theorem live_app (rs : List Rc) (f : Rc) : liveL (rs ++ [f]) = insF f (liveL rs) := by unfold liveL; rw [List.foldl_append]; rfl
theorem ins_len (f : Rc) : ∀ D : List Rc, (insF f D).length ≤ D.length + 1
  | [] => by simp [insF]
  | y :: t => by
    unfold insF
    split
    · have := ins_len f t; simp; omega
    · split
      · split <;> simp
      · simp
theorem live_len (rs : List Rc) : (liveL rs).length ≤ rs.length := by
  have : ∀ (rs : List Rc) (D : List Rc), (rs.foldl (fun D f => insF f D) D).length ≤ D.length + rs.length := by
    intro rs
    induction rs with
    | nil => intro D; exact Nat.le_refl _
    | cons f rs ih => intro D; have := ih (insF f D); have := ins_len f D; simp; omega
  have := this rs []
  rw [List.length_nil, Nat.zero_add] at this
  exact this
def mxv (X : List Rc) (k : ByteArray) : Int := X.foldl (fun m r => if r.key = k then max m r.ver else m) 0
theorem mxv_snoc (X : List Rc) (r : Rc) (k : ByteArray) : mxv (X ++ [r]) k = if r.key = k then max (mxv X k) r.ver else mxv X k := by
  unfold mxv; rw [List.foldl_append]; rfl
theorem snoc_ind {α : Type} {p : List α → Prop} (h0 : p []) (h1 : ∀ l x, p l → p (l ++ [x])) (l : List α) : p l := by
  have : ∀ m : List α, p m.reverse := by
    intro m
    induction m with
    | nil => exact h0
    | cons x m ih => rw [List.reverse_cons]; exact h1 _ _ ih
  have := this l.reverse
  rwa [List.reverse_reverse] at this
theorem mxv_nn (X : List Rc) (k : ByteArray) : 0 ≤ mxv X k := by
  refine snoc_ind (p := fun X => 0 ≤ mxv X k) (Int.le_refl _) (fun l x ih => ?_) X
  rw [mxv_snoc]; split <;> omega
theorem mxv_le {X : List Rc} {k : ByteArray} {r : Rc} : r ∈ X → r.key = k → r.ver ≤ mxv X k := by
  refine snoc_ind (p := fun X => r ∈ X → r.key = k → r.ver ≤ mxv X k) (fun h => by simp at h) (fun l x ih h hk => ?_) X
  rw [mxv_snoc]
  rcases List.mem_append.1 h with h | h
  · have := ih h hk; split <;> omega
  · rw [List.mem_singleton.1 h] at hk ⊢; rw [if_pos hk]; omega
theorem mxv_at {X : List Rc} {k : ByteArray} : (∀ r ∈ X, 0 ≤ r.ver) → (∃ r ∈ X, r.key = k) → ∃ r ∈ X, r.key = k ∧ r.ver = mxv X k := by
  refine snoc_ind (p := fun X => (∀ r ∈ X, 0 ≤ r.ver) → (∃ r ∈ X, r.key = k) → ∃ r ∈ X, r.key = k ∧ r.ver = mxv X k) (fun _ ⟨r, h, _⟩ => by simp at h) (fun l x ih hw h => ?_) X
  rw [mxv_snoc]
  by_cases hx : x.key = k
  · rw [if_pos hx]
    by_cases hg : mxv l k ≤ x.ver
    · exact ⟨x, by simp, hx, by omega⟩
    · by_cases hl : ∃ r ∈ l, r.key = k
      · obtain ⟨r, h1, h2, h3⟩ := ih (fun r hr => hw r (List.mem_append_left _ hr)) hl
        exact ⟨r, List.mem_append_left _ h1, h2, by omega⟩
      · have hz : mxv l k = 0 := by
          clear ih hw h
          have : (∀ r ∈ l, r.key ≠ k) → mxv l k = 0 := by
            refine snoc_ind (p := fun l => (∀ r ∈ l, r.key ≠ k) → mxv l k = 0) (fun _ => rfl) (fun m y ih h => ?_) l
            rw [mxv_snoc, if_neg (h y (by simp))]; exact ih fun r hr => h r (List.mem_append_left _ hr)
          exact this fun r hr e => hl ⟨r, hr, e⟩
        have := hw x (by simp); omega
  · rw [if_neg hx]
    obtain ⟨r, hr, hk⟩ := h
    rcases List.mem_append.1 hr with hr | hr
    · obtain ⟨r, h1, h2, h3⟩ := ih (fun r hr => hw r (List.mem_append_left _ hr)) ⟨r, hr, hk⟩
      exact ⟨r, List.mem_append_left _ h1, h2, h3⟩
    · rw [List.mem_singleton.1 hr] at hk; exact absurd hk hx
theorem mxv_lt {X : List Rc} {k : ByteArray} {M : Int} (h0 : 0 < M) (h : ∀ r ∈ X, r.ver < M) : mxv X k < M := by
  have : (∀ r ∈ X, r.ver < M) → mxv X k < M := by
    refine snoc_ind (p := fun X => (∀ r ∈ X, r.ver < M) → mxv X k < M) (fun _ => h0) (fun l x ih h => ?_) X
    have := ih fun r hr => h r (List.mem_append_left _ hr)
    have := h x (by simp)
    rw [mxv_snoc]; split <;> omega
  exact this h
def hasK (X : List Rc) (k : ByteArray) : Prop := ∃ r ∈ X, r.key = k
def Mx (val : Int → Value) (kv : List (ByteArray × Value)) (X : List Rc) : Prop := ∀ k, (hasK X k → lk kv k = some (val (mxv X k))) ∧ (¬ hasK X k → lk kv k = none)
theorem Mx.nil (val : Int → Value) : Mx val [] [] := fun k => ⟨fun ⟨r, h, _⟩ => by simp at h, fun _ => rfl⟩
theorem Mx.put {val : Int → Value} {kv : List (ByteArray × Value)} {X : List Rc} (m : Mx val kv X) {r : Rc} : Mx val (kput kv r.key (val (max (mxv X r.key) r.ver))) (X ++ [r]) := fun k => by
  rw [lk_kput, mxv_snoc]
  by_cases e : k = r.key
  · subst e
    rw [if_pos rfl, if_pos rfl]
    exact ⟨fun _ => rfl, fun h => absurd ⟨r, by simp, rfl⟩ h⟩
  · rw [if_neg e, if_neg (Ne.symm e)]
    have key : hasK (X ++ [r]) k ↔ hasK X k := by
      constructor
      · rintro ⟨y, hy, hk⟩
        rcases List.mem_append.1 hy with hy | hy
        · exact ⟨y, hy, hk⟩
        · rw [List.mem_singleton.1 hy] at hk; exact absurd hk.symm e
      · rintro ⟨y, hy, hk⟩; exact ⟨y, List.mem_append_left _ hy, hk⟩
    rw [key]; exact m k
structure Sf where
  seq : Int
  recs : List Rc
def recOk (r : Rc) : Prop := (r.kind = 1 ∨ (r.kind = 2 ∧ r.val = ByteArray.empty)) ∧ 1 ≤ r.key.size ∧ r.key.size ≤ 255
def Rr (o r : Rc) : Prop := r.kind = 1 → o.key = r.key → o.ver < r.ver
structure Good (L : List Sf) : Prop where
  nz : ∀ S ∈ L, S.seq ≠ 0
  nd : (L.map (·.seq)).Nodup
  ok : ∀ S ∈ L, ∀ r ∈ S.recs, recOk r
  inn : ∀ S ∈ L, S.recs.Pairwise Rr
  out : ∀ S ∈ L, ∀ T ∈ L, S.seq < T.seq → ∀ x ∈ S.recs, ∀ y ∈ T.recs, Rr x y
structure Wf (L : List Sf) : Prop where
  seq : ∀ S ∈ L, 0 ≤ S.seq ∧ S.seq < 18446744073709551616
  ver : ∀ S ∈ L, ∀ r ∈ S.recs, 0 ≤ r.ver ∧ r.ver < 18446744073709551616
def allR (L : List Sf) : List Rc := L.flatMap (·.recs)
theorem mem_allR {L : List Sf} {r : Rc} : r ∈ allR L ↔ ∃ S ∈ L, r ∈ S.recs := List.mem_flatMap
open Classical in
noncomputable def chk (L : List Sf) : Int := if Good L then 0 else 170
theorem chk_ok {L : List Sf} : chk L = 0 ↔ Good L := by unfold chk; by_cases h : Good L <;> simp [h]
theorem chk_no {L : List Sf} (h : ¬ Good L) : chk L = 170 := if_neg h
theorem chk_yes {L : List Sf} (h : Good L) : chk L = 0 := if_pos h
def newP (X : List Rc) (r : Rc) : Prop := r ∈ X ∧ r.kind = 1 ∧ ∀ o ∈ X, o.key = r.key → o = r ∨ o.ver < r.ver
def toldL (D : List Rc) : List Rc := D.filter fun r => decide (r.kind = 1)
theorem live_inv (X : List Rc) : X.Pairwise Rr → (∀ x ∈ liveL X, x ∈ X ∧ ∀ o ∈ X, o.key = x.key → o.ver ≤ x.ver ∧ (x.kind = 1 → o = x ∨ o.ver < x.ver)) ∧ ∀ o ∈ X, ∃ x ∈ liveL X, x.key = o.key := by
  refine snoc_ind (p := fun X => X.Pairwise Rr → (∀ x ∈ liveL X, x ∈ X ∧ ∀ o ∈ X, o.key = x.key → o.ver ≤ x.ver ∧ (x.kind = 1 → o = x ∨ o.ver < x.ver)) ∧ ∀ o ∈ X, ∃ x ∈ liveL X, x.key = o.key)
    (fun _ => ⟨fun x h => by simp [liveL] at h, fun o h => by simp at h⟩) (fun X r ih hp => ?_) X
  rw [List.pairwise_append] at hp
  obtain ⟨hp, _, hr⟩ := hp
  obtain ⟨i1, i2⟩ := ih hp
  have hs := live_sorted X
  have hs' := live_sorted (X ++ [r])
  rw [live_app] at hs' ⊢
  have hfi := fun k => fnd_ins (f := r) k hs
  constructor
  · intro x hx
    have hq := fnd_self hs' hx
    rw [hfi] at hq
    by_cases ek : r.key = x.key
    · rw [if_pos ek] at hq
      cases hf : fnd (liveL X) x.key with
      | none =>
        rw [hf] at hq
        cases hq
        refine ⟨by simp, fun o ho hk => ?_⟩
        rcases List.mem_append.1 ho with ho | ho
        · obtain ⟨y, hy, hyk⟩ := i2 o ho
          rw [hk] at hyk
          rw [← hyk, fnd_self hs hy] at hf; cases hf
        · rw [List.mem_singleton.1 ho]; exact ⟨Int.le_refl _, fun _ => .inl rfl⟩
      | some y =>
        rw [hf] at hq
        obtain ⟨hy, hyk⟩ := fnd_mem hf
        obtain ⟨j1, j2⟩ := i1 y hy
        simp only at hq
        split at hq <;> rename_i hv <;> cases hq
        · refine ⟨by simp, fun o ho hk => ?_⟩
          rcases List.mem_append.1 ho with ho | ho
          · have := (j2 o ho (by rw [hk, hyk])).1
            exact ⟨by omega, fun h1 => .inr (hr o ho r (by simp) h1 hk)⟩
          · rw [List.mem_singleton.1 ho]; exact ⟨Int.le_refl _, fun _ => .inl rfl⟩
        · refine ⟨List.mem_append_left _ j1, fun o ho hk => ?_⟩
          rcases List.mem_append.1 ho with ho | ho
          · exact j2 o ho hk
          · rw [List.mem_singleton.1 ho]; exact ⟨by omega, fun _ => .inr (by omega)⟩
    · rw [if_neg ek] at hq
      obtain ⟨hy, _⟩ := fnd_mem hq
      obtain ⟨j1, j2⟩ := i1 x hy
      refine ⟨List.mem_append_left _ j1, fun o ho hk => ?_⟩
      rcases List.mem_append.1 ho with ho | ho
      · exact j2 o ho hk
      · rw [List.mem_singleton.1 ho] at hk; exact absurd hk ek
  · intro o ho
    have : ∃ x, fnd (insF r (liveL X)) o.key = some x := by
      rw [hfi]
      by_cases ek : r.key = o.key
      · rw [if_pos ek]
        cases fnd (liveL X) o.key with
        | none => exact ⟨_, rfl⟩
        | some y => simp only; split <;> exact ⟨_, rfl⟩
      · rw [if_neg ek]
        rcases List.mem_append.1 ho with ho | ho
        · obtain ⟨y, hy, hyk⟩ := i2 o ho
          exact ⟨y, by rw [← hyk]; exact fnd_self hs hy⟩
        · rw [List.mem_singleton.1 ho] at ek; exact absurd rfl ek
    obtain ⟨x, hx⟩ := this
    exact ⟨x, (fnd_mem hx).1, (fnd_mem hx).2⟩
theorem told_iff {X : List Rc} (hp : X.Pairwise Rr) {r : Rc} : r ∈ toldL (liveL X) ↔ newP X r := by
  obtain ⟨i1, i2⟩ := live_inv X hp
  unfold toldL
  rw [List.mem_filter]
  constructor
  · rintro ⟨h, k⟩
    have k := of_decide_eq_true k
    exact ⟨(i1 r h).1, k, fun o ho hk => ((i1 r h).2 o ho hk).2 k⟩
  · rintro ⟨h, k, hn⟩
    obtain ⟨x, hx, hxk⟩ := i2 r h
    obtain ⟨j1, j2⟩ := i1 x hx
    have : x = r := by
      rcases hn x j1 hxk with e | e
      · exact e
      · have := (j2 r h hxk.symm).1; omega
    subst this
    exact ⟨hx, decide_eq_true k⟩
def ints (n : Nat) : List Int := (List.range n).map fun (i : Nat) => (i : Int)
theorem ints_len (n : Nat) : (ints n).length = n := by simp [ints]
theorem ints_succ (n : Nat) : ints (n + 1) = ints n ++ [(n : Int)] := by unfold ints; rw [List.range_succ, List.map_append]; rfl
theorem ints_mem {n : Nat} {x : Int} : x ∈ ints n ↔ 0 ≤ x ∧ x < n := by
  unfold ints
  rw [List.mem_map]
  constructor
  · rintro ⟨i, hi, rfl⟩
    have := List.mem_range.1 hi; omega
  · rintro ⟨h1, h2⟩
    exact ⟨x.toNat, List.mem_range.2 (by omega), by omega⟩
def getS (L : List Sf) (i : Int) : Sf := L.getD i.toNat ⟨0, []⟩
theorem getS_get {L : List Sf} {i : Int} (h0 : 0 ≤ i) (h1 : i < L.length) : L[i.toNat]? = some (getS L i) := by
  unfold getS; rw [List.getD_eq_getElem?_getD, List.getElem?_eq_getElem (by omega)]; rfl
theorem getS_mem {L : List Sf} {i : Int} (h0 : 0 ≤ i) (h1 : i < L.length) : getS L i ∈ L := List.mem_of_getElem? (getS_get h0 h1)
theorem mem_getS {L : List Sf} {S : Sf} (h : S ∈ L) : ∃ i : Int, 0 ≤ i ∧ i < L.length ∧ getS L i = S := by
  obtain ⟨n, hn, e⟩ := List.getElem_of_mem h
  refine ⟨n, by omega, by omega, ?_⟩
  have := getS_get (L := L) (i := n) (by omega) (by omega)
  rw [Int.toNat_natCast, List.getElem?_eq_getElem hn, e] at this
  exact (Option.some.inj this).symm
theorem getS_ints (L : List Sf) : (ints L.length).map (getS L) = L := by
  unfold ints
  rw [List.map_map]
  refine List.ext_getElem? fun i => ?_
  rw [List.getElem?_map]
  by_cases hi : i < L.length
  · rw [List.getElem?_range hi, List.getElem?_eq_getElem hi]
    simp [getS, List.getElem?_eq_getElem hi]
  · rw [List.getElem?_eq_none (by simpa using hi), List.getElem?_eq_none (by omega)]; rfl
structure IsOrd (L : List Sf) (Lo : List Int) : Prop where
  perm : Lo.Perm (ints L.length)
  up : Lo.Pairwise fun i j => (getS L i).seq ≤ (getS L j).seq
theorem IsOrd.mem {L : List Sf} {Lo : List Int} (a : IsOrd L Lo) {x : Int} : x ∈ Lo ↔ 0 ≤ x ∧ x < L.length := by rw [a.perm.mem_iff, ints_mem]
theorem IsOrd.len {L : List Sf} {Lo : List Int} (a : IsOrd L Lo) : Lo.length = L.length := by rw [a.perm.length_eq, ints_len]
theorem IsOrd.map {L : List Sf} {Lo : List Int} (a : IsOrd L Lo) : (Lo.map (getS L)).Perm L := by
  have := a.perm.map (getS L)
  rwa [getS_ints] at this
def recsIn (L : List Sf) (Lo : List Int) : List Rc := Lo.flatMap fun i => (getS L i).recs
theorem recsIn_take {L : List Sf} {Lo : List Int} {k : Nat} (hk : k < Lo.length) : recsIn L (Lo.take (k + 1)) = recsIn L (Lo.take k) ++ (getS L Lo[k]).recs := by
  unfold recsIn
  rw [List.take_add_one, List.getElem?_eq_getElem hk, List.flatMap_append]
  simp
theorem recsIn_mem {L : List Sf} {Lo : List Int} (a : IsOrd L Lo) {r : Rc} : r ∈ recsIn L Lo ↔ r ∈ allR L := by
  unfold recsIn allR
  rw [List.mem_flatMap, List.mem_flatMap]
  constructor
  · rintro ⟨i, hi, hr⟩
    obtain ⟨h0, h1⟩ := a.mem.1 hi
    exact ⟨_, getS_mem h0 h1, hr⟩
  · rintro ⟨S, hS, hr⟩
    obtain ⟨i, h0, h1, rfl⟩ := mem_getS hS
    exact ⟨i, a.mem.2 ⟨h0, h1⟩, hr⟩
theorem Good.strict {L : List Sf} (g : Good L) {Lo : List Int} (a : IsOrd L Lo) : Lo.Pairwise fun i j => (getS L i).seq < (getS L j).seq := by
  have hn : ((Lo.map (getS L)).map (·.seq)).Nodup := (a.map.map _).nodup_iff.2 g.nd
  rw [List.map_map, List.Nodup, List.pairwise_map] at hn
  refine (a.up.and hn).imp fun {i j} ⟨h1, h2⟩ => ?_
  simp only [Function.comp] at h2; omega
theorem Good.flat {L : List Sf} (g : Good L) {Lo : List Int} (a : IsOrd L Lo) : (recsIn L Lo).Pairwise Rr := by
  unfold recsIn
  rw [List.pairwise_flatMap]
  refine ⟨fun i hi => ?_, ?_⟩
  · obtain ⟨h0, h1⟩ := a.mem.1 hi
    exact g.inn _ (getS_mem h0 h1)
  · refine List.Pairwise.imp_of_mem ?_ (g.strict a)
    intro i j hi hj hij x hx y hy
    obtain ⟨h0, h1⟩ := a.mem.1 hi
    obtain ⟨h2, h3⟩ := a.mem.1 hj
    exact g.out _ (getS_mem h0 h1) _ (getS_mem h2 h3) hij x hx y hy
theorem good_of {L : List Sf} {Lo : List Int} (a : IsOrd L Lo) (hs : Lo.Pairwise fun i j => (getS L i).seq < (getS L j).seq) (hz : ∀ i ∈ Lo, (getS L i).seq ≠ 0) (hk : ∀ r ∈ recsIn L Lo, recOk r) (hp : (recsIn L Lo).Pairwise Rr) : Good L := by
  unfold recsIn at hp
  rw [List.pairwise_flatMap] at hp
  obtain ⟨p1, p2⟩ := hp
  have pick : ∀ S ∈ L, ∃ i ∈ Lo, getS L i = S := fun S hS => by
    obtain ⟨i, h0, h1, e⟩ := mem_getS hS
    exact ⟨i, a.mem.2 ⟨h0, h1⟩, e⟩
  refine ⟨fun S hS => ?_, ?_, fun S hS r hr => ?_, fun S hS => ?_, fun S hS T hT hlt x hx y hy => ?_⟩
  · obtain ⟨i, hi, rfl⟩ := pick S hS
    exact hz i hi
  · have hn : ((Lo.map (getS L)).map (·.seq)).Nodup := by
      rw [List.map_map, List.Nodup, List.pairwise_map]
      exact hs.imp fun {i j} h e => by simp only [Function.comp] at e; omega
    exact (a.map.map _).nodup_iff.1 hn
  · exact hk r ((recsIn_mem a).2 (mem_allR.2 ⟨S, hS, hr⟩))
  · obtain ⟨i, hi, rfl⟩ := pick S hS
    exact p1 i hi
  · obtain ⟨i, hi, rfl⟩ := pick S hS
    obtain ⟨j, hj, rfl⟩ := pick T hT
    obtain ⟨p, hpl, rfl⟩ := List.getElem_of_mem hi
    obtain ⟨q, hql, rfl⟩ := List.getElem_of_mem hj
    rw [List.pairwise_iff_getElem] at hs p2
    rcases Nat.lt_trichotomy p q with h | h | h
    · exact p2 p q hpl hql h x hx y hy
    · subst h; omega
    · have := hs q p hql hpl h; omega
theorem newP_congr {X Y : List Rc} (h : ∀ r, r ∈ X ↔ r ∈ Y) {r : Rc} : newP X r ↔ newP Y r := by
  unfold newP
  rw [h r]
  constructor <;> rintro ⟨a, b, c⟩
  · exact ⟨a, b, fun o ho => c o ((h o).2 ho)⟩
  · exact ⟨a, b, fun o ho => c o ((h o).1 ho)⟩
structure IsT (F : ByteArray → Bool) (X D : List Rc) : Prop where
  up : D.Pairwise kLt
  mem : ∀ x, x ∈ D ↔ x.kind = 2 ∧ x.val = ByteArray.empty ∧ F x.key = true ∧ hasK X x.key ∧ x.ver = mxv X x.key
theorem IsT.eq {F : ByteArray → Bool} {X D D' : List Rc} (a : IsT F X D) (b : IsT F X D') : D = D' := rise_eq a.up b.up fun x => by rw [a.mem, b.mem]
def tomb (k : ByteArray) (v : Int) : Rc := ⟨2, v, k, ByteArray.empty⟩
theorem IsT.has {F : ByteArray → Bool} {X D : List Rc} (a : IsT F X D) {r : Rc} (hr : r ∈ X) (hF : F r.key = true) : ∃ t ∈ D, t.key = r.key ∧ r.ver ≤ t.ver ∧ t.kind = 2 :=
  ⟨tomb r.key (mxv X r.key), (a.mem _).2 ⟨rfl, rfl, hF, ⟨r, hr, rfl⟩, rfl⟩, rfl, mxv_le hr rfl, rfl⟩
theorem IsT.nil_of {F : ByteArray → Bool} {X D : List Rc} (a : IsT F X D) (h : ∀ r ∈ X, F r.key = false) : D = [] := by
  cases D with
  | nil => rfl
  | cons x D =>
    obtain ⟨_, _, h3, ⟨r, hr, e⟩, _⟩ := (a.mem x).1 (by simp)
    rw [← e, h r hr] at h3; cases h3
def but (L : List Sf) (k : Nat) : List Sf := L.take k ++ L.drop (k + 1)
theorem but_mem {L : List Sf} {k : Nat} {S : Sf} : S ∈ but L k → S ∈ L := fun h => by
  rcases List.mem_append.1 h with h | h
  · exact List.mem_of_mem_take h
  · exact List.mem_of_mem_drop h
theorem mem_but {L : List Sf} {k : Nat} (hk : k < L.length) {S : Sf} (h : S ∈ L) : S = L[k] ∨ S ∈ but L k := by
  obtain ⟨i, hi, rfl⟩ := List.getElem_of_mem h
  unfold but
  rcases Nat.lt_trichotomy i k with e | e | e
  · refine .inr (List.mem_append_left _ (List.mem_iff_getElem?.2 ⟨i, ?_⟩))
    rw [List.getElem?_take, if_pos e, List.getElem?_eq_getElem hi]
  · subst e; exact .inl rfl
  · refine .inr (List.mem_append_right _ (List.mem_iff_getElem?.2 ⟨i - (k + 1), ?_⟩))
    rw [List.getElem?_drop, show k + 1 + (i - (k + 1)) = i by omega, List.getElem?_eq_getElem hi]
theorem but_sub (L : List Sf) (k : Nat) : (but L k).Sublist L := by
  unfold but
  conv => rhs; rw [← List.take_append_drop k L]
  refine List.Sublist.append (List.Sublist.refl _) ?_
  rw [← List.drop_drop]; exact List.drop_sublist _ _
theorem but_ne {L : List Sf} (g : Good L) {k : Nat} (hk : k < L.length) {S : Sf} (h : S ∈ but L k) : S.seq ≠ L[k].seq := by
  have hn := g.nd
  rw [List.Nodup, List.pairwise_map, List.pairwise_iff_getElem] at hn
  unfold but at h
  rcases List.mem_append.1 h with h | h
  · obtain ⟨i, h⟩ := List.mem_iff_getElem?.1 h
    rw [List.getElem?_take] at h
    by_cases hik : i < k
    · rw [if_pos hik] at h
      obtain ⟨hi', rfl⟩ := List.getElem?_eq_some_iff.1 h
      exact hn i k hi' hk hik
    · rw [if_neg hik] at h; cases h
  · obtain ⟨i, h⟩ := List.mem_iff_getElem?.1 h
    rw [List.getElem?_drop] at h
    obtain ⟨hi', rfl⟩ := List.getElem?_eq_some_iff.1 h
    exact Ne.symm (hn k (k + 1 + i) hk hi' (by omega))
def mostS (L : List Sf) : Int := L.foldl (fun m S => max m S.seq) 0
theorem mostS_snoc (L : List Sf) (S : Sf) : mostS (L ++ [S]) = max (mostS L) S.seq := by unfold mostS; rw [List.foldl_append]; rfl
theorem mostS_le {L : List Sf} {S : Sf} : S ∈ L → S.seq ≤ mostS L := by
  refine snoc_ind (p := fun L => S ∈ L → S.seq ≤ mostS L) (fun h => by simp at h) (fun l x ih h => ?_) L
  rw [mostS_snoc]
  rcases List.mem_append.1 h with h | h
  · have := ih h; omega
  · rw [List.mem_singleton.1 h]; omega
theorem mostS_nn (L : List Sf) : 0 ≤ mostS L := by
  refine snoc_ind (p := fun L => 0 ≤ mostS L) (Int.le_refl _) (fun l x ih => ?_) L
  rw [mostS_snoc]; omega
theorem mostS_lt {L : List Sf} {M : Int} (h0 : 0 < M) (h : ∀ S ∈ L, S.seq < M) : mostS L < M := by
  have : (∀ S ∈ L, S.seq < M) → mostS L < M := by
    refine snoc_ind (p := fun L => (∀ S ∈ L, S.seq < M) → mostS L < M) (fun _ => h0) (fun l x ih h => ?_) L
    have := ih fun r hr => h r (List.mem_append_left _ hr)
    have := h x (by simp)
    rw [mostS_snoc]; omega
  exact this h
theorem good_but {L : List Sf} (g : Good L) (k : Nat) : Good (but L k) :=
  ⟨fun S hS => g.nz S (but_mem hS), g.nd.sublist ((but_sub L k).map _), fun S hS => g.ok S (but_mem hS), fun S hS => g.inn S (but_mem hS), fun S hS T hT => g.out S (but_mem hS) T (but_mem hT)⟩
theorem good_tombs {L : List Sf} (g : Good L) {k : Nat} (hk : k < L.length) {F : ByteArray → Bool} {D : List Rc} (t : IsT F L[k].recs D) : Good (but L k ++ [⟨mostS L + 1, D⟩]) := by
  have gb := good_but g k
  have hlt : ∀ S ∈ but L k, S.seq < mostS L + 1 := fun S hS => by have := mostS_le (but_mem hS); omega
  have hn := mostS_nn L
  have no : ∀ y ∈ D, ∀ x : Rc, Rr x y := fun y hy x h => by
    have := ((t.mem y).1 hy).1; omega
  have cases2 : ∀ S, S ∈ but L k ++ [⟨mostS L + 1, D⟩] → S ∈ but L k ∨ S = ⟨mostS L + 1, D⟩ := fun S h => by simpa using h
  refine ⟨fun S hS => ?_, ?_, fun S hS r hr => ?_, fun S hS => ?_, fun S hS T hT hst x hx y hy => ?_⟩
  · rcases cases2 S hS with h | rfl
    · exact gb.nz S h
    · show mostS L + 1 ≠ 0; omega
  · rw [List.map_append, List.nodup_append]
    refine ⟨gb.nd, by simp, fun a ha b hb e => ?_⟩
    obtain ⟨S, hS, rfl⟩ := List.mem_map.1 ha
    have := hlt S hS
    simp at hb; omega
  · rcases cases2 S hS with h | rfl
    · exact gb.ok S h r hr
    · obtain ⟨h1, h2, _, ⟨o, ho, e⟩, _⟩ := (t.mem r).1 hr
      exact ⟨.inr ⟨h1, h2⟩, by rw [← e]; exact (g.ok _ (List.getElem_mem hk) o ho).2⟩
  · rcases cases2 S hS with h | rfl
    · exact gb.inn S h
    · exact List.pairwise_iff_getElem.2 fun i j hi hj _ => no _ (List.getElem_mem hj) _
  · rcases cases2 T hT with h | rfl
    · rcases cases2 S hS with h' | rfl
      · exact gb.out S h' T h hst x hx y hy
      · have := hlt T h; simp only at hst; omega
    · exact no y hy x
def Low (L : List Sf) (k : Nat) (F : ByteArray → Bool) : Prop := ∀ (hk : k < L.length) (S : Sf), S ∈ L → S.seq < L[k].seq → ∀ r ∈ S.recs, F r.key = true
theorem told_but {L : List Sf} (g : Good L) {k : Nat} (hk : k < L.length) {F : ByteArray → Bool} (hF : Low L k F) {D : List Rc} (t : IsT F L[k].recs D) {Y : List Rc} (hY : ∀ r, r ∈ Y ↔ r ∈ allR (but L k) ∨ r ∈ D) {r : Rc} (h : newP Y r) : newP (allR L) r := by
  obtain ⟨h1, h2, h3⟩ := h
  have hb : r ∈ allR (but L k) := by
    rcases (hY r).1 h1 with h | h
    · exact h
    · have := ((t.mem r).1 h).1; omega
  obtain ⟨S, hS, hr⟩ := mem_allR.1 hb
  refine ⟨mem_allR.2 ⟨S, but_mem hS, hr⟩, h2, fun o ho hok => ?_⟩
  obtain ⟨T, hT, hoT⟩ := mem_allR.1 ho
  rcases mem_but hk hT with rfl | hT'
  · have hne := but_ne g hk hS
    rcases Int.lt_or_lt_of_ne hne with hlt | hlt
    · have hFr := hF hk S (but_mem hS) hlt r hr
      rw [← hok] at hFr
      obtain ⟨x, hx, hxk, hxv, hxt⟩ := t.has hoT hFr
      rcases h3 x ((hY x).2 (.inr hx)) (hxk.trans hok) with e | e
      · rw [e] at hxt; omega
      · exact .inr (by omega)
    · exact .inr (g.out _ (List.getElem_mem hk) S (but_mem hS) hlt o hoT r hr h2 hok)
  · exact h3 o ((hY o).2 (.inl (mem_allR.2 ⟨T, hT', hoT⟩))) hok
end Cy
end Go.Proofs.Ytcdpapdefdnknaa
namespace Go.Proofs.Ytcdpapdefdnknaa
namespace Cy
open Go Go.Shelf Go.Sort
theorem own_ne {k N : Nat} {T T' : TypeId} {h : Heap} {a : Option Addr} {c p : Nat} {cs : Array Value} {fr : Nat × Nat} (w : Own k T N h a c) (r : h[p]? = some (.cells cs T' fr)) (hT : T ≠ T') : ¬ blkA a p := fun hb => by
  rcases w with ⟨rfl, _⟩ | ⟨b', o, cs', rfl, _, h1, _⟩
  · exact blkA_none hb
  · rw [blkA_some] at hb; subst hb
    rw [r] at h1; cases h1; exact hT rfl
theorem app_1 {α : Type} {E : Elt α} {P : Program} {t : TypeId} {by_ : Nat} {h h1 : Heap} {a : Option Addr} {c N : Nat} {L : List α} {T : TypeId} (A : AppT P t T E.k by_) {nb n : Nat} {cs : Array Value} {x : α} (eb : nb = h.size) (eh : h1 = h.push (.cells cs T)) (ec : (E.enc x).toArray = cs)
    (s : Sl E h a c L) (w : Own E.k T N h a c) (hn : n = L.length) (hN : N ≤ h.size) (hsz : (n + 1) * by_ ≤ 140737488355328) {K : Value → Heap → Prop}
    (hk : ∀ a' c' h', Fr (blkA a) h h' → Sl E h' a' c' (L ++ [x]) → Own E.k T N h' a' c' → (∀ b, blkA a' b → blkA a b ∨ h.size ≤ b) → K (.slice a' (n + 1) c') h') :
    HAppend P t t (.slice a n c) (.slice (some ⟨nb, 0, none⟩) 1 1) h1 K := by
  subst hn
  have xe : Ext h h1 := by rw [eh]; exact Ext.push _ _
  have hrow : h1[nb]? = some (.cells ([x].flatMap E.enc).toArray T (0, 0)) := by rw [eh, ← ec]; simp only [List.flatMap_cons, List.flatMap_nil, List.append_nil]; exact push_new eb
  refine app_sl A (s.ext xe) (w.ext xe) (Sl.lit (L := [x]) hrow) (Nat.le_trans hN xe.size) hsz fun a' c' h' f s' w' bl => hk a' c' h' ((xe.fr (blkA a)).trans f (fun _ _ q => q)) s' w' fun b hb => ?_
  rcases bl b hb with q | q
  · exact .inl q
  · exact .inr (Nat.le_trans xe.size q)
theorem shut_ext {h h5 h6 : Heap} (x : Ext h h5) (s : Shut' h.size h5 h6) : Ext h h6 := ⟨by rw [s.size]; exact x.size, fun b hb => (s.low hb).trans (x.block b hb)⟩
theorem sl_shut {α : Type} {E : Elt α} {h h' : Heap} {N : Nat} {a : Option Addr} {c : Nat} {L : List α} (s : Sl E h a c L) (sh : Shut' N h h') : Sl E h' a c L :=
  ⟨s.le, s.ex.imp id fun ⟨b, o, e, hc⟩ => ⟨b, o, e, fun i y hy => HCells.mk fun j v hv => shut_cell sh ((hc i y hy).get hv)⟩⟩
theorem own_shut {k : Nat} {T : TypeId} {M N : Nat} {h h' : Heap} {a : Option Addr} {c : Nat} (w : Own k T M h a c) (sh : Shut' N h h') : Own k T M h' a c :=
  w.imp id fun ⟨b, o, cs, e, h1, h2, h3⟩ => ⟨b, o, cs, e, h1, sh.row h2 (by simp), h3⟩
theorem Sl.conv {α β : Type} {E : Elt α} {E' : Elt β} (f : α → β) (hk : E'.k = E.k) (he : ∀ x, E'.enc (f x) = E.enc x) {h : Heap} {a : Option Addr} {c : Nat} {L : List α} (s : Sl E h a c L) : Sl E' h a c (L.map f) := by
  refine ⟨by rw [List.length_map]; exact s.le, s.ex.imp id fun ⟨b, o, e, hc⟩ => ⟨b, o, e, fun i y hy => ?_⟩⟩
  rw [List.getElem?_map] at hy
  cases hx : L[i]? with
  | none => rw [hx] at hy; cases hy
  | some x =>
    rw [hx] at hy
    simp only [Option.map_some, Option.some.injEq] at hy
    subst hy
    rw [he, hk]; exact hc i x hx
def ofU (l : List UInt8) : ByteArray := ⟨l.toArray⟩
abbrev tS : TypeId := 9
theorem one_S : OneCell encStr := fun _ => rfl
abbrev eL : Elt (List UInt8) := eOne encStr one_S
section
variable {h : Heap} {a : Option Addr} {c N : Nat} {L : List ByteArray}
set_option maxRecDepth 100000 in
theorem sortS_c (s : Sl eStr h a c L) (w : Own eStr.k tS N h a c) (hl : L.length < 4611686018427387904) :
    HC Try.prog 54 #[.slice a L.length c] h fun v h' => v = .tuple #[] ∧ Fr (blkA a) h h' ∧ ∃ L', L'.Perm L ∧ L'.Pairwise (fun x y => slt y x = false) ∧ Sl eStr h' a c L' ∧ Own eStr.k tS N h' a c := by
  by_cases h0 : L = []
  · subst h0
    refine f54_sh _ _ _ _ _ (f71_sh _ _ _ (f89_sh _ _ _ ?_))
    intro x1 e1 n e2 x2 e3 n1 e4 x3 e5 n2 e6
    have x1e : x1 = 0 := e1
    subst x1e
    have x2e : x2 = 0 := e3
    subst x2e
    have x3e : x3 = 0 := e5
    subst x3e
    refine ⟨by decide, 0, by kernel_rfl, _, rfl, _, rfl, ?_⟩
    refine f70_sh _ _ _ _ _ _ _ _ ⟨fun x y _ _ _ hh => x = 0 ∧ y = 0 ∧ h = hh, fun _ _ _ _ _ _ => 0, ⟨rfl, rfl, rfl⟩, ?_⟩
    rintro _ _ _ _ _ _ ⟨rfl, rfl, rfl⟩
    refine ⟨fun _ => f79_sh _ _ _ _ _ _ _ ⟨fun i hh => i = 1 ∧ h = hh, fun _ _ => 0, ⟨rfl, rfl⟩, ?_⟩, fun e => absurd e (by decide)⟩
    rintro _ _ ⟨rfl, rfl⟩
    exact ⟨fun e => absurd e (by decide), fun _ => ⟨rfl, rfl, rfl, Fr.refl _ _, [], List.Perm.refl _, List.Pairwise.nil, s, w⟩⟩
  · obtain ⟨b, o, rfl, _⟩ := s.addr (List.length_pos_iff.2 h0)
    intro w0 hw
    subst hw
    have hb : b < w0.heap.size := (w.low (blkA_of rfl)).2
    have s' : Sl eL w0.heap (some ⟨b, o, none⟩) c (L.map fun x => x.data.toList) := Sl.conv (E := eStr) (E' := eL) (fun x => x.data.toList) rfl (fun x => rfl) s
    have w' : Own 1 tS N w0.heap (some ⟨b, o, none⟩) c := w
    have hH : Holds encStr w0 b o (L.map fun x => x.data.toList).toArray := holds1 s' w'
    have hcon := Any.slices_Sort_string Lay.sortS b o c (L.map fun x => x.data.toList) w0 hH hb (by simpa using hl)
    rw [List.length_map] at hcon
    refine hcon.mono ?_
    rintro e w1 ⟨rfl, n, os, rfl⟩
    have hp := List.mergeSort_perm (L.map fun x => x.data.toList) (fun x y => decide (x ≤ y))
    have hsrt := List.pairwise_mergeSort (le := fun x y : List UInt8 => decide (x ≤ y)) (fun x y z h1 h2 => by simp only [decide_eq_true_eq] at *; exact List.le_trans h1 h2) (fun x y => by simp only [Bool.or_eq_true, decide_eq_true_eq]; exact List.le_total x y) (L.map fun x => x.data.toList)
    generalize hM : ((L.map fun x => x.data.toList).mergeSort fun x y => decide (x ≤ y)) = M at *
    obtain ⟨f1, s1, o1, m1⟩ := heap_sort1 s' w' (d := M.toArray) (by simp [hp.length_eq]) n os
    have s2 : Sl eL (sortWorld encStr w0 b o n M.toArray os).heap (some ⟨b, o, none⟩) c M := by simpa using s1
    refine ⟨_, rfl, m1, rfl, f1.mono fun i _ e => blkA_some.2 e, M.map ofU, ?_, ?_, Sl.conv (E := eL) (E' := eStr) ofU rfl (fun x => rfl) s2, o1⟩
    · have := hp.map ofU
      rw [List.map_map] at this
      refine this.trans ?_
      have e : (ofU ∘ fun x : ByteArray => x.data.toList) = id := by funext x; rfl
      rw [e, List.map_id]
    · rw [List.pairwise_map]
      refine hsrt.imp fun {x y} h => ?_
      have h := of_decide_eq_true h
      unfold slt
      rw [decide_eq_false_iff_not]
      exact List.not_lt.2 h
end
theorem cbK : CallB Try.prog 55 := fun _ _ => Try.call55 _ _
theorem cbK2 : CallB Try.prog 59 := fun _ _ => Try.call59 _ _
def Yk (m : Nat) (h : Heap) (b : Nat) : Prop := b ≠ m ∧ b ≠ h.size
section
variable {h : Heap} {y : Value} {R : Value → Heap → Prop} {mb m : Nat} {kv : List (ByteArray × Value)}
theorem keys_go (r : hcell h mb 0 = some (.map (some m))) (ml : MapL h m Value.string kv) (hv : ∀ p ∈ kv, ∃ x : Int, p.2 = .int .u64 x) (J : List ByteArray → Heap → Prop) (j0 : ∀ h1, Ext h h1 → h1.size = h.size + 1 → J [] h1) (jst : ∀ D hh hh', J D hh → Fr (· = h.size) hh hh' → J D hh')
    (step : ∀ D k hh, D.length < kv.length → h.size < hh.size → J D hh → HCV Try.prog y [.string k] hh fun vv h' => Fr (Yk m h) hh h' ∧ vv = .bool true ∧ J (D ++ [k]) h') (fin : ∀ D hh, D.Perm (kv.map (·.1)) → J D hh → R (.tuple #[]) hh) :
    HCF Try.prog (.func (.func 55) #[] #[ptr mb 0]) [y] h R := by
  refine ⟨_, [], [ptr mb 0], rfl, cbK, ?_⟩
  refine f55_sh _ _ _ _ _ ⟨_, r, m, rfl, kv, ml, fun it h1 eit x1 z1 i1 => ⟨fun hh => ∃ D td cu, Itr hh it m Value.string kv td cu ∧ (D ++ td.map (·.1)).Perm (kv.map (·.1)) ∧ h.size < hh.size ∧ J D hh, fun hh => leastOf fun n => ∃ D td cu, Itr hh it m Value.string kv td cu ∧ (D ++ td.map (·.1)).Perm (kv.map (·.1)) ∧ h.size < hh.size ∧ J D hh ∧ td.length = n, ⟨[], kv, none, i1, List.Perm.refl _, by omega, j0 h1 x1 z1⟩, ?_⟩⟩
  rintro h2 hI
  obtain ⟨⟨D, td, cu, i2, p2, z2, j2, hn⟩, _⟩ := leastOf_spec (p := fun n => ∃ D td cu, Itr h2 it m Value.string kv td cu ∧ (D ++ td.map (·.1)).Perm (kv.map (·.1)) ∧ h.size < h2.size ∧ J D h2 ∧ td.length = n) (let ⟨D, td, cu, a, b, c, d⟩ := hI; ⟨_, D, td, cu, a, b, c, d, rfl⟩)
  refine ⟨m, kv, td, cu, i2, fun more h3 td1 cu1 o3 i3 nx => ?_⟩
  have j3 := jst D h2 h3 j2 (by rw [← eit]; exact o3.fr)
  refine ⟨fun em => ?_, fun em => ?_⟩
  · obtain ⟨s1, q, s2, rfl, rfl, rfl⟩ := nx.2 em
    have hq : q ∈ kv := by
      have hk : q.1 ∈ (D ++ (s1 ++ q :: s2).map (·.1)) := by simp
      obtain ⟨es, c, seen, c0, a1, a2, a3, a4, a5, a6, a7, a8⟩ := i3
      obtain ⟨e, he, s', e1, e2, e3, e4⟩ := a8 q rfl
      have : (e.key, e.val) ∈ kv.map fun p => (Value.string p.1, p.2) := by rw [← a2]; exact List.mem_map_of_mem he
      obtain ⟨p, hp, ep⟩ := List.mem_map.1 this
      simp only [Prod.mk.injEq] at ep
      rw [e3, e4] at ep
      have e5 : p = q := by
        obtain ⟨p1, p2⟩ := p; obtain ⟨q1, q2⟩ := q
        simp only [Value.string.injEq] at ep
        rw [ep.1, ep.2]
      rw [← e5]; exact hp
    obtain ⟨x, hx⟩ := hv q hq
    have hlen := p2.length_eq
    simp only [List.length_append, List.length_map, List.length_cons] at hlen
    refine ⟨m, kv, _, q, i3, x, hx, (step D q.1 h3 (by omega) (by have := o3.size; omega) j3).mono ?_⟩
    rintro _ h4 ⟨f4, rfl, j4⟩
    refine ⟨true, rfl, fun e => by simp at e, fun _ => ?_⟩
    have i4 := i3.fr f4 (fun q => q.1 rfl) (fun q => q.2 eit)
    have p4 : ((D ++ [q.1]) ++ (s1 ++ s2).map (·.1)).Perm (kv.map (·.1)) := by
      refine List.Perm.trans ?_ p2
      rw [List.append_assoc]
      refine List.Perm.append_left _ ?_
      rw [List.map_append, List.map_append, List.map_cons]
      exact (List.perm_middle (l₁ := s1.map (·.1)) (l₂ := s2.map (·.1))).symm
    have z4 : h.size < h4.size := by have := o3.size; have := f4.size; omega
    refine ⟨⟨_, _, _, i4, p4, z4, j4⟩, ?_⟩
    have := (leastOf_spec (p := fun n => ∃ D td cu, Itr h4 it m Value.string kv td cu ∧ (D ++ td.map (·.1)).Perm (kv.map (·.1)) ∧ h.size < h4.size ∧ J D h4 ∧ td.length = n) ⟨_, _, _, _, i4, p4, z4, j4, rfl⟩).2 _ ⟨_, _, _, i4, p4, z4, j4, rfl⟩
    show leastOf _ < leastOf _
    rw [← hn]
    simp only [List.length_append, List.length_cons] at this ⊢
    omega
  · have ht := nx.1 em
    subst ht
    rw [List.map_nil, List.append_nil] at p2
    exact fin D h3 p2 j3
end
end Cy
end Go.Proofs.Ytcdpapdefdnknaa
namespace Go.Proofs.Ytcdpapdefdnknaa
namespace Cy
open Go
section
variable {h : Heap} {y : Value} {R : Value → Heap → Prop} {mb m : Nat} {kv : List (ByteArray × Value)}
theorem keys_go2 (r : hcell h mb 0 = some (.map (some m))) (ml : MapL h m Value.string kv) (hv : ∀ p ∈ kv, ∃ x : Rc, p.2 = foV x) (J : List ByteArray → Heap → Prop) (j0 : ∀ h1, Ext h h1 → h1.size = h.size + 1 → J [] h1) (jst : ∀ D hh hh', J D hh → Fr (· = h.size) hh hh' → J D hh')
    (step : ∀ D k hh, D.length < kv.length → h.size < hh.size → J D hh → HCV Try.prog y [.string k] hh fun vv h' => Fr (Yk m h) hh h' ∧ vv = .bool true ∧ J (D ++ [k]) h') (fin : ∀ D hh, D.Perm (kv.map (·.1)) → J D hh → R (.tuple #[]) hh) :
    HCF Try.prog (.func (.func 59) #[] #[ptr mb 0]) [y] h R := by
  refine ⟨_, [], [ptr mb 0], rfl, cbK2, ?_⟩
  refine f59_sh _ _ _ _ _ ⟨_, r, m, rfl, kv, ml, fun it h1 eit x1 z1 i1 => ⟨fun hh => ∃ D td cu, Itr hh it m Value.string kv td cu ∧ (D ++ td.map (·.1)).Perm (kv.map (·.1)) ∧ h.size < hh.size ∧ J D hh, fun hh => leastOf fun n => ∃ D td cu, Itr hh it m Value.string kv td cu ∧ (D ++ td.map (·.1)).Perm (kv.map (·.1)) ∧ h.size < hh.size ∧ J D hh ∧ td.length = n, ⟨[], kv, none, i1, List.Perm.refl _, by omega, j0 h1 x1 z1⟩, ?_⟩⟩
  rintro h2 hI
  obtain ⟨⟨D, td, cu, i2, p2, z2, j2, hn⟩, _⟩ := leastOf_spec (p := fun n => ∃ D td cu, Itr h2 it m Value.string kv td cu ∧ (D ++ td.map (·.1)).Perm (kv.map (·.1)) ∧ h.size < h2.size ∧ J D h2 ∧ td.length = n) (let ⟨D, td, cu, a, b, c, d⟩ := hI; ⟨_, D, td, cu, a, b, c, d, rfl⟩)
  refine ⟨m, kv, td, cu, i2, fun more h3 td1 cu1 o3 i3 nx => ?_⟩
  have j3 := jst D h2 h3 j2 (by rw [← eit]; exact o3.fr)
  refine ⟨fun em => ?_, fun em => ?_⟩
  · obtain ⟨s1, q, s2, rfl, rfl, rfl⟩ := nx.2 em
    have hq : q ∈ kv := by
      obtain ⟨es, c, seen, c0, a1, a2, a3, a4, a5, a6, a7, a8⟩ := i3
      obtain ⟨e, he, s', e1, e2, e3, e4⟩ := a8 q rfl
      have : (e.key, e.val) ∈ kv.map fun p => (Value.string p.1, p.2) := by rw [← a2]; exact List.mem_map_of_mem he
      obtain ⟨p, hp, ep⟩ := List.mem_map.1 this
      simp only [Prod.mk.injEq] at ep
      rw [e3, e4] at ep
      have e5 : p = q := by
        obtain ⟨p1, p2⟩ := p; obtain ⟨q1, q2⟩ := q
        simp only [Value.string.injEq] at ep
        rw [ep.1, ep.2]
      rw [← e5]; exact hp
    obtain ⟨x, hx⟩ := hv q hq
    have hlen := p2.length_eq
    simp only [List.length_append, List.length_map, List.length_cons] at hlen
    refine ⟨m, kv, _, q, i3, x.kind, x.ver, x.key, x.val, hx, (step D q.1 h3 (by omega) (by have := o3.size; omega) j3).mono ?_⟩
    rintro _ h4 ⟨f4, rfl, j4⟩
    refine ⟨true, rfl, fun e => by simp at e, fun _ => ?_⟩
    have i4 := i3.fr f4 (fun q => q.1 rfl) (fun q => q.2 eit)
    have p4 : ((D ++ [q.1]) ++ (s1 ++ s2).map (·.1)).Perm (kv.map (·.1)) := by
      refine List.Perm.trans ?_ p2
      rw [List.append_assoc]
      refine List.Perm.append_left _ ?_
      rw [List.map_append, List.map_append, List.map_cons]
      exact (List.perm_middle (l₁ := s1.map (·.1)) (l₂ := s2.map (·.1))).symm
    have z4 : h.size < h4.size := by have := o3.size; have := f4.size; omega
    refine ⟨⟨_, _, _, i4, p4, z4, j4⟩, ?_⟩
    have := (leastOf_spec (p := fun n => ∃ D td cu, Itr h4 it m Value.string kv td cu ∧ (D ++ td.map (·.1)).Perm (kv.map (·.1)) ∧ h.size < h4.size ∧ J D h4 ∧ td.length = n) ⟨_, _, _, _, i4, p4, z4, j4, rfl⟩).2 _ ⟨_, _, _, i4, p4, z4, j4, rfl⟩
    show leastOf _ < leastOf _
    rw [← hn]
    simp only [List.length_append, List.length_cons] at this ⊢
    omega
  · have ht := nx.1 em
    subst ht
    rw [List.map_nil, List.append_nil] at p2
    exact fin D h3 p2 j3
end
theorem aS : AppT Try.prog 82 tS eStr.k 16 := ⟨by kernel_rfl, by kernel_rfl, by kernel_rfl, ⟨.string ByteArray.empty, [.string ByteArray.empty], by unfold zeroB; kernel_rfl, rfl, rfl⟩, by decide⟩
def Tells (seq : Value) (kv : List (ByteArray × Value)) (m : Nat) (h : Heap) : Prop := ∀ (y : Value) (R : Value → Heap → Prop) (J : List ByteArray → Heap → Prop), (∀ h1, Ext h h1 → h1.size = h.size + 1 → J [] h1) → (∀ D hh hh', J D hh → Fr (· = h.size) hh hh' → J D hh') →
    (∀ D k hh, D.length < kv.length → h.size < hh.size → J D hh → HCV Try.prog y [.string k] hh fun vv h' => Fr (Yk m h) hh h' ∧ vv = .bool true ∧ J (D ++ [k]) h') → (∀ D hh, D.Perm (kv.map (·.1)) → J D hh → R (.tuple #[]) hh) → HCF Try.prog seq [y] h R
section
variable {h : Heap} {seq : Value} {m : Nat} {kv : List (ByteArray × Value)}
theorem collect_c (hm : m < h.size) (hg : ∀ h2, Ext h h2 → Tells seq kv m h2) (hl : kv.length ≤ 8796093022208) : HC Try.prog 69 #[.slice none 0 0, seq] h fun v h' => Ext h h' ∧ ∃ a c L, v = .slice a L.length c ∧ L.Perm (kv.map (·.1)) ∧ Sl eStr h' a c L ∧ Own eStr.k tS h.size h' a c := by
  refine f69_sh _ _ _ _ _ _ fun sv h1 e1 eh1 Lp l h2 y stay el x2 z2 L2 hyld => ?_
  have x1 : Ext h h1 := by rw [eh1]; exact Ext.push _ _
  have r1 : h1[sv]? = some (.cells #[.slice none 0 0] 82 (0, 0)) := by rw [eh1]; exact push_new e1
  have z1 : h1.size = h.size + 1 := by rw [eh1]; simp
  clear eh1
  have x02 := x1.trans x2
  refine hg h2 x02 y _ (fun D hh => Lp .ready none hh ∧ (∃ a c, hh[sv]? = some (.cells #[.slice a D.length c] 82 (0, 0)) ∧ Sl eStr hh a c D ∧ Own eStr.k tS (h2.size + 1) hh a c) ∧ Ext h hh ∧ h2.size + 1 ≤ hh.size)
    (fun h3 x3 z3 => ⟨stay _ _ _ _ L2 (x3.block l (by omega)), ⟨none, 0, (x2.trans x3).row r1, Sl.nil _ _, Own.nil _ _ _ _⟩, x02.trans x3, by omega⟩) ?_ ?_ ?_
  · rintro D hh hh' ⟨lp, ⟨a, c, r, s, w⟩, x, z⟩ f
    have := f.size
    refine ⟨stay _ _ _ _ lp (f.block l (by omega) (by omega)), ⟨a, c, f.row r (by omega), s.fr f fun b hb q => ?_, w.fr f fun b hb q => ?_⟩, ((x.fr _).trans f fun _ _ q => q).ext fun i hi q => by omega, by omega⟩
    · have := (w.low hb).1; omega
    · have := (w.low hb).1; omega
  · rintro D k hh hD zh ⟨lp, ⟨a, c, r, s, w⟩, x, z⟩
    refine hyld k hh _ lp ⟨lp, fun h6 o6 lp6 => ?_⟩
    have r6 := o6.fr.row r (by omega)
    have nl : ∀ b, blkA a b → ¬ b = l := fun b hb q => by have := (w.low hb).1; omega
    have s6 := s.fr o6.fr nl
    have w6 := w.fr o6.fr nl
    have z6 := o6.size
    refine ⟨a, _, c, by rw [hcell_row r6]; rfl, fun nb h7 en e7 => ?_⟩
    refine app_1 (x := k) aS en e7 rfl s6 w6 rfl (by omega) (by omega) fun a' c' h8 f8 s8 w8 nw => ⟨a', _, c', rfl, ?_⟩
    have r8 := f8.row r6 (own_ne w6 r6 (by decide))
    refine ⟨HW_row r8 (by simp), fun h9 e9 => ?_⟩
    have f9 : Fr (· = sv) h8 h9 := fr_hset_of e9
    have r9 : h9[sv]? = some (.cells #[.slice a' (D.length + 1) c'] 82 (0, 0)) := by rw [e9]; exact hset_row r8
    have na : ∀ b, blkA a b → h2.size + 1 ≤ b := fun b hb => (w6.low hb).1
    have na' : ∀ b, blkA a' b → h2.size + 1 ≤ b := fun b hb => (w8.low hb).1
    have lp9 : Lp .busy none h9 := stay _ _ _ _ (stay _ _ _ _ lp6 (f8.block l (by omega) fun q => by have := na l q; omega)) (f9.block l (by have := f8.size; omega) (by omega))
    refine ⟨lp9, fun h10 o10 lp10 => ⟨?_, rfl, lp10, ⟨a', c', ?_, ?_, ?_⟩, ?_, ?_⟩⟩
    · refine (((o6.fr.mono fun i _ q => ?_).trans (f8.mono fun i _ q => ?_) fun _ _ q => q).trans (f9.mono fun i _ q => ?_) fun _ _ q => q).trans (o10.fr.mono fun i _ q => ?_) fun _ _ q => q
      · subst q; exact ⟨by omega, by omega⟩
      · have := na i q; exact ⟨by omega, by omega⟩
      · subst q; exact ⟨by omega, by omega⟩
      · subst q; exact ⟨by omega, by omega⟩
    · rw [List.length_append]; exact o10.fr.row r9 (by omega)
    · exact (s8.fr f9 fun b hb q => by have := na' b hb; omega).fr o10.fr fun b hb q => by have := na' b hb; omega
    · exact (w8.fr f9 fun b hb q => by have := na' b hb; omega).fr o10.fr fun b hb q => by have := na' b hb; omega
    · exact (((((x.fr (fun b => h.size ≤ b)).trans o6.fr fun i hi q => by omega).trans f8 fun i hi q => by have := na i q; omega).trans f9 fun i hi q => by omega).trans o10.fr fun i hi q => by omega).ext fun i hi q => by omega
    · have := f8.size; have := f9.size; have := o10.size; omega
  · rintro D hh hp ⟨lp, ⟨a, c, r, s, w⟩, x, z⟩
    refine ⟨.ready, none, lp, by simp, fun h5 o5 _ => ⟨rfl, ?_⟩⟩
    have nl : ∀ b, blkA a b → ¬ b = l := fun b hb q => by have := (w.low hb).1; omega
    have r5 := o5.fr.row r (by omega)
    refine ⟨a, _, c, by rw [hcell_row r5]; rfl, fun h11 sh => ⟨?_, a, c, D, rfl, hp, sl_shut (s.fr o5.fr nl) sh, (own_shut (w.fr o5.fr nl) sh).down (by omega)⟩⟩
    exact shut_ext (((x.fr _).trans o5.fr fun _ _ q => q).ext fun i hi q => by omega) sh
theorem sorted_c (hm : m < h.size) (hg : ∀ h2, Ext h h2 → Tells seq kv m h2) (hl : kv.length ≤ 8796093022208) (hn : (kv.map (·.1)).Nodup) : HC Try.prog 38 #[seq] h fun v h' => Ext h h' ∧ ∃ a c L, v = .slice a L.length c ∧ L.Perm (kv.map (·.1)) ∧ L.Pairwise (fun x y => slt x y = true) ∧ Sl eStr h' a c L ∧ Own eStr.k tS h.size h' a c := by
  refine f38_sh _ _ _ (f53_sh _ _ _ ((collect_c hm hg hl).mono ?_))
  rintro _ h1 ⟨x1, a, c, L, rfl, hp, s, w⟩
  have hlen := hp.length_eq
  rw [List.length_map] at hlen
  refine ⟨a, _, c, rfl, a, _, c, rfl, (sortS_c s w (by omega)).mono ?_⟩
  rintro _ h2 ⟨rfl, f2, L', hp', hs, s', w'⟩
  refine ⟨rfl, ((x1.fr _).trans f2 fun _ _ q => q).ext fun i hi q => by have := (w.low q).1; omega, a, c, L', by rw [hp'.length_eq], hp'.trans hp, ?_, s', w'⟩
  have hnd : L'.Nodup := (hp'.trans hp).nodup_iff.2 hn
  refine (hs.and hnd).imp fun {x y} ⟨h1, h2⟩ => ?_
  rcases slt_or (a := y) (b := x) h1 with e | e
  · exact absurd e.symm h2
  · exact e
theorem keys_tell {mb : Nat} (r : ∀ h2, Ext h h2 → hcell h2 mb 0 = some (.map (some m))) (ml : MapL h m Value.string kv) (hv : ∀ p ∈ kv, ∃ x : Int, p.2 = .int .u64 x) : ∀ h2, Ext h h2 → Tells (.func (.func 55) #[] #[ptr mb 0]) kv m h2 :=
  fun h2 x2 y R J j0 jst step fin => keys_go (r h2 x2) (ml.ext x2) hv J j0 jst step fin
theorem keys_tell2 {mb : Nat} (r : ∀ h2, Ext h h2 → hcell h2 mb 0 = some (.map (some m))) (ml : MapL h m Value.string kv) (hv : ∀ p ∈ kv, ∃ x : Rc, p.2 = foV x) : ∀ h2, Ext h h2 → Tells (.func (.func 59) #[] #[ptr mb 0]) kv m h2 :=
  fun h2 x2 y R J j0 jst step fin => keys_go2 (r h2 x2) (ml.ext x2) hv J j0 jst step fin
end
end Cy
end Go.Proofs.Ytcdpapdefdnknaa
namespace Go.Proofs.Ytcdpapdefdnknaa
namespace Stb
section
variable {β : Type}
structure Seg (M M' : List β) (a b : Nat) : Prop where
  len : M'.length = M.length
  ex : ∃ σ τ : Nat → Nat, (∀ p, σ (τ p) = p) ∧ (∀ p, τ (σ p) = p) ∧ (∀ p, (p < a ∨ b ≤ p) → σ p = p) ∧ ∀ p : Nat, M'[p]? = M[σ p]?
theorem Seg.refl (M : List β) (a b : Nat) : Seg M M a b := ⟨rfl, id, id, fun _ => rfl, fun _ => rfl, fun _ _ => rfl, fun _ => rfl⟩
theorem Seg.trans {M M' M'' : List β} {a b : Nat} (x : Seg M M' a b) (y : Seg M' M'' a b) : Seg M M'' a b := by
  obtain ⟨s, t, h1, h2, h3, h4⟩ := x.ex
  obtain ⟨u, v, k1, k2, k3, k4⟩ := y.ex
  exact ⟨y.len.trans x.len, fun p => s (u p), fun p => v (t p), fun p => by simp only [k1, h1], fun p => by simp only [h2, k2], fun p hp => by simp only [k3 p hp, h3 p hp], fun p => by rw [k4, h4]⟩
theorem Seg.mono {M M' : List β} {a b c d : Nat} (x : Seg M M' c d) (h1 : a ≤ c) (h2 : d ≤ b) : Seg M M' a b :=
  let ⟨s, t, k1, k2, k3, k4⟩ := x.ex
  ⟨x.len, s, t, k1, k2, fun p hp => k3 p (by omega), k4⟩
theorem Seg.out {M M' : List β} {a b : Nat} (x : Seg M M' a b) {p : Nat} (hp : p < a ∨ b ≤ p) : M'[p]? = M[p]? := by
  obtain ⟨s, t, _, _, k3, k4⟩ := x.ex
  rw [k4, k3 p hp]
theorem Seg.mem {M M' : List β} {a b : Nat} (x : Seg M M' a b) {p : Nat} (h1 : a ≤ p) (h2 : p < b) : ∃ q, a ≤ q ∧ q < b ∧ M'[p]? = M[q]? := by
  obtain ⟨s, t, k1, k2, k3, k4⟩ := x.ex
  refine ⟨s p, ?_, ?_, k4 p⟩
  · rcases Nat.lt_or_ge (s p) a with q | q
    · have := k3 (s p) (.inl q)
      have e : t (s (s p)) = t (s p) := congrArg t this
      rw [k2, k2] at e; omega
    · exact q
  · rcases Nat.lt_or_ge (s p) b with q | q
    · exact q
    · have := k3 (s p) (.inr q)
      have e : t (s (s p)) = t (s p) := congrArg t this
      rw [k2, k2] at e; omega
theorem Seg.swap {M : List β} {a b i j : Nat} {x y : β} (hi : M[i]? = some x) (hj : M[j]? = some y) (h1 : a ≤ i) (h2 : i < b) (h3 : a ≤ j) (h4 : j < b) :
    Seg M ((M.set i y).set j x) a b ∧ ∀ p : Nat, ((M.set i y).set j x)[p]? = M[if p = i then j else if p = j then i else p]? := by
  have li := (List.getElem?_eq_some_iff.1 hi).1
  have lj := (List.getElem?_eq_some_iff.1 hj).1
  have key : ∀ p : Nat, ((M.set i y).set j x)[p]? = M[if p = i then j else if p = j then i else p]? := fun p => by
    by_cases e1 : j = p
    · subst e1
      rw [List.getElem?_set_self (by simpa using lj)]
      by_cases e2 : j = i
      · subst e2; rw [if_pos rfl, hi]
      · rw [if_neg e2, if_pos rfl, hi]
    · rw [List.getElem?_set_ne e1]
      by_cases e2 : i = p
      · subst e2; rw [List.getElem?_set_self li, if_pos rfl, hj]
      · rw [List.getElem?_set_ne e2, if_neg (Ne.symm e2), if_neg (Ne.symm e1)]
  refine ⟨⟨by simp, _, fun p => if p = i then j else if p = j then i else p, fun p => ?_, fun p => ?_, fun p hp => ?_, key⟩, key⟩
  · simp only; split <;> (try split) <;> (try split) <;> omega
  · simp only; split <;> (try split) <;> (try split) <;> omega
  · rw [if_neg (by omega), if_neg (by omega)]
def rho (a m b p : Nat) : Nat := if a ≤ p ∧ p < a + (b - m) then p + (m - a) else if a + (b - m) ≤ p ∧ p < b then p - (b - m) else p
structure Rot (M M' : List β) (a m b : Nat) : Prop where
  len : M'.length = M.length
  at_ : ∀ p : Nat, M'[p]? = M[rho a m b p]?
theorem Rot.seg {M M' : List β} {a m b : Nat} (r : Rot M M' a m b) (h1 : a ≤ m) (h2 : m ≤ b) : Seg M M' a b :=
  ⟨r.len, rho a m b, rho a (a + (b - m)) b, fun p => (by unfold rho; (repeat' split) <;> omega), fun p => (by unfold rho; (repeat' split) <;> omega), fun p hp => (by unfold rho; (repeat' split) <;> omega), r.at_⟩
theorem Rot.none {M : List β} {a m b : Nat} (h : a = m ∨ m = b) : Rot M M a m b :=
  ⟨rfl, fun p => by
    have : rho a m b p = p := by unfold rho; split <;> (try split) <;> omega
    rw [this]⟩
variable (lt : β → β → Prop)
structure Ord (M : List β) : Prop where
  irr : ∀ x, ¬ lt x x
  tr : ∀ x y z, lt x y → lt y z → lt x z
  tot : ∀ (p q : Nat) x y, p ≠ q → M[p]? = some x → M[q]? = some y → lt x y ∨ lt y x
variable {lt}
theorem Ord.seg {M M' : List β} {a b : Nat} (o : Ord lt M) (s : Seg M M' a b) : Ord lt M' := by
  obtain ⟨u, t, _, k2, _, k4⟩ := s.ex
  refine ⟨o.irr, o.tr, fun p q x y hpq hx hy => o.tot (u p) (u q) x y (fun e => hpq ?_) (by rw [← k4]; exact hx) (by rw [← k4]; exact hy)⟩
  have := congrArg t e
  rw [k2, k2] at this; exact this
theorem Ord.no {M : List β} (o : Ord lt M) {p q : Nat} {x y : β} (hpq : p ≠ q) (hx : M[p]? = some x) (hy : M[q]? = some y) (h : ¬ lt y x) : lt x y := (o.tot p q x y hpq hx hy).resolve_right h
variable (lt)
def Srt (M : List β) (a b : Nat) : Prop := ∀ (p q : Nat) x y, a ≤ p → p < q → q < b → M[p]? = some x → M[q]? = some y → lt x y
def Crs (M : List β) (a m b : Nat) : Prop := ∀ (p q : Nat) x y, a ≤ p → p < m → m ≤ q → q < b → M[p]? = some x → M[q]? = some y → lt x y
variable {lt}
theorem srt_join {M : List β} {a m b : Nat} (h1 : Srt lt M a m) (h2 : Srt lt M m b) (h3 : Crs lt M a m b) : Srt lt M a b := fun p q x y k1 k2 k3 hx hy => by
  rcases Nat.lt_or_ge q m with c | c
  · exact h1 p q x y k1 k2 c hx hy
  · rcases Nat.lt_or_ge p m with d | d
    · exact h3 p q x y k1 d c k3 hx hy
    · exact h2 p q x y d k2 k3 hx hy
theorem srt_one {M : List β} {a b : Nat} (h : b ≤ a + 1) : Srt lt M a b := fun p q x y k1 k2 k3 => by omega
theorem srt_out {M M' : List β} {a b c d : Nat} (s : Seg M M' c d) (h : b ≤ c ∨ d ≤ a) (hs : Srt lt M a b) : Srt lt M' a b := fun p q x y k1 k2 k3 hx hy =>
  hs p q x y k1 k2 k3 (by rw [← s.out (by omega)]; exact hx) (by rw [← s.out (by omega)]; exact hy)
theorem crs_seg {M M' : List β} {a m b c d : Nat} (s : Seg M M' c d) (h : a ≤ c ∧ d ≤ m ∨ m ≤ c ∧ d ≤ b) (hc : Crs lt M a m b) : Crs lt M' a m b := fun p q x y k1 k2 k3 k4 hx hy => by
  have f : ∀ (r lo hi : Nat) z, lo ≤ r → r < hi → (lo ≤ c ∧ d ≤ hi ∨ hi ≤ c ∨ d ≤ lo) → M'[r]? = some z → ∃ r', lo ≤ r' ∧ r' < hi ∧ M[r']? = some z := fun r lo hi z e1 e2 e3 hz => by
    by_cases hr : c ≤ r ∧ r < d
    · obtain ⟨r', q1, q2, q3⟩ := s.mem hr.1 hr.2
      exact ⟨r', by omega, by omega, by rw [← q3]; exact hz⟩
    · exact ⟨r, e1, e2, by rw [← s.out (by omega)]; exact hz⟩
  obtain ⟨p', a1, a2, a3⟩ := f p a m x k1 k2 (by omega) hx
  obtain ⟨q', b1, b2, b3⟩ := f q m b y k3 k4 (by omega) hy
  exact hc p' q' x y a1 a2 b1 b2 a3 b3
structure Ins (lt : β → β → Prop) (M : List β) (a b k : Nat) : Prop where
  rest : ∀ (p q : Nat) x y, a ≤ p → p < q → q < b → p ≠ k → q ≠ k → M[p]? = some x → M[q]? = some y → lt x y
  last : ∀ (q : Nat) x y, k < q → q < b → M[k]? = some x → M[q]? = some y → lt x y
theorem Ins.start {M : List β} {a i : Nat} (h : Srt lt M a i) : Ins lt M a (i + 1) i :=
  ⟨fun p q x y k1 k2 k3 k4 k5 => h p q x y k1 k2 (by omega), fun q x y k1 k2 => by omega⟩
theorem Ins.step {M : List β} {a b k : Nat} (I : Ins lt M a b k) {x y : β} (hk : a < k) (hx : M[k]? = some x) (hy : M[k - 1]? = some y) (hlt : lt x y) (kb : k < b) :
    Ins lt ((M.set k y).set (k - 1) x) a b (k - 1) := by
  have key := (Seg.swap (a := a) (b := b) hx hy (by omega) kb (by omega) (by omega)).2
  have g : ∀ (r : Nat) z, ((M.set k y).set (k - 1) x)[r]? = some z → M[if r = k then k - 1 else if r = k - 1 then k else r]? = some z := fun r z h => by rw [← key]; exact h
  refine ⟨fun p q u v k1 k2 k3 k4 k5 hu hv => ?_, fun q u v k1 k2 hu hv => ?_⟩
  · have hu := g p u hu
    have hv := g q v hv
    rw [if_neg (show ¬ p = k - 1 from k4)] at hu
    rw [if_neg (show ¬ q = k - 1 from k5)] at hv
    by_cases e1 : p = k
    · rw [if_pos e1] at hu
      rw [if_neg (by omega)] at hv
      exact I.rest (k - 1) q u v (by omega) (by omega) k3 (by omega) (by omega) hu hv
    · rw [if_neg e1] at hu
      by_cases e2 : q = k
      · rw [if_pos e2] at hv
        exact I.rest p (k - 1) u v k1 (by omega) (by omega) e1 (by omega) hu hv
      · rw [if_neg e2] at hv
        exact I.rest p q u v k1 k2 k3 e1 e2 hu hv
  · have hu := g (k - 1) u hu
    have hv := g q v hv
    rw [if_neg (by omega), if_pos rfl, hx] at hu
    cases hu
    by_cases e : q = k
    · rw [if_pos e, hy] at hv; cases hv; exact hlt
    · rw [if_neg e, if_neg (by omega)] at hv
      exact I.last q x v (by omega) k2 hx hv
theorem Ins.done {M : List β} {a b k : Nat} (o : Ord lt M) (I : Ins lt M a b k) (kb : k < b) (h : k ≤ a ∨ ∃ x y, M[k]? = some x ∧ M[k - 1]? = some y ∧ ¬ lt x y) : Srt lt M a b := fun p q u v k1 k2 k3 hu hv => by
  by_cases e1 : q = k
  · subst e1
    rcases h with h | ⟨x, y, hx, hy, hn⟩
    · omega
    · rw [hx] at hv; cases hv
      have hyx : lt y v := o.no (p := q - 1) (q := q) (by omega) hy hx hn
      by_cases e : p = q - 1
      · rw [e, hy] at hu; cases hu; exact hyx
      · exact o.tr u y v (I.rest p (q - 1) u y k1 (by omega) (by omega) (by omega) (by omega) hu hy) hyx
  · by_cases e2 : p = k
    · subst e2; exact I.last q u v k2 k3 hu hv
    · exact I.rest p q u v k1 k2 k3 e2 e1 hu hv
theorem rot_crs {M M2 : List β} {a m b mid lo hi s : Nat} (o : Ord lt M) (L : Srt lt M a m) (R : Srt lt M m b) (hb : b ≤ M.length) (rt : Rot M M2 s m (mid + m - s)) (h1 : a ≤ lo) (h2 : lo ≤ s) (h3 : s ≤ hi) (h4 : hi ≤ m) (h5 : hi ≤ mid) (h6 : mid + m ≤ b + s)
    (hlo : lo = a ∨ lo + b = mid + m) (hhi : hi = m ∨ hi = mid)
    (f1 : ∀ (c : Nat) x y, lo ≤ c → c < s → M[c]? = some x → M[mid + m - 1 - c]? = some y → lt x y)
    (f2 : ∀ (c : Nat) x y, s ≤ c → c < hi → M[mid + m - 1 - c]? = some x → M[c]? = some y → lt x y) : Crs lt M2 a mid b := fun p q x y k1 k2 k3 k4 hx hy => by
  rw [rt.at_] at hx hy
  have got : ∀ r, r < b → ∃ z, M[r]? = some z := fun r hr => ⟨_, List.getElem?_eq_getElem (by omega)⟩
  by_cases hp : p < s
  · have ep : rho s m (mid + m - s) p = p := by unfold rho; split <;> (try split) <;> omega
    rw [ep] at hx
    by_cases hq : q < mid + m - s
    · have eq : rho s m (mid + m - s) q = q - (mid - s) := by unfold rho; split <;> (try split) <;> omega
      rw [eq] at hy
      exact L p _ x y k1 (by omega) (by omega) hx hy
    · have eq : rho s m (mid + m - s) q = q := by unfold rho; split <;> (try split) <;> omega
      rw [eq] at hy
      have hls : lo < s := by omega
      obtain ⟨u, hu⟩ := got (s - 1) (by omega)
      obtain ⟨v, hv⟩ := got (mid + m - s) (by omega)
      have huv : lt u v := f1 (s - 1) u v (by omega) (by omega) hu (by rw [show mid + m - 1 - (s - 1) = mid + m - s by omega]; exact hv)
      have hxu : x = u ∨ lt x u := by
        by_cases e : p = s - 1
        · left; rw [e, hu] at hx; cases hx; rfl
        · right; exact L p (s - 1) x u k1 (by omega) (by omega) hx hu
      have hvy : y = v ∨ lt v y := by
        by_cases e : q = mid + m - s
        · left; rw [e, hv] at hy; cases hy; rfl
        · right; exact R _ q v y (by omega) (by omega) k4 hv hy
      have h8 : lt x v := by
        rcases hxu with e | e
        · rw [e]; exact huv
        · exact o.tr _ _ _ e huv
      rcases hvy with e | e
      · rw [e]; exact h8
      · exact o.tr _ _ _ h8 e
  · have ep : rho s m (mid + m - s) p = p + (m - s) := by unfold rho; split <;> (try split) <;> omega
    rw [ep] at hx
    by_cases hq : q < mid + m - s
    · have eq : rho s m (mid + m - s) q = q - (mid - s) := by unfold rho; split <;> (try split) <;> omega
      rw [eq] at hy
      have hsh : s < hi := by omega
      obtain ⟨u, hu⟩ := got (mid + m - 1 - s) (by omega)
      obtain ⟨v, hv⟩ := got s (by omega)
      have huv : lt u v := f2 s u v (Nat.le_refl _) hsh hu hv
      have hxu : x = u ∨ lt x u := by
        by_cases e : p + (m - s) = mid + m - 1 - s
        · left; rw [e, hu] at hx; cases hx; rfl
        · right; exact R _ _ x u (by omega) (by omega) (by omega) hx hu
      have hvy : y = v ∨ lt v y := by
        by_cases e : q - (mid - s) = s
        · left; rw [e, hv] at hy; cases hy; rfl
        · right; exact L s _ v y (by omega) (by omega) (by omega) hv hy
      have h8 : lt x v := by
        rcases hxu with e | e
        · rw [e]; exact huv
        · exact o.tr _ _ _ e huv
      rcases hvy with e | e
      · rw [e]; exact h8
      · exact o.tr _ _ _ h8 e
    · have eq : rho s m (mid + m - s) q = q := by unfold rho; split <;> (try split) <;> omega
      rw [eq] at hy
      exact R _ q x y (by omega) (by omega) k4 hx hy
theorem rot_srt {M M2 : List β} {a m b s e : Nat} (rt : Rot M M2 s m e) (hsm : s ≤ m) (hme : m ≤ e) (L : Srt lt M a m) (R : Srt lt M m b) (has : a ≤ s) (heb : e ≤ b) :
    Srt lt M2 a s ∧ Srt lt M2 s (s + (e - m)) ∧ Srt lt M2 (s + (e - m)) e ∧ Srt lt M2 e b := by
  refine ⟨fun p q x y k1 k2 k3 hx hy => ?_, fun p q x y k1 k2 k3 hx hy => ?_, fun p q x y k1 k2 k3 hx hy => ?_, fun p q x y k1 k2 k3 hx hy => ?_⟩ <;> rw [rt.at_] at hx hy
  · have e1 : rho s m e p = p := by unfold rho; split <;> (try split) <;> omega
    have e2 : rho s m e q = q := by unfold rho; split <;> (try split) <;> omega
    rw [e1] at hx; rw [e2] at hy
    exact L p q x y k1 k2 (by omega) hx hy
  · have e1 : rho s m e p = p + (m - s) := by unfold rho; split <;> (try split) <;> omega
    have e2 : rho s m e q = q + (m - s) := by unfold rho; split <;> (try split) <;> omega
    rw [e1] at hx; rw [e2] at hy
    exact R _ _ x y (by omega) (by omega) (by omega) hx hy
  · have e1 : rho s m e p = p - (e - m) := by unfold rho; split <;> (try split) <;> omega
    have e2 : rho s m e q = q - (e - m) := by unfold rho; split <;> (try split) <;> omega
    rw [e1] at hx; rw [e2] at hy
    exact L _ _ x y (by omega) (by omega) (by omega) hx hy
  · have e1 : rho s m e p = p := by unfold rho; split <;> (try split) <;> omega
    have e2 : rho s m e q = q := by unfold rho; split <;> (try split) <;> omega
    rw [e1] at hx; rw [e2] at hy
    exact R p q x y (by omega) k2 k3 hx hy
def Lab (bf : β → β → Prop) (M : List β) (a m b : Nat) : Prop := Crs bf M a m b
theorem rot_lab {bf : β → β → Prop} {M M2 : List β} {a m b s e : Nat} (rt : Rot M M2 s m e) (hsm : s ≤ m) (hme : m ≤ e) (hl : Lab bf M a m b) (has : a ≤ s) (heb : e ≤ b) :
    Lab bf M2 a s (s + (e - m)) ∧ Lab bf M2 (s + (e - m)) e b := by
  refine ⟨fun p q x y k1 k2 k3 k4 hx hy => ?_, fun p q x y k1 k2 k3 k4 hx hy => ?_⟩ <;> rw [rt.at_] at hx hy
  · have e1 : rho s m e p = p := by unfold rho; split <;> (try split) <;> omega
    have e2 : rho s m e q = q + (m - s) := by unfold rho; split <;> (try split) <;> omega
    rw [e1] at hx; rw [e2] at hy
    exact hl p _ x y k1 (by omega) (by omega) (by omega) hx hy
  · have e1 : rho s m e p = p - (e - m) := by unfold rho; split <;> (try split) <;> omega
    have e2 : rho s m e q = q := by unfold rho; split <;> (try split) <;> omega
    rw [e1] at hx; rw [e2] at hy
    exact hl _ q x y (by omega) (by omega) (by omega) k4 hx hy
theorem one_left {M M2 : List β} {a i b : Nat} {x : β} (hx : M[a]? = some x) (R : Srt lt M (a + 1) b) (rt : Rot M M2 a (a + 1) i) (h1 : a + 1 ≤ i) (h2 : i ≤ b)
    (f1 : ∀ (q : Nat) y, a + 1 ≤ q → q < i → M[q]? = some y → lt y x) (f2 : ∀ (q : Nat) y, i ≤ q → q < b → M[q]? = some y → lt x y) : Srt lt M2 a b := fun p q u v k1 k2 k3 hu hv => by
  rw [rt.at_] at hu hv
  by_cases hp : p < i - 1
  · have e1 : rho a (a + 1) i p = p + 1 := by unfold rho; split <;> (try split) <;> omega
    rw [e1] at hu
    by_cases hq : q < i - 1
    · have e2 : rho a (a + 1) i q = q + 1 := by unfold rho; split <;> (try split) <;> omega
      rw [e2] at hv; exact R _ _ u v (by omega) (by omega) (by omega) hu hv
    · by_cases hq2 : q = i - 1
      · have e2 : rho a (a + 1) i q = a := by unfold rho; split <;> (try split) <;> omega
        rw [e2, hx] at hv; cases hv
        exact f1 _ u (by omega) (by omega) hu
      · have e2 : rho a (a + 1) i q = q := by unfold rho; split <;> (try split) <;> omega
        rw [e2] at hv; exact R _ _ u v (by omega) (by omega) (by omega) hu hv
  · have e2 : rho a (a + 1) i q = q := by unfold rho; split <;> (try split) <;> omega
    rw [e2] at hv
    by_cases hp2 : p = i - 1
    · have e1 : rho a (a + 1) i p = a := by unfold rho; split <;> (try split) <;> omega
      rw [e1, hx] at hu; cases hu
      exact f2 q v (by omega) k3 hv
    · have e1 : rho a (a + 1) i p = p := by unfold rho; split <;> (try split) <;> omega
      rw [e1] at hu; exact R _ _ u v (by omega) (by omega) (by omega) hu hv
theorem one_right {M M2 : List β} {a i m : Nat} {x : β} (hx : M[m]? = some x) (L : Srt lt M a m) (rt : Rot M M2 i m (m + 1)) (h1 : a ≤ i) (h2 : i ≤ m)
    (f1 : ∀ (q : Nat) y, a ≤ q → q < i → M[q]? = some y → lt y x) (f2 : ∀ (q : Nat) y, i ≤ q → q < m → M[q]? = some y → lt x y) : Srt lt M2 a (m + 1) := fun p q u v k1 k2 k3 hu hv => by
  rw [rt.at_] at hu hv
  by_cases hp : p < i
  · have e1 : rho i m (m + 1) p = p := by unfold rho; split <;> (try split) <;> omega
    rw [e1] at hu
    by_cases hq : q < i
    · have e2 : rho i m (m + 1) q = q := by unfold rho; split <;> (try split) <;> omega
      rw [e2] at hv; exact L _ _ u v (by omega) (by omega) (by omega) hu hv
    · by_cases hq2 : q = i
      · have e2 : rho i m (m + 1) q = m := by unfold rho; split <;> (try split) <;> omega
        rw [e2, hx] at hv; cases hv
        exact f1 _ u (by omega) (by omega) hu
      · have e2 : rho i m (m + 1) q = q - 1 := by unfold rho; split <;> (try split) <;> omega
        rw [e2] at hv; exact L _ _ u v (by omega) (by omega) (by omega) hu hv
  · have e2 : rho i m (m + 1) q = q - 1 := by unfold rho; split <;> (try split) <;> omega
    rw [e2] at hv
    by_cases hp2 : p = i
    · have e1 : rho i m (m + 1) p = m := by unfold rho; split <;> (try split) <;> omega
      rw [e1, hx] at hu; cases hu
      exact f2 _ v (by omega) (by omega) hv
    · have e1 : rho i m (m + 1) p = p - 1 := by unfold rho; split <;> (try split) <;> omega
      rw [e1] at hu; exact L _ _ u v (by omega) (by omega) (by omega) hu hv
theorem rot_step {M C C' : List β} {a m b i j i' j' : Nat} (hC : ∀ p : Nat, C[rho (m - i) m (m + j) p]? = M[rho a m b p]?) (h1 : i ≤ m) (h2 : 0 < i) (h3 : 0 < j)
    (hs : (j < i ∧ i' = i - j ∧ j' = j ∧ ∀ p : Nat, C'[p]? = C[if m - i ≤ p ∧ p < m - i + j then p + i else if m ≤ p ∧ p < m + j then p - i else p]?) ∨ (i < j ∧ i' = i ∧ j' = j - i ∧ ∀ p : Nat, C'[p]? = C[if m - i ≤ p ∧ p < m then p + j else if m + j - i ≤ p ∧ p < m + j then p - j else p]?)) :
    ∀ p : Nat, C'[rho (m - i') m (m + j') p]? = M[rho a m b p]? := fun p => by
  rw [← hC p]
  rcases hs with ⟨k1, rfl, rfl, k4⟩ | ⟨k1, rfl, rfl, k4⟩
  · rw [k4]
    congr 1
    unfold rho
    repeat' split
    all_goals omega
  · rw [k4]
    congr 1
    unfold rho
    repeat' split
    all_goals omega
theorem rot_last {M C C' : List β} {a m b i : Nat} (hC : ∀ p : Nat, C[rho (m - i) m (m + i) p]? = M[rho a m b p]?) (h1 : i ≤ m) (hl : C'.length = M.length) (hs : ∀ p : Nat, C'[p]? = C[if m - i ≤ p ∧ p < m then p + i else if m ≤ p ∧ p < m + i then p - i else p]?) : Rot M C' a m b :=
  ⟨hl, fun p => by
    rw [← hC p, hs]
    congr 1
    unfold rho
    repeat' split
    all_goals omega⟩
theorem Seg.perm {M M' : List β} {a b : Nat} (s : Seg M M' a b) : M'.Perm M := by
  obtain ⟨u, t, k1, k2, k3, k4⟩ := s.ex
  have hlt : ∀ p, p < M.length → u p < M.length := fun p hp => by
    have hp' : p < M'.length := by rw [s.len]; exact hp
    have h1 : M'[p]? = some M'[p] := List.getElem?_eq_getElem hp'
    rw [k4] at h1
    exact (List.getElem?_eq_some_iff.1 h1).1
  have nd : ((List.range M.length).map u).Nodup := by
    rw [List.Nodup, List.pairwise_map]
    refine List.Pairwise.imp ?_ (List.nodup_range (n := M.length))
    intro x y hxy e
    have := congrArg t e
    rw [k2, k2] at this; exact hxy this
  have hle : ∀ p, M.length ≤ p → M.length ≤ u p := fun p hp => by
    have h1 : M'[p]? = none := List.getElem?_eq_none (by rw [s.len]; exact hp)
    rw [k4] at h1
    exact List.getElem?_eq_none_iff.1 h1
  have pr : ((List.range M.length).map u).Perm (List.range M.length) := by
    rw [List.perm_iff_count]
    intro x
    by_cases hx : x < M.length
    · have hm : x ∈ (List.range M.length).map u := by
        refine List.mem_map.2 ⟨t x, List.mem_range.2 ?_, k1 x⟩
        rcases Nat.lt_or_ge (t x) M.length with q | q
        · exact q
        · have := hle _ q
          rw [k1] at this; omega
      rw [List.Nodup.count nd, if_pos hm, List.Nodup.count List.nodup_range, if_pos (List.mem_range.2 hx)]
    · rw [List.count_eq_zero.2, List.count_eq_zero.2]
      · simp; omega
      · intro h
        obtain ⟨p, hp, e⟩ := List.mem_map.1 h
        have := hlt p (List.mem_range.1 hp); omega
  have e1 : M'.map some = ((List.range M.length).map u).map fun p => M[p]? := by
    apply List.ext_getElem?
    intro p
    simp only [List.getElem?_map]
    by_cases hp : p < M.length
    · rw [List.getElem?_range hp, List.getElem?_eq_getElem (by rw [s.len]; exact hp)]
      simp only [Option.map_some]
      rw [← k4, List.getElem?_eq_getElem (by rw [s.len]; exact hp)]
    · rw [List.getElem?_eq_none (by rw [s.len]; omega), List.getElem?_eq_none (by simp; omega)]; rfl
  have e2 : M.map some = (List.range M.length).map fun p => M[p]? := by
    apply List.ext_getElem?
    intro p
    simp only [List.getElem?_map]
    by_cases hp : p < M.length
    · rw [List.getElem?_range hp, List.getElem?_eq_getElem hp]
      simp only [Option.map_some]
      rw [List.getElem?_eq_getElem hp]
    · rw [List.getElem?_eq_none (by omega), List.getElem?_eq_none (by simp; omega)]; rfl
  have h3 : (M'.map some).Perm (M.map some) := by rw [e1, e2]; exact pr.map _
  have h4 := h3.filterMap id
  simpa [List.filterMap_map] using h4
end
end Stb
end Go.Proofs.Ytcdpapdefdnknaa
namespace Go.Proofs.Ytcdpapdefdnknaa
namespace Stb
open Go
abbrev eI : Elt Int := eInt .i64
structure St (h0 : Heap) (a : Option Addr) (c N : Nat) (T : TypeId) (h : Heap) (M : List (Int × Nat)) : Prop where
  sl : Sl eI h a c (M.map Prod.fst)
  own : Own eI.k T N h a c
  fr : Fr (blkA a) h0 h
section
variable {h0 h h' : Heap} {a : Option Addr} {c N : Nat} {T : TypeId} {M : List (Int × Nat)}
theorem map_get {M : List (Int × Nat)} {i : Nat} {x : Int × Nat} (hx : M[i]? = some x) : (M.map Prod.fst)[i]? = some x.1 := by rw [List.getElem?_map, hx]; rfl
theorem St.ext (s : St h0 a c N T h M) (x : Ext h h') : St h0 a c N T h' M := ⟨s.sl.ext x, s.own.ext x, s.fr.trans (x.fr _) fun _ _ q => q⟩
theorem St.get (s : St h0 a c N T h M) {i : Nat} {x : Int × Nat} (hx : M[i]? = some x) : ∃ b o, a = some ⟨b, o, none⟩ ∧ hcell h b (o + i * 1) = some (.int .i64 x.1) := by
  obtain ⟨b, o, e, d⟩ := s.sl.at (map_get hx)
  exact ⟨b, o, e, d.1⟩
theorem St.swap (s : St h0 a c N T h M) {i j : Nat} {x y : Int × Nat} (hx : M[i]? = some x) (hy : M[j]? = some y) : ∃ b o, a = some ⟨b, o, none⟩ ∧ hcell h b (o + i * 1) = some (.int .i64 x.1) ∧ hcell h b (o + j * 1) = some (.int .i64 y.1) ∧
    HW h b (o + i * 1) ∧ ∀ h2, h2 = hset h b (o + i * 1) (.int .i64 y.1) → HW h2 b (o + j * 1) ∧ ∀ h3, h3 = hset h2 b (o + j * 1) (.int .i64 x.1) → St h0 a c N T h3 ((M.set i y).set j x) := by
  obtain ⟨b, o, e, d⟩ := s.get hx
  obtain ⟨b', o', e', d'⟩ := s.get hy
  rw [e] at e'; cases e'
  subst e
  have li := (List.getElem?_eq_some_iff.1 hx).1
  have lj := (List.getElem?_eq_some_iff.1 hy).1
  obtain ⟨u1, u2⟩ := s.sl.word s.own (i := i) (r := 0) (x' := y.1) (v := .int .i64 y.1) (by simpa using li) (by decide) rfl (p := o + i * 1) rfl
  refine ⟨b, o, rfl, d, d', u1, fun h2 e2 => ?_⟩
  obtain ⟨s2, w2, f2⟩ := u2 h2 e2
  obtain ⟨v1, v2⟩ := s2.word w2 (i := j) (r := 0) (x' := x.1) (v := .int .i64 x.1) (by simpa using lj) (by decide) rfl (p := o + j * 1) rfl
  refine ⟨v1, fun h3 e3 => ?_⟩
  obtain ⟨s3, w3, f3⟩ := v2 h3 e3
  refine ⟨?_, w3, s.fr.trans ((f2.trans f3 fun _ _ q => q).mono fun i _ q => by subst q; exact blkA_of rfl) fun _ _ q => q⟩
  rw [List.map_set, List.map_set]; exact s3
theorem St.len (s : St h0 a c N T h M) (hl : M.length ≤ 1152921504606846976) {i : Nat} {x : Int × Nat} (hx : M[i]? = some x) : i < M.length := (List.getElem?_eq_some_iff.1 hx).1
theorem half {i j : Nat} (h : i + j ≤ 4611686018427387904) : IntKind.i64.wrap (Int.fdiv (IntKind.u64.wrap (IntKind.i64.wrap ((i : Int) + (j : Int)))) (2 ^ min (Int.toNat 1) 64)) = (((i + j) / 2 : Nat) : Int) := by
  rw [w64 (x := (i : Int) + j) (by omega) (by omega), wu64 (by omega) (by omega)]
  have e : (2 : Int) ^ min (Int.toNat 1) 64 = 2 := by decide
  rw [e, Int.fdiv_eq_ediv_of_nonneg _ (by decide), w64 (by omega) (by omega)]
  omega
variable {cmp : Value} {cf : Int → Int → Int} {D : Int → Prop}
def bf (x y : Int × Nat) : Prop := x.2 < y.2
def ltS (cf : Int → Int → Int) (x y : Int × Nat) : Prop := cf x.1 y.1 < 0 ∨ (¬ cf y.1 x.1 < 0 ∧ x.2 < y.2)
structure Cmp (P : Program) (h0 : Heap) (a : Option Addr) (cmp : Value) (cf : Int → Int → Int) (D : Int → Prop) : Prop where
  call : ∀ h2, Fr (blkA a) h0 h2 → ∀ u v, D u → D v → HCV P cmp [.int .i64 u, .int .i64 v] h2 fun w h3 => w = .int .i64 (cf u v) ∧ Ext h2 h3
  tr : ∀ x y z, D x → D y → D z → cf x y < 0 → cf y z < 0 → cf x z < 0
  asy : ∀ x y, D x → D y → cf x y < 0 → ¬ cf y x < 0
  nt : ∀ x y z, D x → D y → D z → ¬ cf x y < 0 → ¬ cf y z < 0 → ¬ cf x z < 0
structure Ok (D : Int → Prop) (M : List (Int × Nat)) : Prop where
  dom : ∀ (p : Nat) x, M[p]? = some x → D x.1
  lab : ∀ (p q : Nat) x y, p ≠ q → M[p]? = some x → M[q]? = some y → x.2 ≠ y.2
  len : M.length ≤ 1152921504606846976
theorem Ok.seg {M M' : List (Int × Nat)} {a b : Nat} (o : Ok D M) (s : Seg M M' a b) : Ok D M' := by
  have sl := s.len
  obtain ⟨u, t, _, k2, _, k4⟩ := s.ex
  refine ⟨fun p x h => o.dom (u p) x (by rw [← k4]; exact h), fun p q x y hpq hx hy => o.lab (u p) (u q) x y (fun e => hpq ?_) (by rw [← k4]; exact hx) (by rw [← k4]; exact hy), by rw [sl]; exact o.len⟩
  have := congrArg t e
  rw [k2, k2] at this; exact this
theorem lt_before {x y : Int × Nat} (h : bf x y) : ltS cf y x ↔ cf y.1 x.1 < 0 := ⟨fun q => q.resolve_right fun r => by have := r.2; unfold bf at h; omega, .inl⟩
def ltD (cf : Int → Int → Int) (D : Int → Prop) (x y : Int × Nat) : Prop := ltS cf x y ∧ D x.1 ∧ D y.1
theorem ord_of {P : Program} (C : Cmp P h0 a cmp cf D) (o : Ok D M) : Ord (ltD cf D) M := by
  refine ⟨fun x h => ?_, fun x y z h1 h2 => ⟨?_, h1.2.1, h2.2.2⟩, fun p q x y hpq hx hy => ?_⟩
  · obtain ⟨h, d, _⟩ := h
    rcases h with h | h
    · exact C.asy _ _ d d h h
    · exact absurd h.2 (Nat.lt_irrefl _)
  · obtain ⟨h1, dx, dy⟩ := h1
    obtain ⟨h2, _, dz⟩ := h2
    have key : ∀ u v w, D u → D v → D w → ¬ cf v u < 0 → cf v w < 0 → cf u w < 0 := fun u v w du dv dw q1 q2 => by
      rcases Decidable.em (cf u w < 0) with r | r
      · exact r
      · exact absurd q2 (C.nt v u w dv du dw q1 r)
    have key2 : ∀ u v w, D u → D v → D w → cf u v < 0 → ¬ cf w v < 0 → cf u w < 0 := fun u v w du dv dw q1 q2 => by
      rcases Decidable.em (cf u w < 0) with r | r
      · exact r
      · exact absurd q1 (C.nt u w v du dw dv r q2)
    rcases h1 with h1 | ⟨h1, l1⟩
    · rcases h2 with h2 | ⟨h2, _⟩
      · exact .inl (C.tr _ _ _ dx dy dz h1 h2)
      · exact .inl (key2 _ _ _ dx dy dz h1 h2)
    · rcases h2 with h2 | ⟨h2, l2⟩
      · exact .inl (key _ _ _ dx dy dz h1 h2)
      · exact .inr ⟨C.nt _ _ _ dz dy dx h2 h1, by omega⟩
  · have dx := o.dom p x hx
    have dy := o.dom q y hy
    have hl := o.lab p q x y hpq hx hy
    by_cases h1 : cf x.1 y.1 < 0
    · exact .inl ⟨.inl h1, dx, dy⟩
    · by_cases h2 : cf y.1 x.1 < 0
      · exact .inr ⟨.inl h2, dy, dx⟩
      · rcases Nat.lt_or_ge x.2 y.2 with q | q
        · exact .inl ⟨.inr ⟨h2, q⟩, dx, dy⟩
        · exact .inr ⟨.inr ⟨h1, by omega⟩, dy, dx⟩
theorem ltD_before {x y : Int × Nat} (h : bf x y) (dx : D x.1) (dy : D y.1) : ltD cf D y x ↔ cf y.1 x.1 < 0 := ⟨fun q => (lt_before h).1 q.1, fun q => ⟨(lt_before h).2 q, dy, dx⟩⟩
set_option maxHeartbeats 1600000 in
theorem swapRange_c (s : St h0 a c N T h M) (hl : M.length ≤ 1152921504606846976) {i j n : Nat} (h1 : i + n ≤ j) (h2 : j + n ≤ M.length) :
    HC Try.prog 97 #[.slice a M.length c, .int .i64 (i : Nat), .int .i64 (j : Nat), .int .i64 (n : Nat), cmp] h fun v h' => v = .tuple #[] ∧ ∃ M', St h0 a c N T h' M' ∧ M'.length = M.length ∧
      ∀ p : Nat, M'[p]? = M[if i ≤ p ∧ p < i + n then p + (j - i) else if j ≤ p ∧ p < j + n then p - (j - i) else p]? := by
  refine f97_sh _ _ _ _ _ _ _ _ _ ⟨fun k h1 => ∃ (k' : Nat) (C : List (Int × Nat)), k = k' ∧ k' ≤ n ∧ St h0 a c N T h1 C ∧ C.length = M.length ∧ ∀ p : Nat, C[p]? = M[if i ≤ p ∧ p < i + k' then p + (j - i) else if j ≤ p ∧ p < j + k' then p - (j - i) else p]?, fun k _ => n - k.toNat,
    ⟨0, M, rfl, Nat.zero_le _, s, rfl, fun p => by rw [if_neg (by omega), if_neg (by omega)]⟩, ?_⟩
  rintro _ hh ⟨k, C, rfl, hk, sC, lC, hC⟩
  refine ⟨fun e => ?_, fun e => ?_⟩
  · have hkn := lt_of_dec e
    have ex : ∃ x, C[i + k]? = some x := ⟨_, List.getElem?_eq_getElem (by omega)⟩
    have ey : ∃ y, C[j + k]? = some y := ⟨_, List.getElem?_eq_getElem (by omega)⟩
    obtain ⟨x, hx⟩ := ex
    obtain ⟨y, hy⟩ := ey
    rw [w64 (x := (j : Int) + k) (by omega) (by omega), w64 (x := (i : Int) + k) (by omega) (by omega)]
    have e1 : Int.toNat ((j : Int) + k) = j + k := by omega
    have e2 : Int.toNat ((i : Int) + k) = i + k := by omega
    rw [e1, e2]
    obtain ⟨b, o, ea, c1, c2, w1, w2⟩ := sC.swap hx hy
    refine ⟨b, o, ea, by omega, by omega, _, c2, by omega, by omega, _, c1, w1, fun h2' e2' => ⟨(w2 h2' e2').1, fun h3' e3' => ?_⟩⟩
    have s3 := (w2 h2' e2').2 h3' e3'
    rw [wadd k (by omega)]
    refine ⟨⟨k + 1, _, rfl, hkn, s3, by simpa using lC, fun p => ?_⟩, by simp only [Int.toNat_natCast]; omega⟩
    have key := (Seg.swap (a := 0) (b := C.length) hx hy (by omega) (by omega) (by omega) (by omega)).2 p
    rw [key, hC]
    congr 1
    (repeat' split) <;> omega
  · have hkn : k = n := by have := ge_of_dec e; omega
    subst hkn
    exact ⟨rfl, C, sC, lC, hC⟩
set_option maxHeartbeats 1600000 in
theorem rotate_c (s : St h0 a c N T h M) (hl : M.length ≤ 1152921504606846976) {i m b : Nat} (h1 : i < m) (h2 : m < b) (h3 : b ≤ M.length) :
    HC Try.prog 90 #[.slice a M.length c, .int .i64 (i : Nat), .int .i64 (m : Nat), .int .i64 (b : Nat), cmp] h fun v h' => v = .tuple #[] ∧ ∃ M', St h0 a c N T h' M' ∧ Rot M M' i m b := by
  refine f90_sh _ _ _ _ _ _ _ _ _ ⟨fun u v h1 => ∃ (i' j' : Nat) (C : List (Int × Nat)), u = i' ∧ v = j' ∧ 0 < i' ∧ 0 < j' ∧ i' ≤ m - i ∧ j' ≤ b - m ∧ St h0 a c N T h1 C ∧ C.length = M.length ∧ ∀ p : Nat, C[rho (m - i') m (m + j') p]? = M[rho i m b p]?, fun u v _ => u.toNat + v.toNat, ?_, ?_⟩
  · rw [w64 (x := (m : Int) - i) (by omega) (by omega), w64 (x := (b : Int) - m) (by omega) (by omega)]
    refine ⟨m - i, b - m, M, by omega, by omega, by omega, by omega, Nat.le_refl _, Nat.le_refl _, s, rfl, fun p => ?_⟩
    congr 1
    unfold rho
    (repeat' split) <;> omega
  rintro _ _ hh ⟨i', j', C, rfl, rfl, k1, k2, k3, k4, sC, lC, hC⟩
  have e1 : IntKind.i64.wrap ((m : Int) - (i' : Int)) = ((m - i' : Nat) : Int) := by rw [w64 (by omega) (by omega)]; omega
  rw [← lC]
  refine ⟨fun e => ⟨fun e2 => ?_, fun e2 => ?_⟩, fun e => ?_⟩
  · have hlt := of_decide_eq_true e2
    rw [e1]
    refine (swapRange_c sC (by omega) (i := m - i') (j := m) (n := j') (by omega) (by omega)).mono ?_
    rintro v h2' ⟨rfl, M', s', l', hM⟩
    rw [show IntKind.i64.wrap ((i' : Int) - (j' : Int)) = ((i' - j' : Nat) : Int) by rw [w64 (by omega) (by omega)]; omega]
    refine ⟨rfl, ⟨i' - j', j', M', rfl, rfl, by omega, by omega, by omega, by omega, s', by omega, ?_⟩, by simp only [Int.toNat_natCast]; omega⟩
    refine rot_step hC (by omega) k1 k2 (.inl ⟨by omega, rfl, rfl, fun p => ?_⟩)
    rw [hM]
    congr 1
    (repeat' split) <;> omega
  · have hlt := of_decide_eq_false e2
    have hne : ¬ (i' : Int) = j' := by simpa using e
    rw [e1, show IntKind.i64.wrap (IntKind.i64.wrap ((m : Int) + (j' : Int)) - (i' : Int)) = ((m + j' - i' : Nat) : Int) by rw [w64 (x := (m : Int) + j') (by omega) (by omega), w64 (by omega) (by omega)]; omega]
    refine (swapRange_c sC (by omega) (i := m - i') (j := m + j' - i') (n := i') (by omega) (by omega)).mono ?_
    rintro v h2' ⟨rfl, M', s', l', hM⟩
    rw [show IntKind.i64.wrap ((j' : Int) - (i' : Int)) = ((j' - i' : Nat) : Int) by rw [w64 (by omega) (by omega)]; omega]
    refine ⟨rfl, ⟨i', j' - i', M', rfl, rfl, by omega, by omega, by omega, by omega, s', by omega, ?_⟩, by simp only [Int.toNat_natCast]; omega⟩
    refine rot_step hC (by omega) k1 k2 (.inr ⟨by omega, rfl, rfl, fun p => ?_⟩)
    rw [hM]
    congr 1
    (repeat' split) <;> omega
  · have he : (i' : Int) = j' := by simpa using e
    have he : i' = j' := by omega
    subst he
    rw [e1]
    refine (swapRange_c sC (by omega) (i := m - i') (j := m) (n := i') (by omega) (by omega)).mono ?_
    rintro v h2' ⟨rfl, M', s', l', hM⟩
    refine ⟨rfl, rfl, M', s', rot_last hC (by omega) (by omega) fun p => ?_⟩
    rw [hM]
    congr 1
    (repeat' split) <;> omega
end
end Stb
end Go.Proofs.Ytcdpapdefdnknaa
namespace Go.Proofs.Ytcdpapdefdnknaa
namespace Stb
open Go
section
variable {h0 h h' : Heap} {a : Option Addr} {c N : Nat} {T : TypeId} {M : List (Int × Nat)} {cmp : Value} {cf : Int → Int → Int} {D : Int → Prop}
set_option maxHeartbeats 3200000 in
theorem insertion_c (C : Cmp Try.prog h0 a cmp cf D) (s : St h0 a c N T h M) (o : Ok D M) {i b : Nat} (h1 : i ≤ b) (h2 : b ≤ M.length) (hb : Srt bf M i b) :
    HC Try.prog 72 #[.slice a M.length c, .int .i64 (i : Nat), .int .i64 (b : Nat), cmp] h fun v h' => v = .tuple #[] ∧ ∃ M', St h0 a c N T h' M' ∧ Seg M M' i b ∧ Srt (ltD cf D) M' i b := by
  have hl := o.len
  refine f72_sh _ _ _ _ _ _ _ _ ⟨fun k h1 => ∃ (k' : Nat) (Q : List (Int × Nat)), k = k' ∧ i < k' ∧ (k' ≤ b ∨ k' = i + 1) ∧ St h0 a c N T h1 Q ∧ Seg M Q i k' ∧ Srt (ltD cf D) Q i k', fun k _ => b - k.toNat, ?_, ?_⟩
  · rw [wadd i (by omega)]
    exact ⟨i + 1, M, rfl, by omega, .inr rfl, s, Seg.refl _ _ _, srt_one (Nat.le_refl _)⟩
  rintro _ hh ⟨k, Q, rfl, hik, hkb, sQ, gQ, rQ⟩
  refine ⟨fun e => ?_, fun e => ?_⟩
  rotate_left
  · have hge := ge_of_dec e
    rcases hkb with hkb | hkb
    · have : k = b := by omega
      subst this
      exact ⟨rfl, Q, sQ, gQ, rQ⟩
    · by_cases hbi : b = i
      · subst hbi
        have hQM : Q = M := by
          apply List.ext_getElem?
          intro p
          by_cases hp : p = b
          · subst hp
            obtain ⟨q, q1, q2, q3⟩ := gQ.mem (Nat.le_refl p) (by omega)
            rw [q3, show q = p by omega]
          · exact gQ.out (by omega)
        subst hQM
        exact ⟨rfl, Q, sQ, Seg.refl _ _ _, srt_one (by omega)⟩
      · have : k = b := by omega
        subst this
        exact ⟨rfl, Q, sQ, gQ, rQ⟩
  have hkn := lt_of_dec e
  have hk2 : k ≤ b := by omega
  have lQ := gQ.len
  obtain ⟨el, hel⟩ : ∃ x, Q[k]? = some x := ⟨_, List.getElem?_eq_getElem (by omega)⟩
  have helM : M[k]? = some el := by rw [← gQ.out (p := k) (.inr (Nat.le_refl _))]; exact hel
  have oQ := o.seg gQ
  have ordQ := ord_of C oQ
  have before : ∀ (p : Nat) y, i ≤ p → p < k → Q[p]? = some y → bf y el := fun p y k1 k2 hy => by
    obtain ⟨q, q1, q2, q3⟩ := gQ.mem k1 k2
    exact hb q k y el q1 q2 hkn (by rw [← q3]; exact hy) helM
  refine ⟨fun j h1 => ∃ (j' : Nat) (X : List (Int × Nat)), j = j' ∧ i ≤ j' ∧ j' ≤ k ∧ St h0 a c N T h1 X ∧ Seg Q X i (k + 1) ∧ X[j']? = some el ∧ Ins (ltD cf D) X i (k + 1) j' ∧ ∀ (p : Nat) y, i ≤ p → p < k + 1 → p ≠ j' → X[p]? = some y → bf y el, fun j _ => j.toNat,
    ⟨k, Q, rfl, by omega, Nat.le_refl _, sQ, Seg.refl _ _ _, hel, Ins.start rQ, fun p y k1 k2 k3 hy => before p y k1 (by omega) hy⟩, ?_⟩
  rintro _ h2' ⟨j, X, rfl, hij, hjk, sX, gX, hX, IX, bX⟩
  have lX := gX.len
  have oX := oQ.seg gX
  have fin : ∀ {h3 : Heap}, St h0 a c N T h3 X → (j ≤ i ∨ ∃ x y, X[j]? = some x ∧ X[j - 1]? = some y ∧ ¬ ltD cf D x y) → ((∃ (k' : Nat) (Q : List (Int × Nat)), IntKind.i64.wrap ((k : Int) + 1) = k' ∧ i < k' ∧ (k' ≤ b ∨ k' = i + 1) ∧ St h0 a c N T h3 Q ∧ Seg M Q i k' ∧ Srt (ltD cf D) Q i k') ∧ b - (IntKind.i64.wrap ((k : Int) + 1)).toNat < b - (k : Int).toNat) := fun {h3} s3 hc => by
    rw [wadd k (by omega)]
    exact ⟨⟨k + 1, X, rfl, by omega, .inl (by omega), s3, (gQ.mono (Nat.le_refl _) (by omega)).trans gX, Ins.done (ordQ.seg gX) IX (by omega) hc⟩, by simp only [Int.toNat_natCast]; omega⟩
  refine ⟨fun q h3 => St h0 a c N T h3 X ∧ (q = true → i < j ∧ ∃ y, X[j - 1]? = some y ∧ ltD cf D el y) ∧ (q = false → j ≤ i ∨ ∃ x y, X[j]? = some x ∧ X[j - 1]? = some y ∧ ¬ ltD cf D x y), ⟨fun e2 => ?_, fun e2 => ⟨sX, fun e => (by cases e), fun _ => .inl ?_⟩⟩, ?_⟩
  · have hji := of_decide_eq_true e2
    obtain ⟨y, hy⟩ : ∃ y, X[j - 1]? = some y := ⟨_, List.getElem?_eq_getElem (by omega)⟩
    obtain ⟨rb, ro, ea, c1⟩ := sX.get hX
    obtain ⟨rb', ro', ea', c2⟩ := sX.get hy
    rw [ea] at ea'; cases ea'
    rw [show IntKind.i64.wrap ((j : Int) - 1) = ((j - 1 : Nat) : Int) by rw [w64 (by omega) (by omega)]; omega]
    refine ⟨rb, ro, ea, by omega, by omega, _, c1, by omega, by omega, _, c2, HCV.mono (C.call h2' sX.fr _ _ (oX.dom j el hX) (oX.dom (j - 1) y hy)) ?_⟩
    rintro _ h3 ⟨rfl, x3⟩
    have hby := bX (j - 1) y (by omega) (by omega) (by omega) hy
    have hiff := ltD_before (cf := cf) hby (oX.dom (j - 1) y hy) (oX.dom j el hX)
    refine ⟨_, rfl, sX.ext x3, fun e3 => ⟨by omega, y, hy, hiff.2 (of_decide_eq_true e3)⟩, fun e3 => .inr ⟨el, y, hX, hy, fun q => of_decide_eq_false e3 (hiff.1 q)⟩⟩
  · have := of_decide_eq_false e2; omega
  · rintro q h3 ⟨s3, ht, hf⟩
    refine ⟨fun e3 => ?_, fun e3 => fin s3 (hf e3)⟩
    obtain ⟨hij2, y, hy, hlt⟩ := ht e3
    obtain ⟨rb, ro, ea, c1, c2, w1, w2⟩ := s3.swap hX hy
    rw [show IntKind.i64.wrap ((j : Int) - 1) = ((j - 1 : Nat) : Int) by rw [w64 (by omega) (by omega)]; omega]
    refine ⟨rb, ro, ea, by omega, by omega, _, c2, by omega, by omega, _, c1, w1, fun h5 e5 => ⟨(w2 h5 e5).1, fun h6 e6 => ?_⟩⟩
    have s6 := (w2 h5 e5).2 h6 e6
    have sw := Seg.swap (a := i) (b := k + 1) hX hy (by omega) (by omega) (by omega) (by omega)
    refine ⟨⟨j - 1, _, rfl, by omega, by omega, s6, gX.trans sw.1, ?_, IX.step hij2 hX hy hlt (by omega), fun p z k1 k2 k3 hz => ?_⟩, by simp only [Int.toNat_natCast]; omega⟩
    · rw [sw.2, if_neg (by omega), if_pos rfl]; exact hX
    · rw [sw.2] at hz
      by_cases e4 : p = j
      · rw [if_pos e4] at hz
        exact bX (j - 1) z (by omega) (by omega) (by omega) hz
      · rw [if_neg e4, if_neg k3] at hz
        exact bX p z k1 k2 e4 hz
set_option maxHeartbeats 12800000 in
theorem merge_c (C : Cmp Try.prog h0 a cmp cf D) : ∀ (n : Nat) {h : Heap} {M : List (Int × Nat)} {i m b : Nat}, b - i ≤ n → St h0 a c N T h M → Ok D M → i < m → m < b → b ≤ M.length → Srt (ltD cf D) M i m → Srt (ltD cf D) M m b → Lab bf M i m b →
    HC Try.prog 73 #[.slice a M.length c, .int .i64 (i : Nat), .int .i64 (m : Nat), .int .i64 (b : Nat), cmp] h fun v h' => v = .tuple #[] ∧ ∃ M', St h0 a c N T h' M' ∧ Seg M M' i b ∧ Srt (ltD cf D) M' i b
  | 0, h, M, i, m, b, hn, _, _, h1, h2, _, _, _, _ => by omega
  | n + 1, h, M, i, m, b, hn, s, o, h1, h2, h3, hL, hR, hlab => by
    have hl := o.len
    have ord := ord_of C o
    have got : ∀ r, r < M.length → ∃ z, M[r]? = some z := fun r hr => ⟨_, List.getElem?_eq_getElem hr⟩
    refine f73_sh _ _ _ _ _ _ _ _ _ ⟨fun e1 => ?_, fun e1 => ⟨fun e2 => ?_, fun e2 => ?_⟩⟩
    · -- one element ahead
      have hm : m = i + 1 := by rw [w64 (by omega) (by omega)] at e1; simp at e1; omega
      subst hm
      obtain ⟨x, hx⟩ := got i (by omega)
      refine ⟨fun u v h1 => ∃ u' v' : Nat, u = u' ∧ v = v' ∧ i + 1 ≤ u' ∧ u' ≤ v' ∧ v' ≤ b ∧ St h0 a c N T h1 M ∧ (∀ (q : Nat) y, i + 1 ≤ q → q < u' → M[q]? = some y → ltD cf D y x) ∧ (∀ (q : Nat) y, v' ≤ q → q < b → M[q]? = some y → ltD cf D x y), fun u v _ => v.toNat - u.toNat,
        ⟨i + 1, b, rfl, rfl, Nat.le_refl _, by omega, Nat.le_refl _, s, fun q y k1 k2 => by omega, fun q y k1 k2 => by omega⟩, ?_⟩
      rintro _ _ h1' ⟨u, v, rfl, rfl, k1, k2, k3, s1, fu, fv⟩
      refine ⟨fun e => ?_, fun e => ?_⟩
      · have huv := lt_of_dec e
        rw [half (i := u) (j := v) (by omega)]
        obtain ⟨y, hy⟩ := got ((u + v) / 2) (by omega)
        obtain ⟨rb, ro, ea, c1⟩ := s1.get hy
        obtain ⟨rb', ro', ea', c2⟩ := s1.get hx
        rw [ea] at ea'; cases ea'
        refine ⟨rb, ro, ea, by omega, by omega, _, c1, by omega, by omega, _, c2, HCV.mono (C.call h1' s1.fr _ _ (o.dom _ _ hy) (o.dom _ _ hx)) ?_⟩
        rintro _ h2' ⟨rfl, x2⟩
        have hby : bf x y := hlab i ((u + v) / 2) x y (Nat.le_refl _) (by omega) (by omega) (by omega) hx hy
        have hiff := ltD_before (cf := cf) hby (o.dom _ _ hx) (o.dom _ _ hy)
        refine ⟨_, rfl, fun e3 => ?_, fun e3 => ?_⟩
        · have hlt := hiff.2 (of_decide_eq_true e3)
          rw [wadd _ (by omega)]
          refine ⟨⟨(u + v) / 2 + 1, v, rfl, rfl, by omega, by omega, k3, s1.ext x2, fun q z q1 q2 hz => ?_, fv⟩, by simp only [Int.toNat_natCast]; omega⟩
          by_cases eq : q = (u + v) / 2
          · rw [eq, hy] at hz; cases hz; exact hlt
          · exact ord.tr _ _ _ (hR q _ z y q1 (by omega) (by omega) hz hy) hlt
        · have hlt : ltD cf D x y := ord.no (p := i) (q := (u + v) / 2) (by omega) hx hy fun q => of_decide_eq_false e3 (hiff.1 q)
          refine ⟨⟨u, (u + v) / 2, rfl, rfl, k1, by omega, by omega, s1.ext x2, fu, fun q z q1 q2 hz => ?_⟩, by simp only [Int.toNat_natCast]; omega⟩
          by_cases eq : q = (u + v) / 2
          · rw [eq, hy] at hz; cases hz; exact hlt
          · exact ord.tr _ _ _ hlt (hR _ q y z (by omega) (by omega) q2 hy hz)
      · have huv : u = v := by have := ge_of_dec e; omega
        subst huv
        rw [show IntKind.i64.wrap ((u : Int) - 1) = ((u - 1 : Nat) : Int) by rw [w64 (by omega) (by omega)]; omega]
        refine ⟨fun k h3 => ∃ (k' : Nat) (Q : List (Int × Nat)), k = k' ∧ i ≤ k' ∧ k' ≤ u - 1 ∧ St h0 a c N T h3 Q ∧ Rot M Q i (i + 1) (k' + 1), fun k _ => u - k.toNat, ⟨i, M, rfl, Nat.le_refl _, by omega, s1, Rot.none (.inr rfl)⟩, ?_⟩
        rintro _ h3' ⟨k, Q, rfl, q1, q2, sQ, rQ⟩
        have lQ := rQ.len
        refine ⟨fun e => ?_, fun e => ?_⟩
        · have hku := lt_of_dec e
          obtain ⟨z, hz⟩ : ∃ z, Q[k]? = some z := ⟨_, List.getElem?_eq_getElem (by omega)⟩
          obtain ⟨w, hw⟩ : ∃ w, Q[k + 1]? = some w := ⟨_, List.getElem?_eq_getElem (by omega)⟩
          obtain ⟨rb, ro, ea, c1, c2, w1, w2⟩ := sQ.swap hz hw
          rw [wadd k (by omega)]
          refine ⟨rb, ro, ea, by omega, by omega, _, c2, by omega, by omega, _, c1, w1, fun h5 e5 => ⟨(w2 h5 e5).1, fun h6 e6 => ?_⟩⟩
          have s6 := (w2 h5 e5).2 h6 e6
          refine ⟨⟨k + 1, _, rfl, by omega, by omega, s6, ⟨by simpa using lQ, fun p => ?_⟩⟩, by simp only [Int.toNat_natCast]; omega⟩
          rw [(Seg.swap (a := 0) (b := Q.length) hz hw (by omega) (by omega) (by omega) (by omega)).2, rQ.at_]
          congr 1
          unfold rho
          (repeat' split) <;> omega
        · have hku : k + 1 = u := by have := ge_of_dec e; omega
          rw [hku] at rQ
          exact ⟨rfl, Q, sQ, (rQ.seg (by omega) (by omega)).mono (Nat.le_refl _) (by omega), one_left hx hR rQ (by omega) (by omega) fu fv⟩
    · -- one element behind
      have hb : b = m + 1 := by rw [w64 (by omega) (by omega)] at e2; simp at e2; omega
      subst hb
      obtain ⟨x, hx⟩ := got m (by omega)
      refine ⟨fun u v h1 => ∃ u' v' : Nat, u = u' ∧ v = v' ∧ i ≤ u' ∧ u' ≤ v' ∧ v' ≤ m ∧ St h0 a c N T h1 M ∧ (∀ (q : Nat) y, i ≤ q → q < u' → M[q]? = some y → ltD cf D y x) ∧ (∀ (q : Nat) y, v' ≤ q → q < m → M[q]? = some y → ltD cf D x y), fun u v _ => v.toNat - u.toNat,
        ⟨i, m, rfl, rfl, Nat.le_refl _, by omega, Nat.le_refl _, s, fun q y k1 k2 => by omega, fun q y k1 k2 => by omega⟩, ?_⟩
      rintro _ _ h1' ⟨u, v, rfl, rfl, k1, k2, k3, s1, fu, fv⟩
      refine ⟨fun e => ?_, fun e => ?_⟩
      · have huv := lt_of_dec e
        rw [half (i := u) (j := v) (by omega)]
        obtain ⟨y, hy⟩ := got ((u + v) / 2) (by omega)
        obtain ⟨rb, ro, ea, c1⟩ := s1.get hy
        obtain ⟨rb', ro', ea', c2⟩ := s1.get hx
        rw [ea] at ea'; cases ea'
        refine ⟨rb, ro, ea, by omega, by omega, _, c2, by omega, by omega, _, c1, HCV.mono (C.call h1' s1.fr _ _ (o.dom _ _ hx) (o.dom _ _ hy)) ?_⟩
        rintro _ h2' ⟨rfl, x2⟩
        have hby : bf y x := hlab ((u + v) / 2) m y x (by omega) (by omega) (Nat.le_refl _) (by omega) hy hx
        have hiff := ltD_before (cf := cf) hby (o.dom _ _ hy) (o.dom _ _ hx)
        refine ⟨_, rfl, fun e3 => ?_, fun e3 => ?_⟩
        · have hlt : ltD cf D y x := ord.no (p := (u + v) / 2) (q := m) (by omega) hy hx fun q => by
            have := hiff.1 q
            simp [this] at e3
          rw [wadd _ (by omega)]
          refine ⟨⟨(u + v) / 2 + 1, v, rfl, rfl, by omega, by omega, k3, s1.ext x2, fun q z q1 q2 hz => ?_, fv⟩, by simp only [Int.toNat_natCast]; omega⟩
          by_cases eq : q = (u + v) / 2
          · rw [eq, hy] at hz; cases hz; exact hlt
          · exact ord.tr _ _ _ (hL q _ z y q1 (by omega) (by omega) hz hy) hlt
        · have hlt : ltD cf D x y := hiff.2 (by simpa using e3)
          refine ⟨⟨u, (u + v) / 2, rfl, rfl, k1, by omega, by omega, s1.ext x2, fu, fun q z q1 q2 hz => ?_⟩, by simp only [Int.toNat_natCast]; omega⟩
          by_cases eq : q = (u + v) / 2
          · rw [eq, hy] at hz; cases hz; exact hlt
          · exact ord.tr _ _ _ hlt (hL _ q y z (by omega) (by omega) q2 hy hz)
      · have huv : u = v := by have := ge_of_dec e; omega
        subst huv
        refine ⟨fun k h3 => ∃ (k' : Nat) (Q : List (Int × Nat)), k = k' ∧ u ≤ k' ∧ k' ≤ m ∧ St h0 a c N T h3 Q ∧ Rot M Q k' m (m + 1), fun k _ => k.toNat, ⟨m, M, rfl, by omega, Nat.le_refl _, s1, Rot.none (.inl rfl)⟩, ?_⟩
        rintro _ h3' ⟨k, Q, rfl, q1, q2, sQ, rQ⟩
        have lQ := rQ.len
        refine ⟨fun e => ?_, fun e => ?_⟩
        · have hku : u < k := by have := of_decide_eq_true e; omega
          obtain ⟨z, hz⟩ : ∃ z, Q[k]? = some z := ⟨_, List.getElem?_eq_getElem (by omega)⟩
          obtain ⟨w, hw⟩ : ∃ w, Q[k - 1]? = some w := ⟨_, List.getElem?_eq_getElem (by omega)⟩
          obtain ⟨rb, ro, ea, c1, c2, w1, w2⟩ := sQ.swap hz hw
          rw [show IntKind.i64.wrap ((k : Int) - 1) = ((k - 1 : Nat) : Int) by rw [w64 (by omega) (by omega)]; omega]
          refine ⟨rb, ro, ea, by omega, by omega, _, c2, by omega, by omega, _, c1, w1, fun h5 e5 => ⟨(w2 h5 e5).1, fun h6 e6 => ?_⟩⟩
          have s6 := (w2 h5 e5).2 h6 e6
          refine ⟨⟨k - 1, _, rfl, by omega, by omega, s6, ⟨by simpa using lQ, fun p => ?_⟩⟩, by simp only [Int.toNat_natCast]; omega⟩
          rw [(Seg.swap (a := 0) (b := Q.length) hz hw (by omega) (by omega) (by omega) (by omega)).2, rQ.at_]
          congr 1
          unfold rho
          (repeat' split) <;> omega
        · have hku : k = u := by have := of_decide_eq_false e; omega
          subst hku
          exact ⟨rfl, Q, sQ, (rQ.seg (by omega) (by omega)).mono (by omega) (Nat.le_refl _), one_right hx hL rQ (by omega) (by omega) fu fv⟩
    · -- halves
      have hm1 : i + 2 ≤ m := by rw [w64 (by omega) (by omega)] at e1; simp at e1; omega
      have hb1 : m + 2 ≤ b := by rw [w64 (by omega) (by omega)] at e2; simp at e2; omega
      rw [half (i := i) (j := b) (by omega)]
      generalize hmid : (i + b) / 2 = mid at *
      have hmid1 : i < mid := by omega
      have hmid2 : mid < b := by omega
      have e3 : IntKind.i64.wrap ((mid : Int) + (m : Int)) = ((mid + m : Nat) : Int) := by rw [w64 (by omega) (by omega)]; omega
      have e4 : IntKind.i64.wrap (((mid + m : Nat) : Int) - 1) = ((mid + m - 1 : Nat) : Int) := by rw [w64 (by omega) (by omega)]; omega
      rw [e3, e4]
      intro start hstart r hr
      obtain ⟨lo, hlo, hlo2, hlo3⟩ : ∃ lo : Nat, start = lo ∧ i ≤ lo ∧ ((m > mid ∧ lo + b = mid + m) ∨ (m ≤ mid ∧ lo = i)) := by
        by_cases hc : mid < m
        · have : decide ((m : Int) > (mid : Int)) = true := decide_eq_true (by omega)
          rw [this, cond_true] at hstart
          exact ⟨mid + m - b, by rw [hstart, w64 (by omega) (by omega)]; omega, by omega, .inl ⟨hc, by omega⟩⟩
        · have : decide ((m : Int) > (mid : Int)) = false := decide_eq_false (by omega)
          rw [this, cond_false] at hstart
          exact ⟨i, hstart, Nat.le_refl _, .inr ⟨by omega, rfl⟩⟩
      obtain ⟨hi, hhi, hhi2⟩ : ∃ hi : Nat, r = hi ∧ ((m > mid ∧ hi = mid) ∨ (m ≤ mid ∧ hi = m)) := by
        by_cases hc : mid < m
        · have : decide ((m : Int) > (mid : Int)) = true := decide_eq_true (by omega)
          rw [this, cond_true] at hr
          exact ⟨mid, hr, .inl ⟨hc, rfl⟩⟩
        · have : decide ((m : Int) > (mid : Int)) = false := decide_eq_false (by omega)
          rw [this, cond_false] at hr
          exact ⟨m, hr, .inr ⟨by omega, rfl⟩⟩
      subst hlo; subst hhi
      have hlohi : lo ≤ hi := by omega
      refine ⟨fun u v h1 => ∃ u' v' : Nat, u = u' ∧ v = v' ∧ lo ≤ u' ∧ u' ≤ v' ∧ v' ≤ hi ∧ St h0 a c N T h1 M ∧ (∀ (q : Nat) x y, lo ≤ q → q < u' → M[q]? = some x → M[mid + m - 1 - q]? = some y → ltD cf D x y) ∧ (∀ (q : Nat) x y, v' ≤ q → q < hi → M[mid + m - 1 - q]? = some x → M[q]? = some y → ltD cf D x y), fun u v _ => v.toNat - u.toNat,
        ⟨lo, hi, rfl, rfl, Nat.le_refl _, hlohi, Nat.le_refl _, s, fun q x y k1 k2 => by omega, fun q x y k1 k2 => by omega⟩, ?_⟩
      rintro _ _ h1' ⟨u, v, rfl, rfl, k1, k2, k3, s1, fu, fv⟩
      refine ⟨fun e => ?_, fun e => ?_⟩
      · have huv := lt_of_dec e
        rw [half (i := u) (j := v) (by omega)]
        generalize hq : (u + v) / 2 = q at *
        rw [show IntKind.i64.wrap (((mid + m - 1 : Nat) : Int) - (q : Int)) = ((mid + m - 1 - q : Nat) : Int) by rw [w64 (by omega) (by omega)]; omega]
        obtain ⟨x, hx⟩ := got q (by omega)
        obtain ⟨y, hy⟩ := got (mid + m - 1 - q) (by omega)
        obtain ⟨rb, ro, ea, c1⟩ := s1.get hx
        obtain ⟨rb', ro', ea', c2⟩ := s1.get hy
        rw [ea] at ea'; cases ea'
        refine ⟨rb, ro, ea, by omega, by omega, _, c2, by omega, by omega, _, c1, HCV.mono (C.call h1' s1.fr _ _ (o.dom _ _ hy) (o.dom _ _ hx)) ?_⟩
        rintro _ h2' ⟨rfl, x2⟩
        have hby : bf x y := hlab q _ x y (by omega) (by omega) (by omega) (by omega) hx hy
        have hiff := ltD_before (cf := cf) hby (o.dom _ _ hx) (o.dom _ _ hy)
        refine ⟨_, rfl, fun e3 => ?_, fun e3 => ?_⟩
        · have hlt : ltD cf D x y := ord.no (p := q) (q := mid + m - 1 - q) (by omega) hx hy fun z => by
            have := hiff.1 z
            simp [this] at e3
          rw [wadd _ (by omega)]
          refine ⟨⟨q + 1, v, rfl, rfl, by omega, by omega, k3, s1.ext x2, fun p z w p1 p2 hz hw => ?_, fv⟩, by simp only [Int.toNat_natCast]; omega⟩
          by_cases eq : p = q
          · subst eq; rw [hx] at hz; cases hz; rw [hy] at hw; cases hw; exact hlt
          · have g1 := hL p q z x (by omega) (by omega) (by omega) hz hx
            have g2 := hR (mid + m - 1 - q) (mid + m - 1 - p) y w (by omega) (by omega) (by omega) hy hw
            exact ord.tr _ _ _ g1 (ord.tr _ _ _ hlt g2)
        · have hlt : ltD cf D y x := hiff.2 (by simpa using e3)
          refine ⟨⟨u, q, rfl, rfl, k1, by omega, by omega, s1.ext x2, fu, fun p z w p1 p2 hz hw => ?_⟩, by simp only [Int.toNat_natCast]; omega⟩
          by_cases eq : p = q
          · subst eq; rw [hy] at hz; cases hz; rw [hx] at hw; cases hw; exact hlt
          · have g1 := hL q p x w (by omega) (by omega) (by omega) hx hw
            have g2 := hR (mid + m - 1 - p) (mid + m - 1 - q) z y (by omega) (by omega) (by omega) hz hy
            exact ord.tr _ _ _ g2 (ord.tr _ _ _ hlt g1)
      · have huv : u = v := by have := ge_of_dec e; omega
        subst huv
        rw [show IntKind.i64.wrap (((mid + m : Nat) : Int) - (u : Int)) = ((mid + m - u : Nat) : Int) by rw [w64 (by omega) (by omega)]; omega]
        have hme : m ≤ mid + m - u := by omega
        have heb : mid + m - u ≤ b := by omega
        have hum : u ≤ m := by omega
        refine ⟨fun h2 => ∃ Q, St h0 a c N T h2 Q ∧ Rot M Q u m (mid + m - u), ⟨fun e5 => ?_, fun e5 => ?_⟩, ?_⟩
        · simp only [Bool.and_eq_true, decide_eq_true_eq] at e5
          refine (rotate_c s1 hl (i := u) (m := m) (b := mid + m - u) (by omega) (by omega) (by omega)).mono ?_
          rintro w h2' ⟨rfl, Q, sQ, rQ⟩
          exact ⟨rfl, Q, sQ, rQ⟩
        · simp only [Bool.and_eq_false_iff, decide_eq_false_iff_not] at e5
          exact ⟨M, s1, Rot.none (by omega)⟩
        rintro h2' ⟨Q, sQ, rQ⟩
        have segQ := rQ.seg hum hme
        have lQ := rQ.len
        have oQ := o.seg segQ
        obtain ⟨p1, p2, p3, p4⟩ := rot_srt rQ hum hme hL hR (show i ≤ u by omega) heb
        obtain ⟨l1, l2⟩ := rot_lab rQ hum hme hlab (show i ≤ u by omega) heb
        have hmids : u + (mid + m - u - m) = mid := by omega
        rw [hmids] at p2 p3 l1 l2
        have crs : Crs (ltD cf D) Q i mid b := rot_crs ord hL hR h3 rQ (show i ≤ lo by omega) k1 k3 (show hi ≤ m by omega) (show hi ≤ mid by omega) (by omega) (by omega) (by omega) fu fv
        refine ⟨fun h3 => ∃ X, St h0 a c N T h3 X ∧ Seg Q X i mid ∧ Srt (ltD cf D) X i mid, ⟨fun e5 => ?_, fun e5 => ?_⟩, ?_⟩
        · simp only [Bool.and_eq_true, decide_eq_true_eq] at e5
          rw [← lQ]
          refine (merge_c C n (i := i) (m := u) (b := mid) (by omega) sQ oQ (by omega) (by omega) (by omega) p1 p2 l1).mono ?_
          rintro w h3' ⟨rfl, X, sX, gX, rX⟩
          exact ⟨rfl, X, sX, gX, rX⟩
        · simp only [Bool.and_eq_false_iff, decide_eq_false_iff_not] at e5
          refine ⟨Q, sQ, Seg.refl _ _ _, ?_⟩
          rcases Nat.lt_or_ge i u with q | q
          · have : u = mid := by omega
            rw [this] at p1; exact p1
          · have : u = i := by omega
            rw [this] at p2; exact p2
        rintro h3' ⟨X, sX, gX, rX⟩
        have lX := gX.len
        have oX := oQ.seg gX
        have crs2 : Crs (ltD cf D) X i mid b := crs_seg gX (.inl ⟨Nat.le_refl _, Nat.le_refl _⟩) crs
        have p3' := srt_out gX (.inr (Nat.le_refl _)) p3
        have p4' := srt_out gX (.inr (by omega)) p4
        have l2' : Lab bf X mid (mid + m - u) b := fun p q x y z1 z2 z3 z4 hx hy => l2 p q x y z1 z2 z3 z4 (by rw [← gX.out (by omega)]; exact hx) (by rw [← gX.out (by omega)]; exact hy)
        have done : ∀ {Y : List (Int × Nat)}, Seg X Y mid b → Srt (ltD cf D) Y mid b → Seg M Y i b ∧ Srt (ltD cf D) Y i b := fun {Y} gY rY =>
          ⟨((segQ.mono (by omega) heb).trans (gX.mono (Nat.le_refl _) (by omega))).trans (gY.mono (by omega) (Nat.le_refl _)), srt_join (srt_out gY (.inl (Nat.le_refl _)) rX) rY (crs_seg gY (.inr ⟨Nat.le_refl _, Nat.le_refl _⟩) crs2)⟩
        refine ⟨fun e5 => ?_, fun e5 => ?_⟩
        · simp only [Bool.and_eq_true, decide_eq_true_eq] at e5
          rw [← lQ, ← lX]
          refine (merge_c C n (i := mid) (m := mid + m - u) (b := b) (by omega) sX oX (by omega) (by omega) (by omega) p3' p4' l2').mono ?_
          rintro w h4' ⟨rfl, Y, sY, gY, rY⟩
          exact ⟨rfl, rfl, Y, sY, (done gY rY).1, (done gY rY).2⟩
        · simp only [Bool.and_eq_false_iff, decide_eq_false_iff_not] at e5
          have hs : Srt (ltD cf D) X mid b := by
            rcases Nat.lt_or_ge mid (mid + m - u) with q | q
            · have : mid + m - u = b := by omega
              rw [this] at p3'; exact p3'
            · have : mid + m - u = mid := by omega
              rw [this] at p4'; exact p4'
          exact ⟨rfl, X, sX, (done (Seg.refl _ _ _) hs).1, (done (Seg.refl _ _ _) hs).2⟩
end
end Stb
end Go.Proofs.Ytcdpapdefdnknaa
namespace Go.Proofs.Ytcdpapdefdnknaa
namespace Stb
open Go
theorem dv1 {w a p : Nat} (ha : a % w = 0) (h1 : a ≤ p) (h2 : p < a + w) : p / w = a / w := by
  have hw : 0 < w := by omega
  obtain ⟨k, rfl⟩ := Nat.dvd_of_mod_eq_zero ha
  obtain ⟨r, rfl⟩ : ∃ r, p = w * k + r := ⟨p - w * k, by omega⟩
  rw [Nat.mul_add_div hw, Nat.div_eq_of_lt (by omega), Nat.mul_div_cancel_left _ hw, Nat.add_zero]
theorem dv2 {w a p q : Nat} (hw : 0 < w) (ha : a % w = 0) (h1 : p < a) (h2 : a ≤ q) : p / w < q / w := by
  obtain ⟨k, rfl⟩ := Nat.dvd_of_mod_eq_zero ha
  have e1 : p / w < k := (Nat.div_lt_iff_lt_mul hw).2 (by rw [Nat.mul_comm]; exact h1)
  have e2 : k ≤ q / w := (Nat.le_div_iff_mul_le hw).2 (by rw [Nat.mul_comm]; exact h2)
  omega
theorem dv3 {w p q : Nat} (h : p / w = q / w) : p / (2 * w) = q / (2 * w) := by
  rw [Nat.mul_comm 2 w, ← Nat.div_div_eq_div_mul, ← Nat.div_div_eq_div_mul, h]
theorem dv5 {w p q : Nat} (h : p / w < q / w) : p < q := by
  rcases Nat.lt_or_ge p q with c | c
  · exact c
  · have := Nat.div_le_div_right (c := w) c; omega
section
variable {h0 h h' : Heap} {a : Option Addr} {c N : Nat} {T : TypeId} {M : List (Int × Nat)} {cmp : Value} {cf : Int → Int → Int} {D : Int → Prop}
def BS (lt : Int × Nat → Int × Nat → Prop) (w : Nat) (Q : List (Int × Nat)) (lo hi : Nat) : Prop := ∀ (p q : Nat) x y, lo ≤ p → p < q → q < hi → p / w = q / w → Q[p]? = some x → Q[q]? = some y → lt x y
theorem BS.srt {lt : Int × Nat → Int × Nat → Prop} {w : Nat} {Q : List (Int × Nat)} {lo hi i b : Nat} (s : BS lt w Q lo hi) (hi' : i % w = 0) (h1 : lo ≤ i) (h2 : b ≤ hi) (h3 : b ≤ i + w) : Srt lt Q i b := fun p q x y k1 k2 k3 hx hy =>
  s p q x y (by omega) k2 (by omega) ((dv1 hi' k1 (by omega)).trans (dv1 hi' (by omega : i ≤ q) (by omega)).symm) hx hy
set_option maxHeartbeats 6400000 in
theorem stable_c (C : Cmp Try.prog h0 a cmp cf D) (s : St h0 a c N T h M) (o : Ok D M) (hb : Srt bf M 0 M.length) :
    HC Try.prog 57 #[.slice a M.length c, .int .i64 (M.length : Nat), cmp] h fun v h' => v = .tuple #[] ∧ ∃ M', St h0 a c N T h' M' ∧ Seg M M' 0 M.length ∧ Srt (ltD cf D) M' 0 M.length := by
  have hl := o.len
  generalize hn : M.length = n at *
  refine f57_sh _ _ _ _ _ _ _ ⟨fun u v h1 => ∃ (i : Nat) (Q : List (Int × Nat)), u = i ∧ v = i + 20 ∧ i % 20 = 0 ∧ i ≤ n ∧ St h0 a c N T h1 Q ∧ Seg M Q 0 i ∧ BS (ltD cf D) 20 Q 0 i ∧ ∀ p, p < n → ∃ q, q < n ∧ q / 20 = p / 20 ∧ Q[p]? = M[q]?, fun u _ _ => n - u.toNat,
    ⟨0, M, rfl, rfl, rfl, Nat.zero_le _, s, Seg.refl _ _ _, fun p q x y k1 k2 k3 => by omega, fun p hp => ⟨p, hp, rfl, rfl⟩⟩, ?_⟩
  rintro _ _ h1' ⟨i, Q, rfl, rfl, hi20, hin, sQ, gQ, bQ, lQ⟩
  have lenQ := gQ.len
  have oQ := o.seg gQ
  have hsb : ∀ b, i ≤ b → b ≤ n → Srt bf Q i b := fun b hib hbn p q x y k1 k2 k3 hx hy => hb p q x y (Nat.zero_le _) k2 (by omega) (by rw [← gQ.out (.inr (by omega))]; exact hx) (by rw [← gQ.out (.inr (by omega))]; exact hy)
  have after : ∀ {b : Nat} {X : List (Int × Nat)}, i ≤ b → b ≤ n → b ≤ i + 20 → Seg Q X i b → Srt (ltD cf D) X i b → Seg M X 0 b ∧ BS (ltD cf D) 20 X 0 b ∧ ∀ p, p < n → ∃ q, q < n ∧ q / 20 = p / 20 ∧ X[p]? = M[q]? := fun {b X} hib hbn hb20 gX rX => by
    refine ⟨(gQ.mono (Nat.le_refl _) hib).trans (gX.mono (by omega) (Nat.le_refl _)), fun p q x y k1 k2 k3 k4 hx hy => ?_, fun p hp => ?_⟩
    · rcases Nat.lt_or_ge q i with z | z
      · exact bQ p q x y k1 k2 z k4 (by rw [← gX.out (.inl (by omega))]; exact hx) (by rw [← gX.out (.inl z)]; exact hy)
      · rcases Nat.lt_or_ge p i with z2 | z2
        · have := dv2 (by decide) hi20 z2 z; omega
        · exact rX p q x y z2 k2 k3 hx hy
    · by_cases hpi : i ≤ p ∧ p < b
      · obtain ⟨q, q1, q2, q3⟩ := gX.mem hpi.1 hpi.2
        obtain ⟨r, r1, r2, r3⟩ := lQ q (by omega)
        exact ⟨r, r1, by rw [r2, dv1 hi20 q1 (by omega)]; exact (dv1 hi20 hpi.1 (by omega)).symm, q3.trans r3⟩
      · obtain ⟨r, r1, r2, r3⟩ := lQ p hp
        exact ⟨r, r1, r2, (gX.out (by omega)).trans r3⟩
  have e20 : ((i : Int) + 20) = ((i + 20 : Nat) : Int) := by omega
  refine ⟨fun e => ?_, fun e => ?_⟩
  · have hle := of_decide_eq_true e
    rw [e20]
    have := insertion_c C sQ oQ (i := i) (b := i + 20) (by omega) (by omega) (hsb _ (by omega) (by omega))
    rw [lenQ, hn] at this
    refine this.mono ?_
    rintro w h2' ⟨rfl, X, sX, gX, rX⟩
    obtain ⟨y1, y2, y3⟩ := after (by omega) (by omega) (Nat.le_refl _) gX rX
    rw [w64 (x := ((i + 20 : Nat) : Int) + 20) (by omega) (by omega)]
    exact ⟨rfl, ⟨i + 20, X, rfl, by omega, by omega, by omega, sX, y1, y2, y3⟩, by simp only [Int.toNat_natCast]; omega⟩
  · have hgt := of_decide_eq_false e
    have := insertion_c C sQ oQ (i := i) (b := n) hin (by omega) (hsb _ hin (Nat.le_refl _))
    rw [lenQ, hn] at this
    refine this.mono ?_
    rintro w h3' ⟨rfl, X, sX, gX, rX⟩
    obtain ⟨y1, y2, y3⟩ := after hin (Nat.le_refl _) (by omega) gX rX
    refine ⟨rfl, fun z h4 => ∃ (w : Nat) (Q : List (Int × Nat)), z = w ∧ 0 < w ∧ (w = 20 ∨ w ≤ 2 * n) ∧ St h0 a c N T h4 Q ∧ Seg M Q 0 n ∧ BS (ltD cf D) w Q 0 n ∧ ∀ p, p < n → ∃ q, q < n ∧ q / w = p / w ∧ Q[p]? = M[q]?, fun z _ => n - z.toNat,
      ⟨20, X, rfl, by decide, .inl rfl, sX, y1, y2, y3⟩, ?_⟩
    clear this y1 y2 y3 rX gX sX X after hsb oQ lenQ lQ bQ gQ sQ Q
    rintro _ h4' ⟨w, Q, rfl, hw, hwn, sQ, gQ, bQ, lQ⟩
    have lenQ := gQ.len
    refine ⟨fun e => ?_, fun e => ?_⟩
    rotate_left
    · have hge := ge_of_dec e
      exact ⟨rfl, Q, sQ, gQ, fun p q x y k1 k2 k3 hx hy => bQ p q x y k1 k2 k3 (by rw [Nat.div_eq_of_lt (by omega), Nat.div_eq_of_lt (by omega)]) hx hy⟩
    have hwlt := lt_of_dec e
    rw [show IntKind.i64.wrap (2 * (w : Int)) = ((2 * w : Nat) : Int) by rw [w64 (by omega) (by omega)]; omega]
    refine ⟨fun u v h5 => ∃ (i : Nat) (Q : List (Int × Nat)), u = i ∧ v = i + ((2 * w : Nat) : Int) ∧ i % (2 * w) = 0 ∧ i ≤ n ∧ St h0 a c N T h5 Q ∧ Seg M Q 0 n ∧ BS (ltD cf D) (2 * w) Q 0 i ∧ BS (ltD cf D) w Q i n ∧ ∀ p, p < n → ∃ q, q < n ∧ Q[p]? = M[q]? ∧ (p < i → q / (2 * w) = p / (2 * w)) ∧ (i ≤ p → q / w = p / w), fun u _ _ => n - u.toNat,
      ⟨0, Q, rfl, by omega, Nat.zero_mod _, Nat.zero_le _, sQ, gQ, fun p q x y k1 k2 k3 => by omega, bQ, fun p hp => ?_⟩, ?_⟩
    · obtain ⟨q, q1, q2, q3⟩ := lQ p hp
      exact ⟨q, q1, q3, fun z => by omega, fun _ => q2⟩
    clear lenQ lQ bQ gQ sQ Q
    rintro _ _ h5' ⟨i, Q, rfl, rfl, hiw, hin, sQ, gQ, b2Q, bQ, lQ⟩
    have lenQ := gQ.len
    have oQ := o.seg gQ
    have hiw1 : i % w = 0 := by
      obtain ⟨k, rfl⟩ := Nat.dvd_of_mod_eq_zero hiw
      rw [Nat.mul_comm 2 w, Nat.mul_assoc]; exact Nat.mul_mod_right _ _
    have hiw2 : (i + w) % w = 0 := by rw [Nat.add_mod_right]; exact hiw1
    have lab : ∀ b, b ≤ n → Lab bf Q i (i + w) b := fun b hbn p q x y k1 k2 k3 k4 hx hy => by
      obtain ⟨p1, a1, a2, _, a3⟩ := lQ p (by omega)
      obtain ⟨q1, b1, b2, _, b3⟩ := lQ q (by omega)
      have hlt := dv2 hw hiw2 k2 k3
      rw [← a3 k1, ← b3 (by omega)] at hlt
      exact hb p1 q1 x y (Nat.zero_le _) (dv5 hlt) b1 (by rw [← a2]; exact hx) (by rw [← b2]; exact hy)
    have after : ∀ {b : Nat} {X : List (Int × Nat)}, i ≤ b → b ≤ n → b ≤ i + 2 * w → (b = i + 2 * w ∨ b = n) → Seg Q X i b → Srt (ltD cf D) X i b → Seg M X 0 n ∧ BS (ltD cf D) (2 * w) X 0 b ∧ BS (ltD cf D) w X b n ∧ ∀ p, p < n → ∃ q, q < n ∧ X[p]? = M[q]? ∧ (p < b → q / (2 * w) = p / (2 * w)) ∧ (b ≤ p → q / w = p / w) := fun {b X} hib hbn hb2 hbe gX rX => by
      refine ⟨gQ.trans (gX.mono (by omega) hbn), fun p q x y k1 k2 k3 k4 hx hy => ?_, fun p q x y k1 k2 k3 k4 hx hy => ?_, fun p hp => ?_⟩
      · rcases Nat.lt_or_ge q i with z | z
        · exact b2Q p q x y k1 k2 z k4 (by rw [← gX.out (.inl (by omega))]; exact hx) (by rw [← gX.out (.inl z)]; exact hy)
        · rcases Nat.lt_or_ge p i with z2 | z2
          · have := dv2 (by omega) hiw z2 z; omega
          · exact rX p q x y z2 k2 k3 hx hy
      · exact bQ p q x y (by omega) k2 k3 k4 (by rw [← gX.out (.inr k1)]; exact hx) (by rw [← gX.out (.inr (by omega))]; exact hy)
      · by_cases hpi : i ≤ p ∧ p < b
        · obtain ⟨q, q1, q2, q3⟩ := gX.mem hpi.1 hpi.2
          obtain ⟨r, r1, r2, _, r3⟩ := lQ q (by omega)
          refine ⟨r, r1, q3.trans r2, fun _ => ?_, fun z => by omega⟩
          rw [dv3 (r3 q1), dv1 hiw q1 (by omega)]; exact (dv1 hiw hpi.1 (by omega)).symm
        · obtain ⟨r, r1, r2, r3, r4⟩ := lQ p hp
          exact ⟨r, r1, (gX.out (by omega)).trans r2, fun z => r3 (by omega), fun z => r4 (by omega)⟩
    have ei : IntKind.i64.wrap ((i : Int) + (w : Int)) = ((i + w : Nat) : Int) := by rw [w64 (by omega) (by omega)]; omega
    have ei2 : (i : Int) + ((2 * w : Nat) : Int) = ((i + 2 * w : Nat) : Int) := by omega
    rw [ei, ei2]
    refine ⟨fun e => ?_, fun e => ?_⟩
    · have hle := of_decide_eq_true e
      have := merge_c C (i + 2 * w) (i := i) (m := i + w) (b := i + 2 * w) (by omega) sQ oQ (by omega) (by omega) (by omega) (bQ.srt hiw1 (Nat.le_refl _) (by omega) (by omega)) (bQ.srt hiw2 (by omega) (by omega) (by omega)) (lab _ (by omega))
      rw [lenQ, hn] at this
      refine this.mono ?_
      rintro z h6' ⟨rfl, X, sX, gX, rX⟩
      obtain ⟨y1, y2, y3, y4⟩ := after (by omega) (by omega) (Nat.le_refl _) (.inl rfl) gX rX
      rw [w64 (x := ((i + 2 * w : Nat) : Int) + ((2 * w : Nat) : Int)) (by omega) (by omega)]
      refine ⟨rfl, ⟨i + 2 * w, X, rfl, rfl, ?_, by omega, sX, y1, y2, y3, y4⟩, by simp only [Int.toNat_natCast]; omega⟩
      rw [Nat.add_mod_right]; exact hiw
    · have hgt := of_decide_eq_false e
      refine ⟨fun h7 => ∃ X, St h0 a c N T h7 X ∧ Seg M X 0 n ∧ BS (ltD cf D) (2 * w) X 0 n ∧ ∀ p, p < n → ∃ q, q < n ∧ q / (2 * w) = p / (2 * w) ∧ X[p]? = M[q]?, ⟨fun e2 => ?_, fun e2 => ?_⟩, ?_⟩
      · have hlt := lt_of_dec e2
        have := merge_c C n (i := i) (m := i + w) (b := n) (by omega) sQ oQ (by omega) hlt (by omega) (bQ.srt hiw1 (Nat.le_refl _) (by omega) (by omega)) (bQ.srt hiw2 (by omega) (by omega) (by omega)) (lab _ (Nat.le_refl _))
        rw [lenQ, hn] at this
        refine this.mono ?_
        rintro z h6' ⟨rfl, X, sX, gX, rX⟩
        obtain ⟨y1, y2, _, y4⟩ := after hin (Nat.le_refl _) (by omega) (.inr rfl) gX rX
        refine ⟨rfl, X, sX, y1, y2, fun p hp => ?_⟩
        obtain ⟨r, r1, r2, r3, _⟩ := y4 p hp
        exact ⟨r, r1, r3 hp, r2⟩
      · have hge := ge_of_dec e2
        obtain ⟨y1, y2, _, y4⟩ := after hin (Nat.le_refl _) (by omega) (.inr rfl) (Seg.refl _ _ _) (bQ.srt hiw1 (Nat.le_refl _) (Nat.le_refl _) (by omega))
        refine ⟨Q, sQ, y1, y2, fun p hp => ?_⟩
        obtain ⟨r, r1, r2, r3, _⟩ := y4 p hp
        exact ⟨r, r1, r3 hp, r2⟩
      · rintro h7' ⟨X, sX, gX, bX, lX⟩
        rw [show IntKind.i64.wrap ((w : Int) * 2) = ((2 * w : Nat) : Int) by rw [w64 (by omega) (by omega)]; omega]
        exact ⟨⟨2 * w, X, rfl, by omega, .inr (by omega), sX, gX, bX, lX⟩, by simp only [Int.toNat_natCast]; omega⟩
def lbl (L : List Int) : List (Int × Nat) := L.zip (List.range L.length)
theorem lbl_fst (L : List Int) : (lbl L).map Prod.fst = L := by unfold lbl; rw [List.map_fst_zip (by simp)]
theorem lbl_len (L : List Int) : (lbl L).length = L.length := by unfold lbl; simp
theorem lbl_get {L : List Int} {p : Nat} {x : Int × Nat} (h : (lbl L)[p]? = some x) : x.2 = p ∧ L[p]? = some x.1 := by
  unfold lbl at h
  rw [List.getElem?_zip_eq_some] at h
  obtain ⟨h1, h2⟩ := h
  have hp := (List.getElem?_eq_some_iff.1 h2).1
  rw [List.getElem?_range (by simpa using hp)] at h2
  cases h2
  exact ⟨rfl, h1⟩
theorem lbl_ok {L : List Int} (hD : ∀ x ∈ L, D x) (hl : L.length ≤ 1152921504606846976) : Ok D (lbl L) ∧ Srt bf (lbl L) 0 (lbl L).length := by
  refine ⟨⟨fun p x h => hD _ (List.mem_of_getElem? (lbl_get h).2), fun p q x y hpq hx hy => ?_, by rw [lbl_len]; exact hl⟩, fun p q x y k1 k2 k3 hx hy => ?_⟩
  · rw [(lbl_get hx).1, (lbl_get hy).1]; exact hpq
  · show x.2 < y.2
    rw [(lbl_get hx).1, (lbl_get hy).1]; exact k2
theorem sort_stable {L : List Int} (C : Cmp Try.prog h a cmp cf D) (s : Sl eI h a c L) (w : Own eI.k T N h a c) (hD : ∀ x ∈ L, D x) (hl : L.length ≤ 1152921504606846976) :
    HC Try.prog 44 #[.slice a L.length c, cmp] h fun v h' => v = .tuple #[] ∧ Fr (blkA a) h h' ∧ ∃ M : List (Int × Nat), M.Perm (lbl L) ∧ M.Pairwise (ltD cf D) ∧ Sl eI h' a c (M.map Prod.fst) ∧ Own eI.k T N h' a c := by
  obtain ⟨o, hb⟩ := lbl_ok hD hl
  refine f44_sh _ _ _ _ _ _ ?_
  have := stable_c C (M := lbl L) ⟨by rw [lbl_fst]; exact s, w, Fr.refl _ _⟩ o hb
  rw [lbl_len] at this
  refine this.mono ?_
  rintro v h' ⟨rfl, M, sM, gM, rM⟩
  refine ⟨rfl, rfl, sM.fr, M, gM.perm, ?_, sM.sl, sM.own⟩
  rw [List.pairwise_iff_getElem]
  intro i j hi hj hij
  have hlen := gM.len
  rw [lbl_len] at hlen
  exact rM i j M[i] M[j] (Nat.zero_le _) hij (by omega) (List.getElem?_eq_getElem hi) (List.getElem?_eq_getElem hj)
end
end Stb
end Go.Proofs.Ytcdpapdefdnknaa
