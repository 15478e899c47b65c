/-
Shallow forms, written by gen2.py (a program of ours) out of the print of the program.
-/
import Derived.Test.YtkecmljalcfhoaaPrv
import Derived.Test.YtkecmljalcfhoaaSrt
import Derived.Test.YtkecmljalcfhoaaRng
import Derived.Test.YtkecmljalcfhoaaMor
import Derived.Test.YtkecmljalcfhoaaProg
namespace Go.Proofs.Ytkecmljalcfhoaa
open Go
set_option maxRecDepth 100000
set_option maxHeartbeats 4000000

theorem TyShI.agg29 : aggB Try.prog 29 = some false := by kernel_rfl
theorem TyShI.agg3 : aggB Try.prog 3 = some false := by kernel_rfl
theorem TyShI.agg31 : aggB Try.prog 31 = some true := by kernel_rfl
theorem TyShI.agg59 : aggB Try.prog 59 = some false := by kernel_rfl
theorem TyShI.agg70 : aggB Try.prog 70 = some false := by kernel_rfl
theorem TyShI.cb11 : CallB Try.prog 11 := fun _ _ => Try.call11 _ _
theorem TyShI.cb17 : CallB Try.prog 17 := fun _ _ => Try.call17 _ _
theorem TyShI.cb24 : CallB Try.prog 24 := fun _ _ => Try.call24 _ _
theorem TyShI.cb27 : CallB Try.prog 27 := fun _ _ => Try.call27 _ _
theorem TyShI.cb28 : CallB Try.prog 28 := fun _ _ => Try.call28 _ _
theorem TyShI.cb30 : CallB Try.prog 30 := fun _ _ => Try.call30 _ _
theorem TyShI.cb44 : CallB Try.prog 44 := fun _ _ => Try.call44 _ _
theorem TyShI.cb45 : CallB Try.prog 45 := fun _ _ => Try.call45 _ _
theorem TyShI.cb46 : CallB Try.prog 46 := fun _ _ => Try.call46 _ _
theorem TyShI.cb47 : CallB Try.prog 47 := fun _ _ => Try.call47 _ _
theorem TyShI.cb48 : CallB Try.prog 48 := fun _ _ => Try.call48 _ _
theorem TyShI.cb49 : CallB Try.prog 49 := fun _ _ => Try.call49 _ _
theorem TyShI.cb51 : CallB Try.prog 51 := fun _ _ => Try.call51 _ _
theorem TyShI.cb52 : CallB Try.prog 52 := fun _ _ => Try.call52 _ _
theorem TyShI.el59 : elB Try.prog 59 = some 1 := by kernel_rfl
theorem TyShI.fld31_0 : fldB Try.prog 31 0 = some 0 := by kernel_rfl
theorem TyShI.fld31_1 : fldB Try.prog 31 1 = some 1 := by kernel_rfl
theorem TyShI.fld31_2 : fldB Try.prog 31 2 = some 2 := by kernel_rfl
theorem TyShI.fld61_0 : fldB Try.prog 61 0 = some 0 := by kernel_rfl
theorem TyShI.mixed : Try.prog.follows .mixedOrders = true := by kernel_rfl
theorem TyShI.pl61 : plB Try.prog 61 = some [(0, 1)] := by kernel_rfl
theorem TyShI.sz29 : szB Try.prog 29 = some 1 := by kernel_rfl
theorem TyShI.sz3 : szB Try.prog 3 = some 1 := by kernel_rfl
theorem TyShI.sz31 : szB Try.prog 31 = some 4 := by kernel_rfl
theorem TyShI.sz59 : szB Try.prog 59 = some 1 := by kernel_rfl
theorem TyShI.sz70 : szB Try.prog 70 = some 1 := by kernel_rfl
theorem TyShI.u29 : Try.prog.underlying 29 = some (.int .u64) := by kernel_rfl
theorem TyShI.u3 : Try.prog.underlying 3 = some (.int .i64) := by kernel_rfl
theorem TyShI.u59 : Try.prog.underlying 59 = some (.slice 70) := by kernel_rfl
theorem TyShI.up25 : Try.prog.underlying 25 = some (.pointer 61) := by kernel_rfl
theorem TyShI.up70 : Try.prog.underlying 70 = some (.pointer 87) := by kernel_rfl
theorem TyShI.z3 : zeroB Try.prog 3 (.int .i64 0) := by unfold zeroB; kernel_rfl
theorem TyShI.z31 : zeroB Try.prog 31 (.agg #[(.int .u64 0), (.int .u64 0), (.int .u64 0), (.int .u8 0)]) := by unfold zeroB; kernel_rfl
theorem TyShI.z61 : zeroB Try.prog 61 (.agg #[(.slice none 0 0)]) := by unfold zeroB; kernel_rfl
theorem TyShI.z70 : zeroB Try.prog 70 (.pointer none) := by unfold zeroB; kernel_rfl

/-- (*cellar/index.Index).Stripes -/
theorem f17_sh (x : Option Addr) (h : Heap) (R : Value → Heap → Prop)
    (H : ((x.isNone = true → R (.int .i64 0) h) ∧ (x.isNone = false → (∃ x_b x_o : Nat, x = some ⟨x_b, x_o, none⟩ ∧ (∃ x_1 : Option Addr, ∃ x_n x_c : Nat, hcell h x_b x_o = some (.slice x_1 x_n x_c) ∧ R (.int .i64 (x_n : Int)) h))))) :
    HC Try.prog 17 #[(.pointer x)] h R := by
  refine hc_of (args := [(.pointer x)]) Try.func17 rfl Try.ntmps17 (Nat.le_of_ble_eq_true rfl) ?_
  refine hx_seq ?_
  refine hx_region ?_
  refine hl_val rfl rfl (v := (.int .i64 0)) (hv_assign rfl) ?_
  refine hl_nil ?_
  refine seqQ_n ?_
  refine hx_seq ?_
  refine hx_seq ?_
  refine hx_region ?_
  refine hl_val rfl rfl (v := (.pointer x)) (hv_move rfl) ?_
  refine hl_val rfl rfl (v := (.bool x.isNone)) (hv_ptrNil TyShI.up25 rfl rfl) ?_
  refine hl_nil ?_
  refine seqQ_n ?_
  refine hx_cond (b := x.isNone) rfl (fun hb1 => ?_) (fun hb1 => ?_)
  · replace H := H.1 hb1
    refine hx_seq ?_
    refine hx_region ?_
    refine hl_val rfl rfl (v := (.int .i64 0)) (hv_assign rfl) ?_
    refine hl_nil ?_
    refine seqQ_n ?_
    refine hx_ret ?_
    refine seqQ_ret ?_
    exact endQ_ret _ (res_one Try.results17 (rv_tmp rfl)) H
  · replace H := H.2 hb1
    refine hx_skip ?_
    refine seqQ_n ?_
    refine hx_seq ?_
    refine hx_region ?_
    refine hl_val rfl rfl (v := (.pointer x)) (hv_move rfl) ?_
    obtain ⟨x_b, x_o, hqe, Hq⟩ := H
    subst hqe
    have H := Hq; clear Hq
    refine hl_val rfl rfl (v := (ptr x_b x_o)) (hv_nil rfl) ?_
    refine hl_val rfl rfl (v := (ptr x_b x_o)) (hv_field TyShI.fld61_0 (b := x_b) (o := x_o) rfl) ?_
    obtain ⟨x_1, x_n, x_c, hc2, H⟩ := H
    refine hl_val rfl rfl (v := (.slice x_1 x_n x_c)) (hv_load TyShI.agg59 rfl hc2) ?_
    refine hl_val rfl rfl (v := (.int .i64 (x_n : Int))) (hv_len (n := x_n) TyShI.u59 rfl) ?_
    refine hl_val rfl rfl (v := (.int .i64 (x_n : Int))) (hv_assign rfl) ?_
    refine hl_nil ?_
    refine seqQ_n ?_
    refine hx_ret ?_
    exact endQ_ret _ (res_one Try.results17 (rv_tmp rfl)) H

/-- (*cellar/index.Index).Stripe -/
theorem f24_sh (x : Option Addr) (hash : Int) (h : Heap) (R : Value → Heap → Prop)
    (H : (∃ r : Int, HC Try.prog 17 #[(.pointer x)] h (fun vv h' => vv = (.int .i64 r) ∧ h' = h) ∧ (((r == 0) = true → R (.int .i64 0) h) ∧ ((r == 0) = false → (∃ x_b x_o : Nat, x = some ⟨x_b, x_o, none⟩ ∧ (∃ x_1 : Option Addr, ∃ x_n x_c : Nat, hcell h x_b x_o = some (.slice x_1 x_n x_c) ∧ (IntKind.u64.wrap (x_n : Int) ≠ 0 ∧ R (.int .i64 (IntKind.i64.wrap (Int.tmod hash (IntKind.u64.wrap (x_n : Int))))) h))))))) :
    HC Try.prog 24 #[(.pointer x), (.int .u64 hash)] h R := by
  refine hc_of (args := [(.pointer x), (.int .u64 hash)]) Try.func24 rfl Try.ntmps24 (Nat.le_of_ble_eq_true rfl) ?_
  refine hx_seq ?_
  refine hx_region ?_
  refine hl_val rfl rfl (v := (.int .i64 0)) (hv_assign rfl) ?_
  refine hl_nil ?_
  refine seqQ_n ?_
  refine hx_seq ?_
  refine hx_seq ?_
  refine hx_region ?_
  refine hl_val rfl rfl (v := (.pointer x)) (hv_move rfl) ?_
  obtain ⟨r, hr1, H⟩ := H
  refine hl_val rfl rfl (v := (.int .i64 r)) (hv_call TyShI.cb17 (vs := [(.pointer x)]) rfl hr1) ?_
  refine hl_val rfl rfl (v := (.bool (r == 0))) (hv_arith rfl rfl rfl) ?_
  refine hl_nil ?_
  refine seqQ_n ?_
  refine hx_cond (b := r == 0) rfl (fun hb2 => ?_) (fun hb2 => ?_)
  · replace H := H.1 hb2
    refine hx_seq ?_
    refine hx_region ?_
    refine hl_val rfl rfl (v := (.int .i64 0)) (hv_assign rfl) ?_
    refine hl_nil ?_
    refine seqQ_n ?_
    refine hx_ret ?_
    refine seqQ_ret ?_
    exact endQ_ret _ (res_one Try.results24 (rv_tmp rfl)) H
  · replace H := H.2 hb2
    refine hx_skip ?_
    refine seqQ_n ?_
    refine hx_seq ?_
    refine hx_region ?_
    refine hl_val rfl rfl (v := (.int .u64 hash)) (hv_move rfl) ?_
    refine hl_val rfl rfl (v := (.pointer x)) (hv_move rfl) ?_
    obtain ⟨x_b, x_o, hqe, Hq⟩ := H
    subst hqe
    have H := Hq; clear Hq
    refine hl_val rfl rfl (v := (ptr x_b x_o)) (hv_nil rfl) ?_
    refine hl_val rfl rfl (v := (ptr x_b x_o)) (hv_field TyShI.fld61_0 (b := x_b) (o := x_o) rfl) ?_
    obtain ⟨x_1, x_n, x_c, hc3, H⟩ := H
    refine hl_val rfl rfl (v := (.slice x_1 x_n x_c)) (hv_load TyShI.agg59 rfl hc3) ?_
    refine hl_val rfl rfl (v := (.int .i64 (x_n : Int))) (hv_len (n := x_n) TyShI.u59 rfl) ?_
    refine hl_val rfl rfl (v := (.int .u64 (IntKind.u64.wrap (x_n : Int)))) (hv_convInt TyShI.u3 TyShI.u29 rfl) ?_
    obtain ⟨hz4, H⟩ := H
    refine hl_val rfl rfl (v := (.int .u64 (Int.tmod hash (IntKind.u64.wrap (x_n : Int))))) (hv_rem rfl rfl hz4) ?_
    refine hl_val rfl rfl (v := (.int .i64 (IntKind.i64.wrap (Int.tmod hash (IntKind.u64.wrap (x_n : Int)))))) (hv_convInt TyShI.u29 TyShI.u3 rfl) ?_
    refine hl_val rfl rfl (v := (.int .i64 (IntKind.i64.wrap (Int.tmod hash (IntKind.u64.wrap (x_n : Int)))))) (hv_assign rfl) ?_
    refine hl_nil ?_
    refine seqQ_n ?_
    refine hx_ret ?_
    exact endQ_ret _ (res_one Try.results24 (rv_tmp rfl)) H

/-- (*cellar/index.Index).at -/
theorem f27_sh (x : Option Addr) (hash : Int) (h : Heap) (R : Value → Heap → Prop)
    (H : (∃ r : Int, HC Try.prog 17 #[(.pointer x)] h (fun vv h' => vv = (.int .i64 r) ∧ h' = h) ∧ (((r == 0) = true → R (.pointer none) h) ∧ ((r == 0) = false → (∃ x_b x_o : Nat, x = some ⟨x_b, x_o, none⟩ ∧ (∃ x_1 : Option Addr, ∃ x_n x_c : Nat, hcell h x_b x_o = some (.slice x_1 x_n x_c) ∧ (∃ r_1 : Int, (∀ h1, Ext h h1 → HC Try.prog 24 #[(ptr x_b x_o), (.int .u64 hash)] h1 (fun vv h' => vv = (.int .i64 r_1) ∧ h' = h1)) ∧ (∃ x_1_b x_1_o : Nat, x_1 = some ⟨x_1_b, x_1_o, none⟩ ∧ (0 : Int) ≤ r_1 ∧ r_1 < (x_n : Int) ∧ (∃ x_2 : Option Addr, hcell h x_1_b (x_1_o + (Int.toNat r_1) * 1) = some (.pointer x_2) ∧ R (.pointer x_2) h))))))))) :
    HC Try.prog 27 #[(.pointer x), (.int .u64 hash)] h R := by
  refine hc_of (args := [(.pointer x), (.int .u64 hash)]) Try.func27 rfl Try.ntmps27 (Nat.le_of_ble_eq_true rfl) ?_
  refine hx_seq ?_
  refine hx_region ?_
  refine hl_val rfl rfl (v := (.pointer none)) (hv_assign rfl) ?_
  refine hl_nil ?_
  refine seqQ_n ?_
  refine hx_seq ?_
  refine hx_seq ?_
  refine hx_region ?_
  refine hl_val rfl rfl (v := (.pointer x)) (hv_move rfl) ?_
  obtain ⟨r, hr1, H⟩ := H
  refine hl_val rfl rfl (v := (.int .i64 r)) (hv_call TyShI.cb17 (vs := [(.pointer x)]) rfl hr1) ?_
  refine hl_val rfl rfl (v := (.bool (r == 0))) (hv_arith rfl rfl rfl) ?_
  refine hl_nil ?_
  refine seqQ_n ?_
  refine hx_cond (b := r == 0) rfl (fun hb2 => ?_) (fun hb2 => ?_)
  · replace H := H.1 hb2
    refine hx_seq ?_
    refine hx_region ?_
    refine hl_val rfl rfl (v := (.pointer none)) (hv_assign rfl) ?_
    refine hl_nil ?_
    refine seqQ_n ?_
    refine hx_ret ?_
    refine seqQ_ret ?_
    exact endQ_ret _ (res_one Try.results27 (rv_tmp rfl)) H
  · replace H := H.2 hb2
    refine hx_skip ?_
    refine seqQ_n ?_
    refine hx_seq ?_
    refine hx_draw TyShI.mixed [.pure, .pure, .pure, .read, .pure, .pure, .read, .pure, .read, .pure] [0, 1, 2, 3, 4, 5, 6, 7, 8, 9] (by kernel_rfl) ?_
    refine hp_pure (i := 0) rfl (wanted_0 rfl) rfl (.pointer x) (fun _ => hv_move rfl) ?_
    obtain ⟨x_b, x_o, hqe, Hq⟩ := H
    subst hqe
    have H := Hq; clear Hq
    refine hp_pure (i := 1) rfl (wanted_0 rfl) rfl (ptr x_b x_o) (fun _ => hv_nil rfl) ?_
    refine hp_pure (i := 2) rfl (wanted_0 rfl) rfl (ptr x_b x_o) (fun _ => hv_field TyShI.fld61_0 (b := x_b) (o := x_o) rfl) ?_
    obtain ⟨x_1, x_n, x_c, hc3, H⟩ := H
    refine hp_read (i := 3) rfl (wanted_0 rfl) rfl (.slice x_1 x_n x_c) (fun _ he => hv_load TyShI.agg59 rfl (Ext.cell he hc3)) ?_
    refine hp_pure (i := 4) rfl (wanted_0 rfl) rfl (ptr x_b x_o) (fun _ => hv_move rfl) ?_
    refine hp_pure (i := 5) rfl (wanted_0 rfl) rfl (.int .u64 hash) (fun _ => hv_move rfl) ?_
    obtain ⟨r_1, hr4, H⟩ := H
    refine hp_read (i := 6) rfl (wanted_0 rfl) rfl (.int .i64 r_1) (fun _ he => hv_call TyShI.cb24 (vs := [(ptr x_b x_o), (.int .u64 hash)]) rfl (hr4 _ he)) ?_
    obtain ⟨x_1_b, x_1_o, hqe, hi5, hi6, Hq⟩ := H
    subst hqe
    have H := Hq; clear Hq
    refine hp_pure (i := 7) rfl (wanted_0 rfl) rfl (ptr x_1_b (x_1_o + (Int.toNat r_1) * 1)) (fun _ => hv_index TyShI.el59 rfl rfl hi5 hi6) ?_
    obtain ⟨x_2, hc7, H⟩ := H
    refine hp_read (i := 8) rfl (wanted_0 rfl) rfl (.pointer x_2) (fun _ he => hv_load TyShI.agg70 rfl (Ext.cell he hc7)) ?_
    refine hp_pure (i := 9) rfl (wanted_0 rfl) rfl (.pointer x_2) (fun _ => hv_assign rfl) ?_
    refine hp_nil ?_
    refine seqQ_n ?_
    refine hx_ret ?_
    exact endQ_ret _ (res_one Try.results27 (rv_tmp rfl)) H

/-- (*cellar/index.Index).stripe -/
theorem f44_sh (x : Option Addr) (n : Int) (h : Heap) (R : Value → Heap → Prop)
    (H : (∃ j : Bool, (((decide (n < 0)) = true → (j = true)) ∧ ((decide (n < 0)) = false → (∃ r : Int, HC Try.prog 17 #[(.pointer x)] h (fun vv h' => vv = (.int .i64 r) ∧ h' = h) ∧ (j = (decide (n ≥ r)))))) ∧ ((j = true → R (.pointer none) h) ∧ (j = false → (∃ x_b x_o : Nat, x = some ⟨x_b, x_o, none⟩ ∧ (∃ x_1 : Option Addr, ∃ x_n x_c : Nat, hcell h x_b x_o = some (.slice x_1 x_n x_c) ∧ (∃ x_1_b x_1_o : Nat, x_1 = some ⟨x_1_b, x_1_o, none⟩ ∧ (0 : Int) ≤ n ∧ n < (x_n : Int) ∧ (∃ x_2 : Option Addr, hcell h x_1_b (x_1_o + (Int.toNat n) * 1) = some (.pointer x_2) ∧ R (.pointer x_2) h)))))))) :
    HC Try.prog 44 #[(.pointer x), (.int .i64 n)] h R := by
  refine hc_of (args := [(.pointer x), (.int .i64 n)]) Try.func44 rfl Try.ntmps44 (Nat.le_of_ble_eq_true rfl) ?_
  refine hx_seq ?_
  refine hx_region ?_
  refine hl_val rfl rfl (v := (.pointer none)) (hv_assign rfl) ?_
  refine hl_nil ?_
  refine seqQ_n ?_
  refine hx_seq ?_
  obtain ⟨j, Hx1, Hy2⟩ := H
  refine hx_cut (fun ρ h' => h = h' ∧ Has ρ [(0, (.pointer x)), (1, (.int .i64 n)), (12, (.bool j))]) ?_ ?_
  · have H := Hx1; clear Hx1 Hy2
    refine hx_region ?_
    refine hl_val rfl rfl (v := (.int .i64 n)) (hv_move rfl) ?_
    refine hl_val rfl rfl (v := (.bool (decide (n < 0)))) (hv_arith rfl rfl rfl) ?_
    refine hl_val rfl rfl (v := (.bool (decide (n < 0)))) (hv_move rfl) ?_
    rcases bool_or (decide (n < 0)) with hg3 | hg3
    · replace H := H.1 hg3
      refine hl_no (wanted_n rfl rfl rfl hg3) rfl ?_
      refine hl_no (wanted_n rfl rfl rfl hg3) rfl ?_
      refine hl_no (wanted_n rfl rfl rfl hg3) rfl ?_
      refine hl_no (wanted_n rfl rfl rfl hg3) rfl ?_
      refine hl_val rfl rfl (v := (.bool true)) (hv_pick_t rfl hg3 rfl) ?_
      refine hl_nil ?_
      refine seqQ_n ?_
      obtain rfl := H
      exact ⟨rfl, (has_cons rfl (has_cons rfl (has_cons rfl has_nil)))⟩
    · replace H := H.2 hg3
      refine hl_yes (wanted_y rfl rfl rfl hg3) rfl (HStep.of_val (v := (.int .i64 n)) (hv_move rfl) ?_)
      refine hl_yes (wanted_y rfl rfl rfl hg3) rfl (HStep.of_val (v := (.pointer x)) (hv_move rfl) ?_)
      obtain ⟨r, hr4, H⟩ := H
      refine hl_yes (wanted_y rfl rfl rfl hg3) rfl (HStep.of_val (v := (.int .i64 r)) (hv_call TyShI.cb17 (vs := [(.pointer x)]) rfl hr4) ?_)
      refine hl_yes (wanted_y rfl rfl rfl hg3) rfl (HStep.of_val (v := (.bool (decide (n ≥ r)))) (hv_arith rfl rfl rfl) ?_)
      refine hl_val rfl rfl (v := (.bool (decide (n ≥ r)))) (hv_pick_f rfl hg3 rfl) ?_
      refine hl_nil ?_
      refine seqQ_n ?_
      obtain rfl := H
      exact ⟨rfl, (has_cons rfl (has_cons rfl (has_cons rfl has_nil)))⟩
  · have H := Hy2; clear Hx1 Hy2
    rintro ρ _ ⟨rfl, hH⟩
    refine hx_has _ hH ?_
    refine hx_cond (b := j) rfl (fun hb5 => ?_) (fun hb5 => ?_)
    · replace H := H.1 hb5
      refine hx_seq ?_
      refine hx_region ?_
      refine hl_val rfl rfl (v := (.pointer none)) (hv_assign rfl) ?_
      refine hl_nil ?_
      refine seqQ_n ?_
      refine hx_ret ?_
      refine seqQ_ret ?_
      exact endQ_ret _ (res_one Try.results44 (rv_tmp rfl)) H
    · replace H := H.2 hb5
      refine hx_skip ?_
      refine seqQ_n ?_
      refine hx_seq ?_
      refine hx_region ?_
      refine hl_val rfl rfl (v := (.pointer x)) (hv_move rfl) ?_
      obtain ⟨x_b, x_o, hqe, Hq⟩ := H
      subst hqe
      have H := Hq; clear Hq
      refine hl_val rfl rfl (v := (ptr x_b x_o)) (hv_nil rfl) ?_
      refine hl_val rfl rfl (v := (ptr x_b x_o)) (hv_field TyShI.fld61_0 (b := x_b) (o := x_o) rfl) ?_
      obtain ⟨x_1, x_n, x_c, hc6, H⟩ := H
      refine hl_val rfl rfl (v := (.slice x_1 x_n x_c)) (hv_load TyShI.agg59 rfl hc6) ?_
      refine hl_val rfl rfl (v := (.int .i64 n)) (hv_move rfl) ?_
      obtain ⟨x_1_b, x_1_o, hqe, hi7, hi8, Hq⟩ := H
      subst hqe
      have H := Hq; clear Hq
      refine hl_val rfl rfl (v := (ptr x_1_b (x_1_o + (Int.toNat n) * 1))) (hv_index TyShI.el59 rfl rfl hi7 hi8) ?_
      obtain ⟨x_2, hc9, H⟩ := H
      refine hl_val rfl rfl (v := (.pointer x_2)) (hv_load TyShI.agg70 rfl hc9) ?_
      refine hl_val rfl rfl (v := (.pointer x_2)) (hv_assign rfl) ?_
      refine hl_nil ?_
      refine seqQ_n ?_
      refine hx_ret ?_
      exact endQ_ret _ (res_one Try.results44 (rv_tmp rfl)) H

/-- (*cellar/index.Index).Get -/
theorem f11_sh (x : Option Addr) (hash : Int) (h : Heap) (R : Value → Heap → Prop)
    (H : (∀ (pb : Nat) (h1 : Heap), Array.size h ≤ pb → pb < Array.size h1 → Ext h h1 → (∃ r : Option Addr, HC Try.prog 27 #[(.pointer x), (.int .u64 hash)] h1 (fun vv h' => vv = (.pointer r) ∧ h' = h1) ∧ HC Try.prog 28 #[(.pointer r), (.int .u64 hash)] h1 (fun vv h2 => Kp [pb] h1 h2 ∧ ∃ r0_Hash r0_At r0_Version r0_Hits : Int, ∃ r1 : Bool, vv = (.tuple #[(.agg #[(.int .u64 r0_Hash), (.int .u64 r0_At), (.int .u64 r0_Version), (.int .u8 r0_Hits)]), (.bool r1)]) ∧ (∀ h3, Fr (fun i => i = pb) h2 h3 → R (.tuple #[(.agg #[(.int .u64 r0_Hash), (.int .u64 r0_At), (.int .u64 r0_Version), (.int .u8 r0_Hits)]), (.bool r1)]) h3))))) :
    HC Try.prog 11 #[(.pointer x), (.int .u64 hash)] h R := by
  refine hc_of (args := [(.pointer x), (.int .u64 hash)]) Try.func11 rfl Try.ntmps11 (Nat.le_of_ble_eq_true rfl) ?_
  refine hx_seq ?_
  refine hx_region ?_
  refine hl_step rfl rfl (hn_alloc TyShI.z31 ?_)
  intro pb h1 eb1 eh2
  have xx3 : Ext h h1 := by rw [eh2]; exact Ext.push _ _
  have lo5 : Array.size h ≤ pb := Nat.le_of_eq (Eq.symm eb1)
  have hr4 : h1[pb]? = some (.cells #[(.int .u64 0), (.int .u64 0), (.int .u64 0), (.int .u8 0)] 31 (0, 0)) := by rw [eh2]; exact push_new eb1
  refine hl_val rfl rfl (v := (.bool false)) (hv_assign rfl) ?_
  refine hl_nil ?_
  refine seqQ_n ?_
  refine hx_seq ?_
  refine hx_region ?_
  refine hl_val rfl rfl (v := (.pointer x)) (hv_move rfl) ?_
  refine hl_val rfl rfl (v := (.int .u64 hash)) (hv_move rfl) ?_
  replace H := H pb h1 lo5 (row_lt hr4) xx3
  obtain ⟨r, hr6, H⟩ := H
  refine hl_val rfl rfl (v := (.pointer r)) (hv_call TyShI.cb27 (vs := [(.pointer x), (.int .u64 hash)]) rfl hr6) ?_
  refine hl_val rfl rfl (v := (.int .u64 hash)) (hv_move rfl) ?_
  refine hl_step rfl rfl (hs_call TyShI.cb28 (vs := [(.pointer r), (.int .u64 hash)]) rfl (HC.mono H ?_))
  rintro _ h2 ⟨kp7, r0_Hash, r0_At, r0_Version, r0_Hits, r1, rfl, H⟩
  replace hr4 := Kp.row kp7 (by simp) hr4
  refine hl_val rfl rfl (v := (.agg #[(.int .u64 r0_Hash), (.int .u64 r0_At), (.int .u64 r0_Version), (.int .u8 r0_Hits)])) (hv_extract (vs := #[(.agg #[(.int .u64 r0_Hash), (.int .u64 r0_At), (.int .u64 r0_Version), (.int .u8 r0_Hits)]), (.bool r1)]) rfl rfl) ?_
  refine hl_val rfl rfl (v := (.bool r1)) (hv_extract (vs := #[(.agg #[(.int .u64 r0_Hash), (.int .u64 r0_At), (.int .u64 r0_Version), (.int .u8 r0_Hits)]), (.bool r1)]) rfl rfl) ?_
  refine hl_step rfl rfl (hn_stores (vs := [(.int .u64 r0_Hash), (.int .u64 r0_At), (.int .u64 r0_Version), (.int .u8 r0_Hits)]) rfl rfl TyShI.sz31 rfl (HWs_row hr4 (by simp)) ?_)
  intro h3 eh8
  have hr4' : h3[pb]? = some (.cells #[(.int .u64 r0_Hash), (.int .u64 r0_At), (.int .u64 r0_Version), (.int .u8 r0_Hits)] 31 (0, 0)) := row_hsets_eq eh8 hr4 rfl
  replace H := H h3 (fr_hsets_of eh8)
  refine hl_val rfl rfl (v := (.bool r1)) (hv_assign rfl) ?_
  refine hl_nil ?_
  refine seqQ_n ?_
  refine hx_ret ?_
  exact endQ_ret _ (res_two Try.results11 (rv_cell (vs := [(.int .u64 r0_Hash), (.int .u64 r0_At), (.int .u64 r0_Version), (.int .u8 r0_Hits)]) TyShI.agg31 TyShI.sz31 rfl (hcells_cons (rowcell hr4' rfl) (hcells_cons (rowcell hr4' rfl) (hcells_cons (rowcell hr4' rfl) (hcells_cons (rowcell hr4' rfl) hcells_nil))))) (rv_tmp rfl)) H

/-- (*cellar/index.Index).Len -/
theorem f23_sh (x : Option Addr) (stripe : Int) (h : Heap) (R : Value → Heap → Prop)
    (H : (∃ r : Option Addr, HC Try.prog 44 #[(.pointer x), (.int .i64 stripe)] h (fun vv h' => vv = (.pointer r) ∧ h' = h) ∧ (∃ r_1 : Int, HC Try.prog 48 #[(.pointer r)] h (fun vv h' => vv = (.int .i64 r_1) ∧ h' = h) ∧ R (.int .i64 r_1) h))) :
    HC Try.prog 23 #[(.pointer x), (.int .i64 stripe)] h R := by
  refine hc_of (args := [(.pointer x), (.int .i64 stripe)]) Try.func23 rfl Try.ntmps23 (Nat.le_of_ble_eq_true rfl) ?_
  refine hx_seq ?_
  refine hx_region ?_
  refine hl_val rfl rfl (v := (.int .i64 0)) (hv_assign rfl) ?_
  refine hl_nil ?_
  refine seqQ_n ?_
  refine hx_seq ?_
  refine hx_region ?_
  refine hl_val rfl rfl (v := (.pointer x)) (hv_move rfl) ?_
  refine hl_val rfl rfl (v := (.int .i64 stripe)) (hv_move rfl) ?_
  obtain ⟨r, hr1, H⟩ := H
  refine hl_val rfl rfl (v := (.pointer r)) (hv_call TyShI.cb44 (vs := [(.pointer x), (.int .i64 stripe)]) rfl hr1) ?_
  obtain ⟨r_1, hr2, H⟩ := H
  refine hl_val rfl rfl (v := (.int .i64 r_1)) (hv_call TyShI.cb48 (vs := [(.pointer r)]) rfl hr2) ?_
  refine hl_val rfl rfl (v := (.int .i64 r_1)) (hv_assign rfl) ?_
  refine hl_nil ?_
  refine seqQ_n ?_
  refine hx_ret ?_
  exact endQ_ret _ (res_one Try.results23 (rv_tmp rfl)) H

/-- cellar/index.New -/
theorem f25_sh (stripes : Int) (bits : Int) (most : Int) (h : Heap) (R : Value → Heap → Prop)
    (H : ((((decide (stripes < 1)) || (decide (stripes > 64))) = true → R (.tuple #[(.pointer none), (.int .i64 1)]) h) ∧ (((decide (stripes < 1)) || (decide (stripes > 64))) = false → (∀ nb h1, nb = Array.size h → h1 = Array.push h (.cells #[(.slice none 0 0)] 61) → (∃ (I8 : Int → Heap → Prop) (mu9 : Int → Heap → Nat), I8 0 h1 ∧ (∀ (v : Int) (h2 : Heap), I8 v h2 → (((decide (v < stripes)) = true → HC Try.prog 49 #[(.int .i64 bits), (.int .i64 most)] h2 (fun vv h3 => ∃ r0 : Option Addr, ∃ r1 : Int, vv = (.tuple #[(.pointer r0), (.int .i64 r1)]) ∧ (((r1 != 0) = true → R (.tuple #[(.pointer none), (.int .i64 r1)]) h3) ∧ ((r1 != 0) = false → (∃ x : Option Addr, ∃ x_n x_c : Nat, hcell h3 nb 0 = some (.slice x x_n x_c) ∧ (∀ nb_1 h4, nb_1 = Array.size h3 → h4 = Array.push h3 (.cells #[(.pointer r0)] 70) → HAppend Try.prog 59 59 (.slice x x_n x_c) (.slice (some ⟨nb_1, 0, none⟩) 1 1) h4 (fun vv h5 => ∃ ap : Option Addr, ∃ ap_n ap_c : Nat, vv = (.slice ap ap_n ap_c) ∧ (HW h5 nb 0 ∧ ∀ h6, h6 = hset h5 nb 0 (.slice ap ap_n ap_c) → (I8 (IntKind.i64.wrap (v + 1)) h6 ∧ mu9 (IntKind.i64.wrap (v + 1)) h6 < mu9 v h2))))))))) ∧ ((decide (v < stripes)) = false → R (.tuple #[(ptr nb 0), (.int .i64 0)]) h2)))))))) :
    HC Try.prog 25 #[(.int .i64 stripes), (.int .i64 bits), (.int .i64 most)] h R := by
  refine hc_of (args := [(.int .i64 stripes), (.int .i64 bits), (.int .i64 most)]) Try.func25 rfl Try.ntmps25 (Nat.le_of_ble_eq_true rfl) ?_
  refine hx_seq ?_
  refine hx_region ?_
  refine hl_val rfl rfl (v := (.pointer none)) (hv_assign rfl) ?_
  refine hl_val rfl rfl (v := (.int .i64 0)) (hv_assign rfl) ?_
  refine hl_nil ?_
  refine seqQ_n ?_
  refine hx_seq ?_
  refine hx_cut (fun ρ h' => h = h' ∧ Has ρ [(0, (.int .i64 stripes)), (1, (.int .i64 bits)), (2, (.int .i64 most)), (16, (.bool ((decide (stripes < 1)) || (decide (stripes > 64)))))]) ?_ ?_
  · refine hx_region ?_
    refine hl_val rfl rfl (v := (.int .i64 stripes)) (hv_move rfl) ?_
    refine hl_val rfl rfl (v := (.bool (decide (stripes < 1)))) (hv_arith rfl rfl rfl) ?_
    refine hl_val rfl rfl (v := (.bool (decide (stripes < 1)))) (hv_move rfl) ?_
    rcases bool_or (decide (stripes < 1)) with hg3 | hg3
    · refine hl_no (wanted_n rfl rfl rfl hg3) rfl ?_
      refine hl_no (wanted_n rfl rfl rfl hg3) rfl ?_
      refine hl_val rfl rfl (v := (.bool true)) (hv_pick_t rfl hg3 rfl) ?_
      refine hl_nil ?_
      refine seqQ_n ?_
      exact ⟨rfl, (has_cons rfl (has_cons rfl (has_cons rfl (has_cons (show ((.bool true) : Value) = (.bool ((decide (stripes < 1)) || (decide (stripes > 64)))) from (by first | rfl | (try rw [hg3]; all_goals first | rfl | (simp only [Bool.true_or, Bool.or_true, Bool.false_or, Bool.or_false, Bool.true_and, Bool.and_true, Bool.false_and, Bool.and_false, Bool.not_true, Bool.not_false, Bool.cond_true, Bool.cond_false]; done)) | simp [hg3])) has_nil))))⟩
    · refine hl_yes (wanted_y rfl rfl rfl hg3) rfl (HStep.of_val (v := (.int .i64 stripes)) (hv_move rfl) ?_)
      refine hl_yes (wanted_y rfl rfl rfl hg3) rfl (HStep.of_val (v := (.bool (decide (stripes > 64)))) (hv_arith rfl rfl rfl) ?_)
      refine hl_val rfl rfl (v := (.bool (decide (stripes > 64)))) (hv_pick_f rfl hg3 rfl) ?_
      refine hl_nil ?_
      refine seqQ_n ?_
      exact ⟨rfl, (has_cons rfl (has_cons rfl (has_cons rfl (has_cons (show ((.bool (decide (stripes > 64))) : Value) = (.bool ((decide (stripes < 1)) || (decide (stripes > 64)))) from (by first | rfl | (try rw [hg3]; all_goals first | rfl | (simp only [Bool.true_or, Bool.or_true, Bool.false_or, Bool.or_false, Bool.true_and, Bool.and_true, Bool.false_and, Bool.and_false, Bool.not_true, Bool.not_false, Bool.cond_true, Bool.cond_false]; done)) | simp [hg3])) has_nil))))⟩
  · rintro ρ _ ⟨rfl, hH⟩
    refine hx_has _ hH ?_
    refine hx_cond (b := ((decide (stripes < 1)) || (decide (stripes > 64)))) rfl (fun hb4 => ?_) (fun hb4 => ?_)
    · replace H := H.1 hb4
      refine hx_seq ?_
      refine hx_region ?_
      refine hl_val rfl rfl (v := (.pointer none)) (hv_assign rfl) ?_
      refine hl_val rfl rfl (v := (.int .i64 1)) (hv_assign rfl) ?_
      refine hl_nil ?_
      refine seqQ_n ?_
      refine hx_ret ?_
      refine seqQ_ret ?_
      exact endQ_ret _ (res_two Try.results25 (rv_tmp rfl) (rv_tmp rfl)) H
    · replace H := H.2 hb4
      refine hx_skip ?_
      refine seqQ_n ?_
      refine hx_seq ?_
      refine hx_region ?_
      refine hl_val rfl rfl (v := (.agg #[(.slice none 0 0)])) (hv_build (vs := []) (cs := #[(.slice none 0 0)]) TyShI.z61 TyShI.pl61 rfl (by kernel_rfl)) ?_
      refine hl_step rfl rfl (hn_box (v := (.agg #[(.slice none 0 0)])) rfl ?_)
      intro nb h1 eb5 eh6
      replace H := H nb h1 eb5 eh6
      have xx7 : Ext h h1 := by rw [eh6]; exact Ext.push _ _
      refine hl_val rfl rfl (v := (ptr nb 0)) (hv_assign rfl) ?_
      refine hl_nil ?_
      refine seqQ_n ?_
      refine hx_seq ?_
      refine hx_seq ?_
      refine hx_region ?_
      refine hl_val rfl rfl (v := (.int .i64 stripes)) (hv_move rfl) ?_
      refine hl_val rfl rfl (v := (.int .i64 0)) (hv_move rfl) ?_
      refine hl_nil ?_
      refine seqQ_n ?_
      refine hx_block ?_
      obtain ⟨I8, mu9, Ha10, Hr11⟩ := H
      refine hx_loopT (σ := Int) (fun s => [(1, (.int .i64 bits)), (2, (.int .i64 most)), (8, (ptr nb 0)), (19, (.int .i64 stripes)), (20, (.int .i64 s))]) (fun s h' => I8 s h' ∧ True) (fun s h' => mu9 s h') 0 ⟨Ha10, trivial⟩ (has_cons rfl (has_cons rfl (has_cons rfl (has_cons rfl (has_cons rfl has_nil))))) ?_
      rintro v ρ h2 ⟨Hi12, -⟩
      have H := Hr11 v h2 Hi12
      refine hx_seq ?_
      refine hx_region ?_
      refine hl_val rfl rfl (v := (.bool (decide (v < stripes)))) (hv_arith rfl rfl rfl) ?_
      refine hl_nil ?_
      refine seqQ_n ?_
      refine hx_seq ?_
      refine hx_cond (b := decide (v < stripes)) rfl (fun hb13 => ?_) (fun hb13 => ?_)
      · replace H := H.1 hb13
        refine hx_skip ?_
        refine seqQ_n ?_
        refine hx_seq ?_
        refine hx_block ?_
        refine hx_seq ?_
        refine hx_region ?_
        refine hl_val rfl rfl (v := (.int .i64 bits)) (hv_move rfl) ?_
        refine hl_val rfl rfl (v := (.int .i64 most)) (hv_move rfl) ?_
        refine hl_step rfl rfl (hs_call TyShI.cb49 (vs := [(.int .i64 bits), (.int .i64 most)]) rfl (HC.mono H ?_))
        rintro _ h3 ⟨r0, r1, rfl, H⟩
        refine hl_val rfl rfl (v := (.tuple #[(.pointer r0), (.int .i64 r1)])) (hv_move rfl) ?_
        refine hl_val rfl rfl (v := (.pointer r0)) (hv_extract (vs := #[(.pointer r0), (.int .i64 r1)]) rfl rfl) ?_
        refine hl_val rfl rfl (v := (.int .i64 r1)) (hv_extract (vs := #[(.pointer r0), (.int .i64 r1)]) rfl rfl) ?_
        refine hl_val rfl rfl (v := (.pointer r0)) (hv_assign rfl) ?_
        refine hl_val rfl rfl (v := (.int .i64 r1)) (hv_assign rfl) ?_
        refine hl_nil ?_
        refine seqQ_n ?_
        refine hx_seq ?_
        refine hx_seq ?_
        refine hx_region ?_
        refine hl_val rfl rfl (v := (.int .i64 r1)) (hv_move rfl) ?_
        refine hl_val rfl rfl (v := (.bool (r1 != 0))) (hv_arith rfl rfl rfl) ?_
        refine hl_nil ?_
        refine seqQ_n ?_
        refine hx_cond (b := r1 != 0) rfl (fun hb14 => ?_) (fun hb14 => ?_)
        · replace H := H.1 hb14
          refine hx_seq ?_
          refine hx_region ?_
          refine hl_val rfl rfl (v := (.int .i64 r1)) (hv_move rfl) ?_
          refine hl_val rfl rfl (v := (.pointer none)) (hv_assign rfl) ?_
          refine hl_val rfl rfl (v := (.int .i64 r1)) (hv_assign rfl) ?_
          refine hl_nil ?_
          refine seqQ_n ?_
          refine hx_ret ?_
          refine seqQ_ret ?_
          refine blockQ_ret ?_
          refine seqQ_ret ?_
          refine seqQ_ret ?_
          refine blockQ_ret ?_
          refine seqQ_ret ?_
          exact endQ_ret _ (res_two Try.results25 (rv_tmp rfl) (rv_tmp rfl)) H
        · replace H := H.2 hb14
          refine hx_skip ?_
          refine seqQ_n ?_
          refine hx_region ?_
          refine hl_val rfl rfl (v := (ptr nb 0)) (hv_move rfl) ?_
          refine hl_val rfl rfl (v := (ptr nb 0)) (hv_move rfl) ?_
          refine hl_val rfl rfl (v := (ptr nb 0)) (hv_nil rfl) ?_
          refine hl_val rfl rfl (v := (ptr nb 0)) (hv_field TyShI.fld61_0 (b := nb) (o := 0) rfl) ?_
          obtain ⟨x, x_n, x_c, hc15, H⟩ := H
          refine hl_val rfl rfl (v := (.slice x x_n x_c)) (hv_load TyShI.agg59 rfl hc15) ?_
          refine hl_val rfl rfl (v := (.pointer r0)) (hv_move rfl) ?_
          refine hl_step rfl rfl (hn_buildSlice (n := 1) (vs := [(0, (.pointer r0))]) (cs := #[(.pointer r0)]) TyShI.u59 TyShI.sz70 TyShI.z70 rfl rfl (by kernel_rfl) ?_)
          intro nb_1 h4 eb16 eh17
          replace H := H nb_1 h4 eb16 eh17
          have xx18 : Ext h3 h4 := by rw [eh17]; exact Ext.push _ _
          refine hl_step rfl rfl (hs_append rfl rfl (HAppend.mono H ?_))
          rintro _ h5 ⟨ap, ap_n, ap_c, rfl, H⟩
          refine hl_val rfl rfl (v := (ptr nb 0)) (hv_nil rfl) ?_
          refine hl_val rfl rfl (v := (ptr nb 0)) (hv_field TyShI.fld61_0 (b := nb) (o := 0) rfl) ?_
          obtain ⟨hw20, H⟩ := H
          refine hl_step rfl rfl (hn_store (v := (.slice ap ap_n ap_c)) rfl rfl TyShI.sz59 rfl hw20 ?_)
          intro h6 eh19
          replace H := H h6 eh19
          refine hl_nil ?_
          refine blockQ_n ?_
          refine seqQ_n ?_
          refine hx_region ?_
          refine hl_val rfl rfl (v := (.int .i64 (IntKind.i64.wrap (v + 1)))) (hv_arith rfl rfl rfl) ?_
          refine hl_val rfl rfl (v := (.int .i64 (IntKind.i64.wrap (v + 1)))) (hv_move rfl) ?_
          refine hl_nil ?_
          refine seqQ_n ?_
          exact ⟨IntKind.i64.wrap (v + 1), ⟨⟨H.1, trivial⟩, H.2⟩, (has_cons rfl (has_cons rfl (has_cons rfl (has_cons rfl (has_cons rfl has_nil)))))⟩
      · replace H := H.2 hb13
        refine hx_exit ?_
        refine seqQ_exit ?_
        refine seqQ_exit ?_
        refine blockQ_here ?_
        refine seqQ_n ?_
        refine hx_seq ?_
        refine hx_region ?_
        refine hl_val rfl rfl (v := (ptr nb 0)) (hv_move rfl) ?_
        refine hl_val rfl rfl (v := (ptr nb 0)) (hv_assign rfl) ?_
        refine hl_val rfl rfl (v := (.int .i64 0)) (hv_assign rfl) ?_
        refine hl_nil ?_
        refine seqQ_n ?_
        refine hx_ret ?_
        exact endQ_ret _ (res_two Try.results25 (rv_tmp rfl) (rv_tmp rfl)) H

/-- (*cellar/index.Index).Put -/
theorem f29_sh (x : Option Addr) (e_Hash : Int) (e_At : Int) (e_Version : Int) (e_Hits : Int) (h : Heap) (R : Value → Heap → Prop)
    (H : (∀ (e : Nat) (old : Nat) (h2 : Heap), Array.size h ≤ e → e < Array.size h2 → Array.size h ≤ old → old < Array.size h2 → Ext h h2 → (∃ r : Option Addr, HC Try.prog 27 #[(.pointer x), (.int .u64 e_Hash)] h2 (fun vv h' => vv = (.pointer r) ∧ h' = h2) ∧ ((r.isNone = true → (∀ h3, Fr (fun i => i = old) h2 h3 → R (.tuple #[(.agg #[(.int .u64 0), (.int .u64 0), (.int .u64 0), (.int .u8 0)]), (.bool false), (.int .i64 6)]) h3)) ∧ (r.isNone = false → (((e_At == 0) = true → (∀ h4, Fr (fun i => i = old) h2 h4 → R (.tuple #[(.agg #[(.int .u64 0), (.int .u64 0), (.int .u64 0), (.int .u8 0)]), (.bool false), (.int .i64 1)]) h4)) ∧ ((e_At == 0) = false → HC Try.prog 28 #[(.pointer r), (.int .u64 e_Hash)] h2 (fun vv h5 => Kp [e, old] h2 h5 ∧ ∃ r0_Hash r0_At r0_Version r0_Hits : Int, ∃ r1 : Bool, vv = (.tuple #[(.agg #[(.int .u64 r0_Hash), (.int .u64 r0_At), (.int .u64 r0_Version), (.int .u8 r0_Hits)]), (.bool r1)]) ∧ (((r1 && (decide (r0_Version > e_Version))) = true → (∀ (h7 : Heap), Ext h5 h7 → (∀ h8, Fr (fun i => i = old) h7 h8 → R (.tuple #[(.agg #[(.int .u64 0), (.int .u64 0), (.int .u64 0), (.int .u8 0)]), (.bool false), (.int .i64 120)]) h8))) ∧ ((r1 && (decide (r0_Version > e_Version))) = false → (∀ (h7 : Heap), Ext h5 h7 → HC Try.prog 51 #[(.pointer r), (.agg #[(.int .u64 e_Hash), (.int .u64 e_At), (.int .u64 e_Version), (.int .u8 e_Hits)])] h7 (fun vv h9 => Kp [old] h7 h9 ∧ ∃ r0_Hash_1 r0_At_1 r0_Version_1 r0_Hits_1 : Int, ∃ r1_1 : Bool, ∃ r2 : Int, vv = (.tuple #[(.agg #[(.int .u64 r0_Hash_1), (.int .u64 r0_At_1), (.int .u64 r0_Version_1), (.int .u8 r0_Hits_1)]), (.bool r1_1), (.int .i64 r2)]) ∧ (∀ h10, Fr (fun i => i = old) h9 h10 → R (.tuple #[(.agg #[(.int .u64 r0_Hash_1), (.int .u64 r0_At_1), (.int .u64 r0_Version_1), (.int .u8 r0_Hits_1)]), (.bool r1_1), (.int .i64 r2)]) h10))))))))))))) :
    HC Try.prog 29 #[(.pointer x), (.agg #[(.int .u64 e_Hash), (.int .u64 e_At), (.int .u64 e_Version), (.int .u8 e_Hits)])] h R := by
  refine hc_of (args := [(.pointer x), (.agg #[(.int .u64 e_Hash), (.int .u64 e_At), (.int .u64 e_Version), (.int .u8 e_Hits)])]) Try.func29 rfl Try.ntmps29 (Nat.le_of_ble_eq_true rfl) ?_
  refine hx_seq ?_
  refine hx_region ?_
  refine hl_step rfl rfl (hn_box (v := (.agg #[(.int .u64 e_Hash), (.int .u64 e_At), (.int .u64 e_Version), (.int .u8 e_Hits)])) rfl ?_)
  intro e h1 eb1 eh2
  have xx3 : Ext h h1 := by rw [eh2]; exact Ext.push _ _
  have lo5 : Array.size h ≤ e := Nat.le_of_eq (Eq.symm eb1)
  have hr4 : h1[e]? = some (.cells #[(.int .u64 e_Hash), (.int .u64 e_At), (.int .u64 e_Version), (.int .u8 e_Hits)] 31 (0, 0)) := by rw [eh2]; exact push_new eb1
  refine hl_step rfl rfl (hn_alloc TyShI.z31 ?_)
  intro old h2 eb6 eh7
  have xx8 : Ext h1 h2 := by rw [eh7]; exact Ext.push _ _
  have ne11 := Nat.ne_of_lt (Nat.lt_of_lt_of_eq (row_lt hr4) (Eq.symm eb6))
  have lo10 : Array.size h ≤ old := Nat.le_trans (Ext.size xx3) (Nat.le_of_eq (Eq.symm eb6))
  have hr9 : h2[old]? = some (.cells #[(.int .u64 0), (.int .u64 0), (.int .u64 0), (.int .u8 0)] 31 (0, 0)) := by rw [eh7]; exact push_new eb6
  replace hr4 := Ext.row xx8 hr4
  have xv12 := Ext.trans xx3 xx8
  refine hl_val rfl rfl (v := (.bool false)) (hv_assign rfl) ?_
  refine hl_val rfl rfl (v := (.int .i64 0)) (hv_assign rfl) ?_
  refine hl_nil ?_
  refine seqQ_n ?_
  refine hx_seq ?_
  refine hx_region ?_
  refine hl_val rfl rfl (v := (.pointer x)) (hv_move rfl) ?_
  refine hl_val rfl rfl (v := (ptr e 0)) (hv_field TyShI.fld31_0 (b := e) (o := 0) rfl) ?_
  refine hl_val rfl rfl (v := (.int .u64 e_Hash)) (hv_load TyShI.agg29 rfl (rowcell hr4 rfl)) ?_
  replace H := H e old h2 lo5 (row_lt hr4) lo10 (row_lt hr9) xv12
  obtain ⟨r, hr13, H⟩ := H
  refine hl_val rfl rfl (v := (.pointer r)) (hv_call TyShI.cb27 (vs := [(.pointer x), (.int .u64 e_Hash)]) rfl hr13) ?_
  refine hl_val rfl rfl (v := (.pointer r)) (hv_assign rfl) ?_
  refine hl_nil ?_
  refine seqQ_n ?_
  refine hx_seq ?_
  refine hx_block ?_
  refine hx_seq ?_
  refine hx_region ?_
  refine hl_val rfl rfl (v := (.pointer r)) (hv_move rfl) ?_
  refine hl_val rfl rfl (v := (.bool r.isNone)) (hv_ptrNil TyShI.up70 rfl rfl) ?_
  refine hl_val rfl rfl (v := (.bool r.isNone)) (hv_assign rfl) ?_
  refine hl_nil ?_
  refine seqQ_n ?_
  refine hx_cond (b := r.isNone) rfl (fun hb14 => ?_) (fun hb14 => ?_)
  · replace H := H.1 hb14
    refine hx_seq ?_
    refine hx_region ?_
    refine hl_val rfl rfl (v := (.agg #[(.int .u64 0), (.int .u64 0), (.int .u64 0), (.int .u8 0)])) (hv_loads (vs := [(.int .u64 0), (.int .u64 0), (.int .u64 0), (.int .u8 0)]) TyShI.agg31 TyShI.sz31 rfl (hcells_cons (rowcell hr9 rfl) (hcells_cons (rowcell hr9 rfl) (hcells_cons (rowcell hr9 rfl) (hcells_cons (rowcell hr9 rfl) hcells_nil))))) ?_
    refine hl_step rfl rfl (hn_stores (vs := [(.int .u64 0), (.int .u64 0), (.int .u64 0), (.int .u8 0)]) rfl rfl TyShI.sz31 rfl (HWs_row hr9 (by simp)) ?_)
    intro h3 eh15
    replace hr4 := row_hsets_ne eh15 ne11 hr4
    have hr9' : h3[old]? = some (.cells #[(.int .u64 0), (.int .u64 0), (.int .u64 0), (.int .u8 0)] 31 (0, 0)) := row_hsets_eq eh15 hr9 rfl
    replace H := H h3 (fr_hsets_of eh15)
    refine hl_val rfl rfl (v := (.bool false)) (hv_assign rfl) ?_
    refine hl_val rfl rfl (v := (.int .i64 6)) (hv_assign rfl) ?_
    refine hl_nil ?_
    refine seqQ_n ?_
    refine hx_ret ?_
    refine blockQ_ret ?_
    refine seqQ_ret ?_
    exact endQ_ret _ (res_three Try.results29 (rv_cell (vs := [(.int .u64 0), (.int .u64 0), (.int .u64 0), (.int .u8 0)]) TyShI.agg31 TyShI.sz31 rfl (hcells_cons (rowcell hr9' rfl) (hcells_cons (rowcell hr9' rfl) (hcells_cons (rowcell hr9' rfl) (hcells_cons (rowcell hr9' rfl) hcells_nil))))) (rv_tmp rfl) (rv_tmp rfl)) H
  · replace H := H.2 hb14
    refine hx_seq ?_
    refine hx_region ?_
    refine hl_val rfl rfl (v := (ptr e 1)) (hv_field TyShI.fld31_1 (b := e) (o := 0) rfl) ?_
    refine hl_val rfl rfl (v := (.int .u64 e_At)) (hv_load TyShI.agg29 rfl (rowcell hr4 rfl)) ?_
    refine hl_val rfl rfl (v := (.bool (e_At == 0))) (hv_arith rfl rfl rfl) ?_
    refine hl_val rfl rfl (v := (.bool (e_At == 0))) (hv_assign rfl) ?_
    refine hl_nil ?_
    refine seqQ_n ?_
    refine hx_cond (b := e_At == 0) rfl (fun hb16 => ?_) (fun hb16 => ?_)
    · replace H := H.1 hb16
      refine hx_seq ?_
      refine hx_region ?_
      refine hl_val rfl rfl (v := (.agg #[(.int .u64 0), (.int .u64 0), (.int .u64 0), (.int .u8 0)])) (hv_loads (vs := [(.int .u64 0), (.int .u64 0), (.int .u64 0), (.int .u8 0)]) TyShI.agg31 TyShI.sz31 rfl (hcells_cons (rowcell hr9 rfl) (hcells_cons (rowcell hr9 rfl) (hcells_cons (rowcell hr9 rfl) (hcells_cons (rowcell hr9 rfl) hcells_nil))))) ?_
      refine hl_step rfl rfl (hn_stores (vs := [(.int .u64 0), (.int .u64 0), (.int .u64 0), (.int .u8 0)]) rfl rfl TyShI.sz31 rfl (HWs_row hr9 (by simp)) ?_)
      intro h4 eh17
      replace hr4 := row_hsets_ne eh17 ne11 hr4
      have hr9' : h4[old]? = some (.cells #[(.int .u64 0), (.int .u64 0), (.int .u64 0), (.int .u8 0)] 31 (0, 0)) := row_hsets_eq eh17 hr9 rfl
      replace H := H h4 (fr_hsets_of eh17)
      refine hl_val rfl rfl (v := (.bool false)) (hv_assign rfl) ?_
      refine hl_val rfl rfl (v := (.int .i64 1)) (hv_assign rfl) ?_
      refine hl_nil ?_
      refine seqQ_n ?_
      refine hx_ret ?_
      refine blockQ_ret ?_
      refine seqQ_ret ?_
      exact endQ_ret _ (res_three Try.results29 (rv_cell (vs := [(.int .u64 0), (.int .u64 0), (.int .u64 0), (.int .u8 0)]) TyShI.agg31 TyShI.sz31 rfl (hcells_cons (rowcell hr9' rfl) (hcells_cons (rowcell hr9' rfl) (hcells_cons (rowcell hr9' rfl) (hcells_cons (rowcell hr9' rfl) hcells_nil))))) (rv_tmp rfl) (rv_tmp rfl)) H
    · replace H := H.2 hb16
      refine hx_skip ?_
      refine blockQ_n ?_
      refine seqQ_n ?_
      refine hx_seq ?_
      refine hx_seq ?_
      refine hx_region ?_
      refine hl_val rfl rfl (v := (.pointer r)) (hv_move rfl) ?_
      refine hl_val rfl rfl (v := (ptr e 0)) (hv_field TyShI.fld31_0 (b := e) (o := 0) rfl) ?_
      refine hl_val rfl rfl (v := (.int .u64 e_Hash)) (hv_load TyShI.agg29 rfl (rowcell hr4 rfl)) ?_
      refine hl_step rfl rfl (hs_call TyShI.cb28 (vs := [(.pointer r), (.int .u64 e_Hash)]) rfl (HC.mono H ?_))
      rintro _ h5 ⟨kp18, r0_Hash, r0_At, r0_Version, r0_Hits, r1, rfl, H⟩
      replace hr4 := Kp.row kp18 (by simp) hr4
      replace hr9 := Kp.row kp18 (by simp) hr9
      refine hl_val rfl rfl (v := (.tuple #[(.agg #[(.int .u64 r0_Hash), (.int .u64 r0_At), (.int .u64 r0_Version), (.int .u8 r0_Hits)]), (.bool r1)])) (hv_move rfl) ?_
      refine hl_val rfl rfl (v := (.agg #[(.int .u64 r0_Hash), (.int .u64 r0_At), (.int .u64 r0_Version), (.int .u8 r0_Hits)])) (hv_extract (vs := #[(.agg #[(.int .u64 r0_Hash), (.int .u64 r0_At), (.int .u64 r0_Version), (.int .u8 r0_Hits)]), (.bool r1)]) rfl rfl) ?_
      refine hl_val rfl rfl (v := (.bool r1)) (hv_extract (vs := #[(.agg #[(.int .u64 r0_Hash), (.int .u64 r0_At), (.int .u64 r0_Version), (.int .u8 r0_Hits)]), (.bool r1)]) rfl rfl) ?_
      refine hl_step rfl rfl (hn_alloc TyShI.z31 ?_)
      intro o h6 eb19 eh20
      have xx21 : Ext h5 h6 := by rw [eh20]; exact Ext.push _ _
      have ne24 := Nat.ne_of_lt (Nat.lt_of_lt_of_eq (row_lt hr4) (Eq.symm eb19))
      have ne25 := Nat.ne_of_lt (Nat.lt_of_lt_of_eq (row_lt hr9) (Eq.symm eb19))
      have lo23 : Array.size h5 ≤ o := Nat.le_of_eq (Eq.symm eb19)
      have hr22 : h6[o]? = some (.cells #[(.int .u64 0), (.int .u64 0), (.int .u64 0), (.int .u8 0)] 31 (0, 0)) := by rw [eh20]; exact push_new eb19
      replace hr4 := Ext.row xx21 hr4
      replace hr9 := Ext.row xx21 hr9
      refine hl_step rfl rfl (hn_stores (vs := [(.int .u64 r0_Hash), (.int .u64 r0_At), (.int .u64 r0_Version), (.int .u8 r0_Hits)]) rfl rfl TyShI.sz31 rfl (HWs_row hr22 (by simp)) ?_)
      intro h7 eh26
      replace hr4 := row_hsets_ne eh26 ne24 hr4
      replace hr9 := row_hsets_ne eh26 ne25 hr9
      have hr22' : h7[o]? = some (.cells #[(.int .u64 r0_Hash), (.int .u64 r0_At), (.int .u64 r0_Version), (.int .u8 r0_Hits)] 31 (0, 0)) := row_hsets_eq eh26 hr22 rfl
      have xv27 := ext_hsets eh26 xx21 lo23
      refine hl_val rfl rfl (v := (.bool r1)) (hv_assign rfl) ?_
      refine hl_nil ?_
      refine seqQ_n ?_
      refine hx_cut (fun ρ h' => h7 = h' ∧ Has ρ [(3, (ptr e 0)), (4, (ptr old 0)), (7, (.pointer r)), (37, (.bool (r1 && (decide (r0_Version > e_Version)))))]) ?_ ?_
      · refine hx_region ?_
        refine hl_val rfl rfl (v := (.bool r1)) (hv_move rfl) ?_
        refine hl_val rfl rfl (v := (.bool r1)) (hv_move rfl) ?_
        rcases bool_or (r1) with hg30 | hg30
        · refine hl_yes (wanted_y rfl rfl rfl hg30) rfl (HStep.of_val (v := (ptr o 2)) (hv_field TyShI.fld31_2 (b := o) (o := 0) rfl) ?_)
          refine hl_yes (wanted_y rfl rfl rfl hg30) rfl (HStep.of_val (v := (.int .u64 r0_Version)) (hv_load TyShI.agg29 rfl (rowcell hr22' rfl)) ?_)
          refine hl_yes (wanted_y rfl rfl rfl hg30) rfl (HStep.of_val (v := (ptr e 2)) (hv_field TyShI.fld31_2 (b := e) (o := 0) rfl) ?_)
          refine hl_yes (wanted_y rfl rfl rfl hg30) rfl (HStep.of_val (v := (.int .u64 e_Version)) (hv_load TyShI.agg29 rfl (rowcell hr4 rfl)) ?_)
          refine hl_yes (wanted_y rfl rfl rfl hg30) rfl (HStep.of_val (v := (.bool (decide (r0_Version > e_Version)))) (hv_arith rfl rfl rfl) ?_)
          refine hl_val rfl rfl (v := (.bool (decide (r0_Version > e_Version)))) (hv_pick_t rfl hg30 rfl) ?_
          refine hl_nil ?_
          refine seqQ_n ?_
          exact ⟨rfl, (has_cons rfl (has_cons rfl (has_cons rfl (has_cons (show ((.bool (decide (r0_Version > e_Version))) : Value) = (.bool (r1 && (decide (r0_Version > e_Version)))) from (by first | rfl | (try rw [hg30]; all_goals first | rfl | (simp only [Bool.true_or, Bool.or_true, Bool.false_or, Bool.or_false, Bool.true_and, Bool.and_true, Bool.false_and, Bool.and_false, Bool.not_true, Bool.not_false, Bool.cond_true, Bool.cond_false]; done)) | simp [hg30])) has_nil))))⟩
        · refine hl_no (wanted_n rfl rfl rfl hg30) rfl ?_
          refine hl_no (wanted_n rfl rfl rfl hg30) rfl ?_
          refine hl_no (wanted_n rfl rfl rfl hg30) rfl ?_
          refine hl_no (wanted_n rfl rfl rfl hg30) rfl ?_
          refine hl_no (wanted_n rfl rfl rfl hg30) rfl ?_
          refine hl_val rfl rfl (v := (.bool false)) (hv_pick_f rfl hg30 rfl) ?_
          refine hl_nil ?_
          refine seqQ_n ?_
          exact ⟨rfl, (has_cons rfl (has_cons rfl (has_cons rfl (has_cons (show ((.bool false) : Value) = (.bool (r1 && (decide (r0_Version > e_Version)))) from (by first | rfl | (try rw [hg30]; all_goals first | rfl | (simp only [Bool.true_or, Bool.or_true, Bool.false_or, Bool.or_false, Bool.true_and, Bool.and_true, Bool.false_and, Bool.and_false, Bool.not_true, Bool.not_false, Bool.cond_true, Bool.cond_false]; done)) | simp [hg30])) has_nil))))⟩
      · rintro ρ _ ⟨rfl, hH⟩
        refine hx_has _ hH ?_
        refine hx_cond (b := (r1 && (decide (r0_Version > e_Version)))) rfl (fun hb31 => ?_) (fun hb31 => ?_)
        · replace H := H.1 hb31
          refine hx_seq ?_
          refine hx_region ?_
          refine hl_val rfl rfl (v := (.agg #[(.int .u64 0), (.int .u64 0), (.int .u64 0), (.int .u8 0)])) (hv_loads (vs := [(.int .u64 0), (.int .u64 0), (.int .u64 0), (.int .u8 0)]) TyShI.agg31 TyShI.sz31 rfl (hcells_cons (rowcell hr9 rfl) (hcells_cons (rowcell hr9 rfl) (hcells_cons (rowcell hr9 rfl) (hcells_cons (rowcell hr9 rfl) hcells_nil))))) ?_
          replace H := H h7 xv27
          refine hl_step rfl rfl (hn_stores (vs := [(.int .u64 0), (.int .u64 0), (.int .u64 0), (.int .u8 0)]) rfl rfl TyShI.sz31 rfl (HWs_row hr9 (by simp)) ?_)
          intro h8 eh32
          replace hr4 := row_hsets_ne eh32 ne11 hr4
          have hr9' : h8[old]? = some (.cells #[(.int .u64 0), (.int .u64 0), (.int .u64 0), (.int .u8 0)] 31 (0, 0)) := row_hsets_eq eh32 hr9 rfl
          replace H := H h8 (fr_hsets_of eh32)
          refine hl_val rfl rfl (v := (.bool false)) (hv_assign rfl) ?_
          refine hl_val rfl rfl (v := (.int .i64 120)) (hv_assign rfl) ?_
          refine hl_nil ?_
          refine seqQ_n ?_
          refine hx_ret ?_
          refine seqQ_ret ?_
          exact endQ_ret _ (res_three Try.results29 (rv_cell (vs := [(.int .u64 0), (.int .u64 0), (.int .u64 0), (.int .u8 0)]) TyShI.agg31 TyShI.sz31 rfl (hcells_cons (rowcell hr9' rfl) (hcells_cons (rowcell hr9' rfl) (hcells_cons (rowcell hr9' rfl) (hcells_cons (rowcell hr9' rfl) hcells_nil))))) (rv_tmp rfl) (rv_tmp rfl)) H
        · replace H := H.2 hb31
          refine hx_skip ?_
          refine seqQ_n ?_
          refine hx_seq ?_
          refine hx_region ?_
          refine hl_val rfl rfl (v := (.pointer r)) (hv_move rfl) ?_
          refine hl_val rfl rfl (v := (.agg #[(.int .u64 e_Hash), (.int .u64 e_At), (.int .u64 e_Version), (.int .u8 e_Hits)])) (hv_loads (vs := [(.int .u64 e_Hash), (.int .u64 e_At), (.int .u64 e_Version), (.int .u8 e_Hits)]) TyShI.agg31 TyShI.sz31 rfl (hcells_cons (rowcell hr4 rfl) (hcells_cons (rowcell hr4 rfl) (hcells_cons (rowcell hr4 rfl) (hcells_cons (rowcell hr4 rfl) hcells_nil))))) ?_
          replace H := H h7 xv27
          refine hl_step rfl rfl (hs_call TyShI.cb51 (vs := [(.pointer r), (.agg #[(.int .u64 e_Hash), (.int .u64 e_At), (.int .u64 e_Version), (.int .u8 e_Hits)])]) rfl (HC.mono H ?_))
          rintro _ h9 ⟨kp33, r0_Hash_1, r0_At_1, r0_Version_1, r0_Hits_1, r1_1, r2, rfl, H⟩
          replace hr9 := Kp.row kp33 (by simp) hr9
          refine hl_val rfl rfl (v := (.agg #[(.int .u64 r0_Hash_1), (.int .u64 r0_At_1), (.int .u64 r0_Version_1), (.int .u8 r0_Hits_1)])) (hv_extract (vs := #[(.agg #[(.int .u64 r0_Hash_1), (.int .u64 r0_At_1), (.int .u64 r0_Version_1), (.int .u8 r0_Hits_1)]), (.bool r1_1), (.int .i64 r2)]) rfl rfl) ?_
          refine hl_val rfl rfl (v := (.bool r1_1)) (hv_extract (vs := #[(.agg #[(.int .u64 r0_Hash_1), (.int .u64 r0_At_1), (.int .u64 r0_Version_1), (.int .u8 r0_Hits_1)]), (.bool r1_1), (.int .i64 r2)]) rfl rfl) ?_
          refine hl_val rfl rfl (v := (.int .i64 r2)) (hv_extract (vs := #[(.agg #[(.int .u64 r0_Hash_1), (.int .u64 r0_At_1), (.int .u64 r0_Version_1), (.int .u8 r0_Hits_1)]), (.bool r1_1), (.int .i64 r2)]) rfl rfl) ?_
          refine hl_step rfl rfl (hn_stores (vs := [(.int .u64 r0_Hash_1), (.int .u64 r0_At_1), (.int .u64 r0_Version_1), (.int .u8 r0_Hits_1)]) rfl rfl TyShI.sz31 rfl (HWs_row hr9 (by simp)) ?_)
          intro h10 eh34
          have hr9' : h10[old]? = some (.cells #[(.int .u64 r0_Hash_1), (.int .u64 r0_At_1), (.int .u64 r0_Version_1), (.int .u8 r0_Hits_1)] 31 (0, 0)) := row_hsets_eq eh34 hr9 rfl
          replace H := H h10 (fr_hsets_of eh34)
          refine hl_val rfl rfl (v := (.bool r1_1)) (hv_assign rfl) ?_
          refine hl_val rfl rfl (v := (.int .i64 r2)) (hv_assign rfl) ?_
          refine hl_nil ?_
          refine seqQ_n ?_
          refine hx_ret ?_
          exact endQ_ret _ (res_three Try.results29 (rv_cell (vs := [(.int .u64 r0_Hash_1), (.int .u64 r0_At_1), (.int .u64 r0_Version_1), (.int .u8 r0_Hits_1)]) TyShI.agg31 TyShI.sz31 rfl (hcells_cons (rowcell hr9' rfl) (hcells_cons (rowcell hr9' rfl) (hcells_cons (rowcell hr9' rfl) (hcells_cons (rowcell hr9' rfl) hcells_nil))))) (rv_tmp rfl) (rv_tmp rfl)) H

/-- (*cellar/index.Index).Remove -/
theorem f30_sh (x : Option Addr) (hash : Int) (h : Heap) (R : Value → Heap → Prop)
    (H : (∀ (pb : Nat) (h1 : Heap), Array.size h ≤ pb → pb < Array.size h1 → Ext h h1 → (∃ r : Option Addr, HC Try.prog 27 #[(.pointer x), (.int .u64 hash)] h1 (fun vv h' => vv = (.pointer r) ∧ h' = h1) ∧ HC Try.prog 46 #[(.pointer r), (.int .u64 hash)] h1 (fun vv h2 => Kp [pb] h1 h2 ∧ ∃ r0_Hash r0_At r0_Version r0_Hits : Int, ∃ r1 : Bool, vv = (.tuple #[(.agg #[(.int .u64 r0_Hash), (.int .u64 r0_At), (.int .u64 r0_Version), (.int .u8 r0_Hits)]), (.bool r1)]) ∧ (∀ h3, Fr (fun i => i = pb) h2 h3 → R (.tuple #[(.agg #[(.int .u64 r0_Hash), (.int .u64 r0_At), (.int .u64 r0_Version), (.int .u8 r0_Hits)]), (.bool r1)]) h3))))) :
    HC Try.prog 30 #[(.pointer x), (.int .u64 hash)] h R := by
  refine hc_of (args := [(.pointer x), (.int .u64 hash)]) Try.func30 rfl Try.ntmps30 (Nat.le_of_ble_eq_true rfl) ?_
  refine hx_seq ?_
  refine hx_region ?_
  refine hl_step rfl rfl (hn_alloc TyShI.z31 ?_)
  intro pb h1 eb1 eh2
  have xx3 : Ext h h1 := by rw [eh2]; exact Ext.push _ _
  have lo5 : Array.size h ≤ pb := Nat.le_of_eq (Eq.symm eb1)
  have hr4 : h1[pb]? = some (.cells #[(.int .u64 0), (.int .u64 0), (.int .u64 0), (.int .u8 0)] 31 (0, 0)) := by rw [eh2]; exact push_new eb1
  refine hl_val rfl rfl (v := (.bool false)) (hv_assign rfl) ?_
  refine hl_nil ?_
  refine seqQ_n ?_
  refine hx_seq ?_
  refine hx_region ?_
  refine hl_val rfl rfl (v := (.pointer x)) (hv_move rfl) ?_
  refine hl_val rfl rfl (v := (.int .u64 hash)) (hv_move rfl) ?_
  replace H := H pb h1 lo5 (row_lt hr4) xx3
  obtain ⟨r, hr6, H⟩ := H
  refine hl_val rfl rfl (v := (.pointer r)) (hv_call TyShI.cb27 (vs := [(.pointer x), (.int .u64 hash)]) rfl hr6) ?_
  refine hl_val rfl rfl (v := (.int .u64 hash)) (hv_move rfl) ?_
  refine hl_step rfl rfl (hs_call TyShI.cb46 (vs := [(.pointer r), (.int .u64 hash)]) rfl (HC.mono H ?_))
  rintro _ h2 ⟨kp7, r0_Hash, r0_At, r0_Version, r0_Hits, r1, rfl, H⟩
  replace hr4 := Kp.row kp7 (by simp) hr4
  refine hl_val rfl rfl (v := (.agg #[(.int .u64 r0_Hash), (.int .u64 r0_At), (.int .u64 r0_Version), (.int .u8 r0_Hits)])) (hv_extract (vs := #[(.agg #[(.int .u64 r0_Hash), (.int .u64 r0_At), (.int .u64 r0_Version), (.int .u8 r0_Hits)]), (.bool r1)]) rfl rfl) ?_
  refine hl_val rfl rfl (v := (.bool r1)) (hv_extract (vs := #[(.agg #[(.int .u64 r0_Hash), (.int .u64 r0_At), (.int .u64 r0_Version), (.int .u8 r0_Hits)]), (.bool r1)]) rfl rfl) ?_
  refine hl_step rfl rfl (hn_stores (vs := [(.int .u64 r0_Hash), (.int .u64 r0_At), (.int .u64 r0_Version), (.int .u8 r0_Hits)]) rfl rfl TyShI.sz31 rfl (HWs_row hr4 (by simp)) ?_)
  intro h3 eh8
  have hr4' : h3[pb]? = some (.cells #[(.int .u64 r0_Hash), (.int .u64 r0_At), (.int .u64 r0_Version), (.int .u8 r0_Hits)] 31 (0, 0)) := row_hsets_eq eh8 hr4 rfl
  replace H := H h3 (fr_hsets_of eh8)
  refine hl_val rfl rfl (v := (.bool r1)) (hv_assign rfl) ?_
  refine hl_nil ?_
  refine seqQ_n ?_
  refine hx_ret ?_
  exact endQ_ret _ (res_two Try.results30 (rv_cell (vs := [(.int .u64 r0_Hash), (.int .u64 r0_At), (.int .u64 r0_Version), (.int .u8 r0_Hits)]) TyShI.agg31 TyShI.sz31 rfl (hcells_cons (rowcell hr4' rfl) (hcells_cons (rowcell hr4' rfl) (hcells_cons (rowcell hr4' rfl) (hcells_cons (rowcell hr4' rfl) hcells_nil))))) (rv_tmp rfl)) H

/-- (*cellar/index.Index).RemoveIf -/
theorem f31_sh (x : Option Addr) (hash : Int) (atv : Int) (h : Heap) (R : Value → Heap → Prop)
    (H : HC Try.prog 11 #[(.pointer x), (.int .u64 hash)] h (fun vv h1 => ∃ r0_Hash r0_At r0_Version r0_Hits : Int, ∃ r1 : Bool, vv = (.tuple #[(.agg #[(.int .u64 r0_Hash), (.int .u64 r0_At), (.int .u64 r0_Version), (.int .u8 r0_Hits)]), (.bool r1)]) ∧ ((((!r1) || (r0_At != atv)) = true → (∀ (h3 : Heap), Ext h1 h3 → R (.bool false) h3)) ∧ (((!r1) || (r0_At != atv)) = false → (∀ (h3 : Heap), Ext h1 h3 → HC Try.prog 30 #[(.pointer x), (.int .u64 hash)] h3 (fun vv h4 => ∃ r0_Hash_1 r0_At_1 r0_Version_1 r0_Hits_1 : Int, ∃ r1_1 : Bool, vv = (.tuple #[(.agg #[(.int .u64 r0_Hash_1), (.int .u64 r0_At_1), (.int .u64 r0_Version_1), (.int .u8 r0_Hits_1)]), (.bool r1_1)]) ∧ R (.bool true) h4)))))) :
    HC Try.prog 31 #[(.pointer x), (.int .u64 hash), (.int .u64 atv)] h R := by
  refine hc_of (args := [(.pointer x), (.int .u64 hash), (.int .u64 atv)]) Try.func31 rfl Try.ntmps31 (Nat.le_of_ble_eq_true rfl) ?_
  refine hx_seq ?_
  refine hx_region ?_
  refine hl_val rfl rfl (v := (.bool false)) (hv_assign rfl) ?_
  refine hl_nil ?_
  refine seqQ_n ?_
  refine hx_seq ?_
  refine hx_region ?_
  refine hl_val rfl rfl (v := (.pointer x)) (hv_move rfl) ?_
  refine hl_val rfl rfl (v := (.int .u64 hash)) (hv_move rfl) ?_
  refine hl_step rfl rfl (hs_call TyShI.cb11 (vs := [(.pointer x), (.int .u64 hash)]) rfl (HC.mono H ?_))
  rintro _ h1 ⟨r0_Hash, r0_At, r0_Version, r0_Hits, r1, rfl, H⟩
  refine hl_val rfl rfl (v := (.tuple #[(.agg #[(.int .u64 r0_Hash), (.int .u64 r0_At), (.int .u64 r0_Version), (.int .u8 r0_Hits)]), (.bool r1)])) (hv_move rfl) ?_
  refine hl_val rfl rfl (v := (.agg #[(.int .u64 r0_Hash), (.int .u64 r0_At), (.int .u64 r0_Version), (.int .u8 r0_Hits)])) (hv_extract (vs := #[(.agg #[(.int .u64 r0_Hash), (.int .u64 r0_At), (.int .u64 r0_Version), (.int .u8 r0_Hits)]), (.bool r1)]) rfl rfl) ?_
  refine hl_val rfl rfl (v := (.bool r1)) (hv_extract (vs := #[(.agg #[(.int .u64 r0_Hash), (.int .u64 r0_At), (.int .u64 r0_Version), (.int .u8 r0_Hits)]), (.bool r1)]) rfl rfl) ?_
  refine hl_step rfl rfl (hn_alloc TyShI.z31 ?_)
  intro e h2 eb1 eh2
  have xx3 : Ext h1 h2 := by rw [eh2]; exact Ext.push _ _
  have lo5 : Array.size h1 ≤ e := Nat.le_of_eq (Eq.symm eb1)
  have hr4 : h2[e]? = some (.cells #[(.int .u64 0), (.int .u64 0), (.int .u64 0), (.int .u8 0)] 31 (0, 0)) := by rw [eh2]; exact push_new eb1
  refine hl_step rfl rfl (hn_stores (vs := [(.int .u64 r0_Hash), (.int .u64 r0_At), (.int .u64 r0_Version), (.int .u8 r0_Hits)]) rfl rfl TyShI.sz31 rfl (HWs_row hr4 (by simp)) ?_)
  intro h3 eh6
  have hr4' : h3[e]? = some (.cells #[(.int .u64 r0_Hash), (.int .u64 r0_At), (.int .u64 r0_Version), (.int .u8 r0_Hits)] 31 (0, 0)) := row_hsets_eq eh6 hr4 rfl
  have xv7 := ext_hsets eh6 xx3 lo5
  refine hl_val rfl rfl (v := (.bool r1)) (hv_assign rfl) ?_
  refine hl_nil ?_
  refine seqQ_n ?_
  refine hx_seq ?_
  refine hx_cut (fun ρ h' => h3 = h' ∧ Has ρ [(0, (.pointer x)), (1, (.int .u64 hash)), (22, (.bool ((!r1) || (r0_At != atv))))]) ?_ ?_
  · refine hx_region ?_
    refine hl_val rfl rfl (v := (.bool r1)) (hv_move rfl) ?_
    refine hl_val rfl rfl (v := (.bool (!r1))) (hv_not (b := r1) rfl) ?_
    refine hl_val rfl rfl (v := (.bool (!r1))) (hv_move rfl) ?_
    rcases bool_or (!r1) with hg10 | hg10
    · refine hl_no (wanted_n rfl rfl rfl hg10) rfl ?_
      refine hl_no (wanted_n rfl rfl rfl hg10) rfl ?_
      refine hl_no (wanted_n rfl rfl rfl hg10) rfl ?_
      refine hl_no (wanted_n rfl rfl rfl hg10) rfl ?_
      refine hl_val rfl rfl (v := (.bool true)) (hv_pick_t rfl hg10 rfl) ?_
      refine hl_nil ?_
      refine seqQ_n ?_
      exact ⟨rfl, (has_cons rfl (has_cons rfl (has_cons (show ((.bool true) : Value) = (.bool ((!r1) || (r0_At != atv))) from (by first | rfl | (try rw [hg10]; all_goals first | rfl | (simp only [Bool.true_or, Bool.or_true, Bool.false_or, Bool.or_false, Bool.true_and, Bool.and_true, Bool.false_and, Bool.and_false, Bool.not_true, Bool.not_false, Bool.cond_true, Bool.cond_false]; done)) | simp [hg10])) has_nil)))⟩
    · refine hl_yes (wanted_y rfl rfl rfl hg10) rfl (HStep.of_val (v := (ptr e 1)) (hv_field TyShI.fld31_1 (b := e) (o := 0) rfl) ?_)
      refine hl_yes (wanted_y rfl rfl rfl hg10) rfl (HStep.of_val (v := (.int .u64 r0_At)) (hv_load TyShI.agg29 rfl (rowcell hr4' rfl)) ?_)
      refine hl_yes (wanted_y rfl rfl rfl hg10) rfl (HStep.of_val (v := (.int .u64 atv)) (hv_move rfl) ?_)
      refine hl_yes (wanted_y rfl rfl rfl hg10) rfl (HStep.of_val (v := (.bool (r0_At != atv))) (hv_arith rfl rfl rfl) ?_)
      refine hl_val rfl rfl (v := (.bool (r0_At != atv))) (hv_pick_f rfl hg10 rfl) ?_
      refine hl_nil ?_
      refine seqQ_n ?_
      exact ⟨rfl, (has_cons rfl (has_cons rfl (has_cons (show ((.bool (r0_At != atv)) : Value) = (.bool ((!r1) || (r0_At != atv))) from (by first | rfl | (try rw [hg10]; all_goals first | rfl | (simp only [Bool.true_or, Bool.or_true, Bool.false_or, Bool.or_false, Bool.true_and, Bool.and_true, Bool.false_and, Bool.and_false, Bool.not_true, Bool.not_false, Bool.cond_true, Bool.cond_false]; done)) | simp [hg10])) has_nil)))⟩
  · rintro ρ _ ⟨rfl, hH⟩
    refine hx_has _ hH ?_
    refine hx_cond (b := ((!r1) || (r0_At != atv))) rfl (fun hb11 => ?_) (fun hb11 => ?_)
    · replace H := H.1 hb11
      refine hx_seq ?_
      refine hx_region ?_
      refine hl_val rfl rfl (v := (.bool false)) (hv_assign rfl) ?_
      refine hl_nil ?_
      refine seqQ_n ?_
      refine hx_ret ?_
      refine seqQ_ret ?_
      replace H := H h3 xv7
      exact endQ_ret _ (res_one Try.results31 (rv_tmp rfl)) H
    · replace H := H.2 hb11
      refine hx_skip ?_
      refine seqQ_n ?_
      refine hx_seq ?_
      refine hx_region ?_
      refine hl_val rfl rfl (v := (.pointer x)) (hv_move rfl) ?_
      refine hl_val rfl rfl (v := (.int .u64 hash)) (hv_move rfl) ?_
      replace H := H h3 xv7
      refine hl_step rfl rfl (hs_call TyShI.cb30 (vs := [(.pointer x), (.int .u64 hash)]) rfl (HC.mono H ?_))
      rintro _ h4 ⟨r0_Hash_1, r0_At_1, r0_Version_1, r0_Hits_1, r1_1, rfl, H⟩
      refine hl_nil ?_
      refine seqQ_n ?_
      refine hx_seq ?_
      refine hx_region ?_
      refine hl_val rfl rfl (v := (.bool true)) (hv_assign rfl) ?_
      refine hl_nil ?_
      refine seqQ_n ?_
      refine hx_ret ?_
      exact endQ_ret _ (res_one Try.results31 (rv_tmp rfl)) H

/-- (*cellar/index.Index).Move -/
theorem f32_sh (x : Option Addr) (hash : Int) (fromv : Int) (to : Int) (h : Heap) (R : Value → Heap → Prop)
    (H : HC Try.prog 11 #[(.pointer x), (.int .u64 hash)] h (fun vv h1 => ∃ r0_Hash r0_At r0_Version r0_Hits : Int, ∃ r1 : Bool, vv = (.tuple #[(.agg #[(.int .u64 r0_Hash), (.int .u64 r0_At), (.int .u64 r0_Version), (.int .u8 r0_Hits)]), (.bool r1)]) ∧ ((((!r1) || ((r0_At != fromv) || (to == 0))) = true → (∀ (h3 : Heap), Ext h1 h3 → R (.bool false) h3)) ∧ (((!r1) || ((r0_At != fromv) || (to == 0))) = false → (∀ (e : Nat) (h4 : Heap), Array.size h1 ≤ e → e < Array.size h4 → Ext h1 h4 → (∃ r : Option Addr, (∀ h6, Ext h4 h6 → HC Try.prog 27 #[(.pointer x), (.int .u64 hash)] h6 (fun vv h' => vv = (.pointer r) ∧ h' = h6)) ∧ HC Try.prog 51 #[(.pointer r), (.agg #[(.int .u64 r0_Hash), (.int .u64 to), (.int .u64 r0_Version), (.int .u8 r0_Hits)])] h4 (fun vv h5 => ∃ r0_Hash_1 r0_At_1 r0_Version_1 r0_Hits_1 : Int, ∃ r1_1 : Bool, ∃ r2 : Int, vv = (.tuple #[(.agg #[(.int .u64 r0_Hash_1), (.int .u64 r0_At_1), (.int .u64 r0_Version_1), (.int .u8 r0_Hits_1)]), (.bool r1_1), (.int .i64 r2)]) ∧ R (.bool true) h5))))))) :
    HC Try.prog 32 #[(.pointer x), (.int .u64 hash), (.int .u64 fromv), (.int .u64 to)] h R := by
  refine hc_of (args := [(.pointer x), (.int .u64 hash), (.int .u64 fromv), (.int .u64 to)]) Try.func32 rfl Try.ntmps32 (Nat.le_of_ble_eq_true rfl) ?_
  refine hx_seq ?_
  refine hx_region ?_
  refine hl_val rfl rfl (v := (.bool false)) (hv_assign rfl) ?_
  refine hl_nil ?_
  refine seqQ_n ?_
  refine hx_seq ?_
  refine hx_region ?_
  refine hl_val rfl rfl (v := (.pointer x)) (hv_move rfl) ?_
  refine hl_val rfl rfl (v := (.int .u64 hash)) (hv_move rfl) ?_
  refine hl_step rfl rfl (hs_call TyShI.cb11 (vs := [(.pointer x), (.int .u64 hash)]) rfl (HC.mono H ?_))
  rintro _ h1 ⟨r0_Hash, r0_At, r0_Version, r0_Hits, r1, rfl, H⟩
  refine hl_val rfl rfl (v := (.tuple #[(.agg #[(.int .u64 r0_Hash), (.int .u64 r0_At), (.int .u64 r0_Version), (.int .u8 r0_Hits)]), (.bool r1)])) (hv_move rfl) ?_
  refine hl_val rfl rfl (v := (.agg #[(.int .u64 r0_Hash), (.int .u64 r0_At), (.int .u64 r0_Version), (.int .u8 r0_Hits)])) (hv_extract (vs := #[(.agg #[(.int .u64 r0_Hash), (.int .u64 r0_At), (.int .u64 r0_Version), (.int .u8 r0_Hits)]), (.bool r1)]) rfl rfl) ?_
  refine hl_val rfl rfl (v := (.bool r1)) (hv_extract (vs := #[(.agg #[(.int .u64 r0_Hash), (.int .u64 r0_At), (.int .u64 r0_Version), (.int .u8 r0_Hits)]), (.bool r1)]) rfl rfl) ?_
  refine hl_step rfl rfl (hn_alloc TyShI.z31 ?_)
  intro e h2 eb1 eh2
  have xx3 : Ext h1 h2 := by rw [eh2]; exact Ext.push _ _
  have lo5 : Array.size h1 ≤ e := Nat.le_of_eq (Eq.symm eb1)
  have hr4 : h2[e]? = some (.cells #[(.int .u64 0), (.int .u64 0), (.int .u64 0), (.int .u8 0)] 31 (0, 0)) := by rw [eh2]; exact push_new eb1
  refine hl_step rfl rfl (hn_stores (vs := [(.int .u64 r0_Hash), (.int .u64 r0_At), (.int .u64 r0_Version), (.int .u8 r0_Hits)]) rfl rfl TyShI.sz31 rfl (HWs_row hr4 (by simp)) ?_)
  intro h3 eh6
  have hr4' : h3[e]? = some (.cells #[(.int .u64 r0_Hash), (.int .u64 r0_At), (.int .u64 r0_Version), (.int .u8 r0_Hits)] 31 (0, 0)) := row_hsets_eq eh6 hr4 rfl
  have xv7 := ext_hsets eh6 xx3 lo5
  refine hl_val rfl rfl (v := (.bool r1)) (hv_assign rfl) ?_
  refine hl_nil ?_
  refine seqQ_n ?_
  refine hx_seq ?_
  refine hx_cut (fun ρ h' => h3 = h' ∧ Has ρ [(0, (.pointer x)), (1, (.int .u64 hash)), (3, (.int .u64 to)), (9, (ptr e 0)), (28, (.bool ((!r1) || ((r0_At != fromv) || (to == 0)))))]) ?_ ?_
  · refine hx_region ?_
    refine hl_val rfl rfl (v := (.bool r1)) (hv_move rfl) ?_
    refine hl_val rfl rfl (v := (.bool (!r1))) (hv_not (b := r1) rfl) ?_
    refine hl_val rfl rfl (v := (.bool (!r1))) (hv_move rfl) ?_
    rcases bool_or (!r1) with hg10 | hg10
    · refine hl_no (wanted_n rfl rfl rfl hg10) rfl ?_
      refine hl_no (wanted_n rfl rfl rfl hg10) rfl ?_
      refine hl_no (wanted_n rfl rfl rfl hg10) rfl ?_
      refine hl_no (wanted_n rfl rfl rfl hg10) rfl ?_
      refine hl_val rfl rfl (v := (.bool true)) (hv_pick_t rfl hg10 rfl) ?_
      refine hl_val rfl rfl (v := (.bool true)) (hv_move rfl) ?_
      refine hl_no (wanted_n rfl rfl (c := true) rfl rfl) rfl ?_
      refine hl_no (wanted_n rfl rfl (c := true) rfl rfl) rfl ?_
      refine hl_val rfl rfl (v := (.bool true)) (hv_pick (t := true) rfl rfl) ?_
      refine hl_nil ?_
      refine seqQ_n ?_
      exact ⟨rfl, (has_cons rfl (has_cons rfl (has_cons rfl (has_cons rfl (has_cons (show ((.bool true) : Value) = (.bool ((!r1) || ((r0_At != fromv) || (to == 0)))) from (by first | rfl | (try rw [hg10]; all_goals first | rfl | (simp only [Bool.true_or, Bool.or_true, Bool.false_or, Bool.or_false, Bool.true_and, Bool.and_true, Bool.false_and, Bool.and_false, Bool.not_true, Bool.not_false, Bool.cond_true, Bool.cond_false]; done)) | simp [hg10])) has_nil)))))⟩
    · refine hl_yes (wanted_y rfl rfl rfl hg10) rfl (HStep.of_val (v := (ptr e 1)) (hv_field TyShI.fld31_1 (b := e) (o := 0) rfl) ?_)
      refine hl_yes (wanted_y rfl rfl rfl hg10) rfl (HStep.of_val (v := (.int .u64 r0_At)) (hv_load TyShI.agg29 rfl (rowcell hr4' rfl)) ?_)
      refine hl_yes (wanted_y rfl rfl rfl hg10) rfl (HStep.of_val (v := (.int .u64 fromv)) (hv_move rfl) ?_)
      refine hl_yes (wanted_y rfl rfl rfl hg10) rfl (HStep.of_val (v := (.bool (r0_At != fromv))) (hv_arith rfl rfl rfl) ?_)
      refine hl_val rfl rfl (v := (.bool (r0_At != fromv))) (hv_pick_f rfl hg10 rfl) ?_
      refine hl_val rfl rfl (v := (.bool (r0_At != fromv))) (hv_move rfl) ?_
      rcases bool_or (r0_At != fromv) with hg11 | hg11
      · refine hl_no (wanted_n rfl rfl rfl hg11) rfl ?_
        refine hl_no (wanted_n rfl rfl rfl hg11) rfl ?_
        refine hl_val rfl rfl (v := (.bool true)) (hv_pick_t rfl hg11 rfl) ?_
        refine hl_nil ?_
        refine seqQ_n ?_
        exact ⟨rfl, (has_cons rfl (has_cons rfl (has_cons rfl (has_cons rfl (has_cons (show ((.bool true) : Value) = (.bool ((!r1) || ((r0_At != fromv) || (to == 0)))) from (by first | rfl | (try rw [hg10]; try rw [hg11]; all_goals first | rfl | (simp only [Bool.true_or, Bool.or_true, Bool.false_or, Bool.or_false, Bool.true_and, Bool.and_true, Bool.false_and, Bool.and_false, Bool.not_true, Bool.not_false, Bool.cond_true, Bool.cond_false]; done)) | simp [hg10, hg11])) has_nil)))))⟩
      · refine hl_yes (wanted_y rfl rfl rfl hg11) rfl (HStep.of_val (v := (.int .u64 to)) (hv_move rfl) ?_)
        refine hl_yes (wanted_y rfl rfl rfl hg11) rfl (HStep.of_val (v := (.bool (to == 0))) (hv_arith rfl rfl rfl) ?_)
        refine hl_val rfl rfl (v := (.bool (to == 0))) (hv_pick_f rfl hg11 rfl) ?_
        refine hl_nil ?_
        refine seqQ_n ?_
        exact ⟨rfl, (has_cons rfl (has_cons rfl (has_cons rfl (has_cons rfl (has_cons (show ((.bool (to == 0)) : Value) = (.bool ((!r1) || ((r0_At != fromv) || (to == 0)))) from (by first | rfl | (try rw [hg10]; try rw [hg11]; all_goals first | rfl | (simp only [Bool.true_or, Bool.or_true, Bool.false_or, Bool.or_false, Bool.true_and, Bool.and_true, Bool.false_and, Bool.and_false, Bool.not_true, Bool.not_false, Bool.cond_true, Bool.cond_false]; done)) | simp [hg10, hg11])) has_nil)))))⟩
  · rintro ρ _ ⟨rfl, hH⟩
    refine hx_has _ hH ?_
    refine hx_cond (b := ((!r1) || ((r0_At != fromv) || (to == 0)))) rfl (fun hb12 => ?_) (fun hb12 => ?_)
    · replace H := H.1 hb12
      refine hx_seq ?_
      refine hx_region ?_
      refine hl_val rfl rfl (v := (.bool false)) (hv_assign rfl) ?_
      refine hl_nil ?_
      refine seqQ_n ?_
      refine hx_ret ?_
      refine seqQ_ret ?_
      replace H := H h3 xv7
      exact endQ_ret _ (res_one Try.results32 (rv_tmp rfl)) H
    · replace H := H.2 hb12
      refine hx_skip ?_
      refine seqQ_n ?_
      refine hx_seq ?_
      refine hx_region ?_
      refine hl_val rfl rfl (v := (.int .u64 to)) (hv_move rfl) ?_
      refine hl_val rfl rfl (v := (ptr e 1)) (hv_field TyShI.fld31_1 (b := e) (o := 0) rfl) ?_
      refine hl_step rfl rfl (hn_store (v := (.int .u64 to)) rfl rfl TyShI.sz29 rfl (HW_row hr4' (by simp)) ?_)
      intro h4 eh13
      have hr4'' : h4[e]? = some (.cells #[(.int .u64 r0_Hash), (.int .u64 to), (.int .u64 r0_Version), (.int .u8 r0_Hits)] 31 (0, 0)) := row_hset_eq eh13 hr4' rfl
      have xv14 := ext_hset eh13 xv7 lo5
      refine hl_nil ?_
      refine seqQ_n ?_
      refine hx_seq ?_
      refine hx_draw TyShI.mixed [.pure, .pure, .read, .read, .wild] [0, 1, 2, 3, 4] (by kernel_rfl) ?_
      refine hp_pure (i := 0) rfl (wanted_0 rfl) rfl (.pointer x) (fun _ => hv_move rfl) ?_
      refine hp_pure (i := 1) rfl (wanted_0 rfl) rfl (.int .u64 hash) (fun _ => hv_move rfl) ?_
      replace H := H e h4 lo5 (row_lt hr4'') xv14
      obtain ⟨r, hr15, H⟩ := H
      refine hp_read (i := 2) rfl (wanted_0 rfl) rfl (.pointer r) (fun _ he => hv_call TyShI.cb27 (vs := [(.pointer x), (.int .u64 hash)]) rfl (hr15 _ he)) ?_
      refine hp_read (i := 3) rfl (wanted_0 rfl) rfl (.agg #[(.int .u64 r0_Hash), (.int .u64 to), (.int .u64 r0_Version), (.int .u8 r0_Hits)]) (fun _ he => hv_loads (vs := [(.int .u64 r0_Hash), (.int .u64 to), (.int .u64 r0_Version), (.int .u8 r0_Hits)]) TyShI.agg31 TyShI.sz31 rfl (hcells_cons (Ext.cell he (rowcell hr4'' rfl)) (hcells_cons (Ext.cell he (rowcell hr4'' rfl)) (hcells_cons (Ext.cell he (rowcell hr4'' rfl)) (hcells_cons (Ext.cell he (rowcell hr4'' rfl)) hcells_nil))))) ?_
      refine hp_wild (i := 4) rfl (wanted_0 rfl) rfl (hs_call TyShI.cb51 (vs := [(.pointer r), (.agg #[(.int .u64 r0_Hash), (.int .u64 to), (.int .u64 r0_Version), (.int .u8 r0_Hits)])]) rfl (HC.mono H ?_))
      rintro _ h5 ⟨r0_Hash_1, r0_At_1, r0_Version_1, r0_Hits_1, r1_1, r2, rfl, H⟩
      refine hp_nil ?_
      refine seqQ_n ?_
      refine hx_seq ?_
      refine hx_region ?_
      refine hl_val rfl rfl (v := (.bool true)) (hv_assign rfl) ?_
      refine hl_nil ?_
      refine seqQ_n ?_
      refine hx_ret ?_
      exact endQ_ret _ (res_one Try.results32 (rv_tmp rfl)) H

/-- (*cellar/index.Index).Hit -/
theorem f33_sh (x : Option Addr) (hash : Int) (h : Heap) (R : Value → Heap → Prop)
    (H : (∃ r : Option Addr, HC Try.prog 27 #[(.pointer x), (.int .u64 hash)] h (fun vv h' => vv = (.pointer r) ∧ h' = h) ∧ HC Try.prog 52 #[(.pointer r), (.int .u64 hash)] h (fun vv h1 => ∃ r_1 : Bool, vv = (.bool r_1) ∧ R (.bool r_1) h1))) :
    HC Try.prog 33 #[(.pointer x), (.int .u64 hash)] h R := by
  refine hc_of (args := [(.pointer x), (.int .u64 hash)]) Try.func33 rfl Try.ntmps33 (Nat.le_of_ble_eq_true rfl) ?_
  refine hx_seq ?_
  refine hx_region ?_
  refine hl_val rfl rfl (v := (.bool false)) (hv_assign rfl) ?_
  refine hl_nil ?_
  refine seqQ_n ?_
  refine hx_seq ?_
  refine hx_region ?_
  refine hl_val rfl rfl (v := (.pointer x)) (hv_move rfl) ?_
  refine hl_val rfl rfl (v := (.int .u64 hash)) (hv_move rfl) ?_
  obtain ⟨r, hr1, H⟩ := H
  refine hl_val rfl rfl (v := (.pointer r)) (hv_call TyShI.cb27 (vs := [(.pointer x), (.int .u64 hash)]) rfl hr1) ?_
  refine hl_val rfl rfl (v := (.int .u64 hash)) (hv_move rfl) ?_
  refine hl_step rfl rfl (hs_call TyShI.cb52 (vs := [(.pointer r), (.int .u64 hash)]) rfl (HC.mono H ?_))
  rintro _ h1 ⟨r_1, rfl, H⟩
  refine hl_val rfl rfl (v := (.bool r_1)) (hv_assign rfl) ?_
  refine hl_nil ?_
  refine seqQ_n ?_
  refine hx_ret ?_
  exact endQ_ret _ (res_one Try.results33 (rv_tmp rfl)) H

/-- (*cellar/index.Index).All -/
theorem f18_sh (x : Option Addr) (stripe : Int) (h : Heap) (R : Value → Heap → Prop)
    (H : (∃ r : Option Addr, HC Try.prog 44 #[(.pointer x), (.int .i64 stripe)] h (fun vv h' => vv = (.pointer r) ∧ h' = h) ∧ HC Try.prog 45 #[(.pointer r)] h (fun vv h1 => ∃ r_1 : Value, vv = r_1 ∧ R r_1 h1))) :
    HC Try.prog 18 #[(.pointer x), (.int .i64 stripe)] h R := by
  refine hc_of (args := [(.pointer x), (.int .i64 stripe)]) Try.func18 rfl Try.ntmps18 (Nat.le_of_ble_eq_true rfl) ?_
  refine hx_seq ?_
  refine hx_region ?_
  refine hl_val rfl rfl (v := .nilFunc) (hv_assign rfl) ?_
  refine hl_nil ?_
  refine seqQ_n ?_
  refine hx_seq ?_
  refine hx_region ?_
  refine hl_val rfl rfl (v := (.pointer x)) (hv_move rfl) ?_
  refine hl_val rfl rfl (v := (.int .i64 stripe)) (hv_move rfl) ?_
  obtain ⟨r, hr1, H⟩ := H
  refine hl_val rfl rfl (v := (.pointer r)) (hv_call TyShI.cb44 (vs := [(.pointer x), (.int .i64 stripe)]) rfl hr1) ?_
  refine hl_step rfl rfl (hs_call TyShI.cb45 (vs := [(.pointer r)]) rfl (HC.mono H ?_))
  rintro r_1 h1 ⟨_, rfl, H⟩
  refine hl_val rfl rfl (v := r_1) (hv_assign rfl) ?_
  refine hl_nil ?_
  refine seqQ_n ?_
  refine hx_ret ?_
  exact endQ_ret _ (res_one Try.results18 (rv_tmp rfl)) H

/-- (*cellar/index.Index).Purge -/
theorem f19_sh (x : Option Addr) (stripe : Int) (region : Int) (h : Heap) (R : Value → Heap → Prop)
    (H : (∀ region_1 h1, region_1 = Array.size h → h1 = Array.push h (.cells #[(.int .i64 region)] 3) → (∃ r : Option Addr, HC Try.prog 44 #[(.pointer x), (.int .i64 stripe)] h1 (fun vv h' => vv = (.pointer r) ∧ h' = h1) ∧ (∀ t h2, t = Array.size h1 → h2 = Array.push h1 (.cells #[(.pointer none)] 70) → (HW h2 t 0 ∧ ∀ h3, h3 = hset h2 t 0 (.pointer r) → (∀ n h4, n = Array.size h3 → h4 = Array.push h3 (.cells #[(.int .i64 0)] 3) → (HW h4 n 0 ∧ ∀ h5, h5 = hset h4 n 0 (.int .i64 0) → (∃ x_1 : Option Addr, hcell h5 t 0 = some (.pointer x_1) ∧ HC Try.prog 45 #[(.pointer x_1)] h5 (fun vv h6 => ∃ r_1 : Value, vv = r_1 ∧ (∀ (Lp16 : LoopState → Option Code → Heap → Prop) (l : Nat) (h7 : Heap) (y : Value), (∀ s p h h', Lp16 s p h → h'[l]? = h[l]? → Lp16 s p h') → l = Array.size h6 + 1 → Ext h6 h7 → Array.size h7 = Array.size h6 + 2 → Lp16 .ready none h7 → (∀ (it_Hash : Int) (it_At : Int) (it_Version : Int) (it_Hits : Int) (h8 : Heap) (K24 : Value → Heap → Prop), Lp16 .ready none h8 → (∀ e h11, e = Array.size h8 → h11 = Array.push h8 (.cells #[(.int .u64 0), (.int .u64 0), (.int .u64 0), (.int .u8 0)] 31) → (HWs h11 e 0 4 ∧ ∀ h12, h12 = hsets h11 e 0 [(.int .u64 it_Hash), (.int .u64 it_At), (.int .u64 it_Version), (.int .u8 it_Hits)] → (Lp16 .ready none h12 ∧ ∀ h13, Only l h12 h13 → Lp16 .busy none h13 → (∃ j : Bool, (∃ x_2 : Int, hcell h13 region_1 0 = some (.int .i64 x_2) ∧ (((decide (x_2 < 0)) = true → (j = true)) ∧ ((decide (x_2 < 0)) = false → (∃ x_3 : Int, hcell h13 e 1 = some (.int .u64 x_3) ∧ (j = ((Int.fdiv x_3 (2 ^ min (Int.toNat 48) 64)) != (IntKind.u64.wrap x_2))))))) ∧ ((j = true → (Lp16 .busy none h13 ∧ ∀ h14, Only l h13 h14 → Lp16 .ready none h14 → K24 (.bool true) h14)) ∧ (j = false → (∃ x_4 : Option Addr, hcell h13 t 0 = some (.pointer x_4) ∧ (∃ x_5 : Int, hcell h13 e 0 = some (.int .u64 x_5) ∧ HC Try.prog 46 #[(.pointer x_4), (.int .u64 x_5)] h13 (fun vv h15 => ∃ r0_Hash r0_At r0_Version r0_Hits : Int, ∃ r1 : Bool, vv = (.tuple #[(.agg #[(.int .u64 r0_Hash), (.int .u64 r0_At), (.int .u64 r0_Version), (.int .u8 r0_Hits)]), (.bool r1)]) ∧ (∃ x_6 : Int, hcell h15 n 0 = some (.int .i64 x_6) ∧ (HW h15 n 0 ∧ ∀ h16, h16 = hset h15 n 0 (.int .i64 (IntKind.i64.wrap (x_6 + 1))) → (Lp16 .busy none h16 ∧ ∀ h17, Only l h16 h17 → Lp16 .ready none h17 → K24 (.bool true) h17)))))))))))) → HCV Try.prog y [(.agg #[(.int .u64 it_Hash), (.int .u64 it_At), (.int .u64 it_Version), (.int .u8 it_Hits)])] h8 K24) → HCF Try.prog r_1 [y] h7 (fun _ h9 => ∃ (st : LoopState) (pend : Option Code), Lp16 st pend h9 ∧ st ≠ .busy ∧ ∀ h10, Only l h9 h10 → Lp16 .exhausted pend h10 → ((pend = none ∧ (∃ x_7 : Int, hcell h10 n 0 = some (.int .i64 x_7) ∧ (∀ h18, Shut' (Array.size h) h10 h18 → R (.int .i64 x_7) h18))))))))))))))) :
    HC Try.prog 19 #[(.pointer x), (.int .i64 stripe), (.int .i64 region)] h R := by
  refine hc_ofM (args := [(.pointer x), (.int .i64 stripe), (.int .i64 region)]) Try.func19 rfl Try.ntmps19 (Nat.le_of_ble_eq_true rfl) ?_
  refine hx_seq ?_
  refine hx_region ?_
  refine hl_step rfl rfl (hn_box (v := (.int .i64 region)) rfl ?_)
  intro region_1 h1 eb1 eh2
  replace H := H region_1 h1 eb1 eh2
  have xx3 : Ext h h1 := by rw [eh2]; exact Ext.push _ _
  refine hl_val rfl rfl (v := (.int .i64 0)) (hv_assign rfl) ?_
  refine hl_nil ?_
  refine seqQ_n ?_
  refine hx_scope ?_
  refine hx_seq ?_
  refine hx_region ?_
  refine hl_val rfl rfl (v := (.pointer x)) (hv_move rfl) ?_
  refine hl_val rfl rfl (v := (.int .i64 stripe)) (hv_move rfl) ?_
  obtain ⟨r, hr4, H⟩ := H
  refine hl_val rfl rfl (v := (.pointer r)) (hv_call TyShI.cb44 (vs := [(.pointer x), (.int .i64 stripe)]) rfl hr4) ?_
  refine hl_step rfl rfl (hn_alloc TyShI.z70 ?_)
  intro t h2 eb5 eh6
  replace H := H t h2 eb5 eh6
  have xx7 : Ext h1 h2 := by rw [eh6]; exact Ext.push _ _
  obtain ⟨hw9, H⟩ := H
  refine hl_step rfl rfl (hn_store (v := (.pointer r)) rfl rfl TyShI.sz70 rfl hw9 ?_)
  intro h3 eh8
  replace H := H h3 eh8
  refine hl_nil ?_
  refine seqQ_n ?_
  refine hx_seq ?_
  refine hx_region ?_
  refine hl_step rfl rfl (hn_alloc TyShI.z3 ?_)
  intro n h4 eb10 eh11
  replace H := H n h4 eb10 eh11
  have xx12 : Ext h3 h4 := by rw [eh11]; exact Ext.push _ _
  obtain ⟨hw14, H⟩ := H
  refine hl_step rfl rfl (hn_store (v := (.int .i64 0)) rfl rfl TyShI.sz3 rfl hw14 ?_)
  intro h5 eh13
  replace H := H h5 eh13
  refine hl_nil ?_
  refine seqQ_n ?_
  refine hx_seq ?_
  refine hx_label ?_
  refine seqQ_n ?_
  refine hx_seq ?_
  refine hx_seq ?_
  refine hx_region ?_
  obtain ⟨x_1, hc15, H⟩ := H
  refine hl_val rfl rfl (v := (.pointer x_1)) (hv_load TyShI.agg70 rfl hc15) ?_
  refine hl_step rfl rfl (hs_call TyShI.cb45 (vs := [(.pointer x_1)]) rfl (HC.mono H ?_))
  rintro r_1 h6 ⟨_, rfl, H⟩
  refine hl_nil ?_
  refine seqQ_n ?_
  refine hx_block ?_
  refine hx_range rfl rfl rfl (fun h7 l le17 lx18 lz19 La20 => ?_)
  refine HCF.mono (H (fun st p h => LoopAt h l _ _ _ _ _ st p) l h7 _ (fun s p h h' k e => k.same e) le17 lx18 lz19 La20 ?_) ?_
  · intro it_Hash it_At it_Version it_Hits h8 K24 Lb21 H
    refine hcv_yield Lb21 rfl rfl ?_
    refine hx_region ?_
    refine hl_step rfl rfl (hn_alloc TyShI.z31 ?_)
    intro e h11 eb27 eh28
    replace H := H e h11 eb27 eh28
    have xx29 : Ext h8 h11 := by rw [eh28]; exact Ext.push _ _
    obtain ⟨hw31, H⟩ := H
    refine hl_step rfl rfl (hn_stores (vs := [(.int .u64 it_Hash), (.int .u64 it_At), (.int .u64 it_Version), (.int .u8 it_Hits)]) rfl rfl TyShI.sz31 rfl hw31 ?_)
    intro h12 eh30
    replace H := H h12 eh30
    refine hl_nil ?_
    obtain ⟨Lf34, H⟩ := H
    refine ⟨rfl, Lf34, ?_⟩
    intro h13 lo32 Le33
    replace H := H h13 lo32 Le33
    refine hx_block ?_
    refine hx_seq ?_
    obtain ⟨j, Hx35, Hy36⟩ := H
    refine hx_cut (fun ρ h' => h13 = h' ∧ Has ρ [(7, (ptr t 0)), (8, (ptr n 0)), (9, (ptr e 0)), (25, (.bool j))]) ?_ ?_
    · have H := Hx35; clear Hx35 Hy36
      refine hx_region ?_
      obtain ⟨x_2, hc37, H⟩ := H
      refine hl_val rfl rfl (v := (.int .i64 x_2)) (hv_load TyShI.agg3 rfl hc37) ?_
      refine hl_val rfl rfl (v := (.bool (decide (x_2 < 0)))) (hv_arith rfl rfl rfl) ?_
      refine hl_val rfl rfl (v := (.bool (decide (x_2 < 0)))) (hv_move rfl) ?_
      rcases bool_or (decide (x_2 < 0)) with hg38 | hg38
      · replace H := H.1 hg38
        refine hl_no (wanted_n rfl rfl rfl hg38) rfl ?_
        refine hl_no (wanted_n rfl rfl rfl hg38) rfl ?_
        refine hl_no (wanted_n rfl rfl rfl hg38) rfl ?_
        refine hl_no (wanted_n rfl rfl rfl hg38) rfl ?_
        refine hl_no (wanted_n rfl rfl rfl hg38) rfl ?_
        refine hl_no (wanted_n rfl rfl rfl hg38) rfl ?_
        refine hl_val rfl rfl (v := (.bool true)) (hv_pick_t rfl hg38 rfl) ?_
        refine hl_nil ?_
        refine seqQ_n ?_
        obtain rfl := H
        exact ⟨rfl, (has_cons rfl (has_cons rfl (has_cons rfl (has_cons rfl has_nil))))⟩
      · replace H := H.2 hg38
        refine hl_yes (wanted_y rfl rfl rfl hg38) rfl (HStep.of_val (v := (ptr e 1)) (hv_field TyShI.fld31_1 (b := e) (o := 0) rfl) ?_)
        obtain ⟨x_3, hc39, H⟩ := H
        refine hl_yes (wanted_y rfl rfl rfl hg38) rfl (HStep.of_val (v := (.int .u64 x_3)) (hv_load TyShI.agg29 rfl hc39) ?_)
        refine hl_yes (wanted_y rfl rfl rfl hg38) rfl (HStep.of_val (v := (.int .u64 (Int.fdiv x_3 (2 ^ min (Int.toNat 48) 64)))) (hv_shift rfl rfl (by decide) rfl) ?_)
        refine hl_yes (wanted_y rfl rfl rfl hg38) rfl (HStep.of_val (v := (.int .i64 x_2)) (hv_load TyShI.agg3 rfl hc37) ?_)
        refine hl_yes (wanted_y rfl rfl rfl hg38) rfl (HStep.of_val (v := (.int .u64 (IntKind.u64.wrap x_2))) (hv_convInt TyShI.u3 TyShI.u29 rfl) ?_)
        refine hl_yes (wanted_y rfl rfl rfl hg38) rfl (HStep.of_val (v := (.bool ((Int.fdiv x_3 (2 ^ min (Int.toNat 48) 64)) != (IntKind.u64.wrap x_2)))) (hv_arith rfl rfl rfl) ?_)
        refine hl_val rfl rfl (v := (.bool ((Int.fdiv x_3 (2 ^ min (Int.toNat 48) 64)) != (IntKind.u64.wrap x_2)))) (hv_pick_f rfl hg38 rfl) ?_
        refine hl_nil ?_
        refine seqQ_n ?_
        obtain rfl := H
        exact ⟨rfl, (has_cons rfl (has_cons rfl (has_cons rfl (has_cons rfl has_nil))))⟩
    · have H := Hy36; clear Hx35 Hy36
      rintro ρ _ ⟨rfl, hH⟩
      refine hx_has _ hH ?_
      refine hx_cond (b := j) rfl (fun hb40 => ?_) (fun hb40 => ?_)
      · replace H := H.1 hb40
        refine hx_exit ?_
        refine seqQ_exit ?_
        refine blockQ_here ?_
        exact H
      · replace H := H.2 hb40
        refine hx_skip ?_
        refine seqQ_n ?_
        refine hx_seq ?_
        refine hx_region ?_
        obtain ⟨x_4, hc41, H⟩ := H
        refine hl_val rfl rfl (v := (.pointer x_4)) (hv_load TyShI.agg70 rfl hc41) ?_
        refine hl_val rfl rfl (v := (ptr e 0)) (hv_field TyShI.fld31_0 (b := e) (o := 0) rfl) ?_
        obtain ⟨x_5, hc42, H⟩ := H
        refine hl_val rfl rfl (v := (.int .u64 x_5)) (hv_load TyShI.agg29 rfl hc42) ?_
        refine hl_step rfl rfl (hs_call TyShI.cb46 (vs := [(.pointer x_4), (.int .u64 x_5)]) rfl (HC.mono H ?_))
        rintro _ h15 ⟨r0_Hash, r0_At, r0_Version, r0_Hits, r1, rfl, H⟩
        refine hl_nil ?_
        refine seqQ_n ?_
        refine hx_region ?_
        obtain ⟨x_6, hc43, H⟩ := H
        refine hl_val rfl rfl (v := (.int .i64 x_6)) (hv_load TyShI.agg3 rfl hc43) ?_
        refine hl_val rfl rfl (v := (.int .i64 (IntKind.i64.wrap (x_6 + 1)))) (hv_arith rfl rfl rfl) ?_
        obtain ⟨hw45, H⟩ := H
        refine hl_step rfl rfl (hn_store (v := (.int .i64 (IntKind.i64.wrap (x_6 + 1)))) rfl rfl TyShI.sz3 rfl hw45 ?_)
        intro h16 eh44
        replace H := H h16 eh44
        refine hl_nil ?_
        refine blockQ_n ?_
        exact H
  · rintro _ h9 ⟨st, pend, Lc22, hst26, H⟩
    refine ⟨st, pend, Lc22, hst26, ?_⟩
    intro h10 lo25 Ld23
    replace H := H h10 lo25 Ld23
    obtain ⟨rfl, H⟩ := H
    refine jumpQ_n ?_
    refine blockQ_n ?_
    refine seqQ_n ?_
    refine hx_seq ?_
    refine hx_region ?_
    obtain ⟨x_7, hc46, H⟩ := H
    refine hl_val rfl rfl (v := (.int .i64 x_7)) (hv_load TyShI.agg3 rfl hc46) ?_
    refine hl_val rfl rfl (v := (.int .i64 x_7)) (hv_assign rfl) ?_
    refine hl_nil ?_
    refine seqQ_n ?_
    refine hx_ret ?_
    refine scopeQ_ret ?_
    exact endQM_ret _ (fun h' hs => ⟨res_one Try.results19 (rv_tmp rfl), H h' hs⟩)

/-- (*cellar/index.Index).Fork -/
theorem f20_sh (x : Option Addr) (h : Heap) (R : Value → Heap → Prop)
    (H : (∃ j : Bool, ((x.isNone = true → (j = true)) ∧ (x.isNone = false → (∃ x_b x_o : Nat, x = some ⟨x_b, x_o, none⟩ ∧ (∃ x_1 : Option Addr, ∃ x_n x_c : Nat, hcell h x_b x_o = some (.slice x_1 x_n x_c) ∧ (j = x_1.isNone))))) ∧ ((j = true → R (.pointer none) h) ∧ (j = false → (∀ nb h1, nb = Array.size h → h1 = Array.push h (.cells #[(.slice none 0 0)] 61) → (∃ x_b_1 x_o_1 : Nat, x = some ⟨x_b_1, x_o_1, none⟩ ∧ (∃ x_2 : Option Addr, ∃ x_n_1 x_c_1 : Nat, hcell h1 x_b_1 x_o_1 = some (.slice x_2 x_n_1 x_c_1) ∧ (∃ (I10 : Int → Heap → Prop) (mu11 : Int → Heap → Nat), I10 0 h1 ∧ (∀ (v : Int) (h2 : Heap), I10 v h2 → (((decide (v < (x_n_1 : Int))) = true → (∃ x_2_b x_2_o : Nat, x_2 = some ⟨x_2_b, x_2_o, none⟩ ∧ (0 : Int) ≤ v ∧ v < (x_n_1 : Int) ∧ (∃ x_3 : Option Addr, hcell h2 x_2_b (x_2_o + (Int.toNat v) * 1) = some (.pointer x_3) ∧ (∃ T19 : Heap → Heap → Prop, Fit T19 ∧ (∃ x_4 : Option Addr, ∃ x_n_2 x_c_2 : Nat, (∀ hx, T19 h2 hx → hcell hx nb 0 = some (.slice x_4 x_n_2 x_c_2)) ∧ HC Try.prog 47 #[(.pointer x_3)] h2 (fun vv h3 => T19 h2 h3 ∧ ∃ r : Option Addr, vv = (.pointer r) ∧ (∀ nb_1 h4, nb_1 = Array.size h3 → h4 = Array.push h3 (.cells #[(.pointer r)] 70) → HAppend Try.prog 59 59 (.slice x_4 x_n_2 x_c_2) (.slice (some ⟨nb_1, 0, none⟩) 1 1) h4 (fun vv h5 => ∃ ap : Option Addr, ∃ ap_n ap_c : Nat, vv = (.slice ap ap_n ap_c) ∧ (HW h5 nb 0 ∧ ∀ h6, h6 = hset h5 nb 0 (.slice ap ap_n ap_c) → (I10 (IntKind.i64.wrap (v + 1)) h6 ∧ mu11 (IntKind.i64.wrap (v + 1)) h6 < mu11 v h2)))))))))) ∧ ((decide (v < (x_n_1 : Int))) = false → R (ptr nb 0) h2))))))))))) :
    HC Try.prog 20 #[(.pointer x)] h R := by
  refine hc_of (args := [(.pointer x)]) Try.func20 rfl Try.ntmps20 (Nat.le_of_ble_eq_true rfl) ?_
  refine hx_seq ?_
  refine hx_region ?_
  refine hl_val rfl rfl (v := (.pointer none)) (hv_assign rfl) ?_
  refine hl_nil ?_
  refine seqQ_n ?_
  refine hx_seq ?_
  obtain ⟨j, Hx1, Hy2⟩ := H
  refine hx_cut (fun ρ h' => h = h' ∧ Has ρ [(0, (.pointer x)), (14, (.bool j))]) ?_ ?_
  · have H := Hx1; clear Hx1 Hy2
    refine hx_region ?_
    refine hl_val rfl rfl (v := (.pointer x)) (hv_move rfl) ?_
    refine hl_val rfl rfl (v := (.bool x.isNone)) (hv_ptrNil TyShI.up25 rfl rfl) ?_
    refine hl_val rfl rfl (v := (.bool x.isNone)) (hv_move rfl) ?_
    rcases bool_or (x.isNone) with hg3 | hg3
    · replace H := H.1 hg3
      refine hl_no (wanted_n rfl rfl rfl hg3) rfl ?_
      refine hl_no (wanted_n rfl rfl rfl hg3) rfl ?_
      refine hl_no (wanted_n rfl rfl rfl hg3) rfl ?_
      refine hl_no (wanted_n rfl rfl rfl hg3) rfl ?_
      refine hl_no (wanted_n rfl rfl rfl hg3) rfl ?_
      refine hl_val rfl rfl (v := (.bool true)) (hv_pick_t rfl hg3 rfl) ?_
      refine hl_nil ?_
      refine seqQ_n ?_
      obtain rfl := H
      exact ⟨rfl, (has_cons rfl (has_cons rfl has_nil))⟩
    · replace H := H.2 hg3
      refine hl_yes (wanted_y rfl rfl rfl hg3) rfl (HStep.of_val (v := (.pointer x)) (hv_move rfl) ?_)
      obtain ⟨x_b, x_o, hqe, Hq⟩ := H
      subst hqe
      have H := Hq; clear Hq
      refine hl_yes (wanted_y rfl rfl rfl hg3) rfl (HStep.of_val (v := (ptr x_b x_o)) (hv_nil rfl) ?_)
      refine hl_yes (wanted_y rfl rfl rfl hg3) rfl (HStep.of_val (v := (ptr x_b x_o)) (hv_field TyShI.fld61_0 (b := x_b) (o := x_o) rfl) ?_)
      obtain ⟨x_1, x_n, x_c, hc4, H⟩ := H
      refine hl_yes (wanted_y rfl rfl rfl hg3) rfl (HStep.of_val (v := (.slice x_1 x_n x_c)) (hv_load TyShI.agg59 rfl hc4) ?_)
      refine hl_yes (wanted_y rfl rfl rfl hg3) rfl (HStep.of_val (v := (.bool x_1.isNone)) (hv_sliceNil TyShI.u59 rfl rfl) ?_)
      refine hl_val rfl rfl (v := (.bool x_1.isNone)) (hv_pick_f rfl hg3 rfl) ?_
      refine hl_nil ?_
      refine seqQ_n ?_
      obtain rfl := H
      exact ⟨rfl, (has_cons rfl (has_cons rfl has_nil))⟩
  · have H := Hy2; clear Hx1 Hy2
    rintro ρ _ ⟨rfl, hH⟩
    refine hx_has _ hH ?_
    refine hx_cond (b := j) rfl (fun hb5 => ?_) (fun hb5 => ?_)
    · replace H := H.1 hb5
      refine hx_seq ?_
      refine hx_region ?_
      refine hl_val rfl rfl (v := (.pointer none)) (hv_assign rfl) ?_
      refine hl_nil ?_
      refine seqQ_n ?_
      refine hx_ret ?_
      refine seqQ_ret ?_
      exact endQ_ret _ (res_one Try.results20 (rv_tmp rfl)) H
    · replace H := H.2 hb5
      refine hx_skip ?_
      refine seqQ_n ?_
      refine hx_seq ?_
      refine hx_region ?_
      refine hl_val rfl rfl (v := (.agg #[(.slice none 0 0)])) (hv_build (vs := []) (cs := #[(.slice none 0 0)]) TyShI.z61 TyShI.pl61 rfl (by kernel_rfl)) ?_
      refine hl_step rfl rfl (hn_box (v := (.agg #[(.slice none 0 0)])) rfl ?_)
      intro nb h1 eb6 eh7
      replace H := H nb h1 eb6 eh7
      have xx8 : Ext h h1 := by rw [eh7]; exact Ext.push _ _
      refine hl_val rfl rfl (v := (ptr nb 0)) (hv_assign rfl) ?_
      refine hl_nil ?_
      refine seqQ_n ?_
      refine hx_seq ?_
      refine hx_seq ?_
      refine hx_region ?_
      refine hl_val rfl rfl (v := (.pointer x)) (hv_move rfl) ?_
      obtain ⟨x_b_1, x_o_1, hqe, Hq⟩ := H
      subst hqe
      have H := Hq; clear Hq
      refine hl_val rfl rfl (v := (ptr x_b_1 x_o_1)) (hv_nil rfl) ?_
      refine hl_val rfl rfl (v := (ptr x_b_1 x_o_1)) (hv_field TyShI.fld61_0 (b := x_b_1) (o := x_o_1) rfl) ?_
      obtain ⟨x_2, x_n_1, x_c_1, hc9, H⟩ := H
      refine hl_val rfl rfl (v := (.slice x_2 x_n_1 x_c_1)) (hv_load TyShI.agg59 rfl hc9) ?_
      refine hl_val rfl rfl (v := (.int .i64 (x_n_1 : Int))) (hv_len (n := x_n_1) TyShI.u59 rfl) ?_
      refine hl_val rfl rfl (v := (.int .i64 0)) (hv_move rfl) ?_
      refine hl_nil ?_
      refine seqQ_n ?_
      refine hx_block ?_
      obtain ⟨I10, mu11, Ha12, Hr13⟩ := H
      refine hx_loopT (σ := Int) (fun s => [(3, (ptr nb 0)), (20, (.slice x_2 x_n_1 x_c_1)), (21, (.int .i64 (x_n_1 : Int))), (22, (.int .i64 s))]) (fun s h' => I10 s h' ∧ True) (fun s h' => mu11 s h') 0 ⟨Ha12, trivial⟩ (has_cons rfl (has_cons rfl (has_cons rfl (has_cons rfl has_nil)))) ?_
      rintro v ρ h2 ⟨Hi14, -⟩
      have H := Hr13 v h2 Hi14
      refine hx_seq ?_
      refine hx_region ?_
      refine hl_val rfl rfl (v := (.bool (decide (v < (x_n_1 : Int))))) (hv_arith rfl rfl rfl) ?_
      refine hl_nil ?_
      refine seqQ_n ?_
      refine hx_seq ?_
      refine hx_cond (b := decide (v < (x_n_1 : Int))) rfl (fun hb15 => ?_) (fun hb15 => ?_)
      · replace H := H.1 hb15
        refine hx_skip ?_
        refine seqQ_n ?_
        refine hx_seq ?_
        refine hx_block ?_
        refine hx_seq ?_
        refine hx_region ?_
        obtain ⟨x_2_b, x_2_o, hqe, hi16, hi17, Hq⟩ := H
        subst hqe
        have H := Hq; clear Hq
        refine hl_val rfl rfl (v := (ptr x_2_b (x_2_o + (Int.toNat v) * 1))) (hv_index TyShI.el59 rfl rfl hi16 hi17) ?_
        obtain ⟨x_3, hc18, H⟩ := H
        refine hl_val rfl rfl (v := (.pointer x_3)) (hv_load TyShI.agg70 rfl hc18) ?_
        refine hl_val rfl rfl (v := (.pointer x_3)) (hv_assign rfl) ?_
        refine hl_nil ?_
        refine seqQ_n ?_
        obtain ⟨T19, hT20, H⟩ := H
        refine hx_drawT TyShI.mixed T19 hT20 [.pure, .pure, .pure, .pure, .stay, .pure, .tame, .ext, .wild, .pure, .pure, .wild] [0, 1, 2, 3, 4, 5, 6, 7, 8, 9, 10, 11] (by kernel_rfl) ?_
        refine hp_pure (i := 0) rfl (wanted_0 rfl) rfl (ptr nb 0) (fun _ => hv_move rfl) ?_
        refine hp_pure (i := 1) rfl (wanted_0 rfl) rfl (ptr nb 0) (fun _ => hv_move rfl) ?_
        refine hp_pure (i := 2) rfl (wanted_0 rfl) rfl (ptr nb 0) (fun _ => hv_nil rfl) ?_
        refine hp_pure (i := 3) rfl (wanted_0 rfl) rfl (ptr nb 0) (fun _ => hv_field TyShI.fld61_0 (b := nb) (o := 0) rfl) ?_
        obtain ⟨x_4, x_n_2, x_c_2, hc21, H⟩ := H
        refine hp_stay (i := 4) rfl (wanted_0 rfl) rfl (.slice x_4 x_n_2 x_c_2) (fun _ he => hv_load TyShI.agg59 rfl (hc21 _ he)) ?_
        refine hp_pure (i := 5) rfl (wanted_0 rfl) rfl (.pointer x_3) (fun _ => hv_move rfl) ?_
        refine hp_tame (i := 6) rfl (wanted_0 rfl) rfl (hs_call TyShI.cb47 (vs := [(.pointer x_3)]) rfl (HC.mono H ?_))
        rintro _ h3 ⟨ht22, r, rfl, H⟩
        refine ⟨ht22, ?_⟩
        refine hp_ext (i := 7) rfl (wanted_0 rfl) rfl (hn_buildSlice (n := 1) (vs := [(0, (.pointer r))]) (cs := #[(.pointer r)]) TyShI.u59 TyShI.sz70 TyShI.z70 rfl rfl (by kernel_rfl) ?_)
        intro nb_1 h4 eb23 eh24
        replace H := H nb_1 h4 eb23 eh24
        have xx25 : Ext h3 h4 := by rw [eh24]; exact Ext.push _ _
        refine ⟨xx25, ?_⟩
        refine hp_wild (i := 8) rfl (wanted_0 rfl) rfl (hs_append rfl rfl (HAppend.mono H ?_))
        rintro _ h5 ⟨ap, ap_n, ap_c, rfl, H⟩
        refine hp_pure (i := 9) rfl (wanted_0 rfl) rfl (ptr nb 0) (fun _ => hv_nil rfl) ?_
        refine hp_pure (i := 10) rfl (wanted_0 rfl) rfl (ptr nb 0) (fun _ => hv_field TyShI.fld61_0 (b := nb) (o := 0) rfl) ?_
        obtain ⟨hw27, H⟩ := H
        refine hp_wild (i := 11) rfl (wanted_0 rfl) rfl (hn_store (v := (.slice ap ap_n ap_c)) rfl rfl TyShI.sz59 rfl hw27 ?_)
        intro h6 eh26
        replace H := H h6 eh26
        refine hp_nil ?_
        refine blockQ_n ?_
        refine seqQ_n ?_
        refine hx_region ?_
        refine hl_val rfl rfl (v := (.int .i64 (IntKind.i64.wrap (v + 1)))) (hv_arith rfl rfl rfl) ?_
        refine hl_val rfl rfl (v := (.int .i64 (IntKind.i64.wrap (v + 1)))) (hv_move rfl) ?_
        refine hl_nil ?_
        refine seqQ_n ?_
        exact ⟨IntKind.i64.wrap (v + 1), ⟨⟨H.1, trivial⟩, H.2⟩, (has_cons rfl (has_cons rfl (has_cons rfl (has_cons rfl has_nil))))⟩
      · replace H := H.2 hb15
        refine hx_exit ?_
        refine seqQ_exit ?_
        refine seqQ_exit ?_
        refine blockQ_here ?_
        refine seqQ_n ?_
        refine hx_seq ?_
        refine hx_region ?_
        refine hl_val rfl rfl (v := (ptr nb 0)) (hv_move rfl) ?_
        refine hl_val rfl rfl (v := (ptr nb 0)) (hv_assign rfl) ?_
        refine hl_nil ?_
        refine seqQ_n ?_
        refine hx_ret ?_
        exact endQ_ret _ (res_one Try.results20 (rv_tmp rfl)) H

end Go.Proofs.Ytkecmljalcfhoaa
