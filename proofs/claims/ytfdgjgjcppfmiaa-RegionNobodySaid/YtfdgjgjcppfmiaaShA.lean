/-
Shallow forms, written by gen.py (a program of this session) out of the print of the program.
-/
import Derived.Test.YtfdgjgjcppfmiaaMor
import Derived.Test.YtfdgjgjcppfmiaaProg
namespace Go.Proofs.Ytfdgjgjcppfmiaa
open Go
set_option maxRecDepth 100000
set_option maxHeartbeats 4000000

theorem Ty.agg28 : aggB Try.prog 28 = some false := by kernel_rfl
theorem Ty.agg29 : aggB Try.prog 29 = some false := by kernel_rfl
theorem Ty.agg3 : aggB Try.prog 3 = some false := by kernel_rfl
theorem Ty.agg31 : aggB Try.prog 31 = some true := by kernel_rfl
theorem Ty.agg50 : aggB Try.prog 50 = some false := by kernel_rfl
theorem Ty.agg65 : aggB Try.prog 65 = some false := by kernel_rfl
theorem Ty.by31 : byB Try.prog 31 = some 32 := by kernel_rfl
theorem Ty.cb31 : CallB Try.prog 31 := fun _ _ => Try.call31 _ _
theorem Ty.cb32 : CallB Try.prog 32 := fun _ _ => Try.call32 _ _
theorem Ty.cb33 : CallB Try.prog 33 := fun _ _ => Try.call33 _ _
theorem Ty.cb47 : CallB Try.prog 47 := fun _ _ => Try.call47 _ _
theorem Ty.cb48 : CallB Try.prog 48 := fun _ _ => Try.call48 _ _
theorem Ty.cb57 : CallB Try.prog 57 := fun _ _ => Try.call57 _ _
theorem Ty.el28 : elB Try.prog 28 = some 4 := by kernel_rfl
theorem Ty.el50 : elB Try.prog 50 = some 1 := by kernel_rfl
theorem Ty.fld31_0 : fldB Try.prog 31 0 = some 0 := by kernel_rfl
theorem Ty.fld31_1 : fldB Try.prog 31 1 = some 1 := by kernel_rfl
theorem Ty.fld31_2 : fldB Try.prog 31 2 = some 2 := by kernel_rfl
theorem Ty.fld31_3 : fldB Try.prog 31 3 = some 3 := by kernel_rfl
theorem Ty.fld67_0 : fldB Try.prog 67 0 = some 0 := by kernel_rfl
theorem Ty.fld67_1 : fldB Try.prog 67 1 = some 1 := by kernel_rfl
theorem Ty.fld67_2 : fldB Try.prog 67 2 = some 2 := by kernel_rfl
theorem Ty.fld67_3 : fldB Try.prog 67 3 = some 3 := by kernel_rfl
theorem Ty.fld67_4 : fldB Try.prog 67 4 = some 4 := by kernel_rfl
theorem Ty.mixed : Try.prog.follows .mixedOrders = true := by kernel_rfl
theorem Ty.pl31 : plB Try.prog 31 = some [(0, 1), (1, 1), (2, 1), (3, 1)] := by kernel_rfl
theorem Ty.pl67 : plB Try.prog 67 = some [(0, 1), (1, 1), (2, 1), (3, 1), (4, 1)] := by kernel_rfl
theorem Ty.sz29 : szB Try.prog 29 = some 1 := by kernel_rfl
theorem Ty.sz3 : szB Try.prog 3 = some 1 := by kernel_rfl
theorem Ty.sz31 : szB Try.prog 31 = some 4 := by kernel_rfl
theorem Ty.sz50 : szB Try.prog 50 = some 1 := by kernel_rfl
theorem Ty.u28 : Try.prog.underlying 28 = some (.slice 31) := by kernel_rfl
theorem Ty.u3 : Try.prog.underlying 3 = some (.int .i64) := by kernel_rfl
theorem Ty.u50 : Try.prog.underlying 50 = some (.slice 3) := by kernel_rfl
theorem Ty.u65 : Try.prog.underlying 65 = some (.map 3 50) := by kernel_rfl
theorem Ty.up24 : Try.prog.underlying 24 = some (.pointer 67) := by kernel_rfl
theorem Ty.z3 : zeroB Try.prog 3 (.int .i64 0) := by unfold zeroB; kernel_rfl
theorem Ty.z31 : zeroB Try.prog 31 (.agg #[(.int .i64 0), (.int .u64 0), (.int .i64 0), (.int .i64 0)]) := by unfold zeroB; kernel_rfl
theorem Ty.z50 : zeroB Try.prog 50 (.slice none 0 0) := by unfold zeroB; kernel_rfl
theorem Ty.z67 : zeroB Try.prog 67 (.agg #[(.slice none 0 0), (.slice none 0 0), (.int .u64 0), (.int .i64 0), (.map none)]) := by unfold zeroB; kernel_rfl

/-- (*cellar/region.Manager).made -/
theorem f32_sh (m : Option Addr) (h : Heap) (R : Value → Heap → Prop)
    (H : (∃ j : Bool, ((m.isSome = true → (∃ m_b m_o : Nat, m = some ⟨m_b, m_o, none⟩ ∧ (∃ x : Option Addr, ∃ x_n x_c : Nat, hcell h m_b m_o = some (.slice x x_n x_c) ∧ (j = (decide ((x_n : Int) > 0)))))) ∧ (m.isSome = false → (j = false))) ∧ R (.bool j) h)) :
    HC Try.prog 32 #[(.pointer m)] h R := by
  refine hc_of (args := [(.pointer m)]) Try.func32 rfl Try.ntmps32 (Nat.le_of_ble_eq_true rfl) ?_
  refine hx_seq ?_
  refine hx_region ?_
  refine hl_val rfl rfl (v := (.bool false)) (hv_assign rfl) ?_
  refine hl_nil ?_
  refine seqQ_n ?_
  obtain ⟨j, Hx3, Hy4⟩ := H
  refine hx_cut (fun ρ h' => h = h' ∧ Has ρ [(2, (.bool j))]) ?_ ?_
  · have H := Hx3; clear Hx3 Hy4
    refine hx_region ?_
    refine hl_val rfl rfl (v := (.pointer m)) (hv_move rfl) ?_
    refine hl_val rfl rfl (v := (.bool m.isSome)) (hv_ptrNil Ty.up24 rfl rfl) ?_
    refine hl_val rfl rfl (v := (.bool m.isSome)) (hv_move rfl) ?_
    rcases bool_or (m.isSome) with hg1 | hg1
    · replace H := H.1 hg1
      refine hl_yes (wanted_y rfl rfl rfl hg1) rfl (HStep.of_val (v := (.pointer m)) (hv_move rfl) ?_)
      obtain ⟨m_b, m_o, hqe, Hq⟩ := H
      subst hqe
      have H := Hq; clear Hq
      refine hl_yes (wanted_y rfl rfl rfl hg1) rfl (HStep.of_val (v := (ptr m_b m_o)) (hv_nil rfl) ?_)
      refine hl_yes (wanted_y rfl rfl rfl hg1) rfl (HStep.of_val (v := (ptr m_b m_o)) (hv_field Ty.fld67_0 (b := m_b) (o := m_o) rfl) ?_)
      obtain ⟨x, x_n, x_c, hc2, H⟩ := H
      refine hl_yes (wanted_y rfl rfl rfl hg1) rfl (HStep.of_val (v := (.slice x x_n x_c)) (hv_load Ty.agg28 rfl hc2) ?_)
      refine hl_yes (wanted_y rfl rfl rfl hg1) rfl (HStep.of_val (v := (.int .i64 (x_n : Int))) (hv_len (n := x_n) Ty.u28 rfl) ?_)
      refine hl_yes (wanted_y rfl rfl rfl hg1) rfl (HStep.of_val (v := (.bool (decide ((x_n : Int) > 0)))) (hv_arith rfl rfl rfl) ?_)
      refine hl_val rfl rfl (v := (.bool (decide ((x_n : Int) > 0)))) (hv_pick_t rfl hg1 rfl) ?_
      refine hl_val rfl rfl (v := (.bool (decide ((x_n : Int) > 0)))) (hv_assign rfl) ?_
      refine hl_nil ?_
      refine seqQ_n ?_
      obtain rfl := H
      exact ⟨rfl, (has_cons rfl has_nil)⟩
    · replace H := H.2 hg1
      refine hl_no (wanted_n rfl rfl rfl hg1) rfl ?_
      refine hl_no (wanted_n rfl rfl rfl hg1) rfl ?_
      refine hl_no (wanted_n rfl rfl rfl hg1) rfl ?_
      refine hl_no (wanted_n rfl rfl rfl hg1) rfl ?_
      refine hl_no (wanted_n rfl rfl rfl hg1) rfl ?_
      refine hl_no (wanted_n rfl rfl rfl hg1) rfl ?_
      refine hl_val rfl rfl (v := (.bool false)) (hv_pick_f rfl hg1 rfl) ?_
      refine hl_val rfl rfl (v := (.bool false)) (hv_assign rfl) ?_
      refine hl_nil ?_
      refine seqQ_n ?_
      obtain rfl := H
      exact ⟨rfl, (has_cons rfl has_nil)⟩
  · have H := Hy4; clear Hx3 Hy4
    rintro ρ _ ⟨rfl, hH⟩
    refine hx_has _ hH ?_
    refine hx_ret ?_
    exact endQ_ret _ (res_one Try.results32 (rv_tmp rfl)) H

/-- (*cellar/region.Manager).at -/
theorem f31_sh (m_b : Nat) (m_o : Nat) (region : Int) (state : Int) (h : Heap) (R : Value → Heap → Prop)
    (H : (∃ r : Bool, HC Try.prog 32 #[(ptr m_b m_o)] h (fun vv h' => vv = (.bool r) ∧ h' = h) ∧ (((!r) = true → R (.tuple #[(.pointer none), (.int .i64 6)]) h) ∧ ((!r) = false → (∃ j : Bool, (((decide (region < 0)) = true → (j = true)) ∧ ((decide (region < 0)) = false → (∃ x : Option Addr, ∃ x_n x_c : Nat, hcell h m_b m_o = some (.slice x x_n x_c) ∧ (j = (decide (region ≥ (x_n : Int))))))) ∧ ((j = true → R (.tuple #[(.pointer none), (.int .i64 90)]) h) ∧ (j = false → (∃ j_1 : Bool, (((state != 0) = true → (∃ x_1 : Option Addr, ∃ x_n_1 x_c_1 : Nat, hcell h m_b m_o = some (.slice x_1 x_n_1 x_c_1) ∧ (∃ x_1_b x_1_o : Nat, x_1 = some ⟨x_1_b, x_1_o, none⟩ ∧ (0 : Int) ≤ region ∧ region < (x_n_1 : Int) ∧ (∃ x_2 : Int, hcell h x_1_b (x_1_o + (Int.toNat region) * 4) = some (.int .i64 x_2) ∧ (j_1 = (x_2 != state)))))) ∧ ((state != 0) = false → (j_1 = false))) ∧ ((j_1 = true → R (.tuple #[(.pointer none), (.int .i64 91)]) h) ∧ (j_1 = false → (∃ x_3 : Option Addr, ∃ x_n_2 x_c_2 : Nat, hcell h m_b m_o = some (.slice x_3 x_n_2 x_c_2) ∧ (∃ x_3_b x_3_o : Nat, x_3 = some ⟨x_3_b, x_3_o, none⟩ ∧ (0 : Int) ≤ region ∧ region < (x_n_2 : Int) ∧ R (.tuple #[(ptr x_3_b (x_3_o + (Int.toNat region) * 4)), (.int .i64 0)]) h)))))))))))) :
    HC Try.prog 31 #[(ptr m_b m_o), (.int .i64 region), (.int .i64 state)] h R := by
  refine hc_of (args := [(ptr m_b m_o), (.int .i64 region), (.int .i64 state)]) Try.func31 rfl Try.ntmps31 (Nat.le_of_ble_eq_true rfl) ?_
  refine hx_seq ?_
  refine hx_region ?_
  refine hl_val rfl rfl (v := (.pointer none)) (hv_assign rfl) ?_
  refine hl_val rfl rfl (v := (.int .i64 0)) (hv_assign rfl) ?_
  refine hl_nil ?_
  refine seqQ_n ?_
  refine hx_seq ?_
  refine hx_block ?_
  refine hx_seq ?_
  refine hx_region ?_
  refine hl_val rfl rfl (v := (ptr m_b m_o)) (hv_move rfl) ?_
  obtain ⟨r, hr1, H⟩ := H
  refine hl_val rfl rfl (v := (.bool r)) (hv_call Ty.cb32 (vs := [(ptr m_b m_o)]) rfl hr1) ?_
  refine hl_val rfl rfl (v := (.bool (!r))) (hv_not (b := r) rfl) ?_
  refine hl_val rfl rfl (v := (.bool (!r))) (hv_assign rfl) ?_
  refine hl_nil ?_
  refine seqQ_n ?_
  refine hx_cond (b := !r) rfl (fun hb18 => ?_) (fun hb18 => ?_)
  · replace H := H.1 hb18
    refine hx_seq ?_
    refine hx_region ?_
    refine hl_val rfl rfl (v := (.pointer none)) (hv_assign rfl) ?_
    refine hl_val rfl rfl (v := (.int .i64 6)) (hv_assign rfl) ?_
    refine hl_nil ?_
    refine seqQ_n ?_
    refine hx_ret ?_
    refine blockQ_ret ?_
    refine seqQ_ret ?_
    exact endQ_ret _ (res_two Try.results31 (rv_tmp rfl) (rv_tmp rfl)) H
  · replace H := H.2 hb18
    obtain ⟨j, Hx16, Hy17⟩ := H
    refine hx_cut (fun ρ h' => h = h' ∧ Has ρ [(0, (ptr m_b m_o)), (1, (.int .i64 region)), (2, (.int .i64 state)), (12, (.bool j))]) ?_ ?_
    · have H := Hx16; clear Hx16 Hy17
      refine hx_region ?_
      refine hl_val rfl rfl (v := (.int .i64 region)) (hv_move rfl) ?_
      refine hl_val rfl rfl (v := (.bool (decide (region < 0)))) (hv_arith rfl rfl rfl) ?_
      refine hl_val rfl rfl (v := (.bool (decide (region < 0)))) (hv_move rfl) ?_
      rcases bool_or (decide (region < 0)) with hg2 | hg2
      · replace H := H.1 hg2
        refine hl_no (wanted_n rfl rfl rfl hg2) rfl ?_
        refine hl_no (wanted_n rfl rfl rfl hg2) rfl ?_
        refine hl_no (wanted_n rfl rfl rfl hg2) rfl ?_
        refine hl_no (wanted_n rfl rfl rfl hg2) rfl ?_
        refine hl_no (wanted_n rfl rfl rfl hg2) rfl ?_
        refine hl_no (wanted_n rfl rfl rfl hg2) rfl ?_
        refine hl_no (wanted_n rfl rfl rfl hg2) rfl ?_
        refine hl_val rfl rfl (v := (.bool true)) (hv_pick_t rfl hg2 rfl) ?_
        refine hl_val rfl rfl (v := (.bool true)) (hv_assign rfl) ?_
        refine hl_nil ?_
        refine seqQ_n ?_
        obtain rfl := H
        exact ⟨rfl, (has_cons rfl (has_cons rfl (has_cons rfl (has_cons rfl has_nil))))⟩
      · replace H := H.2 hg2
        refine hl_yes (wanted_y rfl rfl rfl hg2) rfl (HStep.of_val (v := (.int .i64 region)) (hv_move rfl) ?_)
        refine hl_yes (wanted_y rfl rfl rfl hg2) rfl (HStep.of_val (v := (ptr m_b m_o)) (hv_move rfl) ?_)
        refine hl_yes (wanted_y rfl rfl rfl hg2) rfl (HStep.of_val (v := (ptr m_b m_o)) (hv_nil rfl) ?_)
        refine hl_yes (wanted_y rfl rfl rfl hg2) rfl (HStep.of_val (v := (ptr m_b m_o)) (hv_field Ty.fld67_0 (b := m_b) (o := m_o) rfl) ?_)
        obtain ⟨x, x_n, x_c, hc3, H⟩ := H
        refine hl_yes (wanted_y rfl rfl rfl hg2) rfl (HStep.of_val (v := (.slice x x_n x_c)) (hv_load Ty.agg28 rfl hc3) ?_)
        refine hl_yes (wanted_y rfl rfl rfl hg2) rfl (HStep.of_val (v := (.int .i64 (x_n : Int))) (hv_len (n := x_n) Ty.u28 rfl) ?_)
        refine hl_yes (wanted_y rfl rfl rfl hg2) rfl (HStep.of_val (v := (.bool (decide (region ≥ (x_n : Int))))) (hv_arith rfl rfl rfl) ?_)
        refine hl_val rfl rfl (v := (.bool (decide (region ≥ (x_n : Int))))) (hv_pick_f rfl hg2 rfl) ?_
        refine hl_val rfl rfl (v := (.bool (decide (region ≥ (x_n : Int))))) (hv_assign rfl) ?_
        refine hl_nil ?_
        refine seqQ_n ?_
        obtain rfl := H
        exact ⟨rfl, (has_cons rfl (has_cons rfl (has_cons rfl (has_cons rfl has_nil))))⟩
    · have H := Hy17; clear Hx16 Hy17
      rintro ρ _ ⟨rfl, hH⟩
      refine hx_has _ hH ?_
      refine hx_cond (b := j) rfl (fun hb15 => ?_) (fun hb15 => ?_)
      · replace H := H.1 hb15
        refine hx_seq ?_
        refine hx_region ?_
        refine hl_val rfl rfl (v := (.pointer none)) (hv_assign rfl) ?_
        refine hl_val rfl rfl (v := (.int .i64 90)) (hv_assign rfl) ?_
        refine hl_nil ?_
        refine seqQ_n ?_
        refine hx_ret ?_
        refine blockQ_ret ?_
        refine seqQ_ret ?_
        exact endQ_ret _ (res_two Try.results31 (rv_tmp rfl) (rv_tmp rfl)) H
      · replace H := H.2 hb15
        obtain ⟨j_1, Hx13, Hy14⟩ := H
        refine hx_cut (fun ρ h' => h = h' ∧ Has ρ [(0, (ptr m_b m_o)), (1, (.int .i64 region)), (24, (.bool j_1))]) ?_ ?_
        · have H := Hx13; clear Hx13 Hy14
          refine hx_region ?_
          refine hl_val rfl rfl (v := (.int .i64 state)) (hv_move rfl) ?_
          refine hl_val rfl rfl (v := (.bool (state != 0))) (hv_arith rfl rfl rfl) ?_
          refine hl_val rfl rfl (v := (.bool (state != 0))) (hv_move rfl) ?_
          rcases bool_or (state != 0) with hg4 | hg4
          · replace H := H.1 hg4
            refine hl_yes (wanted_y rfl rfl rfl hg4) rfl (HStep.of_val (v := (ptr m_b m_o)) (hv_move rfl) ?_)
            refine hl_yes (wanted_y rfl rfl rfl hg4) rfl (HStep.of_val (v := (ptr m_b m_o)) (hv_nil rfl) ?_)
            refine hl_yes (wanted_y rfl rfl rfl hg4) rfl (HStep.of_val (v := (ptr m_b m_o)) (hv_field Ty.fld67_0 (b := m_b) (o := m_o) rfl) ?_)
            obtain ⟨x_1, x_n_1, x_c_1, hc8, H⟩ := H
            refine hl_yes (wanted_y rfl rfl rfl hg4) rfl (HStep.of_val (v := (.slice x_1 x_n_1 x_c_1)) (hv_load Ty.agg28 rfl hc8) ?_)
            refine hl_yes (wanted_y rfl rfl rfl hg4) rfl (HStep.of_val (v := (.int .i64 region)) (hv_move rfl) ?_)
            obtain ⟨x_1_b, x_1_o, hqe, hi5, hi6, Hq⟩ := H
            subst hqe
            have H := Hq; clear Hq
            refine hl_yes (wanted_y rfl rfl rfl hg4) rfl (HStep.of_val (v := (ptr x_1_b (x_1_o + (Int.toNat region) * 4))) (hv_index Ty.el28 rfl rfl hi5 hi6) ?_)
            refine hl_yes (wanted_y rfl rfl rfl hg4) rfl (HStep.of_val (v := (ptr x_1_b (x_1_o + (Int.toNat region) * 4))) (hv_field Ty.fld31_0 (b := x_1_b) (o := x_1_o + (Int.toNat region) * 4) rfl) ?_)
            obtain ⟨x_2, hc7, H⟩ := H
            refine hl_yes (wanted_y rfl rfl rfl hg4) rfl (HStep.of_val (v := (.int .i64 x_2)) (hv_load Ty.agg3 rfl hc7) ?_)
            refine hl_yes (wanted_y rfl rfl rfl hg4) rfl (HStep.of_val (v := (.int .i64 state)) (hv_move rfl) ?_)
            refine hl_yes (wanted_y rfl rfl rfl hg4) rfl (HStep.of_val (v := (.bool (x_2 != state))) (hv_arith rfl rfl rfl) ?_)
            refine hl_val rfl rfl (v := (.bool (x_2 != state))) (hv_pick_t rfl hg4 rfl) ?_
            refine hl_val rfl rfl (v := (.bool (x_2 != state))) (hv_assign rfl) ?_
            refine hl_nil ?_
            refine seqQ_n ?_
            obtain rfl := H
            exact ⟨rfl, (has_cons rfl (has_cons rfl (has_cons rfl has_nil)))⟩
          · replace H := H.2 hg4
            refine hl_no (wanted_n rfl rfl rfl hg4) rfl ?_
            refine hl_no (wanted_n rfl rfl rfl hg4) rfl ?_
            refine hl_no (wanted_n rfl rfl rfl hg4) rfl ?_
            refine hl_no (wanted_n rfl rfl rfl hg4) rfl ?_
            refine hl_no (wanted_n rfl rfl rfl hg4) rfl ?_
            refine hl_no (wanted_n rfl rfl rfl hg4) rfl ?_
            refine hl_no (wanted_n rfl rfl rfl hg4) rfl ?_
            refine hl_no (wanted_n rfl rfl rfl hg4) rfl ?_
            refine hl_no (wanted_n rfl rfl rfl hg4) rfl ?_
            refine hl_no (wanted_n rfl rfl rfl hg4) rfl ?_
            refine hl_val rfl rfl (v := (.bool false)) (hv_pick_f rfl hg4 rfl) ?_
            refine hl_val rfl rfl (v := (.bool false)) (hv_assign rfl) ?_
            refine hl_nil ?_
            refine seqQ_n ?_
            obtain rfl := H
            exact ⟨rfl, (has_cons rfl (has_cons rfl (has_cons rfl has_nil)))⟩
        · have H := Hy14; clear Hx13 Hy14
          rintro ρ _ ⟨rfl, hH⟩
          refine hx_has _ hH ?_
          refine hx_cond (b := j_1) rfl (fun hb12 => ?_) (fun hb12 => ?_)
          · replace H := H.1 hb12
            refine hx_seq ?_
            refine hx_region ?_
            refine hl_val rfl rfl (v := (.pointer none)) (hv_assign rfl) ?_
            refine hl_val rfl rfl (v := (.int .i64 91)) (hv_assign rfl) ?_
            refine hl_nil ?_
            refine seqQ_n ?_
            refine hx_ret ?_
            refine blockQ_ret ?_
            refine seqQ_ret ?_
            exact endQ_ret _ (res_two Try.results31 (rv_tmp rfl) (rv_tmp rfl)) H
          · replace H := H.2 hb12
            refine hx_skip ?_
            refine blockQ_n ?_
            refine seqQ_n ?_
            refine hx_seq ?_
            refine hx_region ?_
            refine hl_val rfl rfl (v := (ptr m_b m_o)) (hv_move rfl) ?_
            refine hl_val rfl rfl (v := (ptr m_b m_o)) (hv_nil rfl) ?_
            refine hl_val rfl rfl (v := (ptr m_b m_o)) (hv_field Ty.fld67_0 (b := m_b) (o := m_o) rfl) ?_
            obtain ⟨x_3, x_n_2, x_c_2, hc11, H⟩ := H
            refine hl_val rfl rfl (v := (.slice x_3 x_n_2 x_c_2)) (hv_load Ty.agg28 rfl hc11) ?_
            refine hl_val rfl rfl (v := (.int .i64 region)) (hv_move rfl) ?_
            obtain ⟨x_3_b, x_3_o, hqe, hi9, hi10, Hq⟩ := H
            subst hqe
            have H := Hq; clear Hq
            refine hl_val rfl rfl (v := (ptr x_3_b (x_3_o + (Int.toNat region) * 4))) (hv_index Ty.el28 rfl rfl hi9 hi10) ?_
            refine hl_val rfl rfl (v := (ptr x_3_b (x_3_o + (Int.toNat region) * 4))) (hv_assign rfl) ?_
            refine hl_val rfl rfl (v := (.int .i64 0)) (hv_assign rfl) ?_
            refine hl_nil ?_
            refine seqQ_n ?_
            refine hx_ret ?_
            exact endQ_ret _ (res_two Try.results31 (rv_tmp rfl) (rv_tmp rfl)) H

/-- (*cellar/region.Manager).Info -/
theorem f11_sh (m_b : Nat) (m_o : Nat) (region : Int) (h : Heap) (R : Value → Heap → Prop)
    (H : (∀ nb h1, nb = Array.size h → h1 = Array.push h (.cells #[(.int .i64 0), (.int .u64 0), (.int .i64 0), (.int .i64 0)] 31) → (∃ r0 : Option Addr, ∃ r1 : Int, HC Try.prog 31 #[(ptr m_b m_o), (.int .i64 region), (.int .i64 0)] h1 (fun vv h' => vv = (.tuple #[(.pointer r0), (.int .i64 r1)]) ∧ h' = h1) ∧ (((r1 != 0) = true → (HWs h1 nb 0 4 ∧ ∀ h2, h2 = hsets h1 nb 0 [(.int .i64 0), (.int .u64 0), (.int .i64 0), (.int .i64 0)] → (∃ res_State res_Sequence res_Pins res_Erases : Int, hcell h2 nb 0 = some (.int .i64 res_State) ∧ hcell h2 nb 1 = some (.int .u64 res_Sequence) ∧ hcell h2 nb 2 = some (.int .i64 res_Pins) ∧ hcell h2 nb 3 = some (.int .i64 res_Erases) ∧ R (.tuple #[(.agg #[(.int .i64 res_State), (.int .u64 res_Sequence), (.int .i64 res_Pins), (.int .i64 res_Erases)]), (.bool false)]) h2))) ∧ ((r1 != 0) = false → (∃ r0_b r0_o : Nat, r0 = some ⟨r0_b, r0_o, none⟩ ∧ (∃ x_State x_Sequence x_Pins x_Erases : Int, hcell h1 r0_b r0_o = some (.int .i64 x_State) ∧ hcell h1 r0_b (r0_o + 1) = some (.int .u64 x_Sequence) ∧ hcell h1 r0_b (r0_o + 2) = some (.int .i64 x_Pins) ∧ hcell h1 r0_b (r0_o + 3) = some (.int .i64 x_Erases) ∧ (HWs h1 nb 0 4 ∧ ∀ h3, h3 = hsets h1 nb 0 [(.int .i64 x_State), (.int .u64 x_Sequence), (.int .i64 x_Pins), (.int .i64 x_Erases)] → (∃ res_State res_Sequence res_Pins res_Erases : Int, hcell h3 nb 0 = some (.int .i64 res_State) ∧ hcell h3 nb 1 = some (.int .u64 res_Sequence) ∧ hcell h3 nb 2 = some (.int .i64 res_Pins) ∧ hcell h3 nb 3 = some (.int .i64 res_Erases) ∧ R (.tuple #[(.agg #[(.int .i64 res_State), (.int .u64 res_Sequence), (.int .i64 res_Pins), (.int .i64 res_Erases)]), (.bool true)]) h3))))))))) :
    HC Try.prog 11 #[(ptr m_b m_o), (.int .i64 region)] h R := by
  refine hc_of (args := [(ptr m_b m_o), (.int .i64 region)]) Try.func11 rfl Try.ntmps11 (Nat.le_of_ble_eq_true rfl) ?_
  refine hx_seq ?_
  refine hx_region ?_
  refine hl_step rfl rfl (hn_alloc Ty.z31 ?_)
  intro nb h1 eb1 eh2
  replace H := H nb h1 eb1 eh2
  refine hl_val rfl rfl (v := (.bool false)) (hv_assign rfl) ?_
  refine hl_nil ?_
  refine seqQ_n ?_
  refine hx_seq ?_
  refine hx_region ?_
  refine hl_val rfl rfl (v := (ptr m_b m_o)) (hv_move rfl) ?_
  refine hl_val rfl rfl (v := (.int .i64 region)) (hv_move rfl) ?_
  obtain ⟨r0, r1, hr3, H⟩ := H
  refine hl_val rfl rfl (v := (.tuple #[(.pointer r0), (.int .i64 r1)])) (hv_call Ty.cb31 (vs := [(ptr m_b m_o), (.int .i64 region), (.int .i64 0)]) rfl hr3) ?_
  refine hl_val rfl rfl (v := (.tuple #[(.pointer r0), (.int .i64 r1)])) (hv_move rfl) ?_
  refine hl_val rfl rfl (v := (.pointer r0)) (hv_extract (vs := #[(.pointer r0), (.int .i64 r1)]) rfl rfl) ?_
  refine hl_val rfl rfl (v := (.int .i64 r1)) (hv_extract (vs := #[(.pointer r0), (.int .i64 r1)]) rfl rfl) ?_
  refine hl_val rfl rfl (v := (.pointer r0)) (hv_assign rfl) ?_
  refine hl_val rfl rfl (v := (.int .i64 r1)) (hv_assign rfl) ?_
  refine hl_nil ?_
  refine seqQ_n ?_
  refine hx_seq ?_
  refine hx_seq ?_
  refine hx_region ?_
  refine hl_val rfl rfl (v := (.int .i64 r1)) (hv_move rfl) ?_
  refine hl_val rfl rfl (v := (.bool (r1 != 0))) (hv_arith rfl rfl rfl) ?_
  refine hl_nil ?_
  refine seqQ_n ?_
  refine hx_cond (b := r1 != 0) rfl (fun hb20 => ?_) (fun hb20 => ?_)
  · replace H := H.1 hb20
    refine hx_seq ?_
    refine hx_region ?_
    refine hl_val rfl rfl (v := (.agg #[(.int .i64 0), (.int .u64 0), (.int .i64 0), (.int .i64 0)])) (hv_build (vs := []) (cs := #[(.int .i64 0), (.int .u64 0), (.int .i64 0), (.int .i64 0)]) Ty.z31 Ty.pl31 rfl (by kernel_rfl)) ?_
    obtain ⟨hw4, H⟩ := H
    refine hl_step rfl rfl (hn_stores (vs := [(.int .i64 0), (.int .u64 0), (.int .i64 0), (.int .i64 0)]) rfl rfl Ty.sz31 rfl hw4 ?_)
    intro h2 eh5
    replace H := H h2 eh5
    refine hl_val rfl rfl (v := (.bool false)) (hv_assign rfl) ?_
    refine hl_nil ?_
    refine seqQ_n ?_
    refine hx_ret ?_
    refine seqQ_ret ?_
    obtain ⟨res_State, res_Sequence, res_Pins, res_Erases, hc6, hc7, hc8, hc9, H⟩ := H
    exact endQ_ret _ (res_two Try.results11 (rv_cell (vs := [(.int .i64 res_State), (.int .u64 res_Sequence), (.int .i64 res_Pins), (.int .i64 res_Erases)]) Ty.agg31 Ty.sz31 rfl (hcells_cons hc6 (hcells_cons hc7 (hcells_cons hc8 (hcells_cons hc9 hcells_nil))))) (rv_tmp rfl)) H
  · replace H := H.2 hb20
    refine hx_skip ?_
    refine seqQ_n ?_
    refine hx_seq ?_
    refine hx_region ?_
    refine hl_val rfl rfl (v := (.pointer r0)) (hv_move rfl) ?_
    obtain ⟨r0_b, r0_o, hqe, Hq⟩ := H
    subst hqe
    have H := Hq; clear Hq
    refine hl_val rfl rfl (v := (ptr r0_b r0_o)) (hv_nil rfl) ?_
    obtain ⟨x_State, x_Sequence, x_Pins, x_Erases, hc16, hc17, hc18, hc19, H⟩ := H
    refine hl_val rfl rfl (v := (.agg #[(.int .i64 x_State), (.int .u64 x_Sequence), (.int .i64 x_Pins), (.int .i64 x_Erases)])) (hv_loads (vs := [(.int .i64 x_State), (.int .u64 x_Sequence), (.int .i64 x_Pins), (.int .i64 x_Erases)]) Ty.agg31 Ty.sz31 rfl (hcells_cons hc16 (hcells_cons hc17 (hcells_cons hc18 (hcells_cons hc19 hcells_nil))))) ?_
    obtain ⟨hw10, H⟩ := H
    refine hl_step rfl rfl (hn_stores (vs := [(.int .i64 x_State), (.int .u64 x_Sequence), (.int .i64 x_Pins), (.int .i64 x_Erases)]) rfl rfl Ty.sz31 rfl hw10 ?_)
    intro h3 eh11
    replace H := H h3 eh11
    refine hl_val rfl rfl (v := (.bool true)) (hv_assign rfl) ?_
    refine hl_nil ?_
    refine seqQ_n ?_
    refine hx_ret ?_
    obtain ⟨res_State, res_Sequence, res_Pins, res_Erases, hc12, hc13, hc14, hc15, H⟩ := H
    exact endQ_ret _ (res_two Try.results11 (rv_cell (vs := [(.int .i64 res_State), (.int .u64 res_Sequence), (.int .i64 res_Pins), (.int .i64 res_Erases)]) Ty.agg31 Ty.sz31 rfl (hcells_cons hc12 (hcells_cons hc13 (hcells_cons hc14 (hcells_cons hc15 hcells_nil))))) (rv_tmp rfl)) H

/-- cellar/region.New -/
theorem f10_sh (regions : Int) (h : Heap) (R : Value → Heap → Prop)
    (H : (∃ j : Bool, (((decide (regions < 2)) = true → (j = true)) ∧ ((decide (regions < 2)) = false → (j = (decide (regions > 256))))) ∧ ((j = true → R (.tuple #[(.pointer none), (.int .i64 1)]) h) ∧ (j = false → ((0 : Int) ≤ regions ∧ 32 * regions ≤ 140737488355328 ∧ regions ≤ 140737488355328 ∧ ∀ nb h1, nb = Array.size h → h1 = Array.push h (.cells (zcells [(.int .i64 0), (.int .u64 0), (.int .i64 0), (.int .i64 0)] (Int.toNat regions)).toArray 31) → (∀ mb h2, mb = Array.size h1 → Ext h1 h2 → Array.size h2 = Array.size h1 + 1 → MapL h2 mb (Value.int .i64) [] → (∀ nb_1 h3, nb_1 = Array.size h2 → h3 = Array.push h2 (.cells #[(.slice (some ⟨nb, 0, none⟩) (Int.toNat regions) (Int.toNat regions)), (.slice none 0 0), (.int .u64 0), (.int .i64 (-1)), (.map (some mb))] 67) → (∃ x : Option Addr, ∃ x_n x_c : Nat, hcell h3 nb_1 0 = some (.slice x x_n x_c) ∧ (∃ (I13 : Int → Heap → Prop) (mu14 : Int → Heap → Nat), I13 0 h3 ∧ (∀ (v : Int) (h4 : Heap), I13 v h4 → (((decide (v < (x_n : Int))) = true → (∃ x_1 : Option Addr, ∃ x_n_1 x_c_1 : Nat, hcell h4 nb_1 0 = some (.slice x_1 x_n_1 x_c_1) ∧ (∃ x_1_b x_1_o : Nat, x_1 = some ⟨x_1_b, x_1_o, none⟩ ∧ (0 : Int) ≤ v ∧ v < (x_n_1 : Int) ∧ (HW h4 x_1_b (x_1_o + (Int.toNat v) * 4) ∧ ∀ h5, h5 = hset h4 x_1_b (x_1_o + (Int.toNat v) * 4) (.int .i64 1) → (∃ x_2 : Option Addr, ∃ x_n_2 x_c_2 : Nat, hcell h5 nb_1 1 = some (.slice x_2 x_n_2 x_c_2) ∧ (∀ nb_2 h6, nb_2 = Array.size h5 → h6 = Array.push h5 (.cells #[(.int .i64 v)] 3) → HAppend Try.prog 50 50 (.slice x_2 x_n_2 x_c_2) (.slice (some ⟨nb_2, 0, none⟩) 1 1) h6 (fun vv h7 => ∃ ap : Option Addr, ∃ ap_n ap_c : Nat, vv = (.slice ap ap_n ap_c) ∧ (HW h7 nb_1 1 ∧ ∀ h8, h8 = hset h7 nb_1 1 (.slice ap ap_n ap_c) → (I13 (IntKind.i64.wrap (v + 1)) h8 ∧ mu14 (IntKind.i64.wrap (v + 1)) h8 < mu14 v h4))))))))) ∧ ((decide (v < (x_n : Int))) = false → R (.tuple #[(ptr nb_1 0), (.int .i64 0)]) h4)))))))))))) :
    HC Try.prog 10 #[(.int .i64 regions)] h R := by
  refine hc_of (args := [(.int .i64 regions)]) Try.func10 rfl Try.ntmps10 (Nat.le_of_ble_eq_true rfl) ?_
  refine hx_seq ?_
  refine hx_region ?_
  refine hl_val rfl rfl (v := (.pointer none)) (hv_assign rfl) ?_
  refine hl_val rfl rfl (v := (.int .i64 0)) (hv_assign rfl) ?_
  refine hl_nil ?_
  refine seqQ_n ?_
  refine hx_seq ?_
  obtain ⟨j, Hx31, Hy32⟩ := H
  refine hx_cut (fun ρ h' => h = h' ∧ Has ρ [(0, (.int .i64 regions)), (11, (.bool j))]) ?_ ?_
  · have H := Hx31; clear Hx31 Hy32
    refine hx_region ?_
    refine hl_val rfl rfl (v := (.int .i64 regions)) (hv_move rfl) ?_
    refine hl_val rfl rfl (v := (.bool (decide (regions < 2)))) (hv_arith rfl rfl rfl) ?_
    refine hl_val rfl rfl (v := (.bool (decide (regions < 2)))) (hv_move rfl) ?_
    rcases bool_or (decide (regions < 2)) with hg1 | hg1
    · replace H := H.1 hg1
      refine hl_no (wanted_n rfl rfl rfl hg1) rfl ?_
      refine hl_no (wanted_n rfl rfl rfl hg1) rfl ?_
      refine hl_val rfl rfl (v := (.bool true)) (hv_pick_t rfl hg1 rfl) ?_
      refine hl_nil ?_
      refine seqQ_n ?_
      obtain rfl := H
      exact ⟨rfl, (has_cons rfl (has_cons rfl has_nil))⟩
    · replace H := H.2 hg1
      refine hl_yes (wanted_y rfl rfl rfl hg1) rfl (HStep.of_val (v := (.int .i64 regions)) (hv_move rfl) ?_)
      refine hl_yes (wanted_y rfl rfl rfl hg1) rfl (HStep.of_val (v := (.bool (decide (regions > 256)))) (hv_arith rfl rfl rfl) ?_)
      refine hl_val rfl rfl (v := (.bool (decide (regions > 256)))) (hv_pick_f rfl hg1 rfl) ?_
      refine hl_nil ?_
      refine seqQ_n ?_
      obtain rfl := H
      exact ⟨rfl, (has_cons rfl (has_cons rfl has_nil))⟩
  · have H := Hy32; clear Hx31 Hy32
    rintro ρ _ ⟨rfl, hH⟩
    refine hx_has _ hH ?_
    refine hx_cond (b := j) rfl (fun hb30 => ?_) (fun hb30 => ?_)
    · replace H := H.1 hb30
      refine hx_seq ?_
      refine hx_region ?_
      refine hl_val rfl rfl (v := (.pointer none)) (hv_assign rfl) ?_
      refine hl_val rfl rfl (v := (.int .i64 1)) (hv_assign rfl) ?_
      refine hl_nil ?_
      refine seqQ_n ?_
      refine hx_ret ?_
      refine seqQ_ret ?_
      exact endQ_ret _ (res_two Try.results10 (rv_tmp rfl) (rv_tmp rfl)) H
    · replace H := H.2 hb30
      refine hx_skip ?_
      refine seqQ_n ?_
      refine hx_seq ?_
      refine hx_region ?_
      refine hl_val rfl rfl (v := (.int .i64 regions)) (hv_move rfl) ?_
      obtain ⟨hm4, hm5, hm6, H⟩ := H
      refine hl_step rfl rfl (hn_make (z := (.agg #[(.int .i64 0), (.int .u64 0), (.int .i64 0), (.int .i64 0)])) (zs := [(.int .i64 0), (.int .u64 0), (.int .i64 0), (.int .i64 0)]) (n := regions) Ty.u28 Ty.sz31 Ty.by31 Ty.z31 rfl rfl hm4 hm5 hm6 rfl rfl ?_)
      intro nb h1 eb2 eh3
      replace H := H nb h1 eb2 eh3
      refine hl_step rfl rfl (hn_makeMap (enc := (Value.int .i64)) ?_)
      intro mb h2 eb7 ex8 ez9 mm10
      replace H := H mb h2 eb7 ex8 ez9 mm10
      refine hl_val rfl rfl (v := (.agg #[(.slice (some ⟨nb, 0, none⟩) (Int.toNat regions) (Int.toNat regions)), (.slice none 0 0), (.int .u64 0), (.int .i64 (-1)), (.map (some mb))])) (hv_build (vs := [(0, (.slice (some ⟨nb, 0, none⟩) (Int.toNat regions) (Int.toNat regions))), (3, (.int .i64 (-1))), (4, (.map (some mb)))]) (cs := #[(.slice (some ⟨nb, 0, none⟩) (Int.toNat regions) (Int.toNat regions)), (.slice none 0 0), (.int .u64 0), (.int .i64 (-1)), (.map (some mb))]) Ty.z67 Ty.pl67 rfl (by kernel_rfl)) ?_
      refine hl_step rfl rfl (hn_box (v := (.agg #[(.slice (some ⟨nb, 0, none⟩) (Int.toNat regions) (Int.toNat regions)), (.slice none 0 0), (.int .u64 0), (.int .i64 (-1)), (.map (some mb))])) rfl ?_)
      intro nb_1 h3 eb11 eh12
      replace H := H nb_1 h3 eb11 eh12
      refine hl_val rfl rfl (v := (ptr nb_1 0)) (hv_assign rfl) ?_
      refine hl_nil ?_
      refine seqQ_n ?_
      refine hx_seq ?_
      refine hx_seq ?_
      refine hx_region ?_
      refine hl_val rfl rfl (v := (ptr nb_1 0)) (hv_move rfl) ?_
      refine hl_val rfl rfl (v := (ptr nb_1 0)) (hv_nil rfl) ?_
      refine hl_val rfl rfl (v := (ptr nb_1 0)) (hv_field Ty.fld67_0 (b := nb_1) (o := 0) rfl) ?_
      obtain ⟨x, x_n, x_c, hc29, H⟩ := H
      refine hl_val rfl rfl (v := (.slice x x_n x_c)) (hv_load Ty.agg28 rfl hc29) ?_
      refine hl_val rfl rfl (v := (.int .i64 (x_n : Int))) (hv_len (n := x_n) Ty.u28 rfl) ?_
      refine hl_val rfl rfl (v := (.int .i64 0)) (hv_move rfl) ?_
      refine hl_nil ?_
      refine seqQ_n ?_
      refine hx_block ?_
      obtain ⟨I13, mu14, Ha15, Hr16⟩ := H
      refine hx_loopT (σ := Int) (fun s => [(4, (ptr nb_1 0)), (21, (.int .i64 (x_n : Int))), (22, (.int .i64 s))]) (fun s h' => I13 s h') (fun s h' => mu14 s h') 0 Ha15 (has_cons rfl (has_cons rfl (has_cons rfl has_nil))) ?_
      rintro v ρ h4 Hi17
      have H := Hr16 v h4 Hi17
      refine hx_seq ?_
      refine hx_region ?_
      refine hl_val rfl rfl (v := (.bool (decide (v < (x_n : Int))))) (hv_arith rfl rfl rfl) ?_
      refine hl_nil ?_
      refine seqQ_n ?_
      refine hx_seq ?_
      refine hx_cond (b := decide (v < (x_n : Int))) rfl (fun hb28 => ?_) (fun hb28 => ?_)
      · replace H := H.1 hb28
        refine hx_skip ?_
        refine seqQ_n ?_
        refine hx_seq ?_
        refine hx_block ?_
        refine hx_seq ?_
        refine hx_region ?_
        refine hl_val rfl rfl (v := (.int .i64 v)) (hv_move rfl) ?_
        refine hl_val rfl rfl (v := (.int .i64 v)) (hv_assign rfl) ?_
        refine hl_nil ?_
        refine seqQ_n ?_
        refine hx_seq ?_
        refine hx_region ?_
        refine hl_val rfl rfl (v := (ptr nb_1 0)) (hv_move rfl) ?_
        refine hl_val rfl rfl (v := (ptr nb_1 0)) (hv_nil rfl) ?_
        refine hl_val rfl rfl (v := (ptr nb_1 0)) (hv_field Ty.fld67_0 (b := nb_1) (o := 0) rfl) ?_
        obtain ⟨x_1, x_n_1, x_c_1, hc27, H⟩ := H
        refine hl_val rfl rfl (v := (.slice x_1 x_n_1 x_c_1)) (hv_load Ty.agg28 rfl hc27) ?_
        refine hl_val rfl rfl (v := (.int .i64 v)) (hv_move rfl) ?_
        obtain ⟨x_1_b, x_1_o, hqe, hi18, hi19, Hq⟩ := H
        subst hqe
        have H := Hq; clear Hq
        refine hl_val rfl rfl (v := (ptr x_1_b (x_1_o + (Int.toNat v) * 4))) (hv_index Ty.el28 rfl rfl hi18 hi19) ?_
        refine hl_val rfl rfl (v := (ptr x_1_b (x_1_o + (Int.toNat v) * 4))) (hv_field Ty.fld31_0 (b := x_1_b) (o := x_1_o + (Int.toNat v) * 4) rfl) ?_
        obtain ⟨hw20, H⟩ := H
        refine hl_step rfl rfl (hn_store (v := (.int .i64 1)) rfl rfl Ty.sz3 rfl hw20 ?_)
        intro h5 eh21
        replace H := H h5 eh21
        refine hl_nil ?_
        refine seqQ_n ?_
        refine hx_region ?_
        refine hl_val rfl rfl (v := (ptr nb_1 0)) (hv_move rfl) ?_
        refine hl_val rfl rfl (v := (ptr nb_1 0)) (hv_move rfl) ?_
        refine hl_val rfl rfl (v := (ptr nb_1 0)) (hv_nil rfl) ?_
        refine hl_val rfl rfl (v := (ptr nb_1 1)) (hv_field Ty.fld67_1 (b := nb_1) (o := 0) rfl) ?_
        obtain ⟨x_2, x_n_2, x_c_2, hc26, H⟩ := H
        refine hl_val rfl rfl (v := (.slice x_2 x_n_2 x_c_2)) (hv_load Ty.agg50 rfl hc26) ?_
        refine hl_val rfl rfl (v := (.int .i64 v)) (hv_move rfl) ?_
        refine hl_step rfl rfl (hn_buildSlice (n := 1) (vs := [(0, (.int .i64 v))]) (cs := #[(.int .i64 v)]) Ty.u50 Ty.sz3 Ty.z3 rfl rfl (by kernel_rfl) ?_)
        intro nb_2 h6 eb22 eh23
        replace H := H nb_2 h6 eb22 eh23
        refine hl_step rfl rfl (hs_append rfl rfl (HAppend.mono H ?_))
        rintro _ h7 ⟨ap, ap_n, ap_c, rfl, H⟩
        refine hl_val rfl rfl (v := (ptr nb_1 0)) (hv_nil rfl) ?_
        refine hl_val rfl rfl (v := (ptr nb_1 1)) (hv_field Ty.fld67_1 (b := nb_1) (o := 0) rfl) ?_
        obtain ⟨hw24, H⟩ := H
        refine hl_step rfl rfl (hn_store (v := (.slice ap ap_n ap_c)) rfl rfl Ty.sz50 rfl hw24 ?_)
        intro h8 eh25
        replace H := H h8 eh25
        refine hl_nil ?_
        refine blockQ_n ?_
        refine seqQ_n ?_
        refine hx_region ?_
        refine hl_val rfl rfl (v := (.int .i64 (IntKind.i64.wrap (v + 1)))) (hv_arith rfl rfl rfl) ?_
        refine hl_val rfl rfl (v := (.int .i64 (IntKind.i64.wrap (v + 1)))) (hv_move rfl) ?_
        refine hl_nil ?_
        refine seqQ_n ?_
        exact ⟨IntKind.i64.wrap (v + 1), H, (has_cons rfl (has_cons rfl (has_cons rfl has_nil)))⟩
      · replace H := H.2 hb28
        refine hx_exit ?_
        refine seqQ_exit ?_
        refine seqQ_exit ?_
        refine blockQ_here ?_
        refine seqQ_n ?_
        refine hx_seq ?_
        refine hx_region ?_
        refine hl_val rfl rfl (v := (ptr nb_1 0)) (hv_move rfl) ?_
        refine hl_val rfl rfl (v := (ptr nb_1 0)) (hv_assign rfl) ?_
        refine hl_val rfl rfl (v := (.int .i64 0)) (hv_assign rfl) ?_
        refine hl_nil ?_
        refine seqQ_n ?_
        refine hx_ret ?_
        exact endQ_ret _ (res_two Try.results10 (rv_tmp rfl) (rv_tmp rfl)) H

/-- (*cellar/region.Manager).Open -/
theorem f13_sh (m_b : Nat) (m_o : Nat) (h : Heap) (R : Value → Heap → Prop)
    (H : (∃ r : Bool, HC Try.prog 32 #[(ptr m_b m_o)] h (fun vv h' => vv = (.bool r) ∧ h' = h) ∧ (((!r) = true → R (.tuple #[(.int .i64 0), (.int .u64 0), (.int .i64 6)]) h) ∧ ((!r) = false → (∃ x : Int, hcell h m_b (m_o + 3) = some (.int .i64 x) ∧ (((x != (-1)) = true → R (.tuple #[(.int .i64 0), (.int .u64 0), (.int .i64 91)]) h) ∧ ((x != (-1)) = false → (∃ x_1 : Option Addr, ∃ x_n x_c : Nat, hcell h m_b (m_o + 1) = some (.slice x_1 x_n x_c) ∧ ((((x_n : Int) == 0) = true → R (.tuple #[(.int .i64 0), (.int .u64 0), (.int .i64 2)]) h) ∧ (((x_n : Int) == 0) = false → (∃ x_2 : Int, hcell h m_b (m_o + 2) = some (.int .u64 x_2) ∧ (((x_2 == 9223372036854775807) = true → R (.tuple #[(.int .i64 0), (.int .u64 0), (.int .i64 3)]) h) ∧ ((x_2 == 9223372036854775807) = false → (∃ x_3 : Option Addr, ∃ x_n_1 x_c_1 : Nat, hcell h m_b (m_o + 1) = some (.slice x_3 x_n_1 x_c_1) ∧ (∃ x_3_b x_3_o : Nat, x_3 = some ⟨x_3_b, x_3_o, none⟩ ∧ (0 : Int) ≤ 0 ∧ 0 < (x_n_1 : Int) ∧ (∃ x_4 : Int, hcell h x_3_b (x_3_o + (Int.toNat 0) * 1) = some (.int .i64 x_4) ∧ (HW h m_b (m_o + 3) ∧ ∀ h1, h1 = hset h m_b (m_o + 3) (.int .i64 x_4) → (∃ x_5 : Option Addr, ∃ x_n_2 x_c_2 : Nat, hcell h1 m_b (m_o + 1) = some (.slice x_5 x_n_2 x_c_2) ∧ HC Try.prog 33 #[(.slice x_5 x_n_2 x_c_2), (.int .i64 0), (.int .i64 1)] h1 (fun vv h2 => ∃ r_1 : Option Addr, ∃ r_n r_c : Nat, vv = (.slice r_1 r_n r_c) ∧ (HW h2 m_b (m_o + 1) ∧ ∀ h3, h3 = hset h2 m_b (m_o + 1) (.slice r_1 r_n r_c) → (∃ x_6 : Int, hcell h3 m_b (m_o + 2) = some (.int .u64 x_6) ∧ (HW h3 m_b (m_o + 2) ∧ ∀ h4, h4 = hset h3 m_b (m_o + 2) (.int .u64 (IntKind.u64.wrap (x_6 + 1))) → (∃ x_7 : Option Addr, ∃ x_n_3 x_c_3 : Nat, hcell h4 m_b m_o = some (.slice x_7 x_n_3 x_c_3) ∧ (∃ x_8 : Int, hcell h4 m_b (m_o + 3) = some (.int .i64 x_8) ∧ (∃ x_7_b x_7_o : Nat, x_7 = some ⟨x_7_b, x_7_o, none⟩ ∧ (0 : Int) ≤ x_8 ∧ x_8 < (x_n_3 : Int) ∧ (∃ x_9 : Int, hcell h4 m_b (m_o + 2) = some (.int .u64 x_9) ∧ (HW h4 x_7_b (x_7_o + (Int.toNat x_8) * 4) ∧ ∀ h5, h5 = hset h4 x_7_b (x_7_o + (Int.toNat x_8) * 4) (.int .i64 2) → (HW h5 x_7_b ((x_7_o + (Int.toNat x_8) * 4) + 1) ∧ ∀ h6, h6 = hset h5 x_7_b ((x_7_o + (Int.toNat x_8) * 4) + 1) (.int .u64 x_9) → (∃ x_10 : Int, hcell h6 m_b (m_o + 3) = some (.int .i64 x_10) ∧ (∃ x_11 : Int, hcell h6 m_b (m_o + 2) = some (.int .u64 x_11) ∧ R (.tuple #[(.int .i64 x_10), (.int .u64 x_11), (.int .i64 0)]) h6)))))))))))))))))))))))))))))) :
    HC Try.prog 13 #[(ptr m_b m_o)] h R := by
  refine hc_of (args := [(ptr m_b m_o)]) Try.func13 rfl Try.ntmps13 (Nat.le_of_ble_eq_true rfl) ?_
  refine hx_seq ?_
  refine hx_region ?_
  refine hl_val rfl rfl (v := (.int .i64 0)) (hv_assign rfl) ?_
  refine hl_val rfl rfl (v := (.int .u64 0)) (hv_assign rfl) ?_
  refine hl_val rfl rfl (v := (.int .i64 0)) (hv_assign rfl) ?_
  refine hl_nil ?_
  refine seqQ_n ?_
  refine hx_seq ?_
  refine hx_block ?_
  refine hx_seq ?_
  refine hx_region ?_
  refine hl_val rfl rfl (v := (ptr m_b m_o)) (hv_move rfl) ?_
  obtain ⟨r, hr1, H⟩ := H
  refine hl_val rfl rfl (v := (.bool r)) (hv_call Ty.cb32 (vs := [(ptr m_b m_o)]) rfl hr1) ?_
  refine hl_val rfl rfl (v := (.bool (!r))) (hv_not (b := r) rfl) ?_
  refine hl_val rfl rfl (v := (.bool (!r))) (hv_assign rfl) ?_
  refine hl_nil ?_
  refine seqQ_n ?_
  refine hx_cond (b := !r) rfl (fun hb31 => ?_) (fun hb31 => ?_)
  · replace H := H.1 hb31
    refine hx_seq ?_
    refine hx_region ?_
    refine hl_val rfl rfl (v := (.int .i64 0)) (hv_assign rfl) ?_
    refine hl_val rfl rfl (v := (.int .u64 0)) (hv_assign rfl) ?_
    refine hl_val rfl rfl (v := (.int .i64 6)) (hv_assign rfl) ?_
    refine hl_nil ?_
    refine seqQ_n ?_
    refine hx_ret ?_
    refine blockQ_ret ?_
    refine seqQ_ret ?_
    exact endQ_ret _ (res_three Try.results13 (rv_tmp rfl) (rv_tmp rfl) (rv_tmp rfl)) H
  · replace H := H.2 hb31
    refine hx_seq ?_
    refine hx_region ?_
    refine hl_val rfl rfl (v := (ptr m_b m_o)) (hv_move rfl) ?_
    refine hl_val rfl rfl (v := (ptr m_b m_o)) (hv_nil rfl) ?_
    refine hl_val rfl rfl (v := (ptr m_b (m_o + 3))) (hv_field Ty.fld67_3 (b := m_b) (o := m_o) rfl) ?_
    obtain ⟨x, hc30, H⟩ := H
    refine hl_val rfl rfl (v := (.int .i64 x)) (hv_load Ty.agg3 rfl hc30) ?_
    refine hl_val rfl rfl (v := (.bool (x != (-1)))) (hv_arith rfl rfl rfl) ?_
    refine hl_val rfl rfl (v := (.bool (x != (-1)))) (hv_assign rfl) ?_
    refine hl_nil ?_
    refine seqQ_n ?_
    refine hx_cond (b := x != (-1)) rfl (fun hb29 => ?_) (fun hb29 => ?_)
    · replace H := H.1 hb29
      refine hx_seq ?_
      refine hx_region ?_
      refine hl_val rfl rfl (v := (.int .i64 0)) (hv_assign rfl) ?_
      refine hl_val rfl rfl (v := (.int .u64 0)) (hv_assign rfl) ?_
      refine hl_val rfl rfl (v := (.int .i64 91)) (hv_assign rfl) ?_
      refine hl_nil ?_
      refine seqQ_n ?_
      refine hx_ret ?_
      refine blockQ_ret ?_
      refine seqQ_ret ?_
      exact endQ_ret _ (res_three Try.results13 (rv_tmp rfl) (rv_tmp rfl) (rv_tmp rfl)) H
    · replace H := H.2 hb29
      refine hx_seq ?_
      refine hx_region ?_
      refine hl_val rfl rfl (v := (ptr m_b m_o)) (hv_move rfl) ?_
      refine hl_val rfl rfl (v := (ptr m_b m_o)) (hv_nil rfl) ?_
      refine hl_val rfl rfl (v := (ptr m_b (m_o + 1))) (hv_field Ty.fld67_1 (b := m_b) (o := m_o) rfl) ?_
      obtain ⟨x_1, x_n, x_c, hc28, H⟩ := H
      refine hl_val rfl rfl (v := (.slice x_1 x_n x_c)) (hv_load Ty.agg50 rfl hc28) ?_
      refine hl_val rfl rfl (v := (.int .i64 (x_n : Int))) (hv_len (n := x_n) Ty.u50 rfl) ?_
      refine hl_val rfl rfl (v := (.bool ((x_n : Int) == 0))) (hv_arith rfl rfl rfl) ?_
      refine hl_val rfl rfl (v := (.bool ((x_n : Int) == 0))) (hv_assign rfl) ?_
      refine hl_nil ?_
      refine seqQ_n ?_
      refine hx_cond (b := (x_n : Int) == 0) rfl (fun hb27 => ?_) (fun hb27 => ?_)
      · replace H := H.1 hb27
        refine hx_seq ?_
        refine hx_region ?_
        refine hl_val rfl rfl (v := (.int .i64 0)) (hv_assign rfl) ?_
        refine hl_val rfl rfl (v := (.int .u64 0)) (hv_assign rfl) ?_
        refine hl_val rfl rfl (v := (.int .i64 2)) (hv_assign rfl) ?_
        refine hl_nil ?_
        refine seqQ_n ?_
        refine hx_ret ?_
        refine blockQ_ret ?_
        refine seqQ_ret ?_
        exact endQ_ret _ (res_three Try.results13 (rv_tmp rfl) (rv_tmp rfl) (rv_tmp rfl)) H
      · replace H := H.2 hb27
        refine hx_seq ?_
        refine hx_region ?_
        refine hl_val rfl rfl (v := (ptr m_b m_o)) (hv_move rfl) ?_
        refine hl_val rfl rfl (v := (ptr m_b m_o)) (hv_nil rfl) ?_
        refine hl_val rfl rfl (v := (ptr m_b (m_o + 2))) (hv_field Ty.fld67_2 (b := m_b) (o := m_o) rfl) ?_
        obtain ⟨x_2, hc26, H⟩ := H
        refine hl_val rfl rfl (v := (.int .u64 x_2)) (hv_load Ty.agg29 rfl hc26) ?_
        refine hl_val rfl rfl (v := (.bool (x_2 == 9223372036854775807))) (hv_arith rfl rfl rfl) ?_
        refine hl_val rfl rfl (v := (.bool (x_2 == 9223372036854775807))) (hv_assign rfl) ?_
        refine hl_nil ?_
        refine seqQ_n ?_
        refine hx_cond (b := x_2 == 9223372036854775807) rfl (fun hb25 => ?_) (fun hb25 => ?_)
        · replace H := H.1 hb25
          refine hx_seq ?_
          refine hx_region ?_
          refine hl_val rfl rfl (v := (.int .i64 0)) (hv_assign rfl) ?_
          refine hl_val rfl rfl (v := (.int .u64 0)) (hv_assign rfl) ?_
          refine hl_val rfl rfl (v := (.int .i64 3)) (hv_assign rfl) ?_
          refine hl_nil ?_
          refine seqQ_n ?_
          refine hx_ret ?_
          refine blockQ_ret ?_
          refine seqQ_ret ?_
          exact endQ_ret _ (res_three Try.results13 (rv_tmp rfl) (rv_tmp rfl) (rv_tmp rfl)) H
        · replace H := H.2 hb25
          refine hx_skip ?_
          refine blockQ_n ?_
          refine seqQ_n ?_
          refine hx_seq ?_
          refine hx_region ?_
          refine hl_val rfl rfl (v := (ptr m_b m_o)) (hv_move rfl) ?_
          refine hl_val rfl rfl (v := (ptr m_b m_o)) (hv_move rfl) ?_
          refine hl_val rfl rfl (v := (ptr m_b m_o)) (hv_nil rfl) ?_
          refine hl_val rfl rfl (v := (ptr m_b (m_o + 1))) (hv_field Ty.fld67_1 (b := m_b) (o := m_o) rfl) ?_
          obtain ⟨x_3, x_n_1, x_c_1, hc24, H⟩ := H
          refine hl_val rfl rfl (v := (.slice x_3 x_n_1 x_c_1)) (hv_load Ty.agg50 rfl hc24) ?_
          obtain ⟨x_3_b, x_3_o, hqe, hi2, hi3, Hq⟩ := H
          subst hqe
          have H := Hq; clear Hq
          refine hl_val rfl rfl (v := (ptr x_3_b (x_3_o + (Int.toNat 0) * 1))) (hv_index Ty.el50 rfl rfl hi2 hi3) ?_
          obtain ⟨x_4, hc23, H⟩ := H
          refine hl_val rfl rfl (v := (.int .i64 x_4)) (hv_load Ty.agg3 rfl hc23) ?_
          refine hl_val rfl rfl (v := (ptr m_b m_o)) (hv_nil rfl) ?_
          refine hl_val rfl rfl (v := (ptr m_b (m_o + 3))) (hv_field Ty.fld67_3 (b := m_b) (o := m_o) rfl) ?_
          obtain ⟨hw4, H⟩ := H
          refine hl_step rfl rfl (hn_store (v := (.int .i64 x_4)) rfl rfl Ty.sz3 rfl hw4 ?_)
          intro h1 eh5
          replace H := H h1 eh5
          refine hl_nil ?_
          refine seqQ_n ?_
          refine hx_seq ?_
          refine hx_region ?_
          refine hl_val rfl rfl (v := (ptr m_b m_o)) (hv_move rfl) ?_
          refine hl_val rfl rfl (v := (ptr m_b m_o)) (hv_move rfl) ?_
          refine hl_val rfl rfl (v := (ptr m_b m_o)) (hv_nil rfl) ?_
          refine hl_val rfl rfl (v := (ptr m_b (m_o + 1))) (hv_field Ty.fld67_1 (b := m_b) (o := m_o) rfl) ?_
          obtain ⟨x_5, x_n_2, x_c_2, hc22, H⟩ := H
          refine hl_val rfl rfl (v := (.slice x_5 x_n_2 x_c_2)) (hv_load Ty.agg50 rfl hc22) ?_
          refine hl_step rfl rfl (hs_call Ty.cb33 (vs := [(.slice x_5 x_n_2 x_c_2), (.int .i64 0), (.int .i64 1)]) rfl (HC.mono H ?_))
          rintro _ h2 ⟨r_1, r_n, r_c, rfl, H⟩
          refine hl_val rfl rfl (v := (ptr m_b m_o)) (hv_nil rfl) ?_
          refine hl_val rfl rfl (v := (ptr m_b (m_o + 1))) (hv_field Ty.fld67_1 (b := m_b) (o := m_o) rfl) ?_
          obtain ⟨hw6, H⟩ := H
          refine hl_step rfl rfl (hn_store (v := (.slice r_1 r_n r_c)) rfl rfl Ty.sz50 rfl hw6 ?_)
          intro h3 eh7
          replace H := H h3 eh7
          refine hl_nil ?_
          refine seqQ_n ?_
          refine hx_seq ?_
          refine hx_region ?_
          refine hl_val rfl rfl (v := (ptr m_b m_o)) (hv_move rfl) ?_
          refine hl_val rfl rfl (v := (ptr m_b m_o)) (hv_nil rfl) ?_
          refine hl_val rfl rfl (v := (ptr m_b (m_o + 2))) (hv_field Ty.fld67_2 (b := m_b) (o := m_o) rfl) ?_
          obtain ⟨x_6, hc21, H⟩ := H
          refine hl_val rfl rfl (v := (.int .u64 x_6)) (hv_load Ty.agg29 rfl hc21) ?_
          refine hl_val rfl rfl (v := (.int .u64 (IntKind.u64.wrap (x_6 + 1)))) (hv_arith rfl rfl rfl) ?_
          refine hl_val rfl rfl (v := (ptr m_b m_o)) (hv_nil rfl) ?_
          refine hl_val rfl rfl (v := (ptr m_b (m_o + 2))) (hv_field Ty.fld67_2 (b := m_b) (o := m_o) rfl) ?_
          obtain ⟨hw8, H⟩ := H
          refine hl_step rfl rfl (hn_store (v := (.int .u64 (IntKind.u64.wrap (x_6 + 1)))) rfl rfl Ty.sz29 rfl hw8 ?_)
          intro h4 eh9
          replace H := H h4 eh9
          refine hl_nil ?_
          refine seqQ_n ?_
          refine hx_seq ?_
          refine hx_draw Ty.mixed [.pure, .pure, .pure, .read, .pure, .pure, .pure, .read, .pure, .pure] [0, 1, 2, 3, 4, 5, 6, 7, 8, 9] (by kernel_rfl) ?_
          refine hp_pure (i := 0) rfl (wanted_0 rfl) rfl (ptr m_b m_o) (fun _ => hv_move rfl) ?_
          refine hp_pure (i := 1) rfl (wanted_0 rfl) rfl (ptr m_b m_o) (fun _ => hv_nil rfl) ?_
          refine hp_pure (i := 2) rfl (wanted_0 rfl) rfl (ptr m_b m_o) (fun _ => hv_field Ty.fld67_0 (b := m_b) (o := m_o) rfl) ?_
          obtain ⟨x_7, x_n_3, x_c_3, hc20, H⟩ := H
          refine hp_read (i := 3) rfl (wanted_0 rfl) rfl (.slice x_7 x_n_3 x_c_3) (fun _ he => hv_load Ty.agg28 rfl (he.cell hc20)) ?_
          refine hp_pure (i := 4) rfl (wanted_0 rfl) rfl (ptr m_b m_o) (fun _ => hv_move rfl) ?_
          refine hp_pure (i := 5) rfl (wanted_0 rfl) rfl (ptr m_b m_o) (fun _ => hv_nil rfl) ?_
          refine hp_pure (i := 6) rfl (wanted_0 rfl) rfl (ptr m_b (m_o + 3)) (fun _ => hv_field Ty.fld67_3 (b := m_b) (o := m_o) rfl) ?_
          obtain ⟨x_8, hc19, H⟩ := H
          refine hp_read (i := 7) rfl (wanted_0 rfl) rfl (.int .i64 x_8) (fun _ he => hv_load Ty.agg3 rfl (he.cell hc19)) ?_
          obtain ⟨x_7_b, x_7_o, hqe, hi10, hi11, Hq⟩ := H
          subst hqe
          have H := Hq; clear Hq
          refine hp_pure (i := 8) rfl (wanted_0 rfl) rfl (ptr x_7_b (x_7_o + (Int.toNat x_8) * 4)) (fun _ => hv_index Ty.el28 rfl rfl hi10 hi11) ?_
          refine hp_pure (i := 9) rfl (wanted_0 rfl) rfl (ptr x_7_b (x_7_o + (Int.toNat x_8) * 4)) (fun _ => hv_assign rfl) ?_
          refine hp_nil ?_
          refine seqQ_n ?_
          refine hx_seq ?_
          refine hx_region ?_
          refine hl_val rfl rfl (v := (ptr x_7_b (x_7_o + (Int.toNat x_8) * 4))) (hv_move rfl) ?_
          refine hl_val rfl rfl (v := (ptr x_7_b (x_7_o + (Int.toNat x_8) * 4))) (hv_move rfl) ?_
          refine hl_val rfl rfl (v := (ptr m_b m_o)) (hv_move rfl) ?_
          refine hl_val rfl rfl (v := (ptr m_b m_o)) (hv_nil rfl) ?_
          refine hl_val rfl rfl (v := (ptr m_b (m_o + 2))) (hv_field Ty.fld67_2 (b := m_b) (o := m_o) rfl) ?_
          obtain ⟨x_9, hc18, H⟩ := H
          refine hl_val rfl rfl (v := (.int .u64 x_9)) (hv_load Ty.agg29 rfl hc18) ?_
          refine hl_val rfl rfl (v := (ptr x_7_b (x_7_o + (Int.toNat x_8) * 4))) (hv_nil rfl) ?_
          refine hl_val rfl rfl (v := (ptr x_7_b (x_7_o + (Int.toNat x_8) * 4))) (hv_field Ty.fld31_0 (b := x_7_b) (o := x_7_o + (Int.toNat x_8) * 4) rfl) ?_
          obtain ⟨hw12, H⟩ := H
          refine hl_step rfl rfl (hn_store (v := (.int .i64 2)) rfl rfl Ty.sz3 rfl hw12 ?_)
          intro h5 eh13
          replace H := H h5 eh13
          refine hl_val rfl rfl (v := (ptr x_7_b (x_7_o + (Int.toNat x_8) * 4))) (hv_nil rfl) ?_
          refine hl_val rfl rfl (v := (ptr x_7_b ((x_7_o + (Int.toNat x_8) * 4) + 1))) (hv_field Ty.fld31_1 (b := x_7_b) (o := x_7_o + (Int.toNat x_8) * 4) rfl) ?_
          obtain ⟨hw14, H⟩ := H
          refine hl_step rfl rfl (hn_store (v := (.int .u64 x_9)) rfl rfl Ty.sz29 rfl hw14 ?_)
          intro h6 eh15
          replace H := H h6 eh15
          refine hl_nil ?_
          refine seqQ_n ?_
          refine hx_seq ?_
          refine hx_draw Ty.mixed [.pure, .pure, .pure, .read, .pure, .pure, .pure, .read, .pure, .pure, .pure] [0, 1, 2, 3, 4, 5, 6, 7, 8, 9, 10] (by kernel_rfl) ?_
          refine hp_pure (i := 0) rfl (wanted_0 rfl) rfl (ptr m_b m_o) (fun _ => hv_move rfl) ?_
          refine hp_pure (i := 1) rfl (wanted_0 rfl) rfl (ptr m_b m_o) (fun _ => hv_nil rfl) ?_
          refine hp_pure (i := 2) rfl (wanted_0 rfl) rfl (ptr m_b (m_o + 3)) (fun _ => hv_field Ty.fld67_3 (b := m_b) (o := m_o) rfl) ?_
          obtain ⟨x_10, hc17, H⟩ := H
          refine hp_read (i := 3) rfl (wanted_0 rfl) rfl (.int .i64 x_10) (fun _ he => hv_load Ty.agg3 rfl (he.cell hc17)) ?_
          refine hp_pure (i := 4) rfl (wanted_0 rfl) rfl (ptr m_b m_o) (fun _ => hv_move rfl) ?_
          refine hp_pure (i := 5) rfl (wanted_0 rfl) rfl (ptr m_b m_o) (fun _ => hv_nil rfl) ?_
          refine hp_pure (i := 6) rfl (wanted_0 rfl) rfl (ptr m_b (m_o + 2)) (fun _ => hv_field Ty.fld67_2 (b := m_b) (o := m_o) rfl) ?_
          obtain ⟨x_11, hc16, H⟩ := H
          refine hp_read (i := 7) rfl (wanted_0 rfl) rfl (.int .u64 x_11) (fun _ he => hv_load Ty.agg29 rfl (he.cell hc16)) ?_
          refine hp_pure (i := 8) rfl (wanted_0 rfl) rfl (.int .i64 x_10) (fun _ => hv_assign rfl) ?_
          refine hp_pure (i := 9) rfl (wanted_0 rfl) rfl (.int .u64 x_11) (fun _ => hv_assign rfl) ?_
          refine hp_pure (i := 10) rfl (wanted_0 rfl) rfl (.int .i64 0) (fun _ => hv_assign rfl) ?_
          refine hp_nil ?_
          refine seqQ_n ?_
          refine hx_ret ?_
          exact endQ_ret _ (res_three Try.results13 (rv_tmp rfl) (rv_tmp rfl) (rv_tmp rfl)) H

/-- (*cellar/region.Manager).Current -/
theorem f14_sh (m_b : Nat) (m_o : Nat) (h : Heap) (R : Value → Heap → Prop)
    (H : (∃ r : Bool, HC Try.prog 32 #[(ptr m_b m_o)] h (fun vv h' => vv = (.bool r) ∧ h' = h) ∧ (((!r) = true → R (.int .i64 (-1)) h) ∧ ((!r) = false → (∃ x : Int, hcell h m_b (m_o + 3) = some (.int .i64 x) ∧ R (.int .i64 x) h))))) :
    HC Try.prog 14 #[(ptr m_b m_o)] h R := by
  refine hc_of (args := [(ptr m_b m_o)]) Try.func14 rfl Try.ntmps14 (Nat.le_of_ble_eq_true rfl) ?_
  refine hx_seq ?_
  refine hx_region ?_
  refine hl_val rfl rfl (v := (.int .i64 0)) (hv_assign rfl) ?_
  refine hl_nil ?_
  refine seqQ_n ?_
  refine hx_seq ?_
  refine hx_seq ?_
  refine hx_region ?_
  refine hl_val rfl rfl (v := (ptr m_b m_o)) (hv_move rfl) ?_
  obtain ⟨r, hr1, H⟩ := H
  refine hl_val rfl rfl (v := (.bool r)) (hv_call Ty.cb32 (vs := [(ptr m_b m_o)]) rfl hr1) ?_
  refine hl_val rfl rfl (v := (.bool (!r))) (hv_not (b := r) rfl) ?_
  refine hl_nil ?_
  refine seqQ_n ?_
  refine hx_cond (b := !r) rfl (fun hb3 => ?_) (fun hb3 => ?_)
  · replace H := H.1 hb3
    refine hx_seq ?_
    refine hx_region ?_
    refine hl_val rfl rfl (v := (.int .i64 (-1))) (hv_assign rfl) ?_
    refine hl_nil ?_
    refine seqQ_n ?_
    refine hx_ret ?_
    refine seqQ_ret ?_
    exact endQ_ret _ (res_one Try.results14 (rv_tmp rfl)) H
  · replace H := H.2 hb3
    refine hx_skip ?_
    refine seqQ_n ?_
    refine hx_seq ?_
    refine hx_region ?_
    refine hl_val rfl rfl (v := (ptr m_b m_o)) (hv_move rfl) ?_
    refine hl_val rfl rfl (v := (ptr m_b m_o)) (hv_nil rfl) ?_
    refine hl_val rfl rfl (v := (ptr m_b (m_o + 3))) (hv_field Ty.fld67_3 (b := m_b) (o := m_o) rfl) ?_
    obtain ⟨x, hc2, H⟩ := H
    refine hl_val rfl rfl (v := (.int .i64 x)) (hv_load Ty.agg3 rfl hc2) ?_
    refine hl_val rfl rfl (v := (.int .i64 x)) (hv_assign rfl) ?_
    refine hl_nil ?_
    refine seqQ_n ?_
    refine hx_ret ?_
    exact endQ_ret _ (res_one Try.results14 (rv_tmp rfl)) H

/-- (*cellar/region.Manager).Last -/
theorem f15_sh (m_b : Nat) (m_o : Nat) (h : Heap) (R : Value → Heap → Prop)
    (H : (∃ r : Bool, HC Try.prog 32 #[(ptr m_b m_o)] h (fun vv h' => vv = (.bool r) ∧ h' = h) ∧ (((!r) = true → R (.int .u64 0) h) ∧ ((!r) = false → (∃ x : Int, hcell h m_b (m_o + 2) = some (.int .u64 x) ∧ R (.int .u64 x) h))))) :
    HC Try.prog 15 #[(ptr m_b m_o)] h R := by
  refine hc_of (args := [(ptr m_b m_o)]) Try.func15 rfl Try.ntmps15 (Nat.le_of_ble_eq_true rfl) ?_
  refine hx_seq ?_
  refine hx_region ?_
  refine hl_val rfl rfl (v := (.int .u64 0)) (hv_assign rfl) ?_
  refine hl_nil ?_
  refine seqQ_n ?_
  refine hx_seq ?_
  refine hx_seq ?_
  refine hx_region ?_
  refine hl_val rfl rfl (v := (ptr m_b m_o)) (hv_move rfl) ?_
  obtain ⟨r, hr1, H⟩ := H
  refine hl_val rfl rfl (v := (.bool r)) (hv_call Ty.cb32 (vs := [(ptr m_b m_o)]) rfl hr1) ?_
  refine hl_val rfl rfl (v := (.bool (!r))) (hv_not (b := r) rfl) ?_
  refine hl_nil ?_
  refine seqQ_n ?_
  refine hx_cond (b := !r) rfl (fun hb3 => ?_) (fun hb3 => ?_)
  · replace H := H.1 hb3
    refine hx_seq ?_
    refine hx_region ?_
    refine hl_val rfl rfl (v := (.int .u64 0)) (hv_assign rfl) ?_
    refine hl_nil ?_
    refine seqQ_n ?_
    refine hx_ret ?_
    refine seqQ_ret ?_
    exact endQ_ret _ (res_one Try.results15 (rv_tmp rfl)) H
  · replace H := H.2 hb3
    refine hx_skip ?_
    refine seqQ_n ?_
    refine hx_seq ?_
    refine hx_region ?_
    refine hl_val rfl rfl (v := (ptr m_b m_o)) (hv_move rfl) ?_
    refine hl_val rfl rfl (v := (ptr m_b m_o)) (hv_nil rfl) ?_
    refine hl_val rfl rfl (v := (ptr m_b (m_o + 2))) (hv_field Ty.fld67_2 (b := m_b) (o := m_o) rfl) ?_
    obtain ⟨x, hc2, H⟩ := H
    refine hl_val rfl rfl (v := (.int .u64 x)) (hv_load Ty.agg29 rfl hc2) ?_
    refine hl_val rfl rfl (v := (.int .u64 x)) (hv_assign rfl) ?_
    refine hl_nil ?_
    refine seqQ_n ?_
    refine hx_ret ?_
    exact endQ_ret _ (res_one Try.results15 (rv_tmp rfl)) H

/-- (*cellar/region.Manager).Seal -/
theorem f23_sh (m_b : Nat) (m_o : Nat) (h : Heap) (R : Value → Heap → Prop)
    (H : (∃ r : Bool, HC Try.prog 32 #[(ptr m_b m_o)] h (fun vv h' => vv = (.bool r) ∧ h' = h) ∧ (((!r) = true → R (.int .i64 6) h) ∧ ((!r) = false → (∃ x : Int, hcell h m_b (m_o + 3) = some (.int .i64 x) ∧ (((x == (-1)) = true → R (.int .i64 91) h) ∧ ((x == (-1)) = false → (∃ x_1 : Option Addr, ∃ x_n x_c : Nat, hcell h m_b m_o = some (.slice x_1 x_n x_c) ∧ (∃ x_2 : Int, hcell h m_b (m_o + 3) = some (.int .i64 x_2) ∧ (∃ x_1_b x_1_o : Nat, x_1 = some ⟨x_1_b, x_1_o, none⟩ ∧ (0 : Int) ≤ x_2 ∧ x_2 < (x_n : Int) ∧ (HW h x_1_b (x_1_o + (Int.toNat x_2) * 4) ∧ ∀ h1, h1 = hset h x_1_b (x_1_o + (Int.toNat x_2) * 4) (.int .i64 3) → (HW h1 m_b (m_o + 3) ∧ ∀ h2, h2 = hset h1 m_b (m_o + 3) (.int .i64 (-1)) → R (.int .i64 0) h2)))))))))))) :
    HC Try.prog 23 #[(ptr m_b m_o)] h R := by
  refine hc_of (args := [(ptr m_b m_o)]) Try.func23 rfl Try.ntmps23 (Nat.le_of_ble_eq_true rfl) ?_
  refine hx_seq ?_
  refine hx_region ?_
  refine hl_val rfl rfl (v := (.int .i64 0)) (hv_assign rfl) ?_
  refine hl_nil ?_
  refine seqQ_n ?_
  refine hx_seq ?_
  refine hx_block ?_
  refine hx_seq ?_
  refine hx_region ?_
  refine hl_val rfl rfl (v := (ptr m_b m_o)) (hv_move rfl) ?_
  obtain ⟨r, hr1, H⟩ := H
  refine hl_val rfl rfl (v := (.bool r)) (hv_call Ty.cb32 (vs := [(ptr m_b m_o)]) rfl hr1) ?_
  refine hl_val rfl rfl (v := (.bool (!r))) (hv_not (b := r) rfl) ?_
  refine hl_val rfl rfl (v := (.bool (!r))) (hv_assign rfl) ?_
  refine hl_nil ?_
  refine seqQ_n ?_
  refine hx_cond (b := !r) rfl (fun hb12 => ?_) (fun hb12 => ?_)
  · replace H := H.1 hb12
    refine hx_seq ?_
    refine hx_region ?_
    refine hl_val rfl rfl (v := (.int .i64 6)) (hv_assign rfl) ?_
    refine hl_nil ?_
    refine seqQ_n ?_
    refine hx_ret ?_
    refine blockQ_ret ?_
    refine seqQ_ret ?_
    exact endQ_ret _ (res_one Try.results23 (rv_tmp rfl)) H
  · replace H := H.2 hb12
    refine hx_seq ?_
    refine hx_region ?_
    refine hl_val rfl rfl (v := (ptr m_b m_o)) (hv_move rfl) ?_
    refine hl_val rfl rfl (v := (ptr m_b m_o)) (hv_nil rfl) ?_
    refine hl_val rfl rfl (v := (ptr m_b (m_o + 3))) (hv_field Ty.fld67_3 (b := m_b) (o := m_o) rfl) ?_
    obtain ⟨x, hc11, H⟩ := H
    refine hl_val rfl rfl (v := (.int .i64 x)) (hv_load Ty.agg3 rfl hc11) ?_
    refine hl_val rfl rfl (v := (.bool (x == (-1)))) (hv_arith rfl rfl rfl) ?_
    refine hl_val rfl rfl (v := (.bool (x == (-1)))) (hv_assign rfl) ?_
    refine hl_nil ?_
    refine seqQ_n ?_
    refine hx_cond (b := x == (-1)) rfl (fun hb10 => ?_) (fun hb10 => ?_)
    · replace H := H.1 hb10
      refine hx_seq ?_
      refine hx_region ?_
      refine hl_val rfl rfl (v := (.int .i64 91)) (hv_assign rfl) ?_
      refine hl_nil ?_
      refine seqQ_n ?_
      refine hx_ret ?_
      refine blockQ_ret ?_
      refine seqQ_ret ?_
      exact endQ_ret _ (res_one Try.results23 (rv_tmp rfl)) H
    · replace H := H.2 hb10
      refine hx_skip ?_
      refine blockQ_n ?_
      refine seqQ_n ?_
      refine hx_seq ?_
      refine hx_draw Ty.mixed [.pure, .pure, .pure, .read, .pure, .pure, .pure, .read, .pure, .pure, .wild] [0, 1, 2, 3, 4, 5, 6, 7, 8, 9, 10] (by kernel_rfl) ?_
      refine hp_pure (i := 0) rfl (wanted_0 rfl) rfl (ptr m_b m_o) (fun _ => hv_move rfl) ?_
      refine hp_pure (i := 1) rfl (wanted_0 rfl) rfl (ptr m_b m_o) (fun _ => hv_nil rfl) ?_
      refine hp_pure (i := 2) rfl (wanted_0 rfl) rfl (ptr m_b m_o) (fun _ => hv_field Ty.fld67_0 (b := m_b) (o := m_o) rfl) ?_
      obtain ⟨x_1, x_n, x_c, hc9, H⟩ := H
      refine hp_read (i := 3) rfl (wanted_0 rfl) rfl (.slice x_1 x_n x_c) (fun _ he => hv_load Ty.agg28 rfl (he.cell hc9)) ?_
      refine hp_pure (i := 4) rfl (wanted_0 rfl) rfl (ptr m_b m_o) (fun _ => hv_move rfl) ?_
      refine hp_pure (i := 5) rfl (wanted_0 rfl) rfl (ptr m_b m_o) (fun _ => hv_nil rfl) ?_
      refine hp_pure (i := 6) rfl (wanted_0 rfl) rfl (ptr m_b (m_o + 3)) (fun _ => hv_field Ty.fld67_3 (b := m_b) (o := m_o) rfl) ?_
      obtain ⟨x_2, hc8, H⟩ := H
      refine hp_read (i := 7) rfl (wanted_0 rfl) rfl (.int .i64 x_2) (fun _ he => hv_load Ty.agg3 rfl (he.cell hc8)) ?_
      obtain ⟨x_1_b, x_1_o, hqe, hi2, hi3, Hq⟩ := H
      subst hqe
      have H := Hq; clear Hq
      refine hp_pure (i := 8) rfl (wanted_0 rfl) rfl (ptr x_1_b (x_1_o + (Int.toNat x_2) * 4)) (fun _ => hv_index Ty.el28 rfl rfl hi2 hi3) ?_
      refine hp_pure (i := 9) rfl (wanted_0 rfl) rfl (ptr x_1_b (x_1_o + (Int.toNat x_2) * 4)) (fun _ => hv_field Ty.fld31_0 (b := x_1_b) (o := x_1_o + (Int.toNat x_2) * 4) rfl) ?_
      obtain ⟨hw4, H⟩ := H
      refine hp_wild (i := 10) rfl (wanted_0 rfl) rfl (hn_store (v := (.int .i64 3)) rfl rfl Ty.sz3 rfl hw4 ?_)
      intro h1 eh5
      replace H := H h1 eh5
      refine hp_nil ?_
      refine seqQ_n ?_
      refine hx_seq ?_
      refine hx_region ?_
      refine hl_val rfl rfl (v := (ptr m_b m_o)) (hv_move rfl) ?_
      refine hl_val rfl rfl (v := (ptr m_b m_o)) (hv_nil rfl) ?_
      refine hl_val rfl rfl (v := (ptr m_b (m_o + 3))) (hv_field Ty.fld67_3 (b := m_b) (o := m_o) rfl) ?_
      obtain ⟨hw6, H⟩ := H
      refine hl_step rfl rfl (hn_store (v := (.int .i64 (-1))) rfl rfl Ty.sz3 rfl hw6 ?_)
      intro h2 eh7
      replace H := H h2 eh7
      refine hl_nil ?_
      refine seqQ_n ?_
      refine hx_seq ?_
      refine hx_region ?_
      refine hl_val rfl rfl (v := (.int .i64 0)) (hv_assign rfl) ?_
      refine hl_nil ?_
      refine seqQ_n ?_
      refine hx_ret ?_
      exact endQ_ret _ (res_one Try.results23 (rv_tmp rfl)) H

/-- (*cellar/region.Manager).Mark -/
theorem f24_sh (m_b : Nat) (m_o : Nat) (region : Int) (h : Heap) (R : Value → Heap → Prop)
    (H : (∃ r0 : Option Addr, ∃ r1 : Int, HC Try.prog 31 #[(ptr m_b m_o), (.int .i64 region), (.int .i64 3)] h (fun vv h' => vv = (.tuple #[(.pointer r0), (.int .i64 r1)]) ∧ h' = h) ∧ (∃ A2 : Heap → Prop, (((r1 == 0) = true → (∃ r0_b r0_o : Nat, r0 = some ⟨r0_b, r0_o, none⟩ ∧ (HW h r0_b r0_o ∧ ∀ h2, h2 = hset h r0_b r0_o (.int .i64 4) → (A2 h2)))) ∧ ((r1 == 0) = false → (A2 h))) ∧ (∀ (h1 : Heap), A2 h1 → R (.int .i64 r1) h1)))) :
    HC Try.prog 24 #[(ptr m_b m_o), (.int .i64 region)] h R := by
  refine hc_of (args := [(ptr m_b m_o), (.int .i64 region)]) Try.func24 rfl Try.ntmps24 (Nat.le_of_ble_eq_true rfl) ?_
  refine hx_seq ?_
  refine hx_region ?_
  refine hl_val rfl rfl (v := (.int .i64 0)) (hv_assign rfl) ?_
  refine hl_nil ?_
  refine seqQ_n ?_
  refine hx_seq ?_
  refine hx_region ?_
  refine hl_val rfl rfl (v := (ptr m_b m_o)) (hv_move rfl) ?_
  refine hl_val rfl rfl (v := (.int .i64 region)) (hv_move rfl) ?_
  obtain ⟨r0, r1, hr1, H⟩ := H
  refine hl_val rfl rfl (v := (.tuple #[(.pointer r0), (.int .i64 r1)])) (hv_call Ty.cb31 (vs := [(ptr m_b m_o), (.int .i64 region), (.int .i64 3)]) rfl hr1) ?_
  refine hl_val rfl rfl (v := (.tuple #[(.pointer r0), (.int .i64 r1)])) (hv_move rfl) ?_
  refine hl_val rfl rfl (v := (.pointer r0)) (hv_extract (vs := #[(.pointer r0), (.int .i64 r1)]) rfl rfl) ?_
  refine hl_val rfl rfl (v := (.int .i64 r1)) (hv_extract (vs := #[(.pointer r0), (.int .i64 r1)]) rfl rfl) ?_
  refine hl_val rfl rfl (v := (.pointer r0)) (hv_assign rfl) ?_
  refine hl_val rfl rfl (v := (.int .i64 r1)) (hv_assign rfl) ?_
  refine hl_nil ?_
  refine seqQ_n ?_
  obtain ⟨A2, Hx6, Hy7⟩ := H
  refine hx_cut (fun ρ h' => A2 h' ∧ Has ρ [(6, (.int .i64 r1))]) ?_ ?_
  · have H := Hx6; clear Hx6 Hy7
    refine hx_seq ?_
    refine hx_region ?_
    refine hl_val rfl rfl (v := (.int .i64 r1)) (hv_move rfl) ?_
    refine hl_val rfl rfl (v := (.bool (r1 == 0))) (hv_arith rfl rfl rfl) ?_
    refine hl_nil ?_
    refine seqQ_n ?_
    refine hx_cond (b := r1 == 0) rfl (fun hb5 => ?_) (fun hb5 => ?_)
    · replace H := H.1 hb5
      refine hx_region ?_
      refine hl_val rfl rfl (v := (.pointer r0)) (hv_move rfl) ?_
      obtain ⟨r0_b, r0_o, hqe, Hq⟩ := H
      subst hqe
      have H := Hq; clear Hq
      refine hl_val rfl rfl (v := (ptr r0_b r0_o)) (hv_nil rfl) ?_
      refine hl_val rfl rfl (v := (ptr r0_b r0_o)) (hv_field Ty.fld31_0 (b := r0_b) (o := r0_o) rfl) ?_
      obtain ⟨hw3, H⟩ := H
      refine hl_step rfl rfl (hn_store (v := (.int .i64 4)) rfl rfl Ty.sz3 rfl hw3 ?_)
      intro h2 eh4
      replace H := H h2 eh4
      refine hl_nil ?_
      refine seqQ_n ?_
      exact ⟨H, (has_cons rfl has_nil)⟩
    · replace H := H.2 hb5
      refine hx_skip ?_
      refine seqQ_n ?_
      exact ⟨H, (has_cons rfl has_nil)⟩
  · rintro ρ h1 ⟨HA8, hH⟩
    have H := Hy7 h1 HA8; clear Hx6 Hy7
    refine hx_has _ hH ?_
    refine hx_seq ?_
    refine hx_region ?_
    refine hl_val rfl rfl (v := (.int .i64 r1)) (hv_move rfl) ?_
    refine hl_val rfl rfl (v := (.int .i64 r1)) (hv_assign rfl) ?_
    refine hl_nil ?_
    refine seqQ_n ?_
    refine hx_ret ?_
    exact endQ_ret _ (res_one Try.results24 (rv_tmp rfl)) H

/-- (*cellar/region.Manager).Free -/
theorem f25_sh (m_b : Nat) (m_o : Nat) (region : Int) (h : Heap) (R : Value → Heap → Prop)
    (H : (∃ r0 : Option Addr, ∃ r1 : Int, HC Try.prog 31 #[(ptr m_b m_o), (.int .i64 region), (.int .i64 4)] h (fun vv h' => vv = (.tuple #[(.pointer r0), (.int .i64 r1)]) ∧ h' = h) ∧ (((r1 != 0) = true → R (.int .i64 r1) h) ∧ ((r1 != 0) = false → (∃ r0_b r0_o : Nat, r0 = some ⟨r0_b, r0_o, none⟩ ∧ (∃ x : Int, hcell h r0_b (r0_o + 2) = some (.int .i64 x) ∧ (((decide (x > 0)) = true → R (.int .i64 92) h) ∧ ((decide (x > 0)) = false → (∃ x_1 : Int, hcell h r0_b (r0_o + 3) = some (.int .i64 x_1) ∧ (HWs h r0_b r0_o 4 ∧ ∀ h1, h1 = hsets h r0_b r0_o [(.int .i64 1), (.int .u64 0), (.int .i64 0), (.int .i64 (IntKind.i64.wrap ((if 2147483646 < x_1 then 2147483646 else x_1) + 1)))] → (∃ x_2 : Option Addr, ∃ x_n x_c : Nat, hcell h1 m_b (m_o + 1) = some (.slice x_2 x_n x_c) ∧ (∀ nb h2, nb = Array.size h1 → h2 = Array.push h1 (.cells #[(.int .i64 region)] 3) → HAppend Try.prog 50 50 (.slice x_2 x_n x_c) (.slice (some ⟨nb, 0, none⟩) 1 1) h2 (fun vv h3 => ∃ ap : Option Addr, ∃ ap_n ap_c : Nat, vv = (.slice ap ap_n ap_c) ∧ (HW h3 m_b (m_o + 1) ∧ ∀ h4, h4 = hset h3 m_b (m_o + 1) (.slice ap ap_n ap_c) → (∃ x_3 : Option Nat, hcell h4 m_b (m_o + 4) = some (.map x_3) ∧ (∃ x_3_m : Nat, x_3 = some x_3_m ∧ ∃ kv : List (Int × Value), MapL h4 x_3_m (Value.int .i64) kv ∧ ∀ h5, Only x_3_m h4 h5 → MapL h5 x_3_m (Value.int .i64) (kdel kv region) → R (.int .i64 0) h5)))))))))))))))) :
    HC Try.prog 25 #[(ptr m_b m_o), (.int .i64 region)] h R := by
  refine hc_of (args := [(ptr m_b m_o), (.int .i64 region)]) Try.func25 rfl Try.ntmps25 (Nat.le_of_ble_eq_true rfl) ?_
  refine hx_seq ?_
  refine hx_region ?_
  refine hl_val rfl rfl (v := (.int .i64 0)) (hv_assign rfl) ?_
  refine hl_nil ?_
  refine seqQ_n ?_
  refine hx_seq ?_
  refine hx_region ?_
  refine hl_val rfl rfl (v := (ptr m_b m_o)) (hv_move rfl) ?_
  refine hl_val rfl rfl (v := (.int .i64 region)) (hv_move rfl) ?_
  obtain ⟨r0, r1, hr1, H⟩ := H
  refine hl_val rfl rfl (v := (.tuple #[(.pointer r0), (.int .i64 r1)])) (hv_call Ty.cb31 (vs := [(ptr m_b m_o), (.int .i64 region), (.int .i64 4)]) rfl hr1) ?_
  refine hl_val rfl rfl (v := (.tuple #[(.pointer r0), (.int .i64 r1)])) (hv_move rfl) ?_
  refine hl_val rfl rfl (v := (.pointer r0)) (hv_extract (vs := #[(.pointer r0), (.int .i64 r1)]) rfl rfl) ?_
  refine hl_val rfl rfl (v := (.int .i64 r1)) (hv_extract (vs := #[(.pointer r0), (.int .i64 r1)]) rfl rfl) ?_
  refine hl_val rfl rfl (v := (.pointer r0)) (hv_assign rfl) ?_
  refine hl_val rfl rfl (v := (.int .i64 r1)) (hv_assign rfl) ?_
  refine hl_nil ?_
  refine seqQ_n ?_
  refine hx_seq ?_
  refine hx_block ?_
  refine hx_seq ?_
  refine hx_region ?_
  refine hl_val rfl rfl (v := (.int .i64 r1)) (hv_move rfl) ?_
  refine hl_val rfl rfl (v := (.bool (r1 != 0))) (hv_arith rfl rfl rfl) ?_
  refine hl_val rfl rfl (v := (.bool (r1 != 0))) (hv_assign rfl) ?_
  refine hl_nil ?_
  refine seqQ_n ?_
  refine hx_cond (b := r1 != 0) rfl (fun hb16 => ?_) (fun hb16 => ?_)
  · replace H := H.1 hb16
    refine hx_seq ?_
    refine hx_region ?_
    refine hl_val rfl rfl (v := (.int .i64 r1)) (hv_move rfl) ?_
    refine hl_val rfl rfl (v := (.int .i64 r1)) (hv_assign rfl) ?_
    refine hl_nil ?_
    refine seqQ_n ?_
    refine hx_ret ?_
    refine blockQ_ret ?_
    refine seqQ_ret ?_
    exact endQ_ret _ (res_one Try.results25 (rv_tmp rfl)) H
  · replace H := H.2 hb16
    refine hx_seq ?_
    refine hx_region ?_
    refine hl_val rfl rfl (v := (.pointer r0)) (hv_move rfl) ?_
    obtain ⟨r0_b, r0_o, hqe, Hq⟩ := H
    subst hqe
    have H := Hq; clear Hq
    refine hl_val rfl rfl (v := (ptr r0_b r0_o)) (hv_nil rfl) ?_
    refine hl_val rfl rfl (v := (ptr r0_b (r0_o + 2))) (hv_field Ty.fld31_2 (b := r0_b) (o := r0_o) rfl) ?_
    obtain ⟨x, hc15, H⟩ := H
    refine hl_val rfl rfl (v := (.int .i64 x)) (hv_load Ty.agg3 rfl hc15) ?_
    refine hl_val rfl rfl (v := (.bool (decide (x > 0)))) (hv_arith rfl rfl rfl) ?_
    refine hl_val rfl rfl (v := (.bool (decide (x > 0)))) (hv_assign rfl) ?_
    refine hl_nil ?_
    refine seqQ_n ?_
    refine hx_cond (b := decide (x > 0)) rfl (fun hb14 => ?_) (fun hb14 => ?_)
    · replace H := H.1 hb14
      refine hx_seq ?_
      refine hx_region ?_
      refine hl_val rfl rfl (v := (.int .i64 92)) (hv_assign rfl) ?_
      refine hl_nil ?_
      refine seqQ_n ?_
      refine hx_ret ?_
      refine blockQ_ret ?_
      refine seqQ_ret ?_
      exact endQ_ret _ (res_one Try.results25 (rv_tmp rfl)) H
    · replace H := H.2 hb14
      refine hx_skip ?_
      refine blockQ_n ?_
      refine seqQ_n ?_
      refine hx_seq ?_
      refine hx_region ?_
      refine hl_val rfl rfl (v := (ptr r0_b r0_o)) (hv_move rfl) ?_
      refine hl_val rfl rfl (v := (ptr r0_b r0_o)) (hv_move rfl) ?_
      refine hl_val rfl rfl (v := (ptr r0_b r0_o)) (hv_nil rfl) ?_
      refine hl_val rfl rfl (v := (ptr r0_b (r0_o + 3))) (hv_field Ty.fld31_3 (b := r0_b) (o := r0_o) rfl) ?_
      obtain ⟨x_1, hc13, H⟩ := H
      refine hl_val rfl rfl (v := (.int .i64 x_1)) (hv_load Ty.agg3 rfl hc13) ?_
      refine hl_val rfl rfl (v := (.int .i64 (if 2147483646 < x_1 then 2147483646 else x_1))) (hv_min rfl rfl) ?_
      refine hl_val rfl rfl (v := (.int .i64 (IntKind.i64.wrap ((if 2147483646 < x_1 then 2147483646 else x_1) + 1)))) (hv_arith rfl rfl rfl) ?_
      refine hl_val rfl rfl (v := (.agg #[(.int .i64 1), (.int .u64 0), (.int .i64 0), (.int .i64 (IntKind.i64.wrap ((if 2147483646 < x_1 then 2147483646 else x_1) + 1)))])) (hv_build (vs := [(0, (.int .i64 1)), (3, (.int .i64 (IntKind.i64.wrap ((if 2147483646 < x_1 then 2147483646 else x_1) + 1))))]) (cs := #[(.int .i64 1), (.int .u64 0), (.int .i64 0), (.int .i64 (IntKind.i64.wrap ((if 2147483646 < x_1 then 2147483646 else x_1) + 1)))]) Ty.z31 Ty.pl31 rfl (by kernel_rfl)) ?_
      refine hl_val rfl rfl (v := (ptr r0_b r0_o)) (hv_nil rfl) ?_
      obtain ⟨hw2, H⟩ := H
      refine hl_step rfl rfl (hn_stores (vs := [(.int .i64 1), (.int .u64 0), (.int .i64 0), (.int .i64 (IntKind.i64.wrap ((if 2147483646 < x_1 then 2147483646 else x_1) + 1)))]) rfl rfl Ty.sz31 rfl hw2 ?_)
      intro h1 eh3
      replace H := H h1 eh3
      refine hl_nil ?_
      refine seqQ_n ?_
      refine hx_seq ?_
      refine hx_region ?_
      refine hl_val rfl rfl (v := (ptr m_b m_o)) (hv_move rfl) ?_
      refine hl_val rfl rfl (v := (ptr m_b m_o)) (hv_move rfl) ?_
      refine hl_val rfl rfl (v := (ptr m_b m_o)) (hv_nil rfl) ?_
      refine hl_val rfl rfl (v := (ptr m_b (m_o + 1))) (hv_field Ty.fld67_1 (b := m_b) (o := m_o) rfl) ?_
      obtain ⟨x_2, x_n, x_c, hc12, H⟩ := H
      refine hl_val rfl rfl (v := (.slice x_2 x_n x_c)) (hv_load Ty.agg50 rfl hc12) ?_
      refine hl_val rfl rfl (v := (.int .i64 region)) (hv_move rfl) ?_
      refine hl_step rfl rfl (hn_buildSlice (n := 1) (vs := [(0, (.int .i64 region))]) (cs := #[(.int .i64 region)]) Ty.u50 Ty.sz3 Ty.z3 rfl rfl (by kernel_rfl) ?_)
      intro nb h2 eb4 eh5
      replace H := H nb h2 eb4 eh5
      refine hl_step rfl rfl (hs_append rfl rfl (HAppend.mono H ?_))
      rintro _ h3 ⟨ap, ap_n, ap_c, rfl, H⟩
      refine hl_val rfl rfl (v := (ptr m_b m_o)) (hv_nil rfl) ?_
      refine hl_val rfl rfl (v := (ptr m_b (m_o + 1))) (hv_field Ty.fld67_1 (b := m_b) (o := m_o) rfl) ?_
      obtain ⟨hw6, H⟩ := H
      refine hl_step rfl rfl (hn_store (v := (.slice ap ap_n ap_c)) rfl rfl Ty.sz50 rfl hw6 ?_)
      intro h4 eh7
      replace H := H h4 eh7
      refine hl_nil ?_
      refine seqQ_n ?_
      refine hx_seq ?_
      refine hx_region ?_
      refine hl_val rfl rfl (v := (ptr m_b m_o)) (hv_move rfl) ?_
      refine hl_val rfl rfl (v := (ptr m_b m_o)) (hv_nil rfl) ?_
      refine hl_val rfl rfl (v := (ptr m_b (m_o + 4))) (hv_field Ty.fld67_4 (b := m_b) (o := m_o) rfl) ?_
      obtain ⟨x_3, hc11, H⟩ := H
      refine hl_val rfl rfl (v := (.map x_3)) (hv_load Ty.agg65 rfl hc11) ?_
      refine hl_val rfl rfl (v := (.int .i64 region)) (hv_move rfl) ?_
      obtain ⟨x_3_m, hqe, Hq⟩ := H
      subst hqe
      have H := Hq; clear Hq
      obtain ⟨kv, mm8, H⟩ := H
      refine hl_step rfl rfl (hn_mapDel (l := kv) (a := region) (intK .i64) Ty.u65 Ty.u3 rfl rfl rfl mm8 ?_)
      intro h5 on9 mm10
      replace H := H h5 on9 mm10
      refine hl_nil ?_
      refine seqQ_n ?_
      refine hx_seq ?_
      refine hx_region ?_
      refine hl_val rfl rfl (v := (.int .i64 0)) (hv_assign rfl) ?_
      refine hl_nil ?_
      refine seqQ_n ?_
      refine hx_ret ?_
      exact endQ_ret _ (res_one Try.results25 (rv_tmp rfl)) H

/-- (*cellar/region.Manager).Pin -/
theorem f26_sh (m_b : Nat) (m_o : Nat) (region : Int) (h : Heap) (R : Value → Heap → Prop)
    (H : (∃ r0 : Option Addr, ∃ r1 : Int, HC Try.prog 31 #[(ptr m_b m_o), (.int .i64 region), (.int .i64 0)] h (fun vv h' => vv = (.tuple #[(.pointer r0), (.int .i64 r1)]) ∧ h' = h) ∧ (∃ j : Bool, (((r1 != 0) = true → (j = true)) ∧ ((r1 != 0) = false → (∃ r0_b r0_o : Nat, r0 = some ⟨r0_b, r0_o, none⟩ ∧ (∃ x : Int, hcell h r0_b r0_o = some (.int .i64 x) ∧ (((x == 1) = true → (j = true)) ∧ ((x == 1) = false → (∃ x_1 : Int, hcell h r0_b r0_o = some (.int .i64 x_1) ∧ (((x_1 == 4) = true → (j = true)) ∧ ((x_1 == 4) = false → (∃ x_2 : Int, hcell h r0_b (r0_o + 2) = some (.int .i64 x_2) ∧ (j = (decide (x_2 ≥ 2147483647))))))))))))) ∧ ((j = true → R (.bool false) h) ∧ (j = false → (∃ r0_b_1 r0_o_1 : Nat, r0 = some ⟨r0_b_1, r0_o_1, none⟩ ∧ (∃ x_3 : Int, hcell h r0_b_1 (r0_o_1 + 2) = some (.int .i64 x_3) ∧ (HW h r0_b_1 (r0_o_1 + 2) ∧ ∀ h1, h1 = hset h r0_b_1 (r0_o_1 + 2) (.int .i64 (IntKind.i64.wrap (x_3 + 1))) → R (.bool true) h1)))))))) :
    HC Try.prog 26 #[(ptr m_b m_o), (.int .i64 region)] h R := by
  refine hc_of (args := [(ptr m_b m_o), (.int .i64 region)]) Try.func26 rfl Try.ntmps26 (Nat.le_of_ble_eq_true rfl) ?_
  refine hx_seq ?_
  refine hx_region ?_
  refine hl_val rfl rfl (v := (.bool false)) (hv_assign rfl) ?_
  refine hl_nil ?_
  refine seqQ_n ?_
  refine hx_seq ?_
  refine hx_region ?_
  refine hl_val rfl rfl (v := (ptr m_b m_o)) (hv_move rfl) ?_
  refine hl_val rfl rfl (v := (.int .i64 region)) (hv_move rfl) ?_
  obtain ⟨r0, r1, hr1, H⟩ := H
  refine hl_val rfl rfl (v := (.tuple #[(.pointer r0), (.int .i64 r1)])) (hv_call Ty.cb31 (vs := [(ptr m_b m_o), (.int .i64 region), (.int .i64 0)]) rfl hr1) ?_
  refine hl_val rfl rfl (v := (.tuple #[(.pointer r0), (.int .i64 r1)])) (hv_move rfl) ?_
  refine hl_val rfl rfl (v := (.pointer r0)) (hv_extract (vs := #[(.pointer r0), (.int .i64 r1)]) rfl rfl) ?_
  refine hl_val rfl rfl (v := (.int .i64 r1)) (hv_extract (vs := #[(.pointer r0), (.int .i64 r1)]) rfl rfl) ?_
  refine hl_val rfl rfl (v := (.pointer r0)) (hv_assign rfl) ?_
  refine hl_val rfl rfl (v := (.int .i64 r1)) (hv_assign rfl) ?_
  refine hl_nil ?_
  refine seqQ_n ?_
  refine hx_seq ?_
  obtain ⟨j, Hx12, Hy13⟩ := H
  refine hx_cut (fun ρ h' => h = h' ∧ Has ρ [(5, (.pointer r0)), (35, (.bool j))]) ?_ ?_
  · have H := Hx12; clear Hx12 Hy13
    refine hx_region ?_
    refine hl_val rfl rfl (v := (.int .i64 r1)) (hv_move rfl) ?_
    refine hl_val rfl rfl (v := (.bool (r1 != 0))) (hv_arith rfl rfl rfl) ?_
    refine hl_val rfl rfl (v := (.bool (r1 != 0))) (hv_move rfl) ?_
    rcases bool_or (r1 != 0) with hg2 | hg2
    · replace H := H.1 hg2
      refine hl_no (wanted_n rfl rfl rfl hg2) rfl ?_
      refine hl_no (wanted_n rfl rfl rfl hg2) rfl ?_
      refine hl_no (wanted_n rfl rfl rfl hg2) rfl ?_
      refine hl_no (wanted_n rfl rfl rfl hg2) rfl ?_
      refine hl_no (wanted_n rfl rfl rfl hg2) rfl ?_
      refine hl_val rfl rfl (v := (.bool true)) (hv_pick_t rfl hg2 rfl) ?_
      refine hl_val rfl rfl (v := (.bool true)) (hv_move rfl) ?_
      refine hl_no (wanted_n rfl rfl (c := true) rfl rfl) rfl ?_
      refine hl_no (wanted_n rfl rfl (c := true) rfl rfl) rfl ?_
      refine hl_no (wanted_n rfl rfl (c := true) rfl rfl) rfl ?_
      refine hl_no (wanted_n rfl rfl (c := true) rfl rfl) rfl ?_
      refine hl_no (wanted_n rfl rfl (c := true) rfl rfl) rfl ?_
      refine hl_val rfl rfl (v := (.bool true)) (hv_pick (t := true) rfl rfl) ?_
      refine hl_val rfl rfl (v := (.bool true)) (hv_move rfl) ?_
      refine hl_no (wanted_n rfl rfl (c := true) rfl rfl) rfl ?_
      refine hl_no (wanted_n rfl rfl (c := true) rfl rfl) rfl ?_
      refine hl_no (wanted_n rfl rfl (c := true) rfl rfl) rfl ?_
      refine hl_no (wanted_n rfl rfl (c := true) rfl rfl) rfl ?_
      refine hl_no (wanted_n rfl rfl (c := true) rfl rfl) rfl ?_
      refine hl_val rfl rfl (v := (.bool true)) (hv_pick (t := true) rfl rfl) ?_
      refine hl_nil ?_
      refine seqQ_n ?_
      obtain rfl := H
      exact ⟨rfl, (has_cons rfl (has_cons rfl has_nil))⟩
    · replace H := H.2 hg2
      refine hl_yes (wanted_y rfl rfl rfl hg2) rfl (HStep.of_val (v := (.pointer r0)) (hv_move rfl) ?_)
      obtain ⟨r0_b, r0_o, hqe, Hq⟩ := H
      subst hqe
      have H := Hq; clear Hq
      refine hl_yes (wanted_y rfl rfl rfl hg2) rfl (HStep.of_val (v := (ptr r0_b r0_o)) (hv_nil rfl) ?_)
      refine hl_yes (wanted_y rfl rfl rfl hg2) rfl (HStep.of_val (v := (ptr r0_b r0_o)) (hv_field Ty.fld31_0 (b := r0_b) (o := r0_o) rfl) ?_)
      obtain ⟨x, hc7, H⟩ := H
      refine hl_yes (wanted_y rfl rfl rfl hg2) rfl (HStep.of_val (v := (.int .i64 x)) (hv_load Ty.agg3 rfl hc7) ?_)
      refine hl_yes (wanted_y rfl rfl rfl hg2) rfl (HStep.of_val (v := (.bool (x == 1))) (hv_arith rfl rfl rfl) ?_)
      refine hl_val rfl rfl (v := (.bool (x == 1))) (hv_pick_f rfl hg2 rfl) ?_
      refine hl_val rfl rfl (v := (.bool (x == 1))) (hv_move rfl) ?_
      rcases bool_or (x == 1) with hg3 | hg3
      · replace H := H.1 hg3
        refine hl_no (wanted_n rfl rfl rfl hg3) rfl ?_
        refine hl_no (wanted_n rfl rfl rfl hg3) rfl ?_
        refine hl_no (wanted_n rfl rfl rfl hg3) rfl ?_
        refine hl_no (wanted_n rfl rfl rfl hg3) rfl ?_
        refine hl_no (wanted_n rfl rfl rfl hg3) rfl ?_
        refine hl_val rfl rfl (v := (.bool true)) (hv_pick_t rfl hg3 rfl) ?_
        refine hl_val rfl rfl (v := (.bool true)) (hv_move rfl) ?_
        refine hl_no (wanted_n rfl rfl (c := true) rfl rfl) rfl ?_
        refine hl_no (wanted_n rfl rfl (c := true) rfl rfl) rfl ?_
        refine hl_no (wanted_n rfl rfl (c := true) rfl rfl) rfl ?_
        refine hl_no (wanted_n rfl rfl (c := true) rfl rfl) rfl ?_
        refine hl_no (wanted_n rfl rfl (c := true) rfl rfl) rfl ?_
        refine hl_val rfl rfl (v := (.bool true)) (hv_pick (t := true) rfl rfl) ?_
        refine hl_nil ?_
        refine seqQ_n ?_
        obtain rfl := H
        exact ⟨rfl, (has_cons rfl (has_cons rfl has_nil))⟩
      · replace H := H.2 hg3
        refine hl_yes (wanted_y rfl rfl rfl hg3) rfl (HStep.of_val (v := (ptr r0_b r0_o)) (hv_move rfl) ?_)
        refine hl_yes (wanted_y rfl rfl rfl hg3) rfl (HStep.of_val (v := (ptr r0_b r0_o)) (hv_nil rfl) ?_)
        refine hl_yes (wanted_y rfl rfl rfl hg3) rfl (HStep.of_val (v := (ptr r0_b r0_o)) (hv_field Ty.fld31_0 (b := r0_b) (o := r0_o) rfl) ?_)
        obtain ⟨x_1, hc6, H⟩ := H
        refine hl_yes (wanted_y rfl rfl rfl hg3) rfl (HStep.of_val (v := (.int .i64 x_1)) (hv_load Ty.agg3 rfl hc6) ?_)
        refine hl_yes (wanted_y rfl rfl rfl hg3) rfl (HStep.of_val (v := (.bool (x_1 == 4))) (hv_arith rfl rfl rfl) ?_)
        refine hl_val rfl rfl (v := (.bool (x_1 == 4))) (hv_pick_f rfl hg3 rfl) ?_
        refine hl_val rfl rfl (v := (.bool (x_1 == 4))) (hv_move rfl) ?_
        rcases bool_or (x_1 == 4) with hg4 | hg4
        · replace H := H.1 hg4
          refine hl_no (wanted_n rfl rfl rfl hg4) rfl ?_
          refine hl_no (wanted_n rfl rfl rfl hg4) rfl ?_
          refine hl_no (wanted_n rfl rfl rfl hg4) rfl ?_
          refine hl_no (wanted_n rfl rfl rfl hg4) rfl ?_
          refine hl_no (wanted_n rfl rfl rfl hg4) rfl ?_
          refine hl_val rfl rfl (v := (.bool true)) (hv_pick_t rfl hg4 rfl) ?_
          refine hl_nil ?_
          refine seqQ_n ?_
          obtain rfl := H
          exact ⟨rfl, (has_cons rfl (has_cons rfl has_nil))⟩
        · replace H := H.2 hg4
          refine hl_yes (wanted_y rfl rfl rfl hg4) rfl (HStep.of_val (v := (ptr r0_b r0_o)) (hv_move rfl) ?_)
          refine hl_yes (wanted_y rfl rfl rfl hg4) rfl (HStep.of_val (v := (ptr r0_b r0_o)) (hv_nil rfl) ?_)
          refine hl_yes (wanted_y rfl rfl rfl hg4) rfl (HStep.of_val (v := (ptr r0_b (r0_o + 2))) (hv_field Ty.fld31_2 (b := r0_b) (o := r0_o) rfl) ?_)
          obtain ⟨x_2, hc5, H⟩ := H
          refine hl_yes (wanted_y rfl rfl rfl hg4) rfl (HStep.of_val (v := (.int .i64 x_2)) (hv_load Ty.agg3 rfl hc5) ?_)
          refine hl_yes (wanted_y rfl rfl rfl hg4) rfl (HStep.of_val (v := (.bool (decide (x_2 ≥ 2147483647)))) (hv_arith rfl rfl rfl) ?_)
          refine hl_val rfl rfl (v := (.bool (decide (x_2 ≥ 2147483647)))) (hv_pick_f rfl hg4 rfl) ?_
          refine hl_nil ?_
          refine seqQ_n ?_
          obtain rfl := H
          exact ⟨rfl, (has_cons rfl (has_cons rfl has_nil))⟩
  · have H := Hy13; clear Hx12 Hy13
    rintro ρ _ ⟨rfl, hH⟩
    refine hx_has _ hH ?_
    refine hx_cond (b := j) rfl (fun hb11 => ?_) (fun hb11 => ?_)
    · replace H := H.1 hb11
      refine hx_seq ?_
      refine hx_region ?_
      refine hl_val rfl rfl (v := (.bool false)) (hv_assign rfl) ?_
      refine hl_nil ?_
      refine seqQ_n ?_
      refine hx_ret ?_
      refine seqQ_ret ?_
      exact endQ_ret _ (res_one Try.results26 (rv_tmp rfl)) H
    · replace H := H.2 hb11
      refine hx_skip ?_
      refine seqQ_n ?_
      refine hx_seq ?_
      refine hx_region ?_
      refine hl_val rfl rfl (v := (.pointer r0)) (hv_move rfl) ?_
      obtain ⟨r0_b_1, r0_o_1, hqe, Hq⟩ := H
      subst hqe
      have H := Hq; clear Hq
      refine hl_val rfl rfl (v := (ptr r0_b_1 r0_o_1)) (hv_nil rfl) ?_
      refine hl_val rfl rfl (v := (ptr r0_b_1 (r0_o_1 + 2))) (hv_field Ty.fld31_2 (b := r0_b_1) (o := r0_o_1) rfl) ?_
      obtain ⟨x_3, hc10, H⟩ := H
      refine hl_val rfl rfl (v := (.int .i64 x_3)) (hv_load Ty.agg3 rfl hc10) ?_
      refine hl_val rfl rfl (v := (.int .i64 (IntKind.i64.wrap (x_3 + 1)))) (hv_arith rfl rfl rfl) ?_
      refine hl_val rfl rfl (v := (ptr r0_b_1 r0_o_1)) (hv_nil rfl) ?_
      refine hl_val rfl rfl (v := (ptr r0_b_1 (r0_o_1 + 2))) (hv_field Ty.fld31_2 (b := r0_b_1) (o := r0_o_1) rfl) ?_
      obtain ⟨hw8, H⟩ := H
      refine hl_step rfl rfl (hn_store (v := (.int .i64 (IntKind.i64.wrap (x_3 + 1)))) rfl rfl Ty.sz3 rfl hw8 ?_)
      intro h1 eh9
      replace H := H h1 eh9
      refine hl_nil ?_
      refine seqQ_n ?_
      refine hx_seq ?_
      refine hx_region ?_
      refine hl_val rfl rfl (v := (.bool true)) (hv_assign rfl) ?_
      refine hl_nil ?_
      refine seqQ_n ?_
      refine hx_ret ?_
      exact endQ_ret _ (res_one Try.results26 (rv_tmp rfl)) H

/-- (*cellar/region.Manager).Drain -/
theorem f21_sh (m_b : Nat) (m_o : Nat) (task : Int) (region : Int) (h : Heap) (R : Value → Heap → Prop)
    (H : (∃ r0 : Option Addr, ∃ r1 : Int, HC Try.prog 31 #[(ptr m_b m_o), (.int .i64 region), (.int .i64 4)] h (fun vv h' => vv = (.tuple #[(.pointer r0), (.int .i64 r1)]) ∧ h' = h) ∧ (((r1 != 0) = true → R (.tuple #[(.bool false), (.int .i64 r1)]) h) ∧ ((r1 != 0) = false → (∃ r0_b r0_o : Nat, r0 = some ⟨r0_b, r0_o, none⟩ ∧ (∃ x : Int, hcell h r0_b (r0_o + 2) = some (.int .i64 x) ∧ (((x == 0) = true → R (.tuple #[(.bool true), (.int .i64 0)]) h) ∧ ((x == 0) = false → (∃ A2 : Heap → Prop, (∃ x_1 : Option Nat, hcell h m_b (m_o + 4) = some (.map x_1) ∧ (∃ x_1_m : Nat, x_1 = some x_1_m ∧ ∃ kv : List (Int × Value), MapL h x_1_m (Value.int .i64) kv ∧ ∃ x_2 : Option Addr, ∃ x_n x_c : Nat, (lk kv region).getD (.slice none 0 0) = (.slice x_2 x_n x_c) ∧ HC Try.prog 47 #[(.slice x_2 x_n x_c), (.int .i64 task)] h (fun vv h2 => ∃ r : Bool, vv = (.bool r) ∧ (((!r) = true → (∃ T5 : Heap → Heap → Prop, Fit T5 ∧ (∃ x_3 : Option Nat, (∀ hx, T5 h2 hx → hcell hx m_b (m_o + 4) = some (.map x_3)) ∧ (∃ x_4 : Option Nat, hcell h2 m_b (m_o + 4) = some (.map x_4) ∧ (∃ x_4_m : Nat, x_4 = some x_4_m ∧ ∃ kv_1 : List (Int × Value), MapL h2 x_4_m (Value.int .i64) kv_1 ∧ ∃ x_5 : Option Addr, ∃ x_n_1 x_c_1 : Nat, (lk kv_1 region).getD (.slice none 0 0) = (.slice x_5 x_n_1 x_c_1) ∧ (∀ nb h3, nb = Array.size h2 → h3 = Array.push h2 (.cells #[(.int .i64 task)] 3) → HAppend Try.prog 50 50 (.slice x_5 x_n_1 x_c_1) (.slice (some ⟨nb, 0, none⟩) 1 1) h3 (fun vv h4 => ∃ ap : Option Addr, ∃ ap_n ap_c : Nat, vv = (.slice ap ap_n ap_c) ∧ T5 h3 h4 ∧ (∃ x_3_m : Nat, x_3 = some x_3_m ∧ ∃ kv_2 : List (Int × Value), MapL h4 x_3_m (Value.int .i64) kv_2 ∧ ∀ h5, Only x_3_m h4 h5 → MapL h5 x_3_m (Value.int .i64) (kput kv_2 region (.slice ap ap_n ap_c)) → (A2 h5))))))))) ∧ ((!r) = false → (A2 h2)))))) ∧ (∀ (h1 : Heap), A2 h1 → R (.tuple #[(.bool false), (.int .i64 0)]) h1)))))))))) :
    HC Try.prog 21 #[(ptr m_b m_o), (.int .i64 task), (.int .i64 region)] h R := by
  refine hc_of (args := [(ptr m_b m_o), (.int .i64 task), (.int .i64 region)]) Try.func21 rfl Try.ntmps21 (Nat.le_of_ble_eq_true rfl) ?_
  refine hx_seq ?_
  refine hx_region ?_
  refine hl_val rfl rfl (v := (.bool false)) (hv_assign rfl) ?_
  refine hl_val rfl rfl (v := (.int .i64 0)) (hv_assign rfl) ?_
  refine hl_nil ?_
  refine seqQ_n ?_
  refine hx_seq ?_
  refine hx_region ?_
  refine hl_val rfl rfl (v := (ptr m_b m_o)) (hv_move rfl) ?_
  refine hl_val rfl rfl (v := (.int .i64 region)) (hv_move rfl) ?_
  obtain ⟨r0, r1, hr1, H⟩ := H
  refine hl_val rfl rfl (v := (.tuple #[(.pointer r0), (.int .i64 r1)])) (hv_call Ty.cb31 (vs := [(ptr m_b m_o), (.int .i64 region), (.int .i64 4)]) rfl hr1) ?_
  refine hl_val rfl rfl (v := (.tuple #[(.pointer r0), (.int .i64 r1)])) (hv_move rfl) ?_
  refine hl_val rfl rfl (v := (.pointer r0)) (hv_extract (vs := #[(.pointer r0), (.int .i64 r1)]) rfl rfl) ?_
  refine hl_val rfl rfl (v := (.int .i64 r1)) (hv_extract (vs := #[(.pointer r0), (.int .i64 r1)]) rfl rfl) ?_
  refine hl_val rfl rfl (v := (.pointer r0)) (hv_assign rfl) ?_
  refine hl_val rfl rfl (v := (.int .i64 r1)) (hv_assign rfl) ?_
  refine hl_nil ?_
  refine seqQ_n ?_
  refine hx_seq ?_
  refine hx_block ?_
  refine hx_seq ?_
  refine hx_region ?_
  refine hl_val rfl rfl (v := (.int .i64 r1)) (hv_move rfl) ?_
  refine hl_val rfl rfl (v := (.bool (r1 != 0))) (hv_arith rfl rfl rfl) ?_
  refine hl_val rfl rfl (v := (.bool (r1 != 0))) (hv_assign rfl) ?_
  refine hl_nil ?_
  refine seqQ_n ?_
  refine hx_cond (b := r1 != 0) rfl (fun hb24 => ?_) (fun hb24 => ?_)
  · replace H := H.1 hb24
    refine hx_seq ?_
    refine hx_region ?_
    refine hl_val rfl rfl (v := (.int .i64 r1)) (hv_move rfl) ?_
    refine hl_val rfl rfl (v := (.bool false)) (hv_assign rfl) ?_
    refine hl_val rfl rfl (v := (.int .i64 r1)) (hv_assign rfl) ?_
    refine hl_nil ?_
    refine seqQ_n ?_
    refine hx_ret ?_
    refine blockQ_ret ?_
    refine seqQ_ret ?_
    exact endQ_ret _ (res_two Try.results21 (rv_tmp rfl) (rv_tmp rfl)) H
  · replace H := H.2 hb24
    refine hx_seq ?_
    refine hx_region ?_
    refine hl_val rfl rfl (v := (.pointer r0)) (hv_move rfl) ?_
    obtain ⟨r0_b, r0_o, hqe, Hq⟩ := H
    subst hqe
    have H := Hq; clear Hq
    refine hl_val rfl rfl (v := (ptr r0_b r0_o)) (hv_nil rfl) ?_
    refine hl_val rfl rfl (v := (ptr r0_b (r0_o + 2))) (hv_field Ty.fld31_2 (b := r0_b) (o := r0_o) rfl) ?_
    obtain ⟨x, hc23, H⟩ := H
    refine hl_val rfl rfl (v := (.int .i64 x)) (hv_load Ty.agg3 rfl hc23) ?_
    refine hl_val rfl rfl (v := (.bool (x == 0))) (hv_arith rfl rfl rfl) ?_
    refine hl_val rfl rfl (v := (.bool (x == 0))) (hv_assign rfl) ?_
    refine hl_nil ?_
    refine seqQ_n ?_
    refine hx_cond (b := x == 0) rfl (fun hb22 => ?_) (fun hb22 => ?_)
    · replace H := H.1 hb22
      refine hx_seq ?_
      refine hx_region ?_
      refine hl_val rfl rfl (v := (.bool true)) (hv_assign rfl) ?_
      refine hl_val rfl rfl (v := (.int .i64 0)) (hv_assign rfl) ?_
      refine hl_nil ?_
      refine seqQ_n ?_
      refine hx_ret ?_
      refine blockQ_ret ?_
      refine seqQ_ret ?_
      exact endQ_ret _ (res_two Try.results21 (rv_tmp rfl) (rv_tmp rfl)) H
    · replace H := H.2 hb22
      refine hx_skip ?_
      refine blockQ_n ?_
      refine seqQ_n ?_
      obtain ⟨A2, Hx19, Hy20⟩ := H
      refine hx_cut (fun ρ h' => A2 h' ∧ Has ρ []) ?_ ?_
      · have H := Hx19; clear Hx19 Hy20
        refine hx_seq ?_
        refine hx_region ?_
        refine hl_val rfl rfl (v := (ptr m_b m_o)) (hv_move rfl) ?_
        refine hl_val rfl rfl (v := (ptr m_b m_o)) (hv_nil rfl) ?_
        refine hl_val rfl rfl (v := (ptr m_b (m_o + 4))) (hv_field Ty.fld67_4 (b := m_b) (o := m_o) rfl) ?_
        obtain ⟨x_1, hc18, H⟩ := H
        refine hl_val rfl rfl (v := (.map x_1)) (hv_load Ty.agg65 rfl hc18) ?_
        refine hl_val rfl rfl (v := (.int .i64 region)) (hv_move rfl) ?_
        obtain ⟨x_1_m, hqe, Hq⟩ := H
        subst hqe
        have H := Hq; clear Hq
        obtain ⟨kv, mm3, x_2, x_n, x_c, hv4, H⟩ := H
        refine hl_val rfl rfl (v := (.slice x_2 x_n x_c)) (hv_look (l := kv) (a := region) (intK .i64) Ty.u65 Ty.u3 Ty.z50 rfl rfl mm3 hv4) ?_
        refine hl_val rfl rfl (v := (.int .i64 task)) (hv_move rfl) ?_
        refine hl_step rfl rfl (hs_call Ty.cb47 (vs := [(.slice x_2 x_n x_c), (.int .i64 task)]) rfl (HC.mono H ?_))
        rintro _ h2 ⟨r, rfl, H⟩
        refine hl_val rfl rfl (v := (.bool (!r))) (hv_not (b := r) rfl) ?_
        refine hl_nil ?_
        refine seqQ_n ?_
        refine hx_cond (b := !r) rfl (fun hb17 => ?_) (fun hb17 => ?_)
        · replace H := H.1 hb17
          obtain ⟨T5, hT6, H⟩ := H
          refine hx_drawT Ty.mixed T5 hT6 [.pure, .pure, .pure, .stay, .pure, .pure, .pure, .pure, .read, .pure, .read, .pure, .ext, .tame, .wild] [0, 1, 2, 3, 4, 5, 6, 7, 8, 9, 10, 11, 12, 13, 14] (by kernel_rfl) ?_
          refine hp_pure (i := 0) rfl (wanted_0 rfl) rfl (ptr m_b m_o) (fun _ => hv_move rfl) ?_
          refine hp_pure (i := 1) rfl (wanted_0 rfl) rfl (ptr m_b m_o) (fun _ => hv_nil rfl) ?_
          refine hp_pure (i := 2) rfl (wanted_0 rfl) rfl (ptr m_b (m_o + 4)) (fun _ => hv_field Ty.fld67_4 (b := m_b) (o := m_o) rfl) ?_
          obtain ⟨x_3, hc16, H⟩ := H
          refine hp_stay (i := 3) rfl (wanted_0 rfl) rfl (.map x_3) (fun _ he => hv_load Ty.agg65 rfl (hc16 _ he)) ?_
          refine hp_pure (i := 4) rfl (wanted_0 rfl) rfl (.int .i64 region) (fun _ => hv_move rfl) ?_
          refine hp_pure (i := 5) rfl (wanted_0 rfl) rfl (ptr m_b m_o) (fun _ => hv_move rfl) ?_
          refine hp_pure (i := 6) rfl (wanted_0 rfl) rfl (ptr m_b m_o) (fun _ => hv_nil rfl) ?_
          refine hp_pure (i := 7) rfl (wanted_0 rfl) rfl (ptr m_b (m_o + 4)) (fun _ => hv_field Ty.fld67_4 (b := m_b) (o := m_o) rfl) ?_
          obtain ⟨x_4, hc15, H⟩ := H
          refine hp_read (i := 8) rfl (wanted_0 rfl) rfl (.map x_4) (fun _ he => hv_load Ty.agg65 rfl (he.cell hc15)) ?_
          refine hp_pure (i := 9) rfl (wanted_0 rfl) rfl (.int .i64 region) (fun _ => hv_move rfl) ?_
          obtain ⟨x_4_m, hqe, Hq⟩ := H
          subst hqe
          have H := Hq; clear Hq
          obtain ⟨kv_1, mm7, x_5, x_n_1, x_c_1, hv8, H⟩ := H
          refine hp_read (i := 10) rfl (wanted_0 rfl) rfl (.slice x_5 x_n_1 x_c_1) (fun _ he => hv_look (l := kv_1) (a := region) (intK .i64) Ty.u65 Ty.u3 Ty.z50 rfl rfl (MapL.ext he mm7) hv8) ?_
          refine hp_pure (i := 11) rfl (wanted_0 rfl) rfl (.int .i64 task) (fun _ => hv_move rfl) ?_
          refine hp_ext (i := 12) rfl (wanted_0 rfl) rfl (hn_buildSlice (n := 1) (vs := [(0, (.int .i64 task))]) (cs := #[(.int .i64 task)]) Ty.u50 Ty.sz3 Ty.z3 rfl rfl (by kernel_rfl) ?_)
          intro nb h3 eb9 eh10
          replace H := H nb h3 eb9 eh10
          refine ⟨by rw [eh10]; exact Ext.push _ _, ?_⟩
          refine hp_tame (i := 13) rfl (wanted_0 rfl) rfl (hs_append rfl rfl (HAppend.mono H ?_))
          rintro _ h4 ⟨ap, ap_n, ap_c, rfl, ht14, H⟩
          refine ⟨ht14, ?_⟩
          obtain ⟨x_3_m, hqe, Hq⟩ := H
          subst hqe
          have H := Hq; clear Hq
          obtain ⟨kv_2, mm11, H⟩ := H
          refine hp_wild (i := 14) rfl (wanted_0 rfl) rfl (hn_mapPut (l := kv_2) (a := region) (intK .i64) Ty.u65 Ty.u3 rfl rfl rfl mm11 ?_)
          intro h5 on12 mm13
          replace H := H h5 on12 mm13
          refine hp_nil ?_
          refine seqQ_n ?_
          exact ⟨H, has_nil⟩
        · replace H := H.2 hb17
          refine hx_skip ?_
          refine seqQ_n ?_
          exact ⟨H, has_nil⟩
      · rintro ρ h1 ⟨HA21, hH⟩
        have H := Hy20 h1 HA21; clear Hx19 Hy20
        refine hx_has _ hH ?_
        refine hx_seq ?_
        refine hx_region ?_
        refine hl_val rfl rfl (v := (.bool false)) (hv_assign rfl) ?_
        refine hl_val rfl rfl (v := (.int .i64 0)) (hv_assign rfl) ?_
        refine hl_nil ?_
        refine seqQ_n ?_
        refine hx_ret ?_
        exact endQ_ret _ (res_two Try.results21 (rv_tmp rfl) (rv_tmp rfl)) H

/-- (*cellar/region.Manager).Unpin -/
theorem f22_sh (m_b : Nat) (m_o : Nat) (region : Int) (h : Heap) (R : Value → Heap → Prop)
    (H : (∃ r0 : Option Addr, ∃ r1 : Int, HC Try.prog 31 #[(ptr m_b m_o), (.int .i64 region), (.int .i64 0)] h (fun vv h' => vv = (.tuple #[(.pointer r0), (.int .i64 r1)]) ∧ h' = h) ∧ (((r1 != 0) = true → R (.tuple #[(.slice none 0 0), (.int .i64 r1)]) h) ∧ ((r1 != 0) = false → (∃ r0_b r0_o : Nat, r0 = some ⟨r0_b, r0_o, none⟩ ∧ (∃ x : Int, hcell h r0_b (r0_o + 2) = some (.int .i64 x) ∧ (((x == 0) = true → R (.tuple #[(.slice none 0 0), (.int .i64 92)]) h) ∧ ((x == 0) = false → (∃ x_1 : Int, hcell h r0_b (r0_o + 2) = some (.int .i64 x_1) ∧ (HW h r0_b (r0_o + 2) ∧ ∀ h1, h1 = hset h r0_b (r0_o + 2) (.int .i64 (IntKind.i64.wrap (x_1 - 1))) → (∃ j : Bool, (∃ x_2 : Int, hcell h1 r0_b r0_o = some (.int .i64 x_2) ∧ (((x_2 != 4) = true → (j = true)) ∧ ((x_2 != 4) = false → (∃ x_3 : Int, hcell h1 r0_b (r0_o + 2) = some (.int .i64 x_3) ∧ (j = (decide (x_3 > 0))))))) ∧ ((j = true → R (.tuple #[(.slice none 0 0), (.int .i64 0)]) h1) ∧ (j = false → (∃ x_4 : Option Nat, hcell h1 m_b (m_o + 4) = some (.map x_4) ∧ (∃ x_4_m : Nat, x_4 = some x_4_m ∧ ∃ kv : List (Int × Value), MapL h1 x_4_m (Value.int .i64) kv ∧ ∃ x_5 : Option Addr, ∃ x_n x_c : Nat, (lk kv region).getD (.slice none 0 0) = (.slice x_5 x_n x_c) ∧ (∃ x_6 : Option Nat, hcell h1 m_b (m_o + 4) = some (.map x_6) ∧ (∃ x_6_m : Nat, x_6 = some x_6_m ∧ ∃ kv_1 : List (Int × Value), MapL h1 x_6_m (Value.int .i64) kv_1 ∧ ∀ h2, Only x_6_m h1 h2 → MapL h2 x_6_m (Value.int .i64) (kdel kv_1 region) → R (.tuple #[(.slice x_5 x_n x_c), (.int .i64 0)]) h2))))))))))))))))) :
    HC Try.prog 22 #[(ptr m_b m_o), (.int .i64 region)] h R := by
  refine hc_of (args := [(ptr m_b m_o), (.int .i64 region)]) Try.func22 rfl Try.ntmps22 (Nat.le_of_ble_eq_true rfl) ?_
  refine hx_seq ?_
  refine hx_region ?_
  refine hl_val rfl rfl (v := (.slice none 0 0)) (hv_assign rfl) ?_
  refine hl_val rfl rfl (v := (.int .i64 0)) (hv_assign rfl) ?_
  refine hl_nil ?_
  refine seqQ_n ?_
  refine hx_seq ?_
  refine hx_region ?_
  refine hl_val rfl rfl (v := (ptr m_b m_o)) (hv_move rfl) ?_
  refine hl_val rfl rfl (v := (.int .i64 region)) (hv_move rfl) ?_
  obtain ⟨r0, r1, hr1, H⟩ := H
  refine hl_val rfl rfl (v := (.tuple #[(.pointer r0), (.int .i64 r1)])) (hv_call Ty.cb31 (vs := [(ptr m_b m_o), (.int .i64 region), (.int .i64 0)]) rfl hr1) ?_
  refine hl_val rfl rfl (v := (.tuple #[(.pointer r0), (.int .i64 r1)])) (hv_move rfl) ?_
  refine hl_val rfl rfl (v := (.pointer r0)) (hv_extract (vs := #[(.pointer r0), (.int .i64 r1)]) rfl rfl) ?_
  refine hl_val rfl rfl (v := (.int .i64 r1)) (hv_extract (vs := #[(.pointer r0), (.int .i64 r1)]) rfl rfl) ?_
  refine hl_val rfl rfl (v := (.pointer r0)) (hv_assign rfl) ?_
  refine hl_val rfl rfl (v := (.int .i64 r1)) (hv_assign rfl) ?_
  refine hl_nil ?_
  refine seqQ_n ?_
  refine hx_seq ?_
  refine hx_block ?_
  refine hx_seq ?_
  refine hx_region ?_
  refine hl_val rfl rfl (v := (.int .i64 r1)) (hv_move rfl) ?_
  refine hl_val rfl rfl (v := (.bool (r1 != 0))) (hv_arith rfl rfl rfl) ?_
  refine hl_val rfl rfl (v := (.bool (r1 != 0))) (hv_assign rfl) ?_
  refine hl_nil ?_
  refine seqQ_n ?_
  refine hx_cond (b := r1 != 0) rfl (fun hb20 => ?_) (fun hb20 => ?_)
  · replace H := H.1 hb20
    refine hx_seq ?_
    refine hx_region ?_
    refine hl_val rfl rfl (v := (.int .i64 r1)) (hv_move rfl) ?_
    refine hl_val rfl rfl (v := (.slice none 0 0)) (hv_assign rfl) ?_
    refine hl_val rfl rfl (v := (.int .i64 r1)) (hv_assign rfl) ?_
    refine hl_nil ?_
    refine seqQ_n ?_
    refine hx_ret ?_
    refine blockQ_ret ?_
    refine seqQ_ret ?_
    exact endQ_ret _ (res_two Try.results22 (rv_tmp rfl) (rv_tmp rfl)) H
  · replace H := H.2 hb20
    refine hx_seq ?_
    refine hx_region ?_
    refine hl_val rfl rfl (v := (.pointer r0)) (hv_move rfl) ?_
    obtain ⟨r0_b, r0_o, hqe, Hq⟩ := H
    subst hqe
    have H := Hq; clear Hq
    refine hl_val rfl rfl (v := (ptr r0_b r0_o)) (hv_nil rfl) ?_
    refine hl_val rfl rfl (v := (ptr r0_b (r0_o + 2))) (hv_field Ty.fld31_2 (b := r0_b) (o := r0_o) rfl) ?_
    obtain ⟨x, hc19, H⟩ := H
    refine hl_val rfl rfl (v := (.int .i64 x)) (hv_load Ty.agg3 rfl hc19) ?_
    refine hl_val rfl rfl (v := (.bool (x == 0))) (hv_arith rfl rfl rfl) ?_
    refine hl_val rfl rfl (v := (.bool (x == 0))) (hv_assign rfl) ?_
    refine hl_nil ?_
    refine seqQ_n ?_
    refine hx_cond (b := x == 0) rfl (fun hb18 => ?_) (fun hb18 => ?_)
    · replace H := H.1 hb18
      refine hx_seq ?_
      refine hx_region ?_
      refine hl_val rfl rfl (v := (.slice none 0 0)) (hv_assign rfl) ?_
      refine hl_val rfl rfl (v := (.int .i64 92)) (hv_assign rfl) ?_
      refine hl_nil ?_
      refine seqQ_n ?_
      refine hx_ret ?_
      refine blockQ_ret ?_
      refine seqQ_ret ?_
      exact endQ_ret _ (res_two Try.results22 (rv_tmp rfl) (rv_tmp rfl)) H
    · replace H := H.2 hb18
      refine hx_skip ?_
      refine blockQ_n ?_
      refine seqQ_n ?_
      refine hx_seq ?_
      refine hx_region ?_
      refine hl_val rfl rfl (v := (ptr r0_b r0_o)) (hv_move rfl) ?_
      refine hl_val rfl rfl (v := (ptr r0_b r0_o)) (hv_nil rfl) ?_
      refine hl_val rfl rfl (v := (ptr r0_b (r0_o + 2))) (hv_field Ty.fld31_2 (b := r0_b) (o := r0_o) rfl) ?_
      obtain ⟨x_1, hc17, H⟩ := H
      refine hl_val rfl rfl (v := (.int .i64 x_1)) (hv_load Ty.agg3 rfl hc17) ?_
      refine hl_val rfl rfl (v := (.int .i64 (IntKind.i64.wrap (x_1 - 1)))) (hv_arith rfl rfl rfl) ?_
      refine hl_val rfl rfl (v := (ptr r0_b r0_o)) (hv_nil rfl) ?_
      refine hl_val rfl rfl (v := (ptr r0_b (r0_o + 2))) (hv_field Ty.fld31_2 (b := r0_b) (o := r0_o) rfl) ?_
      obtain ⟨hw2, H⟩ := H
      refine hl_step rfl rfl (hn_store (v := (.int .i64 (IntKind.i64.wrap (x_1 - 1)))) rfl rfl Ty.sz3 rfl hw2 ?_)
      intro h1 eh3
      replace H := H h1 eh3
      refine hl_nil ?_
      refine seqQ_n ?_
      refine hx_seq ?_
      obtain ⟨j, Hx15, Hy16⟩ := H
      refine hx_cut (fun ρ h' => h1 = h' ∧ Has ρ [(0, (ptr m_b m_o)), (1, (.int .i64 region)), (43, (.bool j))]) ?_ ?_
      · have H := Hx15; clear Hx15 Hy16
        refine hx_region ?_
        refine hl_val rfl rfl (v := (ptr r0_b r0_o)) (hv_move rfl) ?_
        refine hl_val rfl rfl (v := (ptr r0_b r0_o)) (hv_nil rfl) ?_
        refine hl_val rfl rfl (v := (ptr r0_b r0_o)) (hv_field Ty.fld31_0 (b := r0_b) (o := r0_o) rfl) ?_
        obtain ⟨x_2, hc6, H⟩ := H
        refine hl_val rfl rfl (v := (.int .i64 x_2)) (hv_load Ty.agg3 rfl hc6) ?_
        refine hl_val rfl rfl (v := (.bool (x_2 != 4))) (hv_arith rfl rfl rfl) ?_
        refine hl_val rfl rfl (v := (.bool (x_2 != 4))) (hv_move rfl) ?_
        rcases bool_or (x_2 != 4) with hg4 | hg4
        · replace H := H.1 hg4
          refine hl_no (wanted_n rfl rfl rfl hg4) rfl ?_
          refine hl_no (wanted_n rfl rfl rfl hg4) rfl ?_
          refine hl_no (wanted_n rfl rfl rfl hg4) rfl ?_
          refine hl_no (wanted_n rfl rfl rfl hg4) rfl ?_
          refine hl_no (wanted_n rfl rfl rfl hg4) rfl ?_
          refine hl_val rfl rfl (v := (.bool true)) (hv_pick_t rfl hg4 rfl) ?_
          refine hl_nil ?_
          refine seqQ_n ?_
          obtain rfl := H
          exact ⟨rfl, (has_cons rfl (has_cons rfl (has_cons rfl has_nil)))⟩
        · replace H := H.2 hg4
          refine hl_yes (wanted_y rfl rfl rfl hg4) rfl (HStep.of_val (v := (ptr r0_b r0_o)) (hv_move rfl) ?_)
          refine hl_yes (wanted_y rfl rfl rfl hg4) rfl (HStep.of_val (v := (ptr r0_b r0_o)) (hv_nil rfl) ?_)
          refine hl_yes (wanted_y rfl rfl rfl hg4) rfl (HStep.of_val (v := (ptr r0_b (r0_o + 2))) (hv_field Ty.fld31_2 (b := r0_b) (o := r0_o) rfl) ?_)
          obtain ⟨x_3, hc5, H⟩ := H
          refine hl_yes (wanted_y rfl rfl rfl hg4) rfl (HStep.of_val (v := (.int .i64 x_3)) (hv_load Ty.agg3 rfl hc5) ?_)
          refine hl_yes (wanted_y rfl rfl rfl hg4) rfl (HStep.of_val (v := (.bool (decide (x_3 > 0)))) (hv_arith rfl rfl rfl) ?_)
          refine hl_val rfl rfl (v := (.bool (decide (x_3 > 0)))) (hv_pick_f rfl hg4 rfl) ?_
          refine hl_nil ?_
          refine seqQ_n ?_
          obtain rfl := H
          exact ⟨rfl, (has_cons rfl (has_cons rfl (has_cons rfl has_nil)))⟩
      · have H := Hy16; clear Hx15 Hy16
        rintro ρ _ ⟨rfl, hH⟩
        refine hx_has _ hH ?_
        refine hx_cond (b := j) rfl (fun hb14 => ?_) (fun hb14 => ?_)
        · replace H := H.1 hb14
          refine hx_seq ?_
          refine hx_region ?_
          refine hl_val rfl rfl (v := (.slice none 0 0)) (hv_assign rfl) ?_
          refine hl_val rfl rfl (v := (.int .i64 0)) (hv_assign rfl) ?_
          refine hl_nil ?_
          refine seqQ_n ?_
          refine hx_ret ?_
          refine seqQ_ret ?_
          exact endQ_ret _ (res_two Try.results22 (rv_tmp rfl) (rv_tmp rfl)) H
        · replace H := H.2 hb14
          refine hx_skip ?_
          refine seqQ_n ?_
          refine hx_seq ?_
          refine hx_region ?_
          refine hl_val rfl rfl (v := (ptr m_b m_o)) (hv_move rfl) ?_
          refine hl_val rfl rfl (v := (ptr m_b m_o)) (hv_nil rfl) ?_
          refine hl_val rfl rfl (v := (ptr m_b (m_o + 4))) (hv_field Ty.fld67_4 (b := m_b) (o := m_o) rfl) ?_
          obtain ⟨x_4, hc13, H⟩ := H
          refine hl_val rfl rfl (v := (.map x_4)) (hv_load Ty.agg65 rfl hc13) ?_
          refine hl_val rfl rfl (v := (.int .i64 region)) (hv_move rfl) ?_
          obtain ⟨x_4_m, hqe, Hq⟩ := H
          subst hqe
          have H := Hq; clear Hq
          obtain ⟨kv, mm7, x_5, x_n, x_c, hv8, H⟩ := H
          refine hl_val rfl rfl (v := (.slice x_5 x_n x_c)) (hv_look (l := kv) (a := region) (intK .i64) Ty.u65 Ty.u3 Ty.z50 rfl rfl mm7 hv8) ?_
          refine hl_val rfl rfl (v := (.slice x_5 x_n x_c)) (hv_assign rfl) ?_
          refine hl_nil ?_
          refine seqQ_n ?_
          refine hx_seq ?_
          refine hx_region ?_
          refine hl_val rfl rfl (v := (ptr m_b m_o)) (hv_move rfl) ?_
          refine hl_val rfl rfl (v := (ptr m_b m_o)) (hv_nil rfl) ?_
          refine hl_val rfl rfl (v := (ptr m_b (m_o + 4))) (hv_field Ty.fld67_4 (b := m_b) (o := m_o) rfl) ?_
          obtain ⟨x_6, hc12, H⟩ := H
          refine hl_val rfl rfl (v := (.map x_6)) (hv_load Ty.agg65 rfl hc12) ?_
          refine hl_val rfl rfl (v := (.int .i64 region)) (hv_move rfl) ?_
          obtain ⟨x_6_m, hqe, Hq⟩ := H
          subst hqe
          have H := Hq; clear Hq
          obtain ⟨kv_1, mm9, H⟩ := H
          refine hl_step rfl rfl (hn_mapDel (l := kv_1) (a := region) (intK .i64) Ty.u65 Ty.u3 rfl rfl rfl mm9 ?_)
          intro h2 on10 mm11
          replace H := H h2 on10 mm11
          refine hl_nil ?_
          refine seqQ_n ?_
          refine hx_seq ?_
          refine hx_region ?_
          refine hl_val rfl rfl (v := (.slice x_5 x_n x_c)) (hv_move rfl) ?_
          refine hl_val rfl rfl (v := (.slice x_5 x_n x_c)) (hv_assign rfl) ?_
          refine hl_val rfl rfl (v := (.int .i64 0)) (hv_assign rfl) ?_
          refine hl_nil ?_
          refine seqQ_n ?_
          refine hx_ret ?_
          exact endQ_ret _ (res_two Try.results22 (rv_tmp rfl) (rv_tmp rfl)) H

/-- (*cellar/region.Manager).Frees -/
theorem f27_sh (m_b : Nat) (m_o : Nat) (h : Heap) (R : Value → Heap → Prop)
    (H : (∃ r : Bool, HC Try.prog 32 #[(ptr m_b m_o)] h (fun vv h' => vv = (.bool r) ∧ h' = h) ∧ (((!r) = true → R (.slice none 0 0) h) ∧ ((!r) = false → (∃ x : Option Addr, ∃ x_n x_c : Nat, hcell h m_b (m_o + 1) = some (.slice x x_n x_c) ∧ HC Try.prog 48 #[(.slice x x_n x_c)] h (fun vv h1 => ∃ r_1 : Option Addr, ∃ r_n r_c : Nat, vv = (.slice r_1 r_n r_c) ∧ R (.slice r_1 r_n r_c) h1)))))) :
    HC Try.prog 27 #[(ptr m_b m_o)] h R := by
  refine hc_of (args := [(ptr m_b m_o)]) Try.func27 rfl Try.ntmps27 (Nat.le_of_ble_eq_true rfl) ?_
  refine hx_seq ?_
  refine hx_region ?_
  refine hl_val rfl rfl (v := (.slice none 0 0)) (hv_assign rfl) ?_
  refine hl_nil ?_
  refine seqQ_n ?_
  refine hx_seq ?_
  refine hx_seq ?_
  refine hx_region ?_
  refine hl_val rfl rfl (v := (ptr m_b m_o)) (hv_move rfl) ?_
  obtain ⟨r, hr1, H⟩ := H
  refine hl_val rfl rfl (v := (.bool r)) (hv_call Ty.cb32 (vs := [(ptr m_b m_o)]) rfl hr1) ?_
  refine hl_val rfl rfl (v := (.bool (!r))) (hv_not (b := r) rfl) ?_
  refine hl_nil ?_
  refine seqQ_n ?_
  refine hx_cond (b := !r) rfl (fun hb3 => ?_) (fun hb3 => ?_)
  · replace H := H.1 hb3
    refine hx_seq ?_
    refine hx_region ?_
    refine hl_val rfl rfl (v := (.slice none 0 0)) (hv_assign rfl) ?_
    refine hl_nil ?_
    refine seqQ_n ?_
    refine hx_ret ?_
    refine seqQ_ret ?_
    exact endQ_ret _ (res_one Try.results27 (rv_tmp rfl)) H
  · replace H := H.2 hb3
    refine hx_skip ?_
    refine seqQ_n ?_
    refine hx_seq ?_
    refine hx_region ?_
    refine hl_val rfl rfl (v := (ptr m_b m_o)) (hv_move rfl) ?_
    refine hl_val rfl rfl (v := (ptr m_b m_o)) (hv_nil rfl) ?_
    refine hl_val rfl rfl (v := (ptr m_b (m_o + 1))) (hv_field Ty.fld67_1 (b := m_b) (o := m_o) rfl) ?_
    obtain ⟨x, x_n, x_c, hc2, H⟩ := H
    refine hl_val rfl rfl (v := (.slice x x_n x_c)) (hv_load Ty.agg50 rfl hc2) ?_
    refine hl_step rfl rfl (hs_call Ty.cb48 (vs := [(.slice x x_n x_c)]) rfl (HC.mono H ?_))
    rintro _ h1 ⟨r_1, r_n, r_c, rfl, H⟩
    refine hl_val rfl rfl (v := (.slice r_1 r_n r_c)) (hv_assign rfl) ?_
    refine hl_nil ?_
    refine seqQ_n ?_
    refine hx_ret ?_
    exact endQ_ret _ (res_one Try.results27 (rv_tmp rfl)) H

/-- slices.Delete[[]int,int] -/
theorem f33_sh (sv : Option Addr) (s_n : Nat) (s_c : Nat) (i : Int) (j : Int) (h : Heap) (R : Value → Heap → Prop)
    (H : (0 ≤ (i : Int) ∧ i ≤ j ∧ j ≤ (s_n : Int) ∧ (s_n : Int) ≤ (s_c : Int) ∧ ∀ sl : Option Addr, sl = slA sv (Int.toNat i) 1 (Int.toNat (s_n : Int)) → (((i == j) = true → R (.slice sv s_n s_c) h) ∧ ((i == j) = false → (0 ≤ (0 : Int) ∧ 0 ≤ i ∧ i ≤ (s_c : Int) ∧ ∀ sl_1 : Option Addr, sl_1 = slA sv (Int.toNat 0) 1 s_c → (0 ≤ (j : Int) ∧ j ≤ (s_n : Int) ∧ (s_n : Int) ≤ (s_c : Int) ∧ ∀ sl_2 : Option Addr, sl_2 = slA sv (Int.toNat j) 1 s_c → HAppend Try.prog 50 50 (.slice sl_1 (Int.toNat i - Int.toNat 0) (s_c - Int.toNat 0)) (.slice sl_2 (Int.toNat (s_n : Int) - Int.toNat j) (s_c - Int.toNat j)) h (fun vv h1 => ∃ ap : Option Addr, ∃ ap_n ap_c : Nat, vv = (.slice ap ap_n ap_c) ∧ (0 ≤ ((ap_n : Int) : Int) ∧ (ap_n : Int) ≤ (s_n : Int) ∧ (s_n : Int) ≤ (ap_c : Int) ∧ ∀ sl_3 : Option Addr, sl_3 = slA ap (Int.toNat (ap_n : Int)) 1 ap_c → (∃ A18 : Heap → Prop, ((Int.toNat (s_n : Int) - Int.toNat (ap_n : Int)) = 0 → A18 h1) ∧ ((Int.toNat (s_n : Int) - Int.toNat (ap_n : Int)) ≠ 0 → ∃ cb co : Nat, sl_3 = some ⟨cb, co, none⟩ ∧ HWs h1 cb co ((Int.toNat (s_n : Int) - Int.toNat (ap_n : Int)) * 1) ∧ ∀ h2, h2 = hsets h1 cb co (zcells [(.int .i64 0)] (Int.toNat (s_n : Int) - Int.toNat (ap_n : Int))) → A18 h2) ∧ ∀ h3, A18 h3 → R (.slice ap ap_n ap_c) h3))))))))) :
    HC Try.prog 33 #[(.slice sv s_n s_c), (.int .i64 i), (.int .i64 j)] h R := by
  refine hc_of (args := [(.slice sv s_n s_c), (.int .i64 i), (.int .i64 j)]) Try.func33 rfl Try.ntmps33 (Nat.le_of_ble_eq_true rfl) ?_
  refine hx_seq ?_
  refine hx_region ?_
  refine hl_val rfl rfl (v := (.slice none 0 0)) (hv_assign rfl) ?_
  refine hl_nil ?_
  refine seqQ_n ?_
  refine hx_seq ?_
  refine hx_region ?_
  refine hl_val rfl rfl (v := (.slice sv s_n s_c)) (hv_move rfl) ?_
  refine hl_val rfl rfl (v := (.int .i64 i)) (hv_move rfl) ?_
  refine hl_val rfl rfl (v := (.int .i64 j)) (hv_move rfl) ?_
  refine hl_val rfl rfl (v := (.slice sv s_n s_c)) (hv_move rfl) ?_
  refine hl_val rfl rfl (v := (.int .i64 (s_n : Int))) (hv_len (n := s_n) Ty.u50 rfl) ?_
  obtain ⟨hs1, hs2, hs3, hs4, H⟩ := H
  obtain ⟨sl, hq5⟩ : ∃ q, q = slA sv (Int.toNat i) 1 (Int.toNat (s_n : Int)) := ⟨_, rfl⟩
  replace H := H sl hq5
  refine hl_val rfl rfl (v := (.slice sl (Int.toNat j - Int.toNat i) (Int.toNat (s_n : Int) - Int.toNat i))) (hv_slice3 (l := i) (r := j) (mx := (s_n : Int)) Ty.u50 Ty.sz3 rfl rfl rfl rfl hs1 hs2 hs3 hs4 hq5) ?_
  refine hl_nil ?_
  refine seqQ_n ?_
  refine hx_seq ?_
  refine hx_seq ?_
  refine hx_region ?_
  refine hl_val rfl rfl (v := (.int .i64 i)) (hv_move rfl) ?_
  refine hl_val rfl rfl (v := (.int .i64 j)) (hv_move rfl) ?_
  refine hl_val rfl rfl (v := (.bool (i == j))) (hv_arith rfl rfl rfl) ?_
  refine hl_nil ?_
  refine seqQ_n ?_
  refine hx_cond (b := i == j) rfl (fun hb23 => ?_) (fun hb23 => ?_)
  · replace H := H.1 hb23
    refine hx_seq ?_
    refine hx_region ?_
    refine hl_val rfl rfl (v := (.slice sv s_n s_c)) (hv_move rfl) ?_
    refine hl_val rfl rfl (v := (.slice sv s_n s_c)) (hv_assign rfl) ?_
    refine hl_nil ?_
    refine seqQ_n ?_
    refine hx_ret ?_
    refine seqQ_ret ?_
    exact endQ_ret _ (res_one Try.results33 (rv_tmp rfl)) H
  · replace H := H.2 hb23
    refine hx_skip ?_
    refine seqQ_n ?_
    refine hx_seq ?_
    refine hx_region ?_
    refine hl_val rfl rfl (v := (.slice sv s_n s_c)) (hv_move rfl) ?_
    refine hl_val rfl rfl (v := (.int .i64 (s_n : Int))) (hv_len (n := s_n) Ty.u50 rfl) ?_
    refine hl_val rfl rfl (v := (.int .i64 (s_n : Int))) (hv_assign rfl) ?_
    refine hl_nil ?_
    refine seqQ_n ?_
    refine hx_seq ?_
    refine hx_draw Ty.mixed [.pure, .pure, .pure, .pure, .pure, .pure, .wild, .pure] [0, 1, 2, 3, 4, 5, 6, 7] (by kernel_rfl) ?_
    refine hp_pure (i := 0) rfl (wanted_0 rfl) rfl (.slice sv s_n s_c) (fun _ => hv_move rfl) ?_
    refine hp_pure (i := 1) rfl (wanted_0 rfl) rfl (.int .i64 i) (fun _ => hv_move rfl) ?_
    obtain ⟨hs6, hs7, hs8, H⟩ := H
    obtain ⟨sl_1, hq9⟩ : ∃ q, q = slA sv (Int.toNat 0) 1 s_c := ⟨_, rfl⟩
    replace H := H sl_1 hq9
    refine hp_pure (i := 2) rfl (wanted_0 rfl) rfl (.slice sl_1 (Int.toNat i - Int.toNat 0) (s_c - Int.toNat 0)) (fun _ => hv_slice (l := 0) (r := i) Ty.u50 Ty.sz3 rfl sl_none (sh_some rfl) hs6 hs7 hs8 hq9) ?_
    refine hp_pure (i := 3) rfl (wanted_0 rfl) rfl (.slice sv s_n s_c) (fun _ => hv_move rfl) ?_
    refine hp_pure (i := 4) rfl (wanted_0 rfl) rfl (.int .i64 j) (fun _ => hv_move rfl) ?_
    obtain ⟨hs10, hs11, hs12, H⟩ := H
    obtain ⟨sl_2, hq13⟩ : ∃ q, q = slA sv (Int.toNat j) 1 s_c := ⟨_, rfl⟩
    replace H := H sl_2 hq13
    refine hp_pure (i := 5) rfl (wanted_0 rfl) rfl (.slice sl_2 (Int.toNat (s_n : Int) - Int.toNat j) (s_c - Int.toNat j)) (fun _ => hv_slice (l := j) (r := (s_n : Int)) Ty.u50 Ty.sz3 rfl (sl_some rfl) sh_none hs10 hs11 hs12 hq13) ?_
    refine hp_wild (i := 6) rfl (wanted_0 rfl) rfl (hs_append rfl rfl (HAppend.mono H ?_))
    rintro _ h1 ⟨ap, ap_n, ap_c, rfl, H⟩
    refine hp_pure (i := 7) rfl (wanted_0 rfl) rfl (.slice ap ap_n ap_c) (fun _ => hv_assign rfl) ?_
    refine hp_nil ?_
    refine seqQ_n ?_
    refine hx_seq ?_
    refine hx_region ?_
    refine hl_val rfl rfl (v := (.slice ap ap_n ap_c)) (hv_move rfl) ?_
    refine hl_val rfl rfl (v := (.slice ap ap_n ap_c)) (hv_move rfl) ?_
    refine hl_val rfl rfl (v := (.int .i64 (ap_n : Int))) (hv_len (n := ap_n) Ty.u50 rfl) ?_
    refine hl_val rfl rfl (v := (.int .i64 (s_n : Int))) (hv_move rfl) ?_
    obtain ⟨hs14, hs15, hs16, H⟩ := H
    obtain ⟨sl_3, hq17⟩ : ∃ q, q = slA ap (Int.toNat (ap_n : Int)) 1 ap_c := ⟨_, rfl⟩
    replace H := H sl_3 hq17
    refine hl_val rfl rfl (v := (.slice sl_3 (Int.toNat (s_n : Int) - Int.toNat (ap_n : Int)) (ap_c - Int.toNat (ap_n : Int)))) (hv_slice (l := (ap_n : Int)) (r := (s_n : Int)) Ty.u50 Ty.sz3 rfl (sl_some rfl) (sh_some rfl) hs14 hs15 hs16 hq17) ?_
    obtain ⟨A18, Hz19, Hn20, Hk21⟩ := H
    refine hl_step rfl rfl (HStep.mono (K := fun v h' => v = .tuple #[] ∧ A18 h') (hn_clear (zs := [(.int .i64 0)]) Ty.u50 Ty.z3 rfl (by decide) rfl rfl (fun e => ⟨rfl, Hz19 e⟩) (fun e => let ⟨b, o, e1, e2, e3⟩ := Hn20 e; ⟨b, o, e1, e2, fun h' e4 => ⟨rfl, e3 h' e4⟩⟩)) ?_)
    rintro _ h3 ⟨rfl, HA22⟩
    have H := Hk21 _ HA22
    refine hl_nil ?_
    refine seqQ_n ?_
    refine hx_seq ?_
    refine hx_region ?_
    refine hl_val rfl rfl (v := (.slice ap ap_n ap_c)) (hv_move rfl) ?_
    refine hl_val rfl rfl (v := (.slice ap ap_n ap_c)) (hv_assign rfl) ?_
    refine hl_nil ?_
    refine seqQ_n ?_
    refine hx_ret ?_
    exact endQ_ret _ (res_one Try.results33 (rv_tmp rfl)) H

/-- slices.Contains[[]int,int] -/
theorem f47_sh (sv : Option Addr) (s_n : Nat) (s_c : Nat) (v : Int) (h : Heap) (R : Value → Heap → Prop)
    (H : HC Try.prog 57 #[(.slice sv s_n s_c), (.int .i64 v)] h (fun vv h1 => ∃ r : Int, vv = (.int .i64 r) ∧ R (.bool (decide (r ≥ 0))) h1)) :
    HC Try.prog 47 #[(.slice sv s_n s_c), (.int .i64 v)] h R := by
  refine hc_of (args := [(.slice sv s_n s_c), (.int .i64 v)]) Try.func47 rfl Try.ntmps47 (Nat.le_of_ble_eq_true rfl) ?_
  refine hx_seq ?_
  refine hx_region ?_
  refine hl_val rfl rfl (v := (.bool false)) (hv_assign rfl) ?_
  refine hl_nil ?_
  refine seqQ_n ?_
  refine hx_seq ?_
  refine hx_region ?_
  refine hl_val rfl rfl (v := (.slice sv s_n s_c)) (hv_move rfl) ?_
  refine hl_val rfl rfl (v := (.int .i64 v)) (hv_move rfl) ?_
  refine hl_step rfl rfl (hs_call Ty.cb57 (vs := [(.slice sv s_n s_c), (.int .i64 v)]) rfl (HC.mono H ?_))
  rintro _ h1 ⟨r, rfl, H⟩
  refine hl_val rfl rfl (v := (.bool (decide (r ≥ 0)))) (hv_arith rfl rfl rfl) ?_
  refine hl_val rfl rfl (v := (.bool (decide (r ≥ 0)))) (hv_assign rfl) ?_
  refine hl_nil ?_
  refine seqQ_n ?_
  refine hx_ret ?_
  exact endQ_ret _ (res_one Try.results47 (rv_tmp rfl)) H

/-- slices.Index[[]int,int] -/
theorem f57_sh (sv : Option Addr) (s_n : Nat) (s_c : Nat) (v : Int) (h : Heap) (R : Value → Heap → Prop)
    (H : (∃ (I1 : Int → Prop) (mu2 : Int → Nat), I1 0 ∧ (∀ (v_1 : Int), I1 v_1 → (((decide (v_1 < (s_n : Int))) = true → (∃ sv_b sv_o : Nat, sv = some ⟨sv_b, sv_o, none⟩ ∧ (0 : Int) ≤ v_1 ∧ v_1 < (s_n : Int) ∧ (∃ x : Int, hcell h sv_b (sv_o + (Int.toNat v_1) * 1) = some (.int .i64 x) ∧ (((v == x) = true → R (.int .i64 v_1) h) ∧ ((v == x) = false → (I1 (IntKind.i64.wrap (v_1 + 1)) ∧ mu2 (IntKind.i64.wrap (v_1 + 1)) < mu2 v_1)))))) ∧ ((decide (v_1 < (s_n : Int))) = false → R (.int .i64 (-1)) h))))) :
    HC Try.prog 57 #[(.slice sv s_n s_c), (.int .i64 v)] h R := by
  refine hc_of (args := [(.slice sv s_n s_c), (.int .i64 v)]) Try.func57 rfl Try.ntmps57 (Nat.le_of_ble_eq_true rfl) ?_
  refine hx_seq ?_
  refine hx_region ?_
  refine hl_val rfl rfl (v := (.int .i64 0)) (hv_assign rfl) ?_
  refine hl_nil ?_
  refine seqQ_n ?_
  refine hx_seq ?_
  refine hx_seq ?_
  refine hx_region ?_
  refine hl_val rfl rfl (v := (.slice sv s_n s_c)) (hv_move rfl) ?_
  refine hl_val rfl rfl (v := (.int .i64 (s_n : Int))) (hv_len (n := s_n) Ty.u50 rfl) ?_
  refine hl_val rfl rfl (v := (.int .i64 0)) (hv_move rfl) ?_
  refine hl_nil ?_
  refine seqQ_n ?_
  refine hx_block ?_
  obtain ⟨I1, mu2, Ha3, Hr4⟩ := H
  refine hx_loopT (σ := Int) (fun s => [(0, (.slice sv s_n s_c)), (1, (.int .i64 v)), (7, (.int .i64 (s_n : Int))), (8, (.int .i64 s))]) (fun s h' => I1 s ∧ h = h') (fun s _ => mu2 s) 0 ⟨Ha3, rfl⟩ (has_cons rfl (has_cons rfl (has_cons rfl (has_cons rfl has_nil)))) ?_
  rintro v_1 ρ _ ⟨Hi5, rfl⟩
  have H := Hr4 v_1 Hi5
  refine hx_seq ?_
  refine hx_region ?_
  refine hl_val rfl rfl (v := (.bool (decide (v_1 < (s_n : Int))))) (hv_arith rfl rfl rfl) ?_
  refine hl_nil ?_
  refine seqQ_n ?_
  refine hx_seq ?_
  refine hx_cond (b := decide (v_1 < (s_n : Int))) rfl (fun hb10 => ?_) (fun hb10 => ?_)
  · replace H := H.1 hb10
    refine hx_skip ?_
    refine seqQ_n ?_
    refine hx_seq ?_
    refine hx_block ?_
    refine hx_seq ?_
    refine hx_region ?_
    refine hl_val rfl rfl (v := (.int .i64 v_1)) (hv_move rfl) ?_
    refine hl_val rfl rfl (v := (.int .i64 v_1)) (hv_assign rfl) ?_
    refine hl_nil ?_
    refine seqQ_n ?_
    refine hx_seq ?_
    refine hx_region ?_
    refine hl_val rfl rfl (v := (.int .i64 v)) (hv_move rfl) ?_
    refine hl_val rfl rfl (v := (.slice sv s_n s_c)) (hv_move rfl) ?_
    refine hl_val rfl rfl (v := (.int .i64 v_1)) (hv_move rfl) ?_
    obtain ⟨sv_b, sv_o, hqe, hi6, hi7, Hq⟩ := H
    subst hqe
    have H := Hq; clear Hq
    refine hl_val rfl rfl (v := (ptr sv_b (sv_o + (Int.toNat v_1) * 1))) (hv_index Ty.el50 rfl rfl hi6 hi7) ?_
    obtain ⟨x, hc9, H⟩ := H
    refine hl_val rfl rfl (v := (.int .i64 x)) (hv_load Ty.agg3 rfl hc9) ?_
    refine hl_val rfl rfl (v := (.bool (v == x))) (hv_arith rfl rfl rfl) ?_
    refine hl_nil ?_
    refine seqQ_n ?_
    refine hx_cond (b := v == x) rfl (fun hb8 => ?_) (fun hb8 => ?_)
    · replace H := H.1 hb8
      refine hx_seq ?_
      refine hx_region ?_
      refine hl_val rfl rfl (v := (.int .i64 v_1)) (hv_move rfl) ?_
      refine hl_val rfl rfl (v := (.int .i64 v_1)) (hv_assign rfl) ?_
      refine hl_nil ?_
      refine seqQ_n ?_
      refine hx_ret ?_
      refine blockQ_ret ?_
      refine seqQ_ret ?_
      refine seqQ_ret ?_
      refine blockQ_ret ?_
      refine seqQ_ret ?_
      exact endQ_ret _ (res_one Try.results57 (rv_tmp rfl)) H
    · replace H := H.2 hb8
      refine hx_skip ?_
      refine blockQ_n ?_
      refine seqQ_n ?_
      refine hx_region ?_
      refine hl_val rfl rfl (v := (.int .i64 (IntKind.i64.wrap (v_1 + 1)))) (hv_arith rfl rfl rfl) ?_
      refine hl_val rfl rfl (v := (.int .i64 (IntKind.i64.wrap (v_1 + 1)))) (hv_move rfl) ?_
      refine hl_nil ?_
      refine seqQ_n ?_
      exact ⟨IntKind.i64.wrap (v_1 + 1), ⟨⟨H.1, rfl⟩, H.2⟩, (has_cons rfl (has_cons rfl (has_cons rfl (has_cons rfl has_nil))))⟩
  · replace H := H.2 hb10
    refine hx_exit ?_
    refine seqQ_exit ?_
    refine seqQ_exit ?_
    refine blockQ_here ?_
    refine seqQ_n ?_
    refine hx_seq ?_
    refine hx_region ?_
    refine hl_val rfl rfl (v := (.int .i64 (-1))) (hv_assign rfl) ?_
    refine hl_nil ?_
    refine seqQ_n ?_
    refine hx_ret ?_
    exact endQ_ret _ (res_one Try.results57 (rv_tmp rfl)) H

/-- slices.Clone[[]int,int] -/
theorem f48_sh (sv : Option Addr) (s_n : Nat) (s_c : Nat) (h : Heap) (R : Value → Heap → Prop)
    (H : ((sv.isNone = true → R (.slice none 0 0) h) ∧ (sv.isNone = false → (∀ nb h1, nb = Array.size h → h1 = Array.push h (.cells #[] 3) → HAppend Try.prog 50 50 (.slice (some ⟨nb, 0, none⟩) 0 0) (.slice sv s_n s_c) h1 (fun vv h2 => ∃ ap : Option Addr, ∃ ap_n ap_c : Nat, vv = (.slice ap ap_n ap_c) ∧ R (.slice ap ap_n ap_c) h2))))) :
    HC Try.prog 48 #[(.slice sv s_n s_c)] h R := by
  refine hc_of (args := [(.slice sv s_n s_c)]) Try.func48 rfl Try.ntmps48 (Nat.le_of_ble_eq_true rfl) ?_
  refine hx_seq ?_
  refine hx_region ?_
  refine hl_val rfl rfl (v := (.slice none 0 0)) (hv_assign rfl) ?_
  refine hl_nil ?_
  refine seqQ_n ?_
  refine hx_seq ?_
  refine hx_seq ?_
  refine hx_region ?_
  refine hl_val rfl rfl (v := (.slice sv s_n s_c)) (hv_move rfl) ?_
  refine hl_val rfl rfl (v := (.bool sv.isNone)) (hv_sliceNil Ty.u50 rfl rfl) ?_
  refine hl_nil ?_
  refine seqQ_n ?_
  refine hx_cond (b := sv.isNone) rfl (fun hb3 => ?_) (fun hb3 => ?_)
  · replace H := H.1 hb3
    refine hx_seq ?_
    refine hx_region ?_
    refine hl_val rfl rfl (v := (.slice none 0 0)) (hv_assign rfl) ?_
    refine hl_nil ?_
    refine seqQ_n ?_
    refine hx_ret ?_
    refine seqQ_ret ?_
    exact endQ_ret _ (res_one Try.results48 (rv_tmp rfl)) H
  · replace H := H.2 hb3
    refine hx_skip ?_
    refine seqQ_n ?_
    refine hx_seq ?_
    refine hx_region ?_
    refine hl_step rfl rfl (hn_buildSlice (n := 0) (vs := []) (cs := #[]) Ty.u50 Ty.sz3 Ty.z3 rfl rfl (by kernel_rfl) ?_)
    intro nb h1 eb1 eh2
    replace H := H nb h1 eb1 eh2
    refine hl_val rfl rfl (v := (.slice sv s_n s_c)) (hv_move rfl) ?_
    refine hl_step rfl rfl (hs_append rfl rfl (HAppend.mono H ?_))
    rintro _ h2 ⟨ap, ap_n, ap_c, rfl, H⟩
    refine hl_val rfl rfl (v := (.slice ap ap_n ap_c)) (hv_assign rfl) ?_
    refine hl_nil ?_
    refine seqQ_n ?_
    refine hx_ret ?_
    exact endQ_ret _ (res_one Try.results48 (rv_tmp rfl)) H

end Go.Proofs.Ytfdgjgjcppfmiaa
