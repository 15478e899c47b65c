/-
Shallow forms, written by gen2.py (a program of ours) out of the print of the program.
-/
import Derived.Test.YtfdgjgjcppfmiaaPrv
import Derived.Test.YtfdgjgjcppfmiaaSrt
import Derived.Test.YtfdgjgjcppfmiaaRng
import Derived.Test.YtfdgjgjcppfmiaaMor
import Derived.Test.YtfdgjgjcppfmiaaProg
namespace Go.Proofs.Ytfdgjgjcppfmiaa
open Go
set_option maxRecDepth 100000
set_option maxHeartbeats 4000000

theorem TyQA.agg28 : aggB Try.prog 28 = some false := by kernel_rfl
theorem TyQA.agg29 : aggB Try.prog 29 = some false := by kernel_rfl
theorem TyQA.agg3 : aggB Try.prog 3 = some false := by kernel_rfl
theorem TyQA.agg31 : aggB Try.prog 31 = some true := by kernel_rfl
theorem TyQA.agg50 : aggB Try.prog 50 = some false := by kernel_rfl
theorem TyQA.agg65 : aggB Try.prog 65 = some false := by kernel_rfl
theorem TyQA.by31 : byB Try.prog 31 = some 32 := by kernel_rfl
theorem TyQA.cb31 : CallB Try.prog 31 := fun _ _ => Try.call31 _ _
theorem TyQA.cb32 : CallB Try.prog 32 := fun _ _ => Try.call32 _ _
theorem TyQA.cb33 : CallB Try.prog 33 := fun _ _ => Try.call33 _ _
theorem TyQA.cb47 : CallB Try.prog 47 := fun _ _ => Try.call47 _ _
theorem TyQA.cb48 : CallB Try.prog 48 := fun _ _ => Try.call48 _ _
theorem TyQA.cb57 : CallB Try.prog 57 := fun _ _ => Try.call57 _ _
theorem TyQA.el28 : elB Try.prog 28 = some 4 := by kernel_rfl
theorem TyQA.el50 : elB Try.prog 50 = some 1 := by kernel_rfl
theorem TyQA.fld31_0 : fldB Try.prog 31 0 = some 0 := by kernel_rfl
theorem TyQA.fld31_1 : fldB Try.prog 31 1 = some 1 := by kernel_rfl
theorem TyQA.fld31_2 : fldB Try.prog 31 2 = some 2 := by kernel_rfl
theorem TyQA.fld31_3 : fldB Try.prog 31 3 = some 3 := by kernel_rfl
theorem TyQA.fld67_0 : fldB Try.prog 67 0 = some 0 := by kernel_rfl
theorem TyQA.fld67_1 : fldB Try.prog 67 1 = some 1 := by kernel_rfl
theorem TyQA.fld67_2 : fldB Try.prog 67 2 = some 2 := by kernel_rfl
theorem TyQA.fld67_3 : fldB Try.prog 67 3 = some 3 := by kernel_rfl
theorem TyQA.fld67_4 : fldB Try.prog 67 4 = some 4 := by kernel_rfl
theorem TyQA.mixed : Try.prog.follows .mixedOrders = true := by kernel_rfl
theorem TyQA.pl31 : plB Try.prog 31 = some [(0, 1), (1, 1), (2, 1), (3, 1)] := by kernel_rfl
theorem TyQA.pl67 : plB Try.prog 67 = some [(0, 1), (1, 1), (2, 1), (3, 1), (4, 1)] := by kernel_rfl
theorem TyQA.sz29 : szB Try.prog 29 = some 1 := by kernel_rfl
theorem TyQA.sz3 : szB Try.prog 3 = some 1 := by kernel_rfl
theorem TyQA.sz31 : szB Try.prog 31 = some 4 := by kernel_rfl
theorem TyQA.sz50 : szB Try.prog 50 = some 1 := by kernel_rfl
theorem TyQA.u28 : Try.prog.underlying 28 = some (.slice 31) := by kernel_rfl
theorem TyQA.u3 : Try.prog.underlying 3 = some (.int .i64) := by kernel_rfl
theorem TyQA.u50 : Try.prog.underlying 50 = some (.slice 3) := by kernel_rfl
theorem TyQA.u65 : Try.prog.underlying 65 = some (.map 3 50) := by kernel_rfl
theorem TyQA.up24 : Try.prog.underlying 24 = some (.pointer 67) := by kernel_rfl
theorem TyQA.z3 : zeroB Try.prog 3 (.int .i64 0) := by unfold zeroB; kernel_rfl
theorem TyQA.z31 : zeroB Try.prog 31 (.agg #[(.int .i64 0), (.int .u64 0), (.int .i64 0), (.int .i64 0)]) := by unfold zeroB; kernel_rfl
theorem TyQA.z50 : zeroB Try.prog 50 (.slice none 0 0) := by unfold zeroB; kernel_rfl
theorem TyQA.z67 : zeroB Try.prog 67 (.agg #[(.slice none 0 0), (.slice none 0 0), (.int .u64 0), (.int .i64 0), (.map none)]) := by unfold zeroB; kernel_rfl

/-- (*cellar/region.Manager).made -/
theorem f32_sh (m : Option Addr) (h : Heap) (R : Value → Heap → Prop)
    (H : (∃ j : Bool, ((m.isSome = true → (∃ m_b m_o : Nat, m = some ⟨m_b, m_o, none⟩ ∧ (∃ x : Option Addr, ∃ x_n x_c : Nat, hcell h m_b m_o = some (.slice x x_n x_c) ∧ (j = (decide ((x_n : Int) > 0)))))) ∧ (m.isSome = false → (j = false))) ∧ R (.bool j) h)) :
    HC Try.prog 32 #[(.pointer m)] h R := by
  refine hc_of (args := [(.pointer m)]) Try.func32 rfl Try.ntmps32 (Nat.le_of_ble_eq_true rfl) ?_
  refine hx_seq ?_
  refine hx_region ?_
  refine hl_val rfl rfl (v := (.bool false)) (hv_assign rfl) ?_
  refine hl_nil ?_
  refine seqQ_n ?_
  obtain ⟨j, Hx1, Hy2⟩ := H
  refine hx_cut (fun ρ h' => h = h' ∧ Has ρ [(2, (.bool j))]) ?_ ?_
  · have H := Hx1; clear Hx1 Hy2
    refine hx_region ?_
    refine hl_val rfl rfl (v := (.pointer m)) (hv_move rfl) ?_
    refine hl_val rfl rfl (v := (.bool m.isSome)) (hv_ptrNil TyQA.up24 rfl rfl) ?_
    refine hl_val rfl rfl (v := (.bool m.isSome)) (hv_move rfl) ?_
    rcases bool_or (m.isSome) with hg3 | hg3
    · replace H := H.1 hg3
      refine hl_yes (wanted_y rfl rfl rfl hg3) rfl (HStep.of_val (v := (.pointer m)) (hv_move rfl) ?_)
      obtain ⟨m_b, m_o, hqe, Hq⟩ := H
      subst hqe
      have H := Hq; clear Hq
      refine hl_yes (wanted_y rfl rfl rfl hg3) rfl (HStep.of_val (v := (ptr m_b m_o)) (hv_nil rfl) ?_)
      refine hl_yes (wanted_y rfl rfl rfl hg3) rfl (HStep.of_val (v := (ptr m_b m_o)) (hv_field TyQA.fld67_0 (b := m_b) (o := m_o) rfl) ?_)
      obtain ⟨x, x_n, x_c, hc4, H⟩ := H
      refine hl_yes (wanted_y rfl rfl rfl hg3) rfl (HStep.of_val (v := (.slice x x_n x_c)) (hv_load TyQA.agg28 rfl hc4) ?_)
      refine hl_yes (wanted_y rfl rfl rfl hg3) rfl (HStep.of_val (v := (.int .i64 (x_n : Int))) (hv_len (n := x_n) TyQA.u28 rfl) ?_)
      refine hl_yes (wanted_y rfl rfl rfl hg3) rfl (HStep.of_val (v := (.bool (decide ((x_n : Int) > 0)))) (hv_arith rfl rfl rfl) ?_)
      refine hl_val rfl rfl (v := (.bool (decide ((x_n : Int) > 0)))) (hv_pick_t rfl hg3 rfl) ?_
      refine hl_val rfl rfl (v := (.bool (decide ((x_n : Int) > 0)))) (hv_assign rfl) ?_
      refine hl_nil ?_
      refine seqQ_n ?_
      obtain rfl := H
      exact ⟨rfl, (has_cons rfl has_nil)⟩
    · replace H := H.2 hg3
      refine hl_no (wanted_n rfl rfl rfl hg3) rfl ?_
      refine hl_no (wanted_n rfl rfl rfl hg3) rfl ?_
      refine hl_no (wanted_n rfl rfl rfl hg3) rfl ?_
      refine hl_no (wanted_n rfl rfl rfl hg3) rfl ?_
      refine hl_no (wanted_n rfl rfl rfl hg3) rfl ?_
      refine hl_no (wanted_n rfl rfl rfl hg3) rfl ?_
      refine hl_val rfl rfl (v := (.bool false)) (hv_pick_f rfl hg3 rfl) ?_
      refine hl_val rfl rfl (v := (.bool false)) (hv_assign rfl) ?_
      refine hl_nil ?_
      refine seqQ_n ?_
      obtain rfl := H
      exact ⟨rfl, (has_cons rfl has_nil)⟩
  · have H := Hy2; clear Hx1 Hy2
    rintro ρ _ ⟨rfl, hH⟩
    refine hx_has _ hH ?_
    refine hx_ret ?_
    exact endQ_ret _ (res_one Try.results32 (rv_tmp rfl)) H

/-- (*cellar/region.Manager).at -/
theorem f31_sh (m_b : Nat) (m_o : Nat) (region : Int) (state : Int) (h : Heap) (R : Value → Heap → Prop)
    (H : (∃ r : Bool, HC Try.prog 32 #[(ptr m_b m_o)] h (fun vv h' => vv = (.bool r) ∧ h' = h) ∧ (((!r) = true → R (.tuple #[(.pointer none), (.int .i64 6)]) h) ∧ ((!r) = false → (∃ j : Bool, (((decide (region < 0)) = true → (j = true)) ∧ ((decide (region < 0)) = false → (∃ x : Option Addr, ∃ x_n x_c : Nat, hcell h m_b m_o = some (.slice x x_n x_c) ∧ (j = (decide (region ≥ (x_n : Int))))))) ∧ ((j = true → R (.tuple #[(.pointer none), (.int .i64 90)]) h) ∧ (j = false → (∃ j_1 : Bool, (((state != 0) = true → (∃ x_1 : Option Addr, ∃ x_n_1 x_c_1 : Nat, hcell h m_b m_o = some (.slice x_1 x_n_1 x_c_1) ∧ (∃ x_1_b x_1_o : Nat, x_1 = some ⟨x_1_b, x_1_o, none⟩ ∧ (0 : Int) ≤ region ∧ region < (x_n_1 : Int) ∧ (∃ x_2 : Int, hcell h x_1_b (x_1_o + (Int.toNat region) * 4) = some (.int .i64 x_2) ∧ (j_1 = (x_2 != state)))))) ∧ ((state != 0) = false → (j_1 = false))) ∧ ((j_1 = true → R (.tuple #[(.pointer none), (.int .i64 91)]) h) ∧ (j_1 = false → (∃ x_3 : Option Addr, ∃ x_n_2 x_c_2 : Nat, hcell h m_b m_o = some (.slice x_3 x_n_2 x_c_2) ∧ (∃ x_3_b x_3_o : Nat, x_3 = some ⟨x_3_b, x_3_o, none⟩ ∧ (0 : Int) ≤ region ∧ region < (x_n_2 : Int) ∧ R (.tuple #[(ptr x_3_b (x_3_o + (Int.toNat region) * 4)), (.int .i64 0)]) h)))))))))))) :
    HC Try.prog 31 #[(ptr m_b m_o), (.int .i64 region), (.int .i64 state)] h R := by
  refine hc_of (args := [(ptr m_b m_o), (.int .i64 region), (.int .i64 state)]) Try.func31 rfl Try.ntmps31 (Nat.le_of_ble_eq_true rfl) ?_
  refine hx_seq ?_
  refine hx_region ?_
  refine hl_val rfl rfl (v := (.pointer none)) (hv_assign rfl) ?_
  refine hl_val rfl rfl (v := (.int .i64 0)) (hv_assign rfl) ?_
  refine hl_nil ?_
  refine seqQ_n ?_
  refine hx_seq ?_
  refine hx_block ?_
  refine hx_seq ?_
  refine hx_region ?_
  refine hl_val rfl rfl (v := (ptr m_b m_o)) (hv_move rfl) ?_
  obtain ⟨r, hr1, H⟩ := H
  refine hl_val rfl rfl (v := (.bool r)) (hv_call TyQA.cb32 (vs := [(ptr m_b m_o)]) rfl hr1) ?_
  refine hl_val rfl rfl (v := (.bool (!r))) (hv_not (b := r) rfl) ?_
  refine hl_val rfl rfl (v := (.bool (!r))) (hv_assign rfl) ?_
  refine hl_nil ?_
  refine seqQ_n ?_
  refine hx_cond (b := !r) rfl (fun hb2 => ?_) (fun hb2 => ?_)
  · replace H := H.1 hb2
    refine hx_seq ?_
    refine hx_region ?_
    refine hl_val rfl rfl (v := (.pointer none)) (hv_assign rfl) ?_
    refine hl_val rfl rfl (v := (.int .i64 6)) (hv_assign rfl) ?_
    refine hl_nil ?_
    refine seqQ_n ?_
    refine hx_ret ?_
    refine blockQ_ret ?_
    refine seqQ_ret ?_
    exact endQ_ret _ (res_two Try.results31 (rv_tmp rfl) (rv_tmp rfl)) H
  · replace H := H.2 hb2
    obtain ⟨j, Hx3, Hy4⟩ := H
    refine hx_cut (fun ρ h' => h = h' ∧ Has ρ [(0, (ptr m_b m_o)), (1, (.int .i64 region)), (2, (.int .i64 state)), (12, (.bool j))]) ?_ ?_
    · have H := Hx3; clear Hx3 Hy4
      refine hx_region ?_
      refine hl_val rfl rfl (v := (.int .i64 region)) (hv_move rfl) ?_
      refine hl_val rfl rfl (v := (.bool (decide (region < 0)))) (hv_arith rfl rfl rfl) ?_
      refine hl_val rfl rfl (v := (.bool (decide (region < 0)))) (hv_move rfl) ?_
      rcases bool_or (decide (region < 0)) with hg5 | hg5
      · replace H := H.1 hg5
        refine hl_no (wanted_n rfl rfl rfl hg5) rfl ?_
        refine hl_no (wanted_n rfl rfl rfl hg5) rfl ?_
        refine hl_no (wanted_n rfl rfl rfl hg5) rfl ?_
        refine hl_no (wanted_n rfl rfl rfl hg5) rfl ?_
        refine hl_no (wanted_n rfl rfl rfl hg5) rfl ?_
        refine hl_no (wanted_n rfl rfl rfl hg5) rfl ?_
        refine hl_no (wanted_n rfl rfl rfl hg5) rfl ?_
        refine hl_val rfl rfl (v := (.bool true)) (hv_pick_t rfl hg5 rfl) ?_
        refine hl_val rfl rfl (v := (.bool true)) (hv_assign rfl) ?_
        refine hl_nil ?_
        refine seqQ_n ?_
        obtain rfl := H
        exact ⟨rfl, (has_cons rfl (has_cons rfl (has_cons rfl (has_cons rfl has_nil))))⟩
      · replace H := H.2 hg5
        refine hl_yes (wanted_y rfl rfl rfl hg5) rfl (HStep.of_val (v := (.int .i64 region)) (hv_move rfl) ?_)
        refine hl_yes (wanted_y rfl rfl rfl hg5) rfl (HStep.of_val (v := (ptr m_b m_o)) (hv_move rfl) ?_)
        refine hl_yes (wanted_y rfl rfl rfl hg5) rfl (HStep.of_val (v := (ptr m_b m_o)) (hv_nil rfl) ?_)
        refine hl_yes (wanted_y rfl rfl rfl hg5) rfl (HStep.of_val (v := (ptr m_b m_o)) (hv_field TyQA.fld67_0 (b := m_b) (o := m_o) rfl) ?_)
        obtain ⟨x, x_n, x_c, hc6, H⟩ := H
        refine hl_yes (wanted_y rfl rfl rfl hg5) rfl (HStep.of_val (v := (.slice x x_n x_c)) (hv_load TyQA.agg28 rfl hc6) ?_)
        refine hl_yes (wanted_y rfl rfl rfl hg5) rfl (HStep.of_val (v := (.int .i64 (x_n : Int))) (hv_len (n := x_n) TyQA.u28 rfl) ?_)
        refine hl_yes (wanted_y rfl rfl rfl hg5) rfl (HStep.of_val (v := (.bool (decide (region ≥ (x_n : Int))))) (hv_arith rfl rfl rfl) ?_)
        refine hl_val rfl rfl (v := (.bool (decide (region ≥ (x_n : Int))))) (hv_pick_f rfl hg5 rfl) ?_
        refine hl_val rfl rfl (v := (.bool (decide (region ≥ (x_n : Int))))) (hv_assign rfl) ?_
        refine hl_nil ?_
        refine seqQ_n ?_
        obtain rfl := H
        exact ⟨rfl, (has_cons rfl (has_cons rfl (has_cons rfl (has_cons rfl has_nil))))⟩
    · have H := Hy4; clear Hx3 Hy4
      rintro ρ _ ⟨rfl, hH⟩
      refine hx_has _ hH ?_
      refine hx_cond (b := j) rfl (fun hb7 => ?_) (fun hb7 => ?_)
      · replace H := H.1 hb7
        refine hx_seq ?_
        refine hx_region ?_
        refine hl_val rfl rfl (v := (.pointer none)) (hv_assign rfl) ?_
        refine hl_val rfl rfl (v := (.int .i64 90)) (hv_assign rfl) ?_
        refine hl_nil ?_
        refine seqQ_n ?_
        refine hx_ret ?_
        refine blockQ_ret ?_
        refine seqQ_ret ?_
        exact endQ_ret _ (res_two Try.results31 (rv_tmp rfl) (rv_tmp rfl)) H
      · replace H := H.2 hb7
        obtain ⟨j_1, Hx8, Hy9⟩ := H
        refine hx_cut (fun ρ h' => h = h' ∧ Has ρ [(0, (ptr m_b m_o)), (1, (.int .i64 region)), (24, (.bool j_1))]) ?_ ?_
        · have H := Hx8; clear Hx8 Hy9
          refine hx_region ?_
          refine hl_val rfl rfl (v := (.int .i64 state)) (hv_move rfl) ?_
          refine hl_val rfl rfl (v := (.bool (state != 0))) (hv_arith rfl rfl rfl) ?_
          refine hl_val rfl rfl (v := (.bool (state != 0))) (hv_move rfl) ?_
          rcases bool_or (state != 0) with hg10 | hg10
          · replace H := H.1 hg10
            refine hl_yes (wanted_y rfl rfl rfl hg10) rfl (HStep.of_val (v := (ptr m_b m_o)) (hv_move rfl) ?_)
            refine hl_yes (wanted_y rfl rfl rfl hg10) rfl (HStep.of_val (v := (ptr m_b m_o)) (hv_nil rfl) ?_)
            refine hl_yes (wanted_y rfl rfl rfl hg10) rfl (HStep.of_val (v := (ptr m_b m_o)) (hv_field TyQA.fld67_0 (b := m_b) (o := m_o) rfl) ?_)
            obtain ⟨x_1, x_n_1, x_c_1, hc11, H⟩ := H
            refine hl_yes (wanted_y rfl rfl rfl hg10) rfl (HStep.of_val (v := (.slice x_1 x_n_1 x_c_1)) (hv_load TyQA.agg28 rfl hc11) ?_)
            refine hl_yes (wanted_y rfl rfl rfl hg10) rfl (HStep.of_val (v := (.int .i64 region)) (hv_move rfl) ?_)
            obtain ⟨x_1_b, x_1_o, hqe, hi12, hi13, Hq⟩ := H
            subst hqe
            have H := Hq; clear Hq
            refine hl_yes (wanted_y rfl rfl rfl hg10) rfl (HStep.of_val (v := (ptr x_1_b (x_1_o + (Int.toNat region) * 4))) (hv_index TyQA.el28 rfl rfl hi12 hi13) ?_)
            refine hl_yes (wanted_y rfl rfl rfl hg10) rfl (HStep.of_val (v := (ptr x_1_b (x_1_o + (Int.toNat region) * 4))) (hv_field TyQA.fld31_0 (b := x_1_b) (o := x_1_o + (Int.toNat region) * 4) rfl) ?_)
            obtain ⟨x_2, hc14, H⟩ := H
            refine hl_yes (wanted_y rfl rfl rfl hg10) rfl (HStep.of_val (v := (.int .i64 x_2)) (hv_load TyQA.agg3 rfl hc14) ?_)
            refine hl_yes (wanted_y rfl rfl rfl hg10) rfl (HStep.of_val (v := (.int .i64 state)) (hv_move rfl) ?_)
            refine hl_yes (wanted_y rfl rfl rfl hg10) rfl (HStep.of_val (v := (.bool (x_2 != state))) (hv_arith rfl rfl rfl) ?_)
            refine hl_val rfl rfl (v := (.bool (x_2 != state))) (hv_pick_t rfl hg10 rfl) ?_
            refine hl_val rfl rfl (v := (.bool (x_2 != state))) (hv_assign rfl) ?_
            refine hl_nil ?_
            refine seqQ_n ?_
            obtain rfl := H
            exact ⟨rfl, (has_cons rfl (has_cons rfl (has_cons rfl has_nil)))⟩
          · replace H := H.2 hg10
            refine hl_no (wanted_n rfl rfl rfl hg10) rfl ?_
            refine hl_no (wanted_n rfl rfl rfl hg10) rfl ?_
            refine hl_no (wanted_n rfl rfl rfl hg10) rfl ?_
            refine hl_no (wanted_n rfl rfl rfl hg10) rfl ?_
            refine hl_no (wanted_n rfl rfl rfl hg10) rfl ?_
            refine hl_no (wanted_n rfl rfl rfl hg10) rfl ?_
            refine hl_no (wanted_n rfl rfl rfl hg10) rfl ?_
            refine hl_no (wanted_n rfl rfl rfl hg10) rfl ?_
            refine hl_no (wanted_n rfl rfl rfl hg10) rfl ?_
            refine hl_no (wanted_n rfl rfl rfl hg10) rfl ?_
            refine hl_val rfl rfl (v := (.bool false)) (hv_pick_f rfl hg10 rfl) ?_
            refine hl_val rfl rfl (v := (.bool false)) (hv_assign rfl) ?_
            refine hl_nil ?_
            refine seqQ_n ?_
            obtain rfl := H
            exact ⟨rfl, (has_cons rfl (has_cons rfl (has_cons rfl has_nil)))⟩
        · have H := Hy9; clear Hx8 Hy9
          rintro ρ _ ⟨rfl, hH⟩
          refine hx_has _ hH ?_
          refine hx_cond (b := j_1) rfl (fun hb15 => ?_) (fun hb15 => ?_)
          · replace H := H.1 hb15
            refine hx_seq ?_
            refine hx_region ?_
            refine hl_val rfl rfl (v := (.pointer none)) (hv_assign rfl) ?_
            refine hl_val rfl rfl (v := (.int .i64 91)) (hv_assign rfl) ?_
            refine hl_nil ?_
            refine seqQ_n ?_
            refine hx_ret ?_
            refine blockQ_ret ?_
            refine seqQ_ret ?_
            exact endQ_ret _ (res_two Try.results31 (rv_tmp rfl) (rv_tmp rfl)) H
          · replace H := H.2 hb15
            refine hx_skip ?_
            refine blockQ_n ?_
            refine seqQ_n ?_
            refine hx_seq ?_
            refine hx_region ?_
            refine hl_val rfl rfl (v := (ptr m_b m_o)) (hv_move rfl) ?_
            refine hl_val rfl rfl (v := (ptr m_b m_o)) (hv_nil rfl) ?_
            refine hl_val rfl rfl (v := (ptr m_b m_o)) (hv_field TyQA.fld67_0 (b := m_b) (o := m_o) rfl) ?_
            obtain ⟨x_3, x_n_2, x_c_2, hc16, H⟩ := H
            refine hl_val rfl rfl (v := (.slice x_3 x_n_2 x_c_2)) (hv_load TyQA.agg28 rfl hc16) ?_
            refine hl_val rfl rfl (v := (.int .i64 region)) (hv_move rfl) ?_
            obtain ⟨x_3_b, x_3_o, hqe, hi17, hi18, Hq⟩ := H
            subst hqe
            have H := Hq; clear Hq
            refine hl_val rfl rfl (v := (ptr x_3_b (x_3_o + (Int.toNat region) * 4))) (hv_index TyQA.el28 rfl rfl hi17 hi18) ?_
            refine hl_val rfl rfl (v := (ptr x_3_b (x_3_o + (Int.toNat region) * 4))) (hv_assign rfl) ?_
            refine hl_val rfl rfl (v := (.int .i64 0)) (hv_assign rfl) ?_
            refine hl_nil ?_
            refine seqQ_n ?_
            refine hx_ret ?_
            exact endQ_ret _ (res_two Try.results31 (rv_tmp rfl) (rv_tmp rfl)) H

/-- (*cellar/region.Manager).Current -/
theorem f14_sh (m_b : Nat) (m_o : Nat) (h : Heap) (R : Value → Heap → Prop)
    (H : (∃ r : Bool, HC Try.prog 32 #[(ptr m_b m_o)] h (fun vv h' => vv = (.bool r) ∧ h' = h) ∧ (((!r) = true → R (.int .i64 (-1)) h) ∧ ((!r) = false → (∃ x : Int, hcell h m_b (m_o + 3) = some (.int .i64 x) ∧ R (.int .i64 x) h))))) :
    HC Try.prog 14 #[(ptr m_b m_o)] h R := by
  refine hc_of (args := [(ptr m_b m_o)]) Try.func14 rfl Try.ntmps14 (Nat.le_of_ble_eq_true rfl) ?_
  refine hx_seq ?_
  refine hx_region ?_
  refine hl_val rfl rfl (v := (.int .i64 0)) (hv_assign rfl) ?_
  refine hl_nil ?_
  refine seqQ_n ?_
  refine hx_seq ?_
  refine hx_seq ?_
  refine hx_region ?_
  refine hl_val rfl rfl (v := (ptr m_b m_o)) (hv_move rfl) ?_
  obtain ⟨r, hr1, H⟩ := H
  refine hl_val rfl rfl (v := (.bool r)) (hv_call TyQA.cb32 (vs := [(ptr m_b m_o)]) rfl hr1) ?_
  refine hl_val rfl rfl (v := (.bool (!r))) (hv_not (b := r) rfl) ?_
  refine hl_nil ?_
  refine seqQ_n ?_
  refine hx_cond (b := !r) rfl (fun hb2 => ?_) (fun hb2 => ?_)
  · replace H := H.1 hb2
    refine hx_seq ?_
    refine hx_region ?_
    refine hl_val rfl rfl (v := (.int .i64 (-1))) (hv_assign rfl) ?_
    refine hl_nil ?_
    refine seqQ_n ?_
    refine hx_ret ?_
    refine seqQ_ret ?_
    exact endQ_ret _ (res_one Try.results14 (rv_tmp rfl)) H
  · replace H := H.2 hb2
    refine hx_skip ?_
    refine seqQ_n ?_
    refine hx_seq ?_
    refine hx_region ?_
    refine hl_val rfl rfl (v := (ptr m_b m_o)) (hv_move rfl) ?_
    refine hl_val rfl rfl (v := (ptr m_b m_o)) (hv_nil rfl) ?_
    refine hl_val rfl rfl (v := (ptr m_b (m_o + 3))) (hv_field TyQA.fld67_3 (b := m_b) (o := m_o) rfl) ?_
    obtain ⟨x, hc3, H⟩ := H
    refine hl_val rfl rfl (v := (.int .i64 x)) (hv_load TyQA.agg3 rfl hc3) ?_
    refine hl_val rfl rfl (v := (.int .i64 x)) (hv_assign rfl) ?_
    refine hl_nil ?_
    refine seqQ_n ?_
    refine hx_ret ?_
    exact endQ_ret _ (res_one Try.results14 (rv_tmp rfl)) H

/-- (*cellar/region.Manager).Last -/
theorem f15_sh (m_b : Nat) (m_o : Nat) (h : Heap) (R : Value → Heap → Prop)
    (H : (∃ r : Bool, HC Try.prog 32 #[(ptr m_b m_o)] h (fun vv h' => vv = (.bool r) ∧ h' = h) ∧ (((!r) = true → R (.int .u64 0) h) ∧ ((!r) = false → (∃ x : Int, hcell h m_b (m_o + 2) = some (.int .u64 x) ∧ R (.int .u64 x) h))))) :
    HC Try.prog 15 #[(ptr m_b m_o)] h R := by
  refine hc_of (args := [(ptr m_b m_o)]) Try.func15 rfl Try.ntmps15 (Nat.le_of_ble_eq_true rfl) ?_
  refine hx_seq ?_
  refine hx_region ?_
  refine hl_val rfl rfl (v := (.int .u64 0)) (hv_assign rfl) ?_
  refine hl_nil ?_
  refine seqQ_n ?_
  refine hx_seq ?_
  refine hx_seq ?_
  refine hx_region ?_
  refine hl_val rfl rfl (v := (ptr m_b m_o)) (hv_move rfl) ?_
  obtain ⟨r, hr1, H⟩ := H
  refine hl_val rfl rfl (v := (.bool r)) (hv_call TyQA.cb32 (vs := [(ptr m_b m_o)]) rfl hr1) ?_
  refine hl_val rfl rfl (v := (.bool (!r))) (hv_not (b := r) rfl) ?_
  refine hl_nil ?_
  refine seqQ_n ?_
  refine hx_cond (b := !r) rfl (fun hb2 => ?_) (fun hb2 => ?_)
  · replace H := H.1 hb2
    refine hx_seq ?_
    refine hx_region ?_
    refine hl_val rfl rfl (v := (.int .u64 0)) (hv_assign rfl) ?_
    refine hl_nil ?_
    refine seqQ_n ?_
    refine hx_ret ?_
    refine seqQ_ret ?_
    exact endQ_ret _ (res_one Try.results15 (rv_tmp rfl)) H
  · replace H := H.2 hb2
    refine hx_skip ?_
    refine seqQ_n ?_
    refine hx_seq ?_
    refine hx_region ?_
    refine hl_val rfl rfl (v := (ptr m_b m_o)) (hv_move rfl) ?_
    refine hl_val rfl rfl (v := (ptr m_b m_o)) (hv_nil rfl) ?_
    refine hl_val rfl rfl (v := (ptr m_b (m_o + 2))) (hv_field TyQA.fld67_2 (b := m_b) (o := m_o) rfl) ?_
    obtain ⟨x, hc3, H⟩ := H
    refine hl_val rfl rfl (v := (.int .u64 x)) (hv_load TyQA.agg29 rfl hc3) ?_
    refine hl_val rfl rfl (v := (.int .u64 x)) (hv_assign rfl) ?_
    refine hl_nil ?_
    refine seqQ_n ?_
    refine hx_ret ?_
    exact endQ_ret _ (res_one Try.results15 (rv_tmp rfl)) H

/-- (*cellar/region.Manager).Open -/
theorem f13_sh (m_b : Nat) (m_o : Nat) (h : Heap) (R : Value → Heap → Prop)
    (H : (∃ r : Bool, HC Try.prog 32 #[(ptr m_b m_o)] h (fun vv h' => vv = (.bool r) ∧ h' = h) ∧ (((!r) = true → R (.tuple #[(.int .i64 0), (.int .u64 0), (.int .i64 6)]) h) ∧ ((!r) = false → (∃ x : Int, hcell h m_b (m_o + 3) = some (.int .i64 x) ∧ (((x != (-1)) = true → R (.tuple #[(.int .i64 0), (.int .u64 0), (.int .i64 91)]) h) ∧ ((x != (-1)) = false → (∃ x_1 : Option Addr, ∃ x_n x_c : Nat, hcell h m_b (m_o + 1) = some (.slice x_1 x_n x_c) ∧ ((((x_n : Int) == 0) = true → R (.tuple #[(.int .i64 0), (.int .u64 0), (.int .i64 2)]) h) ∧ (((x_n : Int) == 0) = false → (∃ x_2 : Int, hcell h m_b (m_o + 2) = some (.int .u64 x_2) ∧ (((x_2 == 9223372036854775807) = true → R (.tuple #[(.int .i64 0), (.int .u64 0), (.int .i64 3)]) h) ∧ ((x_2 == 9223372036854775807) = false → (∃ x_1_b x_1_o : Nat, x_1 = some ⟨x_1_b, x_1_o, none⟩ ∧ (0 : Int) ≤ 0 ∧ 0 < (x_n : Int) ∧ (∃ x_3 : Int, hcell h x_1_b (x_1_o + (Int.toNat 0) * 1) = some (.int .i64 x_3) ∧ (HW h m_b (m_o + 3) ∧ ∀ h1, h1 = hset h m_b (m_o + 3) (.int .i64 x_3) → (∃ x_4 : Option Addr, ∃ x_n_1 x_c_1 : Nat, hcell h1 m_b (m_o + 1) = some (.slice x_4 x_n_1 x_c_1) ∧ HC Try.prog 33 #[(.slice x_4 x_n_1 x_c_1), (.int .i64 0), (.int .i64 1)] h1 (fun vv h2 => ∃ r_1 : Option Addr, ∃ r_n r_c : Nat, vv = (.slice r_1 r_n r_c) ∧ (HW h2 m_b (m_o + 1) ∧ ∀ h3, h3 = hset h2 m_b (m_o + 1) (.slice r_1 r_n r_c) → (∃ x_5 : Int, hcell h3 m_b (m_o + 2) = some (.int .u64 x_5) ∧ (HW h3 m_b (m_o + 2) ∧ ∀ h4, h4 = hset h3 m_b (m_o + 2) (.int .u64 (IntKind.u64.wrap (x_5 + 1))) → (∃ x_6 : Option Addr, ∃ x_n_2 x_c_2 : Nat, hcell h4 m_b m_o = some (.slice x_6 x_n_2 x_c_2) ∧ (∃ x_7 : Int, hcell h4 m_b (m_o + 3) = some (.int .i64 x_7) ∧ (∃ x_6_b x_6_o : Nat, x_6 = some ⟨x_6_b, x_6_o, none⟩ ∧ (0 : Int) ≤ x_7 ∧ x_7 < (x_n_2 : Int) ∧ (∃ x_8 : Int, hcell h4 m_b (m_o + 2) = some (.int .u64 x_8) ∧ (HW h4 x_6_b (x_6_o + (Int.toNat x_7) * 4) ∧ ∀ h5, h5 = hset h4 x_6_b (x_6_o + (Int.toNat x_7) * 4) (.int .i64 2) → (HW h5 x_6_b ((x_6_o + (Int.toNat x_7) * 4) + 1) ∧ ∀ h6, h6 = hset h5 x_6_b ((x_6_o + (Int.toNat x_7) * 4) + 1) (.int .u64 x_8) → (∃ x_9 : Int, hcell h6 m_b (m_o + 3) = some (.int .i64 x_9) ∧ (∃ x_10 : Int, hcell h6 m_b (m_o + 2) = some (.int .u64 x_10) ∧ R (.tuple #[(.int .i64 x_9), (.int .u64 x_10), (.int .i64 0)]) h6))))))))))))))))))))))))))))) :
    HC Try.prog 13 #[(ptr m_b m_o)] h R := by
  refine hc_of (args := [(ptr m_b m_o)]) Try.func13 rfl Try.ntmps13 (Nat.le_of_ble_eq_true rfl) ?_
  refine hx_seq ?_
  refine hx_region ?_
  refine hl_val rfl rfl (v := (.int .i64 0)) (hv_assign rfl) ?_
  refine hl_val rfl rfl (v := (.int .u64 0)) (hv_assign rfl) ?_
  refine hl_val rfl rfl (v := (.int .i64 0)) (hv_assign rfl) ?_
  refine hl_nil ?_
  refine seqQ_n ?_
  refine hx_seq ?_
  refine hx_block ?_
  refine hx_seq ?_
  refine hx_region ?_
  refine hl_val rfl rfl (v := (ptr m_b m_o)) (hv_move rfl) ?_
  obtain ⟨r, hr1, H⟩ := H
  refine hl_val rfl rfl (v := (.bool r)) (hv_call TyQA.cb32 (vs := [(ptr m_b m_o)]) rfl hr1) ?_
  refine hl_val rfl rfl (v := (.bool (!r))) (hv_not (b := r) rfl) ?_
  refine hl_val rfl rfl (v := (.bool (!r))) (hv_assign rfl) ?_
  refine hl_nil ?_
  refine seqQ_n ?_
  refine hx_cond (b := !r) rfl (fun hb2 => ?_) (fun hb2 => ?_)
  · replace H := H.1 hb2
    refine hx_seq ?_
    refine hx_region ?_
    refine hl_val rfl rfl (v := (.int .i64 0)) (hv_assign rfl) ?_
    refine hl_val rfl rfl (v := (.int .u64 0)) (hv_assign rfl) ?_
    refine hl_val rfl rfl (v := (.int .i64 6)) (hv_assign rfl) ?_
    refine hl_nil ?_
    refine seqQ_n ?_
    refine hx_ret ?_
    refine blockQ_ret ?_
    refine seqQ_ret ?_
    exact endQ_ret _ (res_three Try.results13 (rv_tmp rfl) (rv_tmp rfl) (rv_tmp rfl)) H
  · replace H := H.2 hb2
    refine hx_seq ?_
    refine hx_region ?_
    refine hl_val rfl rfl (v := (ptr m_b m_o)) (hv_move rfl) ?_
    refine hl_val rfl rfl (v := (ptr m_b m_o)) (hv_nil rfl) ?_
    refine hl_val rfl rfl (v := (ptr m_b (m_o + 3))) (hv_field TyQA.fld67_3 (b := m_b) (o := m_o) rfl) ?_
    obtain ⟨x, hc3, H⟩ := H
    refine hl_val rfl rfl (v := (.int .i64 x)) (hv_load TyQA.agg3 rfl hc3) ?_
    refine hl_val rfl rfl (v := (.bool (x != (-1)))) (hv_arith rfl rfl rfl) ?_
    refine hl_val rfl rfl (v := (.bool (x != (-1)))) (hv_assign rfl) ?_
    refine hl_nil ?_
    refine seqQ_n ?_
    refine hx_cond (b := x != (-1)) rfl (fun hb4 => ?_) (fun hb4 => ?_)
    · replace H := H.1 hb4
      refine hx_seq ?_
      refine hx_region ?_
      refine hl_val rfl rfl (v := (.int .i64 0)) (hv_assign rfl) ?_
      refine hl_val rfl rfl (v := (.int .u64 0)) (hv_assign rfl) ?_
      refine hl_val rfl rfl (v := (.int .i64 91)) (hv_assign rfl) ?_
      refine hl_nil ?_
      refine seqQ_n ?_
      refine hx_ret ?_
      refine blockQ_ret ?_
      refine seqQ_ret ?_
      exact endQ_ret _ (res_three Try.results13 (rv_tmp rfl) (rv_tmp rfl) (rv_tmp rfl)) H
    · replace H := H.2 hb4
      refine hx_seq ?_
      refine hx_region ?_
      refine hl_val rfl rfl (v := (ptr m_b m_o)) (hv_move rfl) ?_
      refine hl_val rfl rfl (v := (ptr m_b m_o)) (hv_nil rfl) ?_
      refine hl_val rfl rfl (v := (ptr m_b (m_o + 1))) (hv_field TyQA.fld67_1 (b := m_b) (o := m_o) rfl) ?_
      obtain ⟨x_1, x_n, x_c, hc5, H⟩ := H
      refine hl_val rfl rfl (v := (.slice x_1 x_n x_c)) (hv_load TyQA.agg50 rfl hc5) ?_
      refine hl_val rfl rfl (v := (.int .i64 (x_n : Int))) (hv_len (n := x_n) TyQA.u50 rfl) ?_
      refine hl_val rfl rfl (v := (.bool ((x_n : Int) == 0))) (hv_arith rfl rfl rfl) ?_
      refine hl_val rfl rfl (v := (.bool ((x_n : Int) == 0))) (hv_assign rfl) ?_
      refine hl_nil ?_
      refine seqQ_n ?_
      refine hx_cond (b := (x_n : Int) == 0) rfl (fun hb6 => ?_) (fun hb6 => ?_)
      · replace H := H.1 hb6
        refine hx_seq ?_
        refine hx_region ?_
        refine hl_val rfl rfl (v := (.int .i64 0)) (hv_assign rfl) ?_
        refine hl_val rfl rfl (v := (.int .u64 0)) (hv_assign rfl) ?_
        refine hl_val rfl rfl (v := (.int .i64 2)) (hv_assign rfl) ?_
        refine hl_nil ?_
        refine seqQ_n ?_
        refine hx_ret ?_
        refine blockQ_ret ?_
        refine seqQ_ret ?_
        exact endQ_ret _ (res_three Try.results13 (rv_tmp rfl) (rv_tmp rfl) (rv_tmp rfl)) H
      · replace H := H.2 hb6
        refine hx_seq ?_
        refine hx_region ?_
        refine hl_val rfl rfl (v := (ptr m_b m_o)) (hv_move rfl) ?_
        refine hl_val rfl rfl (v := (ptr m_b m_o)) (hv_nil rfl) ?_
        refine hl_val rfl rfl (v := (ptr m_b (m_o + 2))) (hv_field TyQA.fld67_2 (b := m_b) (o := m_o) rfl) ?_
        obtain ⟨x_2, hc7, H⟩ := H
        refine hl_val rfl rfl (v := (.int .u64 x_2)) (hv_load TyQA.agg29 rfl hc7) ?_
        refine hl_val rfl rfl (v := (.bool (x_2 == 9223372036854775807))) (hv_arith rfl rfl rfl) ?_
        refine hl_val rfl rfl (v := (.bool (x_2 == 9223372036854775807))) (hv_assign rfl) ?_
        refine hl_nil ?_
        refine seqQ_n ?_
        refine hx_cond (b := x_2 == 9223372036854775807) rfl (fun hb8 => ?_) (fun hb8 => ?_)
        · replace H := H.1 hb8
          refine hx_seq ?_
          refine hx_region ?_
          refine hl_val rfl rfl (v := (.int .i64 0)) (hv_assign rfl) ?_
          refine hl_val rfl rfl (v := (.int .u64 0)) (hv_assign rfl) ?_
          refine hl_val rfl rfl (v := (.int .i64 3)) (hv_assign rfl) ?_
          refine hl_nil ?_
          refine seqQ_n ?_
          refine hx_ret ?_
          refine blockQ_ret ?_
          refine seqQ_ret ?_
          exact endQ_ret _ (res_three Try.results13 (rv_tmp rfl) (rv_tmp rfl) (rv_tmp rfl)) H
        · replace H := H.2 hb8
          refine hx_skip ?_
          refine blockQ_n ?_
          refine seqQ_n ?_
          refine hx_seq ?_
          refine hx_region ?_
          refine hl_val rfl rfl (v := (ptr m_b m_o)) (hv_move rfl) ?_
          refine hl_val rfl rfl (v := (ptr m_b m_o)) (hv_move rfl) ?_
          refine hl_val rfl rfl (v := (ptr m_b m_o)) (hv_nil rfl) ?_
          refine hl_val rfl rfl (v := (ptr m_b (m_o + 1))) (hv_field TyQA.fld67_1 (b := m_b) (o := m_o) rfl) ?_
          refine hl_val rfl rfl (v := (.slice x_1 x_n x_c)) (hv_load TyQA.agg50 rfl hc5) ?_
          obtain ⟨x_1_b, x_1_o, hqe, hi9, hi10, Hq⟩ := H
          subst hqe
          have H := Hq; clear Hq
          refine hl_val rfl rfl (v := (ptr x_1_b (x_1_o + (Int.toNat 0) * 1))) (hv_index TyQA.el50 rfl rfl hi9 hi10) ?_
          obtain ⟨x_3, hc11, H⟩ := H
          refine hl_val rfl rfl (v := (.int .i64 x_3)) (hv_load TyQA.agg3 rfl hc11) ?_
          refine hl_val rfl rfl (v := (ptr m_b m_o)) (hv_nil rfl) ?_
          refine hl_val rfl rfl (v := (ptr m_b (m_o + 3))) (hv_field TyQA.fld67_3 (b := m_b) (o := m_o) rfl) ?_
          obtain ⟨hw13, H⟩ := H
          refine hl_step rfl rfl (hn_store (v := (.int .i64 x_3)) rfl rfl TyQA.sz3 rfl hw13 ?_)
          intro h1 eh12
          replace H := H h1 eh12
          refine hl_nil ?_
          refine seqQ_n ?_
          refine hx_seq ?_
          refine hx_region ?_
          refine hl_val rfl rfl (v := (ptr m_b m_o)) (hv_move rfl) ?_
          refine hl_val rfl rfl (v := (ptr m_b m_o)) (hv_move rfl) ?_
          refine hl_val rfl rfl (v := (ptr m_b m_o)) (hv_nil rfl) ?_
          refine hl_val rfl rfl (v := (ptr m_b (m_o + 1))) (hv_field TyQA.fld67_1 (b := m_b) (o := m_o) rfl) ?_
          obtain ⟨x_4, x_n_1, x_c_1, hc14, H⟩ := H
          refine hl_val rfl rfl (v := (.slice x_4 x_n_1 x_c_1)) (hv_load TyQA.agg50 rfl hc14) ?_
          refine hl_step rfl rfl (hs_call TyQA.cb33 (vs := [(.slice x_4 x_n_1 x_c_1), (.int .i64 0), (.int .i64 1)]) rfl (HC.mono H ?_))
          rintro _ h2 ⟨r_1, r_n, r_c, rfl, H⟩
          refine hl_val rfl rfl (v := (ptr m_b m_o)) (hv_nil rfl) ?_
          refine hl_val rfl rfl (v := (ptr m_b (m_o + 1))) (hv_field TyQA.fld67_1 (b := m_b) (o := m_o) rfl) ?_
          obtain ⟨hw16, H⟩ := H
          refine hl_step rfl rfl (hn_store (v := (.slice r_1 r_n r_c)) rfl rfl TyQA.sz50 rfl hw16 ?_)
          intro h3 eh15
          replace H := H h3 eh15
          refine hl_nil ?_
          refine seqQ_n ?_
          refine hx_seq ?_
          refine hx_region ?_
          refine hl_val rfl rfl (v := (ptr m_b m_o)) (hv_move rfl) ?_
          refine hl_val rfl rfl (v := (ptr m_b m_o)) (hv_nil rfl) ?_
          refine hl_val rfl rfl (v := (ptr m_b (m_o + 2))) (hv_field TyQA.fld67_2 (b := m_b) (o := m_o) rfl) ?_
          obtain ⟨x_5, hc17, H⟩ := H
          refine hl_val rfl rfl (v := (.int .u64 x_5)) (hv_load TyQA.agg29 rfl hc17) ?_
          refine hl_val rfl rfl (v := (.int .u64 (IntKind.u64.wrap (x_5 + 1)))) (hv_arith rfl rfl rfl) ?_
          refine hl_val rfl rfl (v := (ptr m_b m_o)) (hv_nil rfl) ?_
          refine hl_val rfl rfl (v := (ptr m_b (m_o + 2))) (hv_field TyQA.fld67_2 (b := m_b) (o := m_o) rfl) ?_
          obtain ⟨hw19, H⟩ := H
          refine hl_step rfl rfl (hn_store (v := (.int .u64 (IntKind.u64.wrap (x_5 + 1)))) rfl rfl TyQA.sz29 rfl hw19 ?_)
          intro h4 eh18
          replace H := H h4 eh18
          refine hl_nil ?_
          refine seqQ_n ?_
          refine hx_seq ?_
          refine hx_draw TyQA.mixed [.pure, .pure, .pure, .read, .pure, .pure, .pure, .read, .pure, .pure] [0, 1, 2, 3, 4, 5, 6, 7, 8, 9] (by kernel_rfl) ?_
          refine hp_pure (i := 0) rfl (wanted_0 rfl) rfl (ptr m_b m_o) (fun _ => hv_move rfl) ?_
          refine hp_pure (i := 1) rfl (wanted_0 rfl) rfl (ptr m_b m_o) (fun _ => hv_nil rfl) ?_
          refine hp_pure (i := 2) rfl (wanted_0 rfl) rfl (ptr m_b m_o) (fun _ => hv_field TyQA.fld67_0 (b := m_b) (o := m_o) rfl) ?_
          obtain ⟨x_6, x_n_2, x_c_2, hc20, H⟩ := H
          refine hp_read (i := 3) rfl (wanted_0 rfl) rfl (.slice x_6 x_n_2 x_c_2) (fun _ he => hv_load TyQA.agg28 rfl (Ext.cell he hc20)) ?_
          refine hp_pure (i := 4) rfl (wanted_0 rfl) rfl (ptr m_b m_o) (fun _ => hv_move rfl) ?_
          refine hp_pure (i := 5) rfl (wanted_0 rfl) rfl (ptr m_b m_o) (fun _ => hv_nil rfl) ?_
          refine hp_pure (i := 6) rfl (wanted_0 rfl) rfl (ptr m_b (m_o + 3)) (fun _ => hv_field TyQA.fld67_3 (b := m_b) (o := m_o) rfl) ?_
          obtain ⟨x_7, hc21, H⟩ := H
          refine hp_read (i := 7) rfl (wanted_0 rfl) rfl (.int .i64 x_7) (fun _ he => hv_load TyQA.agg3 rfl (Ext.cell he hc21)) ?_
          obtain ⟨x_6_b, x_6_o, hqe, hi22, hi23, Hq⟩ := H
          subst hqe
          have H := Hq; clear Hq
          refine hp_pure (i := 8) rfl (wanted_0 rfl) rfl (ptr x_6_b (x_6_o + (Int.toNat x_7) * 4)) (fun _ => hv_index TyQA.el28 rfl rfl hi22 hi23) ?_
          refine hp_pure (i := 9) rfl (wanted_0 rfl) rfl (ptr x_6_b (x_6_o + (Int.toNat x_7) * 4)) (fun _ => hv_assign rfl) ?_
          refine hp_nil ?_
          refine seqQ_n ?_
          refine hx_seq ?_
          refine hx_region ?_
          refine hl_val rfl rfl (v := (ptr x_6_b (x_6_o + (Int.toNat x_7) * 4))) (hv_move rfl) ?_
          refine hl_val rfl rfl (v := (ptr x_6_b (x_6_o + (Int.toNat x_7) * 4))) (hv_move rfl) ?_
          refine hl_val rfl rfl (v := (ptr m_b m_o)) (hv_move rfl) ?_
          refine hl_val rfl rfl (v := (ptr m_b m_o)) (hv_nil rfl) ?_
          refine hl_val rfl rfl (v := (ptr m_b (m_o + 2))) (hv_field TyQA.fld67_2 (b := m_b) (o := m_o) rfl) ?_
          obtain ⟨x_8, hc24, H⟩ := H
          refine hl_val rfl rfl (v := (.int .u64 x_8)) (hv_load TyQA.agg29 rfl hc24) ?_
          refine hl_val rfl rfl (v := (ptr x_6_b (x_6_o + (Int.toNat x_7) * 4))) (hv_nil rfl) ?_
          refine hl_val rfl rfl (v := (ptr x_6_b (x_6_o + (Int.toNat x_7) * 4))) (hv_field TyQA.fld31_0 (b := x_6_b) (o := x_6_o + (Int.toNat x_7) * 4) rfl) ?_
          obtain ⟨hw26, H⟩ := H
          refine hl_step rfl rfl (hn_store (v := (.int .i64 2)) rfl rfl TyQA.sz3 rfl hw26 ?_)
          intro h5 eh25
          replace H := H h5 eh25
          refine hl_val rfl rfl (v := (ptr x_6_b (x_6_o + (Int.toNat x_7) * 4))) (hv_nil rfl) ?_
          refine hl_val rfl rfl (v := (ptr x_6_b ((x_6_o + (Int.toNat x_7) * 4) + 1))) (hv_field TyQA.fld31_1 (b := x_6_b) (o := x_6_o + (Int.toNat x_7) * 4) rfl) ?_
          obtain ⟨hw28, H⟩ := H
          refine hl_step rfl rfl (hn_store (v := (.int .u64 x_8)) rfl rfl TyQA.sz29 rfl hw28 ?_)
          intro h6 eh27
          replace H := H h6 eh27
          refine hl_nil ?_
          refine seqQ_n ?_
          refine hx_seq ?_
          refine hx_draw TyQA.mixed [.pure, .pure, .pure, .read, .pure, .pure, .pure, .read, .pure, .pure, .pure] [0, 1, 2, 3, 4, 5, 6, 7, 8, 9, 10] (by kernel_rfl) ?_
          refine hp_pure (i := 0) rfl (wanted_0 rfl) rfl (ptr m_b m_o) (fun _ => hv_move rfl) ?_
          refine hp_pure (i := 1) rfl (wanted_0 rfl) rfl (ptr m_b m_o) (fun _ => hv_nil rfl) ?_
          refine hp_pure (i := 2) rfl (wanted_0 rfl) rfl (ptr m_b (m_o + 3)) (fun _ => hv_field TyQA.fld67_3 (b := m_b) (o := m_o) rfl) ?_
          obtain ⟨x_9, hc29, H⟩ := H
          refine hp_read (i := 3) rfl (wanted_0 rfl) rfl (.int .i64 x_9) (fun _ he => hv_load TyQA.agg3 rfl (Ext.cell he hc29)) ?_
          refine hp_pure (i := 4) rfl (wanted_0 rfl) rfl (ptr m_b m_o) (fun _ => hv_move rfl) ?_
          refine hp_pure (i := 5) rfl (wanted_0 rfl) rfl (ptr m_b m_o) (fun _ => hv_nil rfl) ?_
          refine hp_pure (i := 6) rfl (wanted_0 rfl) rfl (ptr m_b (m_o + 2)) (fun _ => hv_field TyQA.fld67_2 (b := m_b) (o := m_o) rfl) ?_
          obtain ⟨x_10, hc30, H⟩ := H
          refine hp_read (i := 7) rfl (wanted_0 rfl) rfl (.int .u64 x_10) (fun _ he => hv_load TyQA.agg29 rfl (Ext.cell he hc30)) ?_
          refine hp_pure (i := 8) rfl (wanted_0 rfl) rfl (.int .i64 x_9) (fun _ => hv_assign rfl) ?_
          refine hp_pure (i := 9) rfl (wanted_0 rfl) rfl (.int .u64 x_10) (fun _ => hv_assign rfl) ?_
          refine hp_pure (i := 10) rfl (wanted_0 rfl) rfl (.int .i64 0) (fun _ => hv_assign rfl) ?_
          refine hp_nil ?_
          refine seqQ_n ?_
          refine hx_ret ?_
          exact endQ_ret _ (res_three Try.results13 (rv_tmp rfl) (rv_tmp rfl) (rv_tmp rfl)) H

/-- (*cellar/region.Manager).Seal -/
theorem f23_sh (m_b : Nat) (m_o : Nat) (h : Heap) (R : Value → Heap → Prop)
    (H : (∃ r : Bool, HC Try.prog 32 #[(ptr m_b m_o)] h (fun vv h' => vv = (.bool r) ∧ h' = h) ∧ (((!r) = true → R (.int .i64 6) h) ∧ ((!r) = false → (∃ x : Int, hcell h m_b (m_o + 3) = some (.int .i64 x) ∧ (((x == (-1)) = true → R (.int .i64 91) h) ∧ ((x == (-1)) = false → (∃ x_1 : Option Addr, ∃ x_n x_c : Nat, hcell h m_b m_o = some (.slice x_1 x_n x_c) ∧ (∃ x_1_b x_1_o : Nat, x_1 = some ⟨x_1_b, x_1_o, none⟩ ∧ (0 : Int) ≤ x ∧ x < (x_n : Int) ∧ (HW h x_1_b (x_1_o + (Int.toNat x) * 4) ∧ ∀ h1, h1 = hset h x_1_b (x_1_o + (Int.toNat x) * 4) (.int .i64 3) → (HW h1 m_b (m_o + 3) ∧ ∀ h2, h2 = hset h1 m_b (m_o + 3) (.int .i64 (-1)) → R (.int .i64 0) h2))))))))))) :
    HC Try.prog 23 #[(ptr m_b m_o)] h R := by
  refine hc_of (args := [(ptr m_b m_o)]) Try.func23 rfl Try.ntmps23 (Nat.le_of_ble_eq_true rfl) ?_
  refine hx_seq ?_
  refine hx_region ?_
  refine hl_val rfl rfl (v := (.int .i64 0)) (hv_assign rfl) ?_
  refine hl_nil ?_
  refine seqQ_n ?_
  refine hx_seq ?_
  refine hx_block ?_
  refine hx_seq ?_
  refine hx_region ?_
  refine hl_val rfl rfl (v := (ptr m_b m_o)) (hv_move rfl) ?_
  obtain ⟨r, hr1, H⟩ := H
  refine hl_val rfl rfl (v := (.bool r)) (hv_call TyQA.cb32 (vs := [(ptr m_b m_o)]) rfl hr1) ?_
  refine hl_val rfl rfl (v := (.bool (!r))) (hv_not (b := r) rfl) ?_
  refine hl_val rfl rfl (v := (.bool (!r))) (hv_assign rfl) ?_
  refine hl_nil ?_
  refine seqQ_n ?_
  refine hx_cond (b := !r) rfl (fun hb2 => ?_) (fun hb2 => ?_)
  · replace H := H.1 hb2
    refine hx_seq ?_
    refine hx_region ?_
    refine hl_val rfl rfl (v := (.int .i64 6)) (hv_assign rfl) ?_
    refine hl_nil ?_
    refine seqQ_n ?_
    refine hx_ret ?_
    refine blockQ_ret ?_
    refine seqQ_ret ?_
    exact endQ_ret _ (res_one Try.results23 (rv_tmp rfl)) H
  · replace H := H.2 hb2
    refine hx_seq ?_
    refine hx_region ?_
    refine hl_val rfl rfl (v := (ptr m_b m_o)) (hv_move rfl) ?_
    refine hl_val rfl rfl (v := (ptr m_b m_o)) (hv_nil rfl) ?_
    refine hl_val rfl rfl (v := (ptr m_b (m_o + 3))) (hv_field TyQA.fld67_3 (b := m_b) (o := m_o) rfl) ?_
    obtain ⟨x, hc3, H⟩ := H
    refine hl_val rfl rfl (v := (.int .i64 x)) (hv_load TyQA.agg3 rfl hc3) ?_
    refine hl_val rfl rfl (v := (.bool (x == (-1)))) (hv_arith rfl rfl rfl) ?_
    refine hl_val rfl rfl (v := (.bool (x == (-1)))) (hv_assign rfl) ?_
    refine hl_nil ?_
    refine seqQ_n ?_
    refine hx_cond (b := x == (-1)) rfl (fun hb4 => ?_) (fun hb4 => ?_)
    · replace H := H.1 hb4
      refine hx_seq ?_
      refine hx_region ?_
      refine hl_val rfl rfl (v := (.int .i64 91)) (hv_assign rfl) ?_
      refine hl_nil ?_
      refine seqQ_n ?_
      refine hx_ret ?_
      refine blockQ_ret ?_
      refine seqQ_ret ?_
      exact endQ_ret _ (res_one Try.results23 (rv_tmp rfl)) H
    · replace H := H.2 hb4
      refine hx_skip ?_
      refine blockQ_n ?_
      refine seqQ_n ?_
      refine hx_seq ?_
      refine hx_draw TyQA.mixed [.pure, .pure, .pure, .read, .pure, .pure, .pure, .read, .pure, .pure, .wild] [0, 1, 2, 3, 4, 5, 6, 7, 8, 9, 10] (by kernel_rfl) ?_
      refine hp_pure (i := 0) rfl (wanted_0 rfl) rfl (ptr m_b m_o) (fun _ => hv_move rfl) ?_
      refine hp_pure (i := 1) rfl (wanted_0 rfl) rfl (ptr m_b m_o) (fun _ => hv_nil rfl) ?_
      refine hp_pure (i := 2) rfl (wanted_0 rfl) rfl (ptr m_b m_o) (fun _ => hv_field TyQA.fld67_0 (b := m_b) (o := m_o) rfl) ?_
      obtain ⟨x_1, x_n, x_c, hc5, H⟩ := H
      refine hp_read (i := 3) rfl (wanted_0 rfl) rfl (.slice x_1 x_n x_c) (fun _ he => hv_load TyQA.agg28 rfl (Ext.cell he hc5)) ?_
      refine hp_pure (i := 4) rfl (wanted_0 rfl) rfl (ptr m_b m_o) (fun _ => hv_move rfl) ?_
      refine hp_pure (i := 5) rfl (wanted_0 rfl) rfl (ptr m_b m_o) (fun _ => hv_nil rfl) ?_
      refine hp_pure (i := 6) rfl (wanted_0 rfl) rfl (ptr m_b (m_o + 3)) (fun _ => hv_field TyQA.fld67_3 (b := m_b) (o := m_o) rfl) ?_
      refine hp_read (i := 7) rfl (wanted_0 rfl) rfl (.int .i64 x) (fun _ he => hv_load TyQA.agg3 rfl (Ext.cell he hc3)) ?_
      obtain ⟨x_1_b, x_1_o, hqe, hi6, hi7, Hq⟩ := H
      subst hqe
      have H := Hq; clear Hq
      refine hp_pure (i := 8) rfl (wanted_0 rfl) rfl (ptr x_1_b (x_1_o + (Int.toNat x) * 4)) (fun _ => hv_index TyQA.el28 rfl rfl hi6 hi7) ?_
      refine hp_pure (i := 9) rfl (wanted_0 rfl) rfl (ptr x_1_b (x_1_o + (Int.toNat x) * 4)) (fun _ => hv_field TyQA.fld31_0 (b := x_1_b) (o := x_1_o + (Int.toNat x) * 4) rfl) ?_
      obtain ⟨hw9, H⟩ := H
      refine hp_wild (i := 10) rfl (wanted_0 rfl) rfl (hn_store (v := (.int .i64 3)) rfl rfl TyQA.sz3 rfl hw9 ?_)
      intro h1 eh8
      replace H := H h1 eh8
      refine hp_nil ?_
      refine seqQ_n ?_
      refine hx_seq ?_
      refine hx_region ?_
      refine hl_val rfl rfl (v := (ptr m_b m_o)) (hv_move rfl) ?_
      refine hl_val rfl rfl (v := (ptr m_b m_o)) (hv_nil rfl) ?_
      refine hl_val rfl rfl (v := (ptr m_b (m_o + 3))) (hv_field TyQA.fld67_3 (b := m_b) (o := m_o) rfl) ?_
      obtain ⟨hw11, H⟩ := H
      refine hl_step rfl rfl (hn_store (v := (.int .i64 (-1))) rfl rfl TyQA.sz3 rfl hw11 ?_)
      intro h2 eh10
      replace H := H h2 eh10
      refine hl_nil ?_
      refine seqQ_n ?_
      refine hx_seq ?_
      refine hx_region ?_
      refine hl_val rfl rfl (v := (.int .i64 0)) (hv_assign rfl) ?_
      refine hl_nil ?_
      refine seqQ_n ?_
      refine hx_ret ?_
      exact endQ_ret _ (res_one Try.results23 (rv_tmp rfl)) H

/-- (*cellar/region.Manager).Mark -/
theorem f24_sh (m_b : Nat) (m_o : Nat) (region : Int) (h : Heap) (R : Value → Heap → Prop)
    (H : (∃ r0 : Option Addr, ∃ r1 : Int, HC Try.prog 31 #[(ptr m_b m_o), (.int .i64 region), (.int .i64 3)] h (fun vv h' => vv = (.tuple #[(.pointer r0), (.int .i64 r1)]) ∧ h' = h) ∧ (∃ A4 : Heap → Prop, (((r1 == 0) = true → (∃ r0_b r0_o : Nat, r0 = some ⟨r0_b, r0_o, none⟩ ∧ (HW h r0_b r0_o ∧ ∀ h2, h2 = hset h r0_b r0_o (.int .i64 4) → (A4 h2)))) ∧ ((r1 == 0) = false → (A4 h))) ∧ (∀ (h1 : Heap), A4 h1 → R (.int .i64 r1) h1)))) :
    HC Try.prog 24 #[(ptr m_b m_o), (.int .i64 region)] h R := by
  refine hc_of (args := [(ptr m_b m_o), (.int .i64 region)]) Try.func24 rfl Try.ntmps24 (Nat.le_of_ble_eq_true rfl) ?_
  refine hx_seq ?_
  refine hx_region ?_
  refine hl_val rfl rfl (v := (.int .i64 0)) (hv_assign rfl) ?_
  refine hl_nil ?_
  refine seqQ_n ?_
  refine hx_seq ?_
  refine hx_region ?_
  refine hl_val rfl rfl (v := (ptr m_b m_o)) (hv_move rfl) ?_
  refine hl_val rfl rfl (v := (.int .i64 region)) (hv_move rfl) ?_
  obtain ⟨r0, r1, hr1, H⟩ := H
  refine hl_val rfl rfl (v := (.tuple #[(.pointer r0), (.int .i64 r1)])) (hv_call TyQA.cb31 (vs := [(ptr m_b m_o), (.int .i64 region), (.int .i64 3)]) rfl hr1) ?_
  refine hl_val rfl rfl (v := (.tuple #[(.pointer r0), (.int .i64 r1)])) (hv_move rfl) ?_
  refine hl_val rfl rfl (v := (.pointer r0)) (hv_extract (vs := #[(.pointer r0), (.int .i64 r1)]) rfl rfl) ?_
  refine hl_val rfl rfl (v := (.int .i64 r1)) (hv_extract (vs := #[(.pointer r0), (.int .i64 r1)]) rfl rfl) ?_
  refine hl_val rfl rfl (v := (.pointer r0)) (hv_assign rfl) ?_
  refine hl_val rfl rfl (v := (.int .i64 r1)) (hv_assign rfl) ?_
  refine hl_nil ?_
  refine seqQ_n ?_
  obtain ⟨A4, Hx2, Hy3⟩ := H
  refine hx_cut (fun ρ h' => (A4 h' ∧ True) ∧ Has ρ [(6, (.int .i64 r1))]) ?_ ?_
  · have H := Hx2; clear Hx2 Hy3
    refine hx_seq ?_
    refine hx_region ?_
    refine hl_val rfl rfl (v := (.int .i64 r1)) (hv_move rfl) ?_
    refine hl_val rfl rfl (v := (.bool (r1 == 0))) (hv_arith rfl rfl rfl) ?_
    refine hl_nil ?_
    refine seqQ_n ?_
    refine hx_cond (b := r1 == 0) rfl (fun hb6 => ?_) (fun hb6 => ?_)
    · replace H := H.1 hb6
      refine hx_region ?_
      refine hl_val rfl rfl (v := (.pointer r0)) (hv_move rfl) ?_
      obtain ⟨r0_b, r0_o, hqe, Hq⟩ := H
      subst hqe
      have H := Hq; clear Hq
      refine hl_val rfl rfl (v := (ptr r0_b r0_o)) (hv_nil rfl) ?_
      refine hl_val rfl rfl (v := (ptr r0_b r0_o)) (hv_field TyQA.fld31_0 (b := r0_b) (o := r0_o) rfl) ?_
      obtain ⟨hw8, H⟩ := H
      refine hl_step rfl rfl (hn_store (v := (.int .i64 4)) rfl rfl TyQA.sz3 rfl hw8 ?_)
      intro h2 eh7
      replace H := H h2 eh7
      refine hl_nil ?_
      refine seqQ_n ?_
      exact ⟨⟨H, trivial⟩, (has_cons rfl has_nil)⟩
    · replace H := H.2 hb6
      refine hx_skip ?_
      refine seqQ_n ?_
      exact ⟨⟨H, trivial⟩, (has_cons rfl has_nil)⟩
  · rintro ρ h1 ⟨⟨HA5, -⟩, hH⟩
    have H := Hy3 h1 HA5; clear Hx2 Hy3
    refine hx_has _ hH ?_
    refine hx_seq ?_
    refine hx_region ?_
    refine hl_val rfl rfl (v := (.int .i64 r1)) (hv_move rfl) ?_
    refine hl_val rfl rfl (v := (.int .i64 r1)) (hv_assign rfl) ?_
    refine hl_nil ?_
    refine seqQ_n ?_
    refine hx_ret ?_
    exact endQ_ret _ (res_one Try.results24 (rv_tmp rfl)) H

/-- (*cellar/region.Manager).Free -/
theorem f25_sh (m_b : Nat) (m_o : Nat) (region : Int) (h : Heap) (R : Value → Heap → Prop)
    (H : (∃ r0 : Option Addr, ∃ r1 : Int, HC Try.prog 31 #[(ptr m_b m_o), (.int .i64 region), (.int .i64 4)] h (fun vv h' => vv = (.tuple #[(.pointer r0), (.int .i64 r1)]) ∧ h' = h) ∧ (((r1 != 0) = true → R (.int .i64 r1) h) ∧ ((r1 != 0) = false → (∃ r0_b r0_o : Nat, r0 = some ⟨r0_b, r0_o, none⟩ ∧ (∃ x : Int, hcell h r0_b (r0_o + 2) = some (.int .i64 x) ∧ (((decide (x > 0)) = true → R (.int .i64 92) h) ∧ ((decide (x > 0)) = false → (∃ x_1 : Int, hcell h r0_b (r0_o + 3) = some (.int .i64 x_1) ∧ (HWs h r0_b r0_o 4 ∧ ∀ h1, h1 = hsets h r0_b r0_o [(.int .i64 1), (.int .u64 0), (.int .i64 0), (.int .i64 (IntKind.i64.wrap ((if 2147483646 < x_1 then 2147483646 else x_1) + 1)))] → (∃ x_2 : Option Addr, ∃ x_n x_c : Nat, hcell h1 m_b (m_o + 1) = some (.slice x_2 x_n x_c) ∧ (∀ nb h2, nb = Array.size h1 → h2 = Array.push h1 (.cells #[(.int .i64 region)] 3) → HAppend Try.prog 50 50 (.slice x_2 x_n x_c) (.slice (some ⟨nb, 0, none⟩) 1 1) h2 (fun vv h3 => ∃ ap : Option Addr, ∃ ap_n ap_c : Nat, vv = (.slice ap ap_n ap_c) ∧ (HW h3 m_b (m_o + 1) ∧ ∀ h4, h4 = hset h3 m_b (m_o + 1) (.slice ap ap_n ap_c) → (∃ x_3 : Option Nat, hcell h4 m_b (m_o + 4) = some (.map x_3) ∧ (∃ x_3_m : Nat, x_3 = some x_3_m ∧ ∃ kv : List (Int × Value), MapL h4 x_3_m (Value.int .i64) kv ∧ ∀ h5, Only x_3_m h4 h5 → MapL h5 x_3_m (Value.int .i64) (kdel kv region) → R (.int .i64 0) h5)))))))))))))))) :
    HC Try.prog 25 #[(ptr m_b m_o), (.int .i64 region)] h R := by
  refine hc_of (args := [(ptr m_b m_o), (.int .i64 region)]) Try.func25 rfl Try.ntmps25 (Nat.le_of_ble_eq_true rfl) ?_
  refine hx_seq ?_
  refine hx_region ?_
  refine hl_val rfl rfl (v := (.int .i64 0)) (hv_assign rfl) ?_
  refine hl_nil ?_
  refine seqQ_n ?_
  refine hx_seq ?_
  refine hx_region ?_
  refine hl_val rfl rfl (v := (ptr m_b m_o)) (hv_move rfl) ?_
  refine hl_val rfl rfl (v := (.int .i64 region)) (hv_move rfl) ?_
  obtain ⟨r0, r1, hr1, H⟩ := H
  refine hl_val rfl rfl (v := (.tuple #[(.pointer r0), (.int .i64 r1)])) (hv_call TyQA.cb31 (vs := [(ptr m_b m_o), (.int .i64 region), (.int .i64 4)]) rfl hr1) ?_
  refine hl_val rfl rfl (v := (.tuple #[(.pointer r0), (.int .i64 r1)])) (hv_move rfl) ?_
  refine hl_val rfl rfl (v := (.pointer r0)) (hv_extract (vs := #[(.pointer r0), (.int .i64 r1)]) rfl rfl) ?_
  refine hl_val rfl rfl (v := (.int .i64 r1)) (hv_extract (vs := #[(.pointer r0), (.int .i64 r1)]) rfl rfl) ?_
  refine hl_val rfl rfl (v := (.pointer r0)) (hv_assign rfl) ?_
  refine hl_val rfl rfl (v := (.int .i64 r1)) (hv_assign rfl) ?_
  refine hl_nil ?_
  refine seqQ_n ?_
  refine hx_seq ?_
  refine hx_block ?_
  refine hx_seq ?_
  refine hx_region ?_
  refine hl_val rfl rfl (v := (.int .i64 r1)) (hv_move rfl) ?_
  refine hl_val rfl rfl (v := (.bool (r1 != 0))) (hv_arith rfl rfl rfl) ?_
  refine hl_val rfl rfl (v := (.bool (r1 != 0))) (hv_assign rfl) ?_
  refine hl_nil ?_
  refine seqQ_n ?_
  refine hx_cond (b := r1 != 0) rfl (fun hb2 => ?_) (fun hb2 => ?_)
  · replace H := H.1 hb2
    refine hx_seq ?_
    refine hx_region ?_
    refine hl_val rfl rfl (v := (.int .i64 r1)) (hv_move rfl) ?_
    refine hl_val rfl rfl (v := (.int .i64 r1)) (hv_assign rfl) ?_
    refine hl_nil ?_
    refine seqQ_n ?_
    refine hx_ret ?_
    refine blockQ_ret ?_
    refine seqQ_ret ?_
    exact endQ_ret _ (res_one Try.results25 (rv_tmp rfl)) H
  · replace H := H.2 hb2
    refine hx_seq ?_
    refine hx_region ?_
    refine hl_val rfl rfl (v := (.pointer r0)) (hv_move rfl) ?_
    obtain ⟨r0_b, r0_o, hqe, Hq⟩ := H
    subst hqe
    have H := Hq; clear Hq
    refine hl_val rfl rfl (v := (ptr r0_b r0_o)) (hv_nil rfl) ?_
    refine hl_val rfl rfl (v := (ptr r0_b (r0_o + 2))) (hv_field TyQA.fld31_2 (b := r0_b) (o := r0_o) rfl) ?_
    obtain ⟨x, hc3, H⟩ := H
    refine hl_val rfl rfl (v := (.int .i64 x)) (hv_load TyQA.agg3 rfl hc3) ?_
    refine hl_val rfl rfl (v := (.bool (decide (x > 0)))) (hv_arith rfl rfl rfl) ?_
    refine hl_val rfl rfl (v := (.bool (decide (x > 0)))) (hv_assign rfl) ?_
    refine hl_nil ?_
    refine seqQ_n ?_
    refine hx_cond (b := decide (x > 0)) rfl (fun hb4 => ?_) (fun hb4 => ?_)
    · replace H := H.1 hb4
      refine hx_seq ?_
      refine hx_region ?_
      refine hl_val rfl rfl (v := (.int .i64 92)) (hv_assign rfl) ?_
      refine hl_nil ?_
      refine seqQ_n ?_
      refine hx_ret ?_
      refine blockQ_ret ?_
      refine seqQ_ret ?_
      exact endQ_ret _ (res_one Try.results25 (rv_tmp rfl)) H
    · replace H := H.2 hb4
      refine hx_skip ?_
      refine blockQ_n ?_
      refine seqQ_n ?_
      refine hx_seq ?_
      refine hx_region ?_
      refine hl_val rfl rfl (v := (ptr r0_b r0_o)) (hv_move rfl) ?_
      refine hl_val rfl rfl (v := (ptr r0_b r0_o)) (hv_move rfl) ?_
      refine hl_val rfl rfl (v := (ptr r0_b r0_o)) (hv_nil rfl) ?_
      refine hl_val rfl rfl (v := (ptr r0_b (r0_o + 3))) (hv_field TyQA.fld31_3 (b := r0_b) (o := r0_o) rfl) ?_
      obtain ⟨x_1, hc5, H⟩ := H
      refine hl_val rfl rfl (v := (.int .i64 x_1)) (hv_load TyQA.agg3 rfl hc5) ?_
      refine hl_val rfl rfl (v := (.int .i64 (if 2147483646 < x_1 then 2147483646 else x_1))) (hv_min rfl rfl) ?_
      refine hl_val rfl rfl (v := (.int .i64 (IntKind.i64.wrap ((if 2147483646 < x_1 then 2147483646 else x_1) + 1)))) (hv_arith rfl rfl rfl) ?_
      refine hl_val rfl rfl (v := (.agg #[(.int .i64 1), (.int .u64 0), (.int .i64 0), (.int .i64 (IntKind.i64.wrap ((if 2147483646 < x_1 then 2147483646 else x_1) + 1)))])) (hv_build (vs := [(0, (.int .i64 1)), (3, (.int .i64 (IntKind.i64.wrap ((if 2147483646 < x_1 then 2147483646 else x_1) + 1))))]) (cs := #[(.int .i64 1), (.int .u64 0), (.int .i64 0), (.int .i64 (IntKind.i64.wrap ((if 2147483646 < x_1 then 2147483646 else x_1) + 1)))]) TyQA.z31 TyQA.pl31 rfl (by kernel_rfl)) ?_
      refine hl_val rfl rfl (v := (ptr r0_b r0_o)) (hv_nil rfl) ?_
      obtain ⟨hw7, H⟩ := H
      refine hl_step rfl rfl (hn_stores (vs := [(.int .i64 1), (.int .u64 0), (.int .i64 0), (.int .i64 (IntKind.i64.wrap ((if 2147483646 < x_1 then 2147483646 else x_1) + 1)))]) rfl rfl TyQA.sz31 rfl hw7 ?_)
      intro h1 eh6
      replace H := H h1 eh6
      refine hl_nil ?_
      refine seqQ_n ?_
      refine hx_seq ?_
      refine hx_region ?_
      refine hl_val rfl rfl (v := (ptr m_b m_o)) (hv_move rfl) ?_
      refine hl_val rfl rfl (v := (ptr m_b m_o)) (hv_move rfl) ?_
      refine hl_val rfl rfl (v := (ptr m_b m_o)) (hv_nil rfl) ?_
      refine hl_val rfl rfl (v := (ptr m_b (m_o + 1))) (hv_field TyQA.fld67_1 (b := m_b) (o := m_o) rfl) ?_
      obtain ⟨x_2, x_n, x_c, hc8, H⟩ := H
      refine hl_val rfl rfl (v := (.slice x_2 x_n x_c)) (hv_load TyQA.agg50 rfl hc8) ?_
      refine hl_val rfl rfl (v := (.int .i64 region)) (hv_move rfl) ?_
      refine hl_step rfl rfl (hn_buildSlice (n := 1) (vs := [(0, (.int .i64 region))]) (cs := #[(.int .i64 region)]) TyQA.u50 TyQA.sz3 TyQA.z3 rfl rfl (by kernel_rfl) ?_)
      intro nb h2 eb9 eh10
      replace H := H nb h2 eb9 eh10
      have xx11 : Ext h1 h2 := by rw [eh10]; exact Ext.push _ _
      refine hl_step rfl rfl (hs_append rfl rfl (HAppend.mono H ?_))
      rintro _ h3 ⟨ap, ap_n, ap_c, rfl, H⟩
      refine hl_val rfl rfl (v := (ptr m_b m_o)) (hv_nil rfl) ?_
      refine hl_val rfl rfl (v := (ptr m_b (m_o + 1))) (hv_field TyQA.fld67_1 (b := m_b) (o := m_o) rfl) ?_
      obtain ⟨hw13, H⟩ := H
      refine hl_step rfl rfl (hn_store (v := (.slice ap ap_n ap_c)) rfl rfl TyQA.sz50 rfl hw13 ?_)
      intro h4 eh12
      replace H := H h4 eh12
      refine hl_nil ?_
      refine seqQ_n ?_
      refine hx_seq ?_
      refine hx_region ?_
      refine hl_val rfl rfl (v := (ptr m_b m_o)) (hv_move rfl) ?_
      refine hl_val rfl rfl (v := (ptr m_b m_o)) (hv_nil rfl) ?_
      refine hl_val rfl rfl (v := (ptr m_b (m_o + 4))) (hv_field TyQA.fld67_4 (b := m_b) (o := m_o) rfl) ?_
      obtain ⟨x_3, hc14, H⟩ := H
      refine hl_val rfl rfl (v := (.map x_3)) (hv_load TyQA.agg65 rfl hc14) ?_
      refine hl_val rfl rfl (v := (.int .i64 region)) (hv_move rfl) ?_
      obtain ⟨x_3_m, hqe, Hq⟩ := H
      subst hqe
      have H := Hq; clear Hq
      obtain ⟨kv, mm15, H⟩ := H
      refine hl_step rfl rfl (hn_mapDel (l := kv) (a := region) (intK .i64) TyQA.u65 TyQA.u3 rfl rfl rfl mm15 ?_)
      intro h5 on16 mm17
      replace H := H h5 on16 mm17
      refine hl_nil ?_
      refine seqQ_n ?_
      refine hx_seq ?_
      refine hx_region ?_
      refine hl_val rfl rfl (v := (.int .i64 0)) (hv_assign rfl) ?_
      refine hl_nil ?_
      refine seqQ_n ?_
      refine hx_ret ?_
      exact endQ_ret _ (res_one Try.results25 (rv_tmp rfl)) H

/-- (*cellar/region.Manager).Pin -/
theorem f26_sh (m_b : Nat) (m_o : Nat) (region : Int) (h : Heap) (R : Value → Heap → Prop)
    (H : (∃ r0 : Option Addr, ∃ r1 : Int, HC Try.prog 31 #[(ptr m_b m_o), (.int .i64 region), (.int .i64 0)] h (fun vv h' => vv = (.tuple #[(.pointer r0), (.int .i64 r1)]) ∧ h' = h) ∧ (∃ j : Bool, (((r1 != 0) = true → (j = true)) ∧ ((r1 != 0) = false → (∃ r0_b r0_o : Nat, r0 = some ⟨r0_b, r0_o, none⟩ ∧ (∃ x : Int, hcell h r0_b r0_o = some (.int .i64 x) ∧ (((x == 1) = true → (j = true)) ∧ ((x == 1) = false → (((x == 4) = true → (j = true)) ∧ ((x == 4) = false → (∃ x_1 : Int, hcell h r0_b (r0_o + 2) = some (.int .i64 x_1) ∧ (j = (decide (x_1 ≥ 2147483647)))))))))))) ∧ ((j = true → R (.bool false) h) ∧ (j = false → (∃ r0_b_1 r0_o_1 : Nat, r0 = some ⟨r0_b_1, r0_o_1, none⟩ ∧ (∃ x_2 : Int, hcell h r0_b_1 (r0_o_1 + 2) = some (.int .i64 x_2) ∧ (HW h r0_b_1 (r0_o_1 + 2) ∧ ∀ h1, h1 = hset h r0_b_1 (r0_o_1 + 2) (.int .i64 (IntKind.i64.wrap (x_2 + 1))) → R (.bool true) h1)))))))) :
    HC Try.prog 26 #[(ptr m_b m_o), (.int .i64 region)] h R := by
  refine hc_of (args := [(ptr m_b m_o), (.int .i64 region)]) Try.func26 rfl Try.ntmps26 (Nat.le_of_ble_eq_true rfl) ?_
  refine hx_seq ?_
  refine hx_region ?_
  refine hl_val rfl rfl (v := (.bool false)) (hv_assign rfl) ?_
  refine hl_nil ?_
  refine seqQ_n ?_
  refine hx_seq ?_
  refine hx_region ?_
  refine hl_val rfl rfl (v := (ptr m_b m_o)) (hv_move rfl) ?_
  refine hl_val rfl rfl (v := (.int .i64 region)) (hv_move rfl) ?_
  obtain ⟨r0, r1, hr1, H⟩ := H
  refine hl_val rfl rfl (v := (.tuple #[(.pointer r0), (.int .i64 r1)])) (hv_call TyQA.cb31 (vs := [(ptr m_b m_o), (.int .i64 region), (.int .i64 0)]) rfl hr1) ?_
  refine hl_val rfl rfl (v := (.tuple #[(.pointer r0), (.int .i64 r1)])) (hv_move rfl) ?_
  refine hl_val rfl rfl (v := (.pointer r0)) (hv_extract (vs := #[(.pointer r0), (.int .i64 r1)]) rfl rfl) ?_
  refine hl_val rfl rfl (v := (.int .i64 r1)) (hv_extract (vs := #[(.pointer r0), (.int .i64 r1)]) rfl rfl) ?_
  refine hl_val rfl rfl (v := (.pointer r0)) (hv_assign rfl) ?_
  refine hl_val rfl rfl (v := (.int .i64 r1)) (hv_assign rfl) ?_
  refine hl_nil ?_
  refine seqQ_n ?_
  refine hx_seq ?_
  obtain ⟨j, Hx2, Hy3⟩ := H
  refine hx_cut (fun ρ h' => h = h' ∧ Has ρ [(5, (.pointer r0)), (35, (.bool j))]) ?_ ?_
  · have H := Hx2; clear Hx2 Hy3
    refine hx_region ?_
    refine hl_val rfl rfl (v := (.int .i64 r1)) (hv_move rfl) ?_
    refine hl_val rfl rfl (v := (.bool (r1 != 0))) (hv_arith rfl rfl rfl) ?_
    refine hl_val rfl rfl (v := (.bool (r1 != 0))) (hv_move rfl) ?_
    rcases bool_or (r1 != 0) with hg4 | hg4
    · replace H := H.1 hg4
      refine hl_no (wanted_n rfl rfl rfl hg4) rfl ?_
      refine hl_no (wanted_n rfl rfl rfl hg4) rfl ?_
      refine hl_no (wanted_n rfl rfl rfl hg4) rfl ?_
      refine hl_no (wanted_n rfl rfl rfl hg4) rfl ?_
      refine hl_no (wanted_n rfl rfl rfl hg4) rfl ?_
      refine hl_val rfl rfl (v := (.bool true)) (hv_pick_t rfl hg4 rfl) ?_
      refine hl_val rfl rfl (v := (.bool true)) (hv_move rfl) ?_
      refine hl_no (wanted_n rfl rfl (c := true) rfl rfl) rfl ?_
      refine hl_no (wanted_n rfl rfl (c := true) rfl rfl) rfl ?_
      refine hl_no (wanted_n rfl rfl (c := true) rfl rfl) rfl ?_
      refine hl_no (wanted_n rfl rfl (c := true) rfl rfl) rfl ?_
      refine hl_no (wanted_n rfl rfl (c := true) rfl rfl) rfl ?_
      refine hl_val rfl rfl (v := (.bool true)) (hv_pick (t := true) rfl rfl) ?_
      refine hl_val rfl rfl (v := (.bool true)) (hv_move rfl) ?_
      refine hl_no (wanted_n rfl rfl (c := true) rfl rfl) rfl ?_
      refine hl_no (wanted_n rfl rfl (c := true) rfl rfl) rfl ?_
      refine hl_no (wanted_n rfl rfl (c := true) rfl rfl) rfl ?_
      refine hl_no (wanted_n rfl rfl (c := true) rfl rfl) rfl ?_
      refine hl_no (wanted_n rfl rfl (c := true) rfl rfl) rfl ?_
      refine hl_val rfl rfl (v := (.bool true)) (hv_pick (t := true) rfl rfl) ?_
      refine hl_nil ?_
      refine seqQ_n ?_
      obtain rfl := H
      exact ⟨rfl, (has_cons rfl (has_cons rfl has_nil))⟩
    · replace H := H.2 hg4
      refine hl_yes (wanted_y rfl rfl rfl hg4) rfl (HStep.of_val (v := (.pointer r0)) (hv_move rfl) ?_)
      obtain ⟨r0_b, r0_o, hqe, Hq⟩ := H
      subst hqe
      have H := Hq; clear Hq
      refine hl_yes (wanted_y rfl rfl rfl hg4) rfl (HStep.of_val (v := (ptr r0_b r0_o)) (hv_nil rfl) ?_)
      refine hl_yes (wanted_y rfl rfl rfl hg4) rfl (HStep.of_val (v := (ptr r0_b r0_o)) (hv_field TyQA.fld31_0 (b := r0_b) (o := r0_o) rfl) ?_)
      obtain ⟨x, hc5, H⟩ := H
      refine hl_yes (wanted_y rfl rfl rfl hg4) rfl (HStep.of_val (v := (.int .i64 x)) (hv_load TyQA.agg3 rfl hc5) ?_)
      refine hl_yes (wanted_y rfl rfl rfl hg4) rfl (HStep.of_val (v := (.bool (x == 1))) (hv_arith rfl rfl rfl) ?_)
      refine hl_val rfl rfl (v := (.bool (x == 1))) (hv_pick_f rfl hg4 rfl) ?_
      refine hl_val rfl rfl (v := (.bool (x == 1))) (hv_move rfl) ?_
      rcases bool_or (x == 1) with hg6 | hg6
      · replace H := H.1 hg6
        refine hl_no (wanted_n rfl rfl rfl hg6) rfl ?_
        refine hl_no (wanted_n rfl rfl rfl hg6) rfl ?_
        refine hl_no (wanted_n rfl rfl rfl hg6) rfl ?_
        refine hl_no (wanted_n rfl rfl rfl hg6) rfl ?_
        refine hl_no (wanted_n rfl rfl rfl hg6) rfl ?_
        refine hl_val rfl rfl (v := (.bool true)) (hv_pick_t rfl hg6 rfl) ?_
        refine hl_val rfl rfl (v := (.bool true)) (hv_move rfl) ?_
        refine hl_no (wanted_n rfl rfl (c := true) rfl rfl) rfl ?_
        refine hl_no (wanted_n rfl rfl (c := true) rfl rfl) rfl ?_
        refine hl_no (wanted_n rfl rfl (c := true) rfl rfl) rfl ?_
        refine hl_no (wanted_n rfl rfl (c := true) rfl rfl) rfl ?_
        refine hl_no (wanted_n rfl rfl (c := true) rfl rfl) rfl ?_
        refine hl_val rfl rfl (v := (.bool true)) (hv_pick (t := true) rfl rfl) ?_
        refine hl_nil ?_
        refine seqQ_n ?_
        obtain rfl := H
        exact ⟨rfl, (has_cons rfl (has_cons rfl has_nil))⟩
      · replace H := H.2 hg6
        refine hl_yes (wanted_y rfl rfl rfl hg6) rfl (HStep.of_val (v := (ptr r0_b r0_o)) (hv_move rfl) ?_)
        refine hl_yes (wanted_y rfl rfl rfl hg6) rfl (HStep.of_val (v := (ptr r0_b r0_o)) (hv_nil rfl) ?_)
        refine hl_yes (wanted_y rfl rfl rfl hg6) rfl (HStep.of_val (v := (ptr r0_b r0_o)) (hv_field TyQA.fld31_0 (b := r0_b) (o := r0_o) rfl) ?_)
        refine hl_yes (wanted_y rfl rfl rfl hg6) rfl (HStep.of_val (v := (.int .i64 x)) (hv_load TyQA.agg3 rfl hc5) ?_)
        refine hl_yes (wanted_y rfl rfl rfl hg6) rfl (HStep.of_val (v := (.bool (x == 4))) (hv_arith rfl rfl rfl) ?_)
        refine hl_val rfl rfl (v := (.bool (x == 4))) (hv_pick_f rfl hg6 rfl) ?_
        refine hl_val rfl rfl (v := (.bool (x == 4))) (hv_move rfl) ?_
        rcases bool_or (x == 4) with hg7 | hg7
        · replace H := H.1 hg7
          refine hl_no (wanted_n rfl rfl rfl hg7) rfl ?_
          refine hl_no (wanted_n rfl rfl rfl hg7) rfl ?_
          refine hl_no (wanted_n rfl rfl rfl hg7) rfl ?_
          refine hl_no (wanted_n rfl rfl rfl hg7) rfl ?_
          refine hl_no (wanted_n rfl rfl rfl hg7) rfl ?_
          refine hl_val rfl rfl (v := (.bool true)) (hv_pick_t rfl hg7 rfl) ?_
          refine hl_nil ?_
          refine seqQ_n ?_
          obtain rfl := H
          exact ⟨rfl, (has_cons rfl (has_cons rfl has_nil))⟩
        · replace H := H.2 hg7
          refine hl_yes (wanted_y rfl rfl rfl hg7) rfl (HStep.of_val (v := (ptr r0_b r0_o)) (hv_move rfl) ?_)
          refine hl_yes (wanted_y rfl rfl rfl hg7) rfl (HStep.of_val (v := (ptr r0_b r0_o)) (hv_nil rfl) ?_)
          refine hl_yes (wanted_y rfl rfl rfl hg7) rfl (HStep.of_val (v := (ptr r0_b (r0_o + 2))) (hv_field TyQA.fld31_2 (b := r0_b) (o := r0_o) rfl) ?_)
          obtain ⟨x_1, hc8, H⟩ := H
          refine hl_yes (wanted_y rfl rfl rfl hg7) rfl (HStep.of_val (v := (.int .i64 x_1)) (hv_load TyQA.agg3 rfl hc8) ?_)
          refine hl_yes (wanted_y rfl rfl rfl hg7) rfl (HStep.of_val (v := (.bool (decide (x_1 ≥ 2147483647)))) (hv_arith rfl rfl rfl) ?_)
          refine hl_val rfl rfl (v := (.bool (decide (x_1 ≥ 2147483647)))) (hv_pick_f rfl hg7 rfl) ?_
          refine hl_nil ?_
          refine seqQ_n ?_
          obtain rfl := H
          exact ⟨rfl, (has_cons rfl (has_cons rfl has_nil))⟩
  · have H := Hy3; clear Hx2 Hy3
    rintro ρ _ ⟨rfl, hH⟩
    refine hx_has _ hH ?_
    refine hx_cond (b := j) rfl (fun hb9 => ?_) (fun hb9 => ?_)
    · replace H := H.1 hb9
      refine hx_seq ?_
      refine hx_region ?_
      refine hl_val rfl rfl (v := (.bool false)) (hv_assign rfl) ?_
      refine hl_nil ?_
      refine seqQ_n ?_
      refine hx_ret ?_
      refine seqQ_ret ?_
      exact endQ_ret _ (res_one Try.results26 (rv_tmp rfl)) H
    · replace H := H.2 hb9
      refine hx_skip ?_
      refine seqQ_n ?_
      refine hx_seq ?_
      refine hx_region ?_
      refine hl_val rfl rfl (v := (.pointer r0)) (hv_move rfl) ?_
      obtain ⟨r0_b_1, r0_o_1, hqe, Hq⟩ := H
      subst hqe
      have H := Hq; clear Hq
      refine hl_val rfl rfl (v := (ptr r0_b_1 r0_o_1)) (hv_nil rfl) ?_
      refine hl_val rfl rfl (v := (ptr r0_b_1 (r0_o_1 + 2))) (hv_field TyQA.fld31_2 (b := r0_b_1) (o := r0_o_1) rfl) ?_
      obtain ⟨x_2, hc10, H⟩ := H
      refine hl_val rfl rfl (v := (.int .i64 x_2)) (hv_load TyQA.agg3 rfl hc10) ?_
      refine hl_val rfl rfl (v := (.int .i64 (IntKind.i64.wrap (x_2 + 1)))) (hv_arith rfl rfl rfl) ?_
      refine hl_val rfl rfl (v := (ptr r0_b_1 r0_o_1)) (hv_nil rfl) ?_
      refine hl_val rfl rfl (v := (ptr r0_b_1 (r0_o_1 + 2))) (hv_field TyQA.fld31_2 (b := r0_b_1) (o := r0_o_1) rfl) ?_
      obtain ⟨hw12, H⟩ := H
      refine hl_step rfl rfl (hn_store (v := (.int .i64 (IntKind.i64.wrap (x_2 + 1)))) rfl rfl TyQA.sz3 rfl hw12 ?_)
      intro h1 eh11
      replace H := H h1 eh11
      refine hl_nil ?_
      refine seqQ_n ?_
      refine hx_seq ?_
      refine hx_region ?_
      refine hl_val rfl rfl (v := (.bool true)) (hv_assign rfl) ?_
      refine hl_nil ?_
      refine seqQ_n ?_
      refine hx_ret ?_
      exact endQ_ret _ (res_one Try.results26 (rv_tmp rfl)) H

/-- (*cellar/region.Manager).Drain -/
theorem f21_sh (m_b : Nat) (m_o : Nat) (task : Int) (region : Int) (h : Heap) (R : Value → Heap → Prop)
    (H : (∃ r0 : Option Addr, ∃ r1 : Int, HC Try.prog 31 #[(ptr m_b m_o), (.int .i64 region), (.int .i64 4)] h (fun vv h' => vv = (.tuple #[(.pointer r0), (.int .i64 r1)]) ∧ h' = h) ∧ (((r1 != 0) = true → R (.tuple #[(.bool false), (.int .i64 r1)]) h) ∧ ((r1 != 0) = false → (∃ r0_b r0_o : Nat, r0 = some ⟨r0_b, r0_o, none⟩ ∧ (∃ x : Int, hcell h r0_b (r0_o + 2) = some (.int .i64 x) ∧ (((x == 0) = true → R (.tuple #[(.bool true), (.int .i64 0)]) h) ∧ ((x == 0) = false → (∃ A7 : Heap → Prop, (∃ x_1 : Option Nat, hcell h m_b (m_o + 4) = some (.map x_1) ∧ (∃ x_1_m : Nat, x_1 = some x_1_m ∧ ∃ kv : List (Int × Value), MapL h x_1_m (Value.int .i64) kv ∧ ∃ x_2 : Option Addr, ∃ x_n x_c : Nat, (lk kv region).getD (.slice none 0 0) = (.slice x_2 x_n x_c) ∧ (∃ r : Bool, HC Try.prog 47 #[(.slice x_2 x_n x_c), (.int .i64 task)] h (fun vv h' => vv = (.bool r) ∧ h' = h) ∧ (((!r) = true → (∃ T14 : Heap → Heap → Prop, Fit T14 ∧ (∃ x_3 : Option Nat, (∀ hx, T14 h hx → hcell hx m_b (m_o + 4) = some (.map x_3)) ∧ (∃ kv_1 : List (Int × Value), MapL h x_1_m (Value.int .i64) kv_1 ∧ ∃ x_4 : Option Addr, ∃ x_n_1 x_c_1 : Nat, (lk kv_1 region).getD (.slice none 0 0) = (.slice x_4 x_n_1 x_c_1) ∧ (∀ nb h2, nb = Array.size h → h2 = Array.push h (.cells #[(.int .i64 task)] 3) → HAppend Try.prog 50 50 (.slice x_4 x_n_1 x_c_1) (.slice (some ⟨nb, 0, none⟩) 1 1) h2 (fun vv h3 => T14 h2 h3 ∧ ∃ ap : Option Addr, ∃ ap_n ap_c : Nat, vv = (.slice ap ap_n ap_c) ∧ (∃ x_3_m : Nat, x_3 = some x_3_m ∧ ∃ kv_2 : List (Int × Value), MapL h3 x_3_m (Value.int .i64) kv_2 ∧ ∀ h4, Only x_3_m h3 h4 → MapL h4 x_3_m (Value.int .i64) (kput kv_2 region (.slice ap ap_n ap_c)) → (A7 h4)))))))) ∧ ((!r) = false → (A7 h)))))) ∧ (∀ (h1 : Heap), A7 h1 → R (.tuple #[(.bool false), (.int .i64 0)]) h1)))))))))) :
    HC Try.prog 21 #[(ptr m_b m_o), (.int .i64 task), (.int .i64 region)] h R := by
  refine hc_of (args := [(ptr m_b m_o), (.int .i64 task), (.int .i64 region)]) Try.func21 rfl Try.ntmps21 (Nat.le_of_ble_eq_true rfl) ?_
  refine hx_seq ?_
  refine hx_region ?_
  refine hl_val rfl rfl (v := (.bool false)) (hv_assign rfl) ?_
  refine hl_val rfl rfl (v := (.int .i64 0)) (hv_assign rfl) ?_
  refine hl_nil ?_
  refine seqQ_n ?_
  refine hx_seq ?_
  refine hx_region ?_
  refine hl_val rfl rfl (v := (ptr m_b m_o)) (hv_move rfl) ?_
  refine hl_val rfl rfl (v := (.int .i64 region)) (hv_move rfl) ?_
  obtain ⟨r0, r1, hr1, H⟩ := H
  refine hl_val rfl rfl (v := (.tuple #[(.pointer r0), (.int .i64 r1)])) (hv_call TyQA.cb31 (vs := [(ptr m_b m_o), (.int .i64 region), (.int .i64 4)]) rfl hr1) ?_
  refine hl_val rfl rfl (v := (.tuple #[(.pointer r0), (.int .i64 r1)])) (hv_move rfl) ?_
  refine hl_val rfl rfl (v := (.pointer r0)) (hv_extract (vs := #[(.pointer r0), (.int .i64 r1)]) rfl rfl) ?_
  refine hl_val rfl rfl (v := (.int .i64 r1)) (hv_extract (vs := #[(.pointer r0), (.int .i64 r1)]) rfl rfl) ?_
  refine hl_val rfl rfl (v := (.pointer r0)) (hv_assign rfl) ?_
  refine hl_val rfl rfl (v := (.int .i64 r1)) (hv_assign rfl) ?_
  refine hl_nil ?_
  refine seqQ_n ?_
  refine hx_seq ?_
  refine hx_block ?_
  refine hx_seq ?_
  refine hx_region ?_
  refine hl_val rfl rfl (v := (.int .i64 r1)) (hv_move rfl) ?_
  refine hl_val rfl rfl (v := (.bool (r1 != 0))) (hv_arith rfl rfl rfl) ?_
  refine hl_val rfl rfl (v := (.bool (r1 != 0))) (hv_assign rfl) ?_
  refine hl_nil ?_
  refine seqQ_n ?_
  refine hx_cond (b := r1 != 0) rfl (fun hb2 => ?_) (fun hb2 => ?_)
  · replace H := H.1 hb2
    refine hx_seq ?_
    refine hx_region ?_
    refine hl_val rfl rfl (v := (.int .i64 r1)) (hv_move rfl) ?_
    refine hl_val rfl rfl (v := (.bool false)) (hv_assign rfl) ?_
    refine hl_val rfl rfl (v := (.int .i64 r1)) (hv_assign rfl) ?_
    refine hl_nil ?_
    refine seqQ_n ?_
    refine hx_ret ?_
    refine blockQ_ret ?_
    refine seqQ_ret ?_
    exact endQ_ret _ (res_two Try.results21 (rv_tmp rfl) (rv_tmp rfl)) H
  · replace H := H.2 hb2
    refine hx_seq ?_
    refine hx_region ?_
    refine hl_val rfl rfl (v := (.pointer r0)) (hv_move rfl) ?_
    obtain ⟨r0_b, r0_o, hqe, Hq⟩ := H
    subst hqe
    have H := Hq; clear Hq
    refine hl_val rfl rfl (v := (ptr r0_b r0_o)) (hv_nil rfl) ?_
    refine hl_val rfl rfl (v := (ptr r0_b (r0_o + 2))) (hv_field TyQA.fld31_2 (b := r0_b) (o := r0_o) rfl) ?_
    obtain ⟨x, hc3, H⟩ := H
    refine hl_val rfl rfl (v := (.int .i64 x)) (hv_load TyQA.agg3 rfl hc3) ?_
    refine hl_val rfl rfl (v := (.bool (x == 0))) (hv_arith rfl rfl rfl) ?_
    refine hl_val rfl rfl (v := (.bool (x == 0))) (hv_assign rfl) ?_
    refine hl_nil ?_
    refine seqQ_n ?_
    refine hx_cond (b := x == 0) rfl (fun hb4 => ?_) (fun hb4 => ?_)
    · replace H := H.1 hb4
      refine hx_seq ?_
      refine hx_region ?_
      refine hl_val rfl rfl (v := (.bool true)) (hv_assign rfl) ?_
      refine hl_val rfl rfl (v := (.int .i64 0)) (hv_assign rfl) ?_
      refine hl_nil ?_
      refine seqQ_n ?_
      refine hx_ret ?_
      refine blockQ_ret ?_
      refine seqQ_ret ?_
      exact endQ_ret _ (res_two Try.results21 (rv_tmp rfl) (rv_tmp rfl)) H
    · replace H := H.2 hb4
      refine hx_skip ?_
      refine blockQ_n ?_
      refine seqQ_n ?_
      obtain ⟨A7, Hx5, Hy6⟩ := H
      refine hx_cut (fun ρ h' => (A7 h' ∧ True) ∧ Has ρ []) ?_ ?_
      · have H := Hx5; clear Hx5 Hy6
        refine hx_seq ?_
        refine hx_region ?_
        refine hl_val rfl rfl (v := (ptr m_b m_o)) (hv_move rfl) ?_
        refine hl_val rfl rfl (v := (ptr m_b m_o)) (hv_nil rfl) ?_
        refine hl_val rfl rfl (v := (ptr m_b (m_o + 4))) (hv_field TyQA.fld67_4 (b := m_b) (o := m_o) rfl) ?_
        obtain ⟨x_1, hc9, H⟩ := H
        refine hl_val rfl rfl (v := (.map x_1)) (hv_load TyQA.agg65 rfl hc9) ?_
        refine hl_val rfl rfl (v := (.int .i64 region)) (hv_move rfl) ?_
        obtain ⟨x_1_m, hqe, Hq⟩ := H
        subst hqe
        have H := Hq; clear Hq
        obtain ⟨kv, mm10, x_2, x_n, x_c, hv11, H⟩ := H
        refine hl_val rfl rfl (v := (.slice x_2 x_n x_c)) (hv_look (l := kv) (a := region) (intK .i64) TyQA.u65 TyQA.u3 TyQA.z50 rfl rfl mm10 hv11) ?_
        refine hl_val rfl rfl (v := (.int .i64 task)) (hv_move rfl) ?_
        obtain ⟨r, hr12, H⟩ := H
        refine hl_val rfl rfl (v := (.bool r)) (hv_call TyQA.cb47 (vs := [(.slice x_2 x_n x_c), (.int .i64 task)]) rfl hr12) ?_
        refine hl_val rfl rfl (v := (.bool (!r))) (hv_not (b := r) rfl) ?_
        refine hl_nil ?_
        refine seqQ_n ?_
        refine hx_cond (b := !r) rfl (fun hb13 => ?_) (fun hb13 => ?_)
        · replace H := H.1 hb13
          obtain ⟨T14, hT15, H⟩ := H
          refine hx_drawT TyQA.mixed T14 hT15 [.pure, .pure, .pure, .stay, .pure, .pure, .pure, .pure, .read, .pure, .read, .pure, .ext, .tame, .wild] [0, 1, 2, 3, 4, 5, 6, 7, 8, 9, 10, 11, 12, 13, 14] (by kernel_rfl) ?_
          refine hp_pure (i := 0) rfl (wanted_0 rfl) rfl (ptr m_b m_o) (fun _ => hv_move rfl) ?_
          refine hp_pure (i := 1) rfl (wanted_0 rfl) rfl (ptr m_b m_o) (fun _ => hv_nil rfl) ?_
          refine hp_pure (i := 2) rfl (wanted_0 rfl) rfl (ptr m_b (m_o + 4)) (fun _ => hv_field TyQA.fld67_4 (b := m_b) (o := m_o) rfl) ?_
          obtain ⟨x_3, hc16, H⟩ := H
          refine hp_stay (i := 3) rfl (wanted_0 rfl) rfl (.map x_3) (fun _ he => hv_load TyQA.agg65 rfl (hc16 _ he)) ?_
          refine hp_pure (i := 4) rfl (wanted_0 rfl) rfl (.int .i64 region) (fun _ => hv_move rfl) ?_
          refine hp_pure (i := 5) rfl (wanted_0 rfl) rfl (ptr m_b m_o) (fun _ => hv_move rfl) ?_
          refine hp_pure (i := 6) rfl (wanted_0 rfl) rfl (ptr m_b m_o) (fun _ => hv_nil rfl) ?_
          refine hp_pure (i := 7) rfl (wanted_0 rfl) rfl (ptr m_b (m_o + 4)) (fun _ => hv_field TyQA.fld67_4 (b := m_b) (o := m_o) rfl) ?_
          refine hp_read (i := 8) rfl (wanted_0 rfl) rfl (.map (some x_1_m)) (fun _ he => hv_load TyQA.agg65 rfl (Ext.cell he hc9)) ?_
          refine hp_pure (i := 9) rfl (wanted_0 rfl) rfl (.int .i64 region) (fun _ => hv_move rfl) ?_
          obtain ⟨kv_1, mm17, x_4, x_n_1, x_c_1, hv18, H⟩ := H
          refine hp_read (i := 10) rfl (wanted_0 rfl) rfl (.slice x_4 x_n_1 x_c_1) (fun _ he => hv_look (l := kv_1) (a := region) (intK .i64) TyQA.u65 TyQA.u3 TyQA.z50 rfl rfl (MapL.ext he mm17) hv18) ?_
          refine hp_pure (i := 11) rfl (wanted_0 rfl) rfl (.int .i64 task) (fun _ => hv_move rfl) ?_
          refine hp_ext (i := 12) rfl (wanted_0 rfl) rfl (hn_buildSlice (n := 1) (vs := [(0, (.int .i64 task))]) (cs := #[(.int .i64 task)]) TyQA.u50 TyQA.sz3 TyQA.z3 rfl rfl (by kernel_rfl) ?_)
          intro nb h2 eb19 eh20
          replace H := H nb h2 eb19 eh20
          have xx21 : Ext h h2 := by rw [eh20]; exact Ext.push _ _
          refine ⟨xx21, ?_⟩
          refine hp_tame (i := 13) rfl (wanted_0 rfl) rfl (hs_append rfl rfl (HAppend.mono H ?_))
          rintro _ h3 ⟨ht25, ap, ap_n, ap_c, rfl, H⟩
          refine ⟨ht25, ?_⟩
          obtain ⟨x_3_m, hqe, Hq⟩ := H
          subst hqe
          have H := Hq; clear Hq
          obtain ⟨kv_2, mm22, H⟩ := H
          refine hp_wild (i := 14) rfl (wanted_0 rfl) rfl (hn_mapPut (l := kv_2) (a := region) (intK .i64) TyQA.u65 TyQA.u3 rfl rfl rfl mm22 ?_)
          intro h4 on23 mm24
          replace H := H h4 on23 mm24
          refine hp_nil ?_
          refine seqQ_n ?_
          exact ⟨⟨H, trivial⟩, has_nil⟩
        · replace H := H.2 hb13
          refine hx_skip ?_
          refine seqQ_n ?_
          exact ⟨⟨H, trivial⟩, has_nil⟩
      · rintro ρ h1 ⟨⟨HA8, -⟩, hH⟩
        have H := Hy6 h1 HA8; clear Hx5 Hy6
        refine hx_has _ hH ?_
        refine hx_seq ?_
        refine hx_region ?_
        refine hl_val rfl rfl (v := (.bool false)) (hv_assign rfl) ?_
        refine hl_val rfl rfl (v := (.int .i64 0)) (hv_assign rfl) ?_
        refine hl_nil ?_
        refine seqQ_n ?_
        refine hx_ret ?_
        exact endQ_ret _ (res_two Try.results21 (rv_tmp rfl) (rv_tmp rfl)) H

/-- (*cellar/region.Manager).Unpin -/
theorem f22_sh (m_b : Nat) (m_o : Nat) (region : Int) (h : Heap) (R : Value → Heap → Prop)
    (H : (∃ r0 : Option Addr, ∃ r1 : Int, HC Try.prog 31 #[(ptr m_b m_o), (.int .i64 region), (.int .i64 0)] h (fun vv h' => vv = (.tuple #[(.pointer r0), (.int .i64 r1)]) ∧ h' = h) ∧ (((r1 != 0) = true → R (.tuple #[(.slice none 0 0), (.int .i64 r1)]) h) ∧ ((r1 != 0) = false → (∃ r0_b r0_o : Nat, r0 = some ⟨r0_b, r0_o, none⟩ ∧ (∃ x : Int, hcell h r0_b (r0_o + 2) = some (.int .i64 x) ∧ (((x == 0) = true → R (.tuple #[(.slice none 0 0), (.int .i64 92)]) h) ∧ ((x == 0) = false → (HW h r0_b (r0_o + 2) ∧ ∀ h1, h1 = hset h r0_b (r0_o + 2) (.int .i64 (IntKind.i64.wrap (x - 1))) → (∃ j : Bool, (∃ x_1 : Int, hcell h1 r0_b r0_o = some (.int .i64 x_1) ∧ (((x_1 != 4) = true → (j = true)) ∧ ((x_1 != 4) = false → (∃ x_2 : Int, hcell h1 r0_b (r0_o + 2) = some (.int .i64 x_2) ∧ (j = (decide (x_2 > 0))))))) ∧ ((j = true → R (.tuple #[(.slice none 0 0), (.int .i64 0)]) h1) ∧ (j = false → (∃ x_3 : Option Nat, hcell h1 m_b (m_o + 4) = some (.map x_3) ∧ (∃ x_3_m : Nat, x_3 = some x_3_m ∧ ∃ kv : List (Int × Value), MapL h1 x_3_m (Value.int .i64) kv ∧ ∃ x_4 : Option Addr, ∃ x_n x_c : Nat, (lk kv region).getD (.slice none 0 0) = (.slice x_4 x_n x_c) ∧ (∃ kv_1 : List (Int × Value), MapL h1 x_3_m (Value.int .i64) kv_1 ∧ ∀ h2, Only x_3_m h1 h2 → MapL h2 x_3_m (Value.int .i64) (kdel kv_1 region) → R (.tuple #[(.slice x_4 x_n x_c), (.int .i64 0)]) h2))))))))))))))) :
    HC Try.prog 22 #[(ptr m_b m_o), (.int .i64 region)] h R := by
  refine hc_of (args := [(ptr m_b m_o), (.int .i64 region)]) Try.func22 rfl Try.ntmps22 (Nat.le_of_ble_eq_true rfl) ?_
  refine hx_seq ?_
  refine hx_region ?_
  refine hl_val rfl rfl (v := (.slice none 0 0)) (hv_assign rfl) ?_
  refine hl_val rfl rfl (v := (.int .i64 0)) (hv_assign rfl) ?_
  refine hl_nil ?_
  refine seqQ_n ?_
  refine hx_seq ?_
  refine hx_region ?_
  refine hl_val rfl rfl (v := (ptr m_b m_o)) (hv_move rfl) ?_
  refine hl_val rfl rfl (v := (.int .i64 region)) (hv_move rfl) ?_
  obtain ⟨r0, r1, hr1, H⟩ := H
  refine hl_val rfl rfl (v := (.tuple #[(.pointer r0), (.int .i64 r1)])) (hv_call TyQA.cb31 (vs := [(ptr m_b m_o), (.int .i64 region), (.int .i64 0)]) rfl hr1) ?_
  refine hl_val rfl rfl (v := (.tuple #[(.pointer r0), (.int .i64 r1)])) (hv_move rfl) ?_
  refine hl_val rfl rfl (v := (.pointer r0)) (hv_extract (vs := #[(.pointer r0), (.int .i64 r1)]) rfl rfl) ?_
  refine hl_val rfl rfl (v := (.int .i64 r1)) (hv_extract (vs := #[(.pointer r0), (.int .i64 r1)]) rfl rfl) ?_
  refine hl_val rfl rfl (v := (.pointer r0)) (hv_assign rfl) ?_
  refine hl_val rfl rfl (v := (.int .i64 r1)) (hv_assign rfl) ?_
  refine hl_nil ?_
  refine seqQ_n ?_
  refine hx_seq ?_
  refine hx_block ?_
  refine hx_seq ?_
  refine hx_region ?_
  refine hl_val rfl rfl (v := (.int .i64 r1)) (hv_move rfl) ?_
  refine hl_val rfl rfl (v := (.bool (r1 != 0))) (hv_arith rfl rfl rfl) ?_
  refine hl_val rfl rfl (v := (.bool (r1 != 0))) (hv_assign rfl) ?_
  refine hl_nil ?_
  refine seqQ_n ?_
  refine hx_cond (b := r1 != 0) rfl (fun hb2 => ?_) (fun hb2 => ?_)
  · replace H := H.1 hb2
    refine hx_seq ?_
    refine hx_region ?_
    refine hl_val rfl rfl (v := (.int .i64 r1)) (hv_move rfl) ?_
    refine hl_val rfl rfl (v := (.slice none 0 0)) (hv_assign rfl) ?_
    refine hl_val rfl rfl (v := (.int .i64 r1)) (hv_assign rfl) ?_
    refine hl_nil ?_
    refine seqQ_n ?_
    refine hx_ret ?_
    refine blockQ_ret ?_
    refine seqQ_ret ?_
    exact endQ_ret _ (res_two Try.results22 (rv_tmp rfl) (rv_tmp rfl)) H
  · replace H := H.2 hb2
    refine hx_seq ?_
    refine hx_region ?_
    refine hl_val rfl rfl (v := (.pointer r0)) (hv_move rfl) ?_
    obtain ⟨r0_b, r0_o, hqe, Hq⟩ := H
    subst hqe
    have H := Hq; clear Hq
    refine hl_val rfl rfl (v := (ptr r0_b r0_o)) (hv_nil rfl) ?_
    refine hl_val rfl rfl (v := (ptr r0_b (r0_o + 2))) (hv_field TyQA.fld31_2 (b := r0_b) (o := r0_o) rfl) ?_
    obtain ⟨x, hc3, H⟩ := H
    refine hl_val rfl rfl (v := (.int .i64 x)) (hv_load TyQA.agg3 rfl hc3) ?_
    refine hl_val rfl rfl (v := (.bool (x == 0))) (hv_arith rfl rfl rfl) ?_
    refine hl_val rfl rfl (v := (.bool (x == 0))) (hv_assign rfl) ?_
    refine hl_nil ?_
    refine seqQ_n ?_
    refine hx_cond (b := x == 0) rfl (fun hb4 => ?_) (fun hb4 => ?_)
    · replace H := H.1 hb4
      refine hx_seq ?_
      refine hx_region ?_
      refine hl_val rfl rfl (v := (.slice none 0 0)) (hv_assign rfl) ?_
      refine hl_val rfl rfl (v := (.int .i64 92)) (hv_assign rfl) ?_
      refine hl_nil ?_
      refine seqQ_n ?_
      refine hx_ret ?_
      refine blockQ_ret ?_
      refine seqQ_ret ?_
      exact endQ_ret _ (res_two Try.results22 (rv_tmp rfl) (rv_tmp rfl)) H
    · replace H := H.2 hb4
      refine hx_skip ?_
      refine blockQ_n ?_
      refine seqQ_n ?_
      refine hx_seq ?_
      refine hx_region ?_
      refine hl_val rfl rfl (v := (ptr r0_b r0_o)) (hv_move rfl) ?_
      refine hl_val rfl rfl (v := (ptr r0_b r0_o)) (hv_nil rfl) ?_
      refine hl_val rfl rfl (v := (ptr r0_b (r0_o + 2))) (hv_field TyQA.fld31_2 (b := r0_b) (o := r0_o) rfl) ?_
      refine hl_val rfl rfl (v := (.int .i64 x)) (hv_load TyQA.agg3 rfl hc3) ?_
      refine hl_val rfl rfl (v := (.int .i64 (IntKind.i64.wrap (x - 1)))) (hv_arith rfl rfl rfl) ?_
      refine hl_val rfl rfl (v := (ptr r0_b r0_o)) (hv_nil rfl) ?_
      refine hl_val rfl rfl (v := (ptr r0_b (r0_o + 2))) (hv_field TyQA.fld31_2 (b := r0_b) (o := r0_o) rfl) ?_
      obtain ⟨hw6, H⟩ := H
      refine hl_step rfl rfl (hn_store (v := (.int .i64 (IntKind.i64.wrap (x - 1)))) rfl rfl TyQA.sz3 rfl hw6 ?_)
      intro h1 eh5
      replace H := H h1 eh5
      refine hl_nil ?_
      refine seqQ_n ?_
      refine hx_seq ?_
      obtain ⟨j, Hx7, Hy8⟩ := H
      refine hx_cut (fun ρ h' => h1 = h' ∧ Has ρ [(0, (ptr m_b m_o)), (1, (.int .i64 region)), (43, (.bool j))]) ?_ ?_
      · have H := Hx7; clear Hx7 Hy8
        refine hx_region ?_
        refine hl_val rfl rfl (v := (ptr r0_b r0_o)) (hv_move rfl) ?_
        refine hl_val rfl rfl (v := (ptr r0_b r0_o)) (hv_nil rfl) ?_
        refine hl_val rfl rfl (v := (ptr r0_b r0_o)) (hv_field TyQA.fld31_0 (b := r0_b) (o := r0_o) rfl) ?_
        obtain ⟨x_1, hc9, H⟩ := H
        refine hl_val rfl rfl (v := (.int .i64 x_1)) (hv_load TyQA.agg3 rfl hc9) ?_
        refine hl_val rfl rfl (v := (.bool (x_1 != 4))) (hv_arith rfl rfl rfl) ?_
        refine hl_val rfl rfl (v := (.bool (x_1 != 4))) (hv_move rfl) ?_
        rcases bool_or (x_1 != 4) with hg10 | hg10
        · replace H := H.1 hg10
          refine hl_no (wanted_n rfl rfl rfl hg10) rfl ?_
          refine hl_no (wanted_n rfl rfl rfl hg10) rfl ?_
          refine hl_no (wanted_n rfl rfl rfl hg10) rfl ?_
          refine hl_no (wanted_n rfl rfl rfl hg10) rfl ?_
          refine hl_no (wanted_n rfl rfl rfl hg10) rfl ?_
          refine hl_val rfl rfl (v := (.bool true)) (hv_pick_t rfl hg10 rfl) ?_
          refine hl_nil ?_
          refine seqQ_n ?_
          obtain rfl := H
          exact ⟨rfl, (has_cons rfl (has_cons rfl (has_cons rfl has_nil)))⟩
        · replace H := H.2 hg10
          refine hl_yes (wanted_y rfl rfl rfl hg10) rfl (HStep.of_val (v := (ptr r0_b r0_o)) (hv_move rfl) ?_)
          refine hl_yes (wanted_y rfl rfl rfl hg10) rfl (HStep.of_val (v := (ptr r0_b r0_o)) (hv_nil rfl) ?_)
          refine hl_yes (wanted_y rfl rfl rfl hg10) rfl (HStep.of_val (v := (ptr r0_b (r0_o + 2))) (hv_field TyQA.fld31_2 (b := r0_b) (o := r0_o) rfl) ?_)
          obtain ⟨x_2, hc11, H⟩ := H
          refine hl_yes (wanted_y rfl rfl rfl hg10) rfl (HStep.of_val (v := (.int .i64 x_2)) (hv_load TyQA.agg3 rfl hc11) ?_)
          refine hl_yes (wanted_y rfl rfl rfl hg10) rfl (HStep.of_val (v := (.bool (decide (x_2 > 0)))) (hv_arith rfl rfl rfl) ?_)
          refine hl_val rfl rfl (v := (.bool (decide (x_2 > 0)))) (hv_pick_f rfl hg10 rfl) ?_
          refine hl_nil ?_
          refine seqQ_n ?_
          obtain rfl := H
          exact ⟨rfl, (has_cons rfl (has_cons rfl (has_cons rfl has_nil)))⟩
      · have H := Hy8; clear Hx7 Hy8
        rintro ρ _ ⟨rfl, hH⟩
        refine hx_has _ hH ?_
        refine hx_cond (b := j) rfl (fun hb12 => ?_) (fun hb12 => ?_)
        · replace H := H.1 hb12
          refine hx_seq ?_
          refine hx_region ?_
          refine hl_val rfl rfl (v := (.slice none 0 0)) (hv_assign rfl) ?_
          refine hl_val rfl rfl (v := (.int .i64 0)) (hv_assign rfl) ?_
          refine hl_nil ?_
          refine seqQ_n ?_
          refine hx_ret ?_
          refine seqQ_ret ?_
          exact endQ_ret _ (res_two Try.results22 (rv_tmp rfl) (rv_tmp rfl)) H
        · replace H := H.2 hb12
          refine hx_skip ?_
          refine seqQ_n ?_
          refine hx_seq ?_
          refine hx_region ?_
          refine hl_val rfl rfl (v := (ptr m_b m_o)) (hv_move rfl) ?_
          refine hl_val rfl rfl (v := (ptr m_b m_o)) (hv_nil rfl) ?_
          refine hl_val rfl rfl (v := (ptr m_b (m_o + 4))) (hv_field TyQA.fld67_4 (b := m_b) (o := m_o) rfl) ?_
          obtain ⟨x_3, hc13, H⟩ := H
          refine hl_val rfl rfl (v := (.map x_3)) (hv_load TyQA.agg65 rfl hc13) ?_
          refine hl_val rfl rfl (v := (.int .i64 region)) (hv_move rfl) ?_
          obtain ⟨x_3_m, hqe, Hq⟩ := H
          subst hqe
          have H := Hq; clear Hq
          obtain ⟨kv, mm14, x_4, x_n, x_c, hv15, H⟩ := H
          refine hl_val rfl rfl (v := (.slice x_4 x_n x_c)) (hv_look (l := kv) (a := region) (intK .i64) TyQA.u65 TyQA.u3 TyQA.z50 rfl rfl mm14 hv15) ?_
          refine hl_val rfl rfl (v := (.slice x_4 x_n x_c)) (hv_assign rfl) ?_
          refine hl_nil ?_
          refine seqQ_n ?_
          refine hx_seq ?_
          refine hx_region ?_
          refine hl_val rfl rfl (v := (ptr m_b m_o)) (hv_move rfl) ?_
          refine hl_val rfl rfl (v := (ptr m_b m_o)) (hv_nil rfl) ?_
          refine hl_val rfl rfl (v := (ptr m_b (m_o + 4))) (hv_field TyQA.fld67_4 (b := m_b) (o := m_o) rfl) ?_
          refine hl_val rfl rfl (v := (.map (some x_3_m))) (hv_load TyQA.agg65 rfl hc13) ?_
          refine hl_val rfl rfl (v := (.int .i64 region)) (hv_move rfl) ?_
          obtain ⟨kv_1, mm16, H⟩ := H
          refine hl_step rfl rfl (hn_mapDel (l := kv_1) (a := region) (intK .i64) TyQA.u65 TyQA.u3 rfl rfl rfl mm16 ?_)
          intro h2 on17 mm18
          replace H := H h2 on17 mm18
          refine hl_nil ?_
          refine seqQ_n ?_
          refine hx_seq ?_
          refine hx_region ?_
          refine hl_val rfl rfl (v := (.slice x_4 x_n x_c)) (hv_move rfl) ?_
          refine hl_val rfl rfl (v := (.slice x_4 x_n x_c)) (hv_assign rfl) ?_
          refine hl_val rfl rfl (v := (.int .i64 0)) (hv_assign rfl) ?_
          refine hl_nil ?_
          refine seqQ_n ?_
          refine hx_ret ?_
          exact endQ_ret _ (res_two Try.results22 (rv_tmp rfl) (rv_tmp rfl)) H

/-- (*cellar/region.Manager).Info -/
theorem f11_sh (m_b : Nat) (m_o : Nat) (region : Int) (h : Heap) (R : Value → Heap → Prop)
    (H : (∀ (pb : Nat) (h1 : Heap), Array.size h ≤ pb → pb < Array.size h1 → Ext h h1 → (∃ r0 : Option Addr, ∃ r1 : Int, HC Try.prog 31 #[(ptr m_b m_o), (.int .i64 region), (.int .i64 0)] h1 (fun vv h' => vv = (.tuple #[(.pointer r0), (.int .i64 r1)]) ∧ h' = h1) ∧ (((r1 != 0) = true → (∀ h2, Fr (fun i => i = pb) h1 h2 → R (.tuple #[(.agg #[(.int .i64 0), (.int .u64 0), (.int .i64 0), (.int .i64 0)]), (.bool false)]) h2)) ∧ ((r1 != 0) = false → (∃ r0_b r0_o : Nat, r0 = some ⟨r0_b, r0_o, none⟩ ∧ (∃ x_State x_Sequence x_Pins x_Erases : Int, hcell h1 r0_b r0_o = some (.int .i64 x_State) ∧ hcell h1 r0_b (r0_o + 1) = some (.int .u64 x_Sequence) ∧ hcell h1 r0_b (r0_o + 2) = some (.int .i64 x_Pins) ∧ hcell h1 r0_b (r0_o + 3) = some (.int .i64 x_Erases) ∧ (∀ h3, Fr (fun i => i = pb) h1 h3 → R (.tuple #[(.agg #[(.int .i64 x_State), (.int .u64 x_Sequence), (.int .i64 x_Pins), (.int .i64 x_Erases)]), (.bool true)]) h3)))))))) :
    HC Try.prog 11 #[(ptr m_b m_o), (.int .i64 region)] h R := by
  refine hc_of (args := [(ptr m_b m_o), (.int .i64 region)]) Try.func11 rfl Try.ntmps11 (Nat.le_of_ble_eq_true rfl) ?_
  refine hx_seq ?_
  refine hx_region ?_
  refine hl_step rfl rfl (hn_alloc TyQA.z31 ?_)
  intro pb h1 eb1 eh2
  have xx3 : Ext h h1 := by rw [eh2]; exact Ext.push _ _
  have lo5 : Array.size h ≤ pb := Nat.le_of_eq (Eq.symm eb1)
  have hr4 : h1[pb]? = some (.cells #[(.int .i64 0), (.int .u64 0), (.int .i64 0), (.int .i64 0)] 31 (0, 0)) := by rw [eh2]; exact push_new eb1
  refine hl_val rfl rfl (v := (.bool false)) (hv_assign rfl) ?_
  refine hl_nil ?_
  refine seqQ_n ?_
  refine hx_seq ?_
  refine hx_region ?_
  refine hl_val rfl rfl (v := (ptr m_b m_o)) (hv_move rfl) ?_
  refine hl_val rfl rfl (v := (.int .i64 region)) (hv_move rfl) ?_
  replace H := H pb h1 lo5 (row_lt hr4) xx3
  obtain ⟨r0, r1, hr6, H⟩ := H
  refine hl_val rfl rfl (v := (.tuple #[(.pointer r0), (.int .i64 r1)])) (hv_call TyQA.cb31 (vs := [(ptr m_b m_o), (.int .i64 region), (.int .i64 0)]) rfl hr6) ?_
  refine hl_val rfl rfl (v := (.tuple #[(.pointer r0), (.int .i64 r1)])) (hv_move rfl) ?_
  refine hl_val rfl rfl (v := (.pointer r0)) (hv_extract (vs := #[(.pointer r0), (.int .i64 r1)]) rfl rfl) ?_
  refine hl_val rfl rfl (v := (.int .i64 r1)) (hv_extract (vs := #[(.pointer r0), (.int .i64 r1)]) rfl rfl) ?_
  refine hl_val rfl rfl (v := (.pointer r0)) (hv_assign rfl) ?_
  refine hl_val rfl rfl (v := (.int .i64 r1)) (hv_assign rfl) ?_
  refine hl_nil ?_
  refine seqQ_n ?_
  refine hx_seq ?_
  refine hx_seq ?_
  refine hx_region ?_
  refine hl_val rfl rfl (v := (.int .i64 r1)) (hv_move rfl) ?_
  refine hl_val rfl rfl (v := (.bool (r1 != 0))) (hv_arith rfl rfl rfl) ?_
  refine hl_nil ?_
  refine seqQ_n ?_
  refine hx_cond (b := r1 != 0) rfl (fun hb7 => ?_) (fun hb7 => ?_)
  · replace H := H.1 hb7
    refine hx_seq ?_
    refine hx_region ?_
    refine hl_val rfl rfl (v := (.agg #[(.int .i64 0), (.int .u64 0), (.int .i64 0), (.int .i64 0)])) (hv_build (vs := []) (cs := #[(.int .i64 0), (.int .u64 0), (.int .i64 0), (.int .i64 0)]) TyQA.z31 TyQA.pl31 rfl (by kernel_rfl)) ?_
    refine hl_step rfl rfl (hn_stores (vs := [(.int .i64 0), (.int .u64 0), (.int .i64 0), (.int .i64 0)]) rfl rfl TyQA.sz31 rfl (HWs_row hr4 (by simp)) ?_)
    intro h2 eh8
    have hr4' : h2[pb]? = some (.cells #[(.int .i64 0), (.int .u64 0), (.int .i64 0), (.int .i64 0)] 31 (0, 0)) := row_hsets_eq eh8 hr4 rfl
    replace H := H h2 (fr_hsets_of eh8)
    refine hl_val rfl rfl (v := (.bool false)) (hv_assign rfl) ?_
    refine hl_nil ?_
    refine seqQ_n ?_
    refine hx_ret ?_
    refine seqQ_ret ?_
    exact endQ_ret _ (res_two Try.results11 (rv_cell (vs := [(.int .i64 0), (.int .u64 0), (.int .i64 0), (.int .i64 0)]) TyQA.agg31 TyQA.sz31 rfl (hcells_cons (rowcell hr4' rfl) (hcells_cons (rowcell hr4' rfl) (hcells_cons (rowcell hr4' rfl) (hcells_cons (rowcell hr4' rfl) hcells_nil))))) (rv_tmp rfl)) H
  · replace H := H.2 hb7
    refine hx_skip ?_
    refine seqQ_n ?_
    refine hx_seq ?_
    refine hx_region ?_
    refine hl_val rfl rfl (v := (.pointer r0)) (hv_move rfl) ?_
    obtain ⟨r0_b, r0_o, hqe, Hq⟩ := H
    subst hqe
    have H := Hq; clear Hq
    refine hl_val rfl rfl (v := (ptr r0_b r0_o)) (hv_nil rfl) ?_
    obtain ⟨x_State, x_Sequence, x_Pins, x_Erases, hc9, hc10, hc11, hc12, H⟩ := H
    refine hl_val rfl rfl (v := (.agg #[(.int .i64 x_State), (.int .u64 x_Sequence), (.int .i64 x_Pins), (.int .i64 x_Erases)])) (hv_loads (vs := [(.int .i64 x_State), (.int .u64 x_Sequence), (.int .i64 x_Pins), (.int .i64 x_Erases)]) TyQA.agg31 TyQA.sz31 rfl (hcells_cons hc9 (hcells_cons hc10 (hcells_cons hc11 (hcells_cons hc12 hcells_nil))))) ?_
    refine hl_step rfl rfl (hn_stores (vs := [(.int .i64 x_State), (.int .u64 x_Sequence), (.int .i64 x_Pins), (.int .i64 x_Erases)]) rfl rfl TyQA.sz31 rfl (HWs_row hr4 (by simp)) ?_)
    intro h3 eh13
    have hr4' : h3[pb]? = some (.cells #[(.int .i64 x_State), (.int .u64 x_Sequence), (.int .i64 x_Pins), (.int .i64 x_Erases)] 31 (0, 0)) := row_hsets_eq eh13 hr4 rfl
    replace H := H h3 (fr_hsets_of eh13)
    refine hl_val rfl rfl (v := (.bool true)) (hv_assign rfl) ?_
    refine hl_nil ?_
    refine seqQ_n ?_
    refine hx_ret ?_
    exact endQ_ret _ (res_two Try.results11 (rv_cell (vs := [(.int .i64 x_State), (.int .u64 x_Sequence), (.int .i64 x_Pins), (.int .i64 x_Erases)]) TyQA.agg31 TyQA.sz31 rfl (hcells_cons (rowcell hr4' rfl) (hcells_cons (rowcell hr4' rfl) (hcells_cons (rowcell hr4' rfl) (hcells_cons (rowcell hr4' rfl) hcells_nil))))) (rv_tmp rfl)) H

/-- (*cellar/region.Manager).Frees -/
theorem f27_sh (m_b : Nat) (m_o : Nat) (h : Heap) (R : Value → Heap → Prop)
    (H : (∃ r : Bool, HC Try.prog 32 #[(ptr m_b m_o)] h (fun vv h' => vv = (.bool r) ∧ h' = h) ∧ (((!r) = true → R (.slice none 0 0) h) ∧ ((!r) = false → (∃ x : Option Addr, ∃ x_n x_c : Nat, hcell h m_b (m_o + 1) = some (.slice x x_n x_c) ∧ HC Try.prog 48 #[(.slice x x_n x_c)] h (fun vv h1 => ∃ r_1 : Option Addr, ∃ r_n r_c : Nat, vv = (.slice r_1 r_n r_c) ∧ R (.slice r_1 r_n r_c) h1)))))) :
    HC Try.prog 27 #[(ptr m_b m_o)] h R := by
  refine hc_of (args := [(ptr m_b m_o)]) Try.func27 rfl Try.ntmps27 (Nat.le_of_ble_eq_true rfl) ?_
  refine hx_seq ?_
  refine hx_region ?_
  refine hl_val rfl rfl (v := (.slice none 0 0)) (hv_assign rfl) ?_
  refine hl_nil ?_
  refine seqQ_n ?_
  refine hx_seq ?_
  refine hx_seq ?_
  refine hx_region ?_
  refine hl_val rfl rfl (v := (ptr m_b m_o)) (hv_move rfl) ?_
  obtain ⟨r, hr1, H⟩ := H
  refine hl_val rfl rfl (v := (.bool r)) (hv_call TyQA.cb32 (vs := [(ptr m_b m_o)]) rfl hr1) ?_
  refine hl_val rfl rfl (v := (.bool (!r))) (hv_not (b := r) rfl) ?_
  refine hl_nil ?_
  refine seqQ_n ?_
  refine hx_cond (b := !r) rfl (fun hb2 => ?_) (fun hb2 => ?_)
  · replace H := H.1 hb2
    refine hx_seq ?_
    refine hx_region ?_
    refine hl_val rfl rfl (v := (.slice none 0 0)) (hv_assign rfl) ?_
    refine hl_nil ?_
    refine seqQ_n ?_
    refine hx_ret ?_
    refine seqQ_ret ?_
    exact endQ_ret _ (res_one Try.results27 (rv_tmp rfl)) H
  · replace H := H.2 hb2
    refine hx_skip ?_
    refine seqQ_n ?_
    refine hx_seq ?_
    refine hx_region ?_
    refine hl_val rfl rfl (v := (ptr m_b m_o)) (hv_move rfl) ?_
    refine hl_val rfl rfl (v := (ptr m_b m_o)) (hv_nil rfl) ?_
    refine hl_val rfl rfl (v := (ptr m_b (m_o + 1))) (hv_field TyQA.fld67_1 (b := m_b) (o := m_o) rfl) ?_
    obtain ⟨x, x_n, x_c, hc3, H⟩ := H
    refine hl_val rfl rfl (v := (.slice x x_n x_c)) (hv_load TyQA.agg50 rfl hc3) ?_
    refine hl_step rfl rfl (hs_call TyQA.cb48 (vs := [(.slice x x_n x_c)]) rfl (HC.mono H ?_))
    rintro _ h1 ⟨r_1, r_n, r_c, rfl, H⟩
    refine hl_val rfl rfl (v := (.slice r_1 r_n r_c)) (hv_assign rfl) ?_
    refine hl_nil ?_
    refine seqQ_n ?_
    refine hx_ret ?_
    exact endQ_ret _ (res_one Try.results27 (rv_tmp rfl)) H

/-- (*cellar/region.Manager).Sealed -/
theorem f16_sh (m_b : Nat) (m_o : Nat) (h : Heap) (R : Value → Heap → Prop)
    (H : (∀ m h1, m = Array.size h → h1 = Array.push h (.cells #[(ptr m_b m_o)] 24) → R (.func (.func 34) #[] #[(ptr m 0)]) h1)) :
    HC Try.prog 16 #[(ptr m_b m_o)] h R := by
  refine hc_of (args := [(ptr m_b m_o)]) Try.func16 rfl Try.ntmps16 (Nat.le_of_ble_eq_true rfl) ?_
  refine hx_seq ?_
  refine hx_region ?_
  refine hl_step rfl rfl (hn_box (v := (ptr m_b m_o)) rfl ?_)
  intro m h1 eb1 eh2
  replace H := H m h1 eb1 eh2
  have xx3 : Ext h h1 := by rw [eh2]; exact Ext.push _ _
  refine hl_val rfl rfl (v := .nilFunc) (hv_assign rfl) ?_
  refine hl_nil ?_
  refine seqQ_n ?_
  refine hx_seq ?_
  refine hx_region ?_
  refine hl_val rfl rfl (v := (.func (.func 34) #[] #[(ptr m 0)])) (hv_makeFunc (fv := []) (cv := [(ptr m 0)]) rfl rfl) ?_
  refine hl_val rfl rfl (v := (.func (.func 34) #[] #[(ptr m 0)])) (hv_assign rfl) ?_
  refine hl_nil ?_
  refine seqQ_n ?_
  refine hx_ret ?_
  exact endQ_ret _ (res_one Try.results16 (rv_tmp rfl)) H

/-- slices.Delete[[]int,int] -/
theorem f33_sh (sv : Option Addr) (s_n : Nat) (s_c : Nat) (i : Int) (j : Int) (h : Heap) (R : Value → Heap → Prop)
    (H : (0 ≤ (i : Int) ∧ i ≤ j ∧ j ≤ (s_n : Int) ∧ (s_n : Int) ≤ (s_c : Int) ∧ ∀ sl : Option Addr, sl = slA sv (Int.toNat i) 1 (Int.toNat (s_n : Int)) → (((i == j) = true → R (.slice sv s_n s_c) h) ∧ ((i == j) = false → (0 ≤ ((0 : Int) : Int) ∧ (0 : Int) ≤ i ∧ i ≤ (s_c : Int) ∧ ∀ sl_1 : Option Addr, sl_1 = slA sv (Int.toNat 0) 1 s_c → (0 ≤ (j : Int) ∧ j ≤ (s_n : Int) ∧ (s_n : Int) ≤ (s_c : Int) ∧ ∀ sl_2 : Option Addr, sl_2 = slA sv (Int.toNat j) 1 s_c → HAppend Try.prog 50 50 (.slice sl_1 (Int.toNat i - Int.toNat 0) (s_c - Int.toNat 0)) (.slice sl_2 (Int.toNat (s_n : Int) - Int.toNat j) (s_c - Int.toNat j)) h (fun vv h1 => ∃ ap : Option Addr, ∃ ap_n ap_c : Nat, vv = (.slice ap ap_n ap_c) ∧ (0 ≤ ((ap_n : Int) : Int) ∧ (ap_n : Int) ≤ (s_n : Int) ∧ (s_n : Int) ≤ (ap_c : Int) ∧ ∀ sl_3 : Option Addr, sl_3 = slA ap (Int.toNat (ap_n : Int)) 1 ap_c → (((Int.toNat (s_n : Int) - Int.toNat (ap_n : Int)) ≠ 0 → ∃ cb co : Nat, sl_3 = some ⟨cb, co, none⟩ ∧ HWs h1 cb co ((Int.toNat (s_n : Int) - Int.toNat (ap_n : Int)) * 1)) ∧ ∀ h2, ((Int.toNat (s_n : Int) - Int.toNat (ap_n : Int)) = 0 → h2 = h1) → (∀ cb co : Nat, (Int.toNat (s_n : Int) - Int.toNat (ap_n : Int)) ≠ 0 → sl_3 = some ⟨cb, co, none⟩ → h2 = hsets h1 cb co (zcells [(.int .i64 0)] (Int.toNat (s_n : Int) - Int.toNat (ap_n : Int)))) → R (.slice ap ap_n ap_c) h2))))))))) :
    HC Try.prog 33 #[(.slice sv s_n s_c), (.int .i64 i), (.int .i64 j)] h R := by
  refine hc_of (args := [(.slice sv s_n s_c), (.int .i64 i), (.int .i64 j)]) Try.func33 rfl Try.ntmps33 (Nat.le_of_ble_eq_true rfl) ?_
  refine hx_seq ?_
  refine hx_region ?_
  refine hl_val rfl rfl (v := (.slice none 0 0)) (hv_assign rfl) ?_
  refine hl_nil ?_
  refine seqQ_n ?_
  refine hx_seq ?_
  refine hx_region ?_
  refine hl_val rfl rfl (v := (.slice sv s_n s_c)) (hv_move rfl) ?_
  refine hl_val rfl rfl (v := (.int .i64 i)) (hv_move rfl) ?_
  refine hl_val rfl rfl (v := (.int .i64 j)) (hv_move rfl) ?_
  refine hl_val rfl rfl (v := (.slice sv s_n s_c)) (hv_move rfl) ?_
  refine hl_val rfl rfl (v := (.int .i64 (s_n : Int))) (hv_len (n := s_n) TyQA.u50 rfl) ?_
  obtain ⟨hs1, hs2, hs3, hs4, H⟩ := H
  obtain ⟨sl, hq5⟩ : ∃ q, q = slA sv (Int.toNat i) 1 (Int.toNat (s_n : Int)) := ⟨_, rfl⟩
  replace H := H sl hq5
  refine hl_val rfl rfl (v := (.slice sl (Int.toNat j - Int.toNat i) (Int.toNat (s_n : Int) - Int.toNat i))) (hv_slice3 (l := i) (r := j) (mx := (s_n : Int)) TyQA.u50 TyQA.sz3 rfl rfl rfl rfl hs1 hs2 hs3 hs4 hq5) ?_
  refine hl_nil ?_
  refine seqQ_n ?_
  refine hx_seq ?_
  refine hx_seq ?_
  refine hx_region ?_
  refine hl_val rfl rfl (v := (.int .i64 i)) (hv_move rfl) ?_
  refine hl_val rfl rfl (v := (.int .i64 j)) (hv_move rfl) ?_
  refine hl_val rfl rfl (v := (.bool (i == j))) (hv_arith rfl rfl rfl) ?_
  refine hl_nil ?_
  refine seqQ_n ?_
  refine hx_cond (b := i == j) rfl (fun hb6 => ?_) (fun hb6 => ?_)
  · replace H := H.1 hb6
    refine hx_seq ?_
    refine hx_region ?_
    refine hl_val rfl rfl (v := (.slice sv s_n s_c)) (hv_move rfl) ?_
    refine hl_val rfl rfl (v := (.slice sv s_n s_c)) (hv_assign rfl) ?_
    refine hl_nil ?_
    refine seqQ_n ?_
    refine hx_ret ?_
    refine seqQ_ret ?_
    exact endQ_ret _ (res_one Try.results33 (rv_tmp rfl)) H
  · replace H := H.2 hb6
    refine hx_skip ?_
    refine seqQ_n ?_
    refine hx_seq ?_
    refine hx_region ?_
    refine hl_val rfl rfl (v := (.slice sv s_n s_c)) (hv_move rfl) ?_
    refine hl_val rfl rfl (v := (.int .i64 (s_n : Int))) (hv_len (n := s_n) TyQA.u50 rfl) ?_
    refine hl_val rfl rfl (v := (.int .i64 (s_n : Int))) (hv_assign rfl) ?_
    refine hl_nil ?_
    refine seqQ_n ?_
    refine hx_seq ?_
    refine hx_draw TyQA.mixed [.pure, .pure, .pure, .pure, .pure, .pure, .wild, .pure] [0, 1, 2, 3, 4, 5, 6, 7] (by kernel_rfl) ?_
    refine hp_pure (i := 0) rfl (wanted_0 rfl) rfl (.slice sv s_n s_c) (fun _ => hv_move rfl) ?_
    refine hp_pure (i := 1) rfl (wanted_0 rfl) rfl (.int .i64 i) (fun _ => hv_move rfl) ?_
    obtain ⟨hs7, hs8, hs9, H⟩ := H
    obtain ⟨sl_1, hq10⟩ : ∃ q, q = slA sv (Int.toNat 0) 1 s_c := ⟨_, rfl⟩
    replace H := H sl_1 hq10
    refine hp_pure (i := 2) rfl (wanted_0 rfl) rfl (.slice sl_1 (Int.toNat i - Int.toNat 0) (s_c - Int.toNat 0)) (fun _ => hv_slice (l := 0) (r := i) TyQA.u50 TyQA.sz3 rfl sl_none (sh_some rfl) hs7 hs8 hs9 hq10) ?_
    refine hp_pure (i := 3) rfl (wanted_0 rfl) rfl (.slice sv s_n s_c) (fun _ => hv_move rfl) ?_
    refine hp_pure (i := 4) rfl (wanted_0 rfl) rfl (.int .i64 j) (fun _ => hv_move rfl) ?_
    obtain ⟨hs11, hs12, hs13, H⟩ := H
    obtain ⟨sl_2, hq14⟩ : ∃ q, q = slA sv (Int.toNat j) 1 s_c := ⟨_, rfl⟩
    replace H := H sl_2 hq14
    refine hp_pure (i := 5) rfl (wanted_0 rfl) rfl (.slice sl_2 (Int.toNat (s_n : Int) - Int.toNat j) (s_c - Int.toNat j)) (fun _ => hv_slice (l := j) (r := (s_n : Int)) TyQA.u50 TyQA.sz3 rfl (sl_some rfl) sh_none hs11 hs12 hs13 hq14) ?_
    refine hp_wild (i := 6) rfl (wanted_0 rfl) rfl (hs_append rfl rfl (HAppend.mono H ?_))
    rintro _ h1 ⟨ap, ap_n, ap_c, rfl, H⟩
    refine hp_pure (i := 7) rfl (wanted_0 rfl) rfl (.slice ap ap_n ap_c) (fun _ => hv_assign rfl) ?_
    refine hp_nil ?_
    refine seqQ_n ?_
    refine hx_seq ?_
    refine hx_region ?_
    refine hl_val rfl rfl (v := (.slice ap ap_n ap_c)) (hv_move rfl) ?_
    refine hl_val rfl rfl (v := (.slice ap ap_n ap_c)) (hv_move rfl) ?_
    refine hl_val rfl rfl (v := (.int .i64 (ap_n : Int))) (hv_len (n := ap_n) TyQA.u50 rfl) ?_
    refine hl_val rfl rfl (v := (.int .i64 (s_n : Int))) (hv_move rfl) ?_
    obtain ⟨hs15, hs16, hs17, H⟩ := H
    obtain ⟨sl_3, hq18⟩ : ∃ q, q = slA ap (Int.toNat (ap_n : Int)) 1 ap_c := ⟨_, rfl⟩
    replace H := H sl_3 hq18
    refine hl_val rfl rfl (v := (.slice sl_3 (Int.toNat (s_n : Int) - Int.toNat (ap_n : Int)) (ap_c - Int.toNat (ap_n : Int)))) (hv_slice (l := (ap_n : Int)) (r := (s_n : Int)) TyQA.u50 TyQA.sz3 rfl (sl_some rfl) (sh_some rfl) hs15 hs16 hs17 hq18) ?_
    obtain ⟨hw19, H⟩ := H
    refine hl_step rfl rfl (hn_clear2 (zs := [(.int .i64 0)]) TyQA.u50 TyQA.z3 rfl (by decide) rfl rfl hw19 ?_)
    intro h2 hz20 hn21
    replace H := H h2 hz20 hn21
    refine hl_nil ?_
    refine seqQ_n ?_
    refine hx_seq ?_
    refine hx_region ?_
    refine hl_val rfl rfl (v := (.slice ap ap_n ap_c)) (hv_move rfl) ?_
    refine hl_val rfl rfl (v := (.slice ap ap_n ap_c)) (hv_assign rfl) ?_
    refine hl_nil ?_
    refine seqQ_n ?_
    refine hx_ret ?_
    exact endQ_ret _ (res_one Try.results33 (rv_tmp rfl)) H

/-- slices.Contains[[]int,int] -/
theorem f47_sh (sv : Option Addr) (s_n : Nat) (s_c : Nat) (v : Int) (h : Heap) (R : Value → Heap → Prop)
    (H : (∃ r : Int, HC Try.prog 57 #[(.slice sv s_n s_c), (.int .i64 v)] h (fun vv h' => vv = (.int .i64 r) ∧ h' = h) ∧ R (.bool (decide (r ≥ 0))) h)) :
    HC Try.prog 47 #[(.slice sv s_n s_c), (.int .i64 v)] h R := by
  refine hc_of (args := [(.slice sv s_n s_c), (.int .i64 v)]) Try.func47 rfl Try.ntmps47 (Nat.le_of_ble_eq_true rfl) ?_
  refine hx_seq ?_
  refine hx_region ?_
  refine hl_val rfl rfl (v := (.bool false)) (hv_assign rfl) ?_
  refine hl_nil ?_
  refine seqQ_n ?_
  refine hx_seq ?_
  refine hx_region ?_
  refine hl_val rfl rfl (v := (.slice sv s_n s_c)) (hv_move rfl) ?_
  refine hl_val rfl rfl (v := (.int .i64 v)) (hv_move rfl) ?_
  obtain ⟨r, hr1, H⟩ := H
  refine hl_val rfl rfl (v := (.int .i64 r)) (hv_call TyQA.cb57 (vs := [(.slice sv s_n s_c), (.int .i64 v)]) rfl hr1) ?_
  refine hl_val rfl rfl (v := (.bool (decide (r ≥ 0)))) (hv_arith rfl rfl rfl) ?_
  refine hl_val rfl rfl (v := (.bool (decide (r ≥ 0)))) (hv_assign rfl) ?_
  refine hl_nil ?_
  refine seqQ_n ?_
  refine hx_ret ?_
  exact endQ_ret _ (res_one Try.results47 (rv_tmp rfl)) H

/-- slices.Index[[]int,int] -/
theorem f57_sh (sv : Option Addr) (s_n : Nat) (s_c : Nat) (v : Int) (h : Heap) (R : Value → Heap → Prop)
    (H : (∃ (I1 : Int → Prop) (mu2 : Int → Nat), I1 0 ∧ (∀ (v_1 : Int), I1 v_1 → (((decide (v_1 < (s_n : Int))) = true → (∃ sv_b sv_o : Nat, sv = some ⟨sv_b, sv_o, none⟩ ∧ (0 : Int) ≤ v_1 ∧ v_1 < (s_n : Int) ∧ (∃ x : Int, hcell h sv_b (sv_o + (Int.toNat v_1) * 1) = some (.int .i64 x) ∧ (((v == x) = true → R (.int .i64 v_1) h) ∧ ((v == x) = false → (I1 (IntKind.i64.wrap (v_1 + 1)) ∧ mu2 (IntKind.i64.wrap (v_1 + 1)) < mu2 v_1)))))) ∧ ((decide (v_1 < (s_n : Int))) = false → R (.int .i64 (-1)) h))))) :
    HC Try.prog 57 #[(.slice sv s_n s_c), (.int .i64 v)] h R := by
  refine hc_of (args := [(.slice sv s_n s_c), (.int .i64 v)]) Try.func57 rfl Try.ntmps57 (Nat.le_of_ble_eq_true rfl) ?_
  refine hx_seq ?_
  refine hx_region ?_
  refine hl_val rfl rfl (v := (.int .i64 0)) (hv_assign rfl) ?_
  refine hl_nil ?_
  refine seqQ_n ?_
  refine hx_seq ?_
  refine hx_seq ?_
  refine hx_region ?_
  refine hl_val rfl rfl (v := (.slice sv s_n s_c)) (hv_move rfl) ?_
  refine hl_val rfl rfl (v := (.int .i64 (s_n : Int))) (hv_len (n := s_n) TyQA.u50 rfl) ?_
  refine hl_val rfl rfl (v := (.int .i64 0)) (hv_move rfl) ?_
  refine hl_nil ?_
  refine seqQ_n ?_
  refine hx_block ?_
  obtain ⟨I1, mu2, Ha3, Hr4⟩ := H
  refine hx_loopT (σ := Int) (fun s => [(0, (.slice sv s_n s_c)), (1, (.int .i64 v)), (7, (.int .i64 (s_n : Int))), (8, (.int .i64 s))]) (fun s h' => I1 s ∧ h = h') (fun s _ => mu2 s) 0 ⟨Ha3, rfl⟩ (has_cons rfl (has_cons rfl (has_cons rfl (has_cons rfl has_nil)))) ?_
  rintro v_1 ρ _ ⟨Hi5, rfl⟩
  have H := Hr4 v_1 Hi5
  refine hx_seq ?_
  refine hx_region ?_
  refine hl_val rfl rfl (v := (.bool (decide (v_1 < (s_n : Int))))) (hv_arith rfl rfl rfl) ?_
  refine hl_nil ?_
  refine seqQ_n ?_
  refine hx_seq ?_
  refine hx_cond (b := decide (v_1 < (s_n : Int))) rfl (fun hb6 => ?_) (fun hb6 => ?_)
  · replace H := H.1 hb6
    refine hx_skip ?_
    refine seqQ_n ?_
    refine hx_seq ?_
    refine hx_block ?_
    refine hx_seq ?_
    refine hx_region ?_
    refine hl_val rfl rfl (v := (.int .i64 v_1)) (hv_move rfl) ?_
    refine hl_val rfl rfl (v := (.int .i64 v_1)) (hv_assign rfl) ?_
    refine hl_nil ?_
    refine seqQ_n ?_
    refine hx_seq ?_
    refine hx_region ?_
    refine hl_val rfl rfl (v := (.int .i64 v)) (hv_move rfl) ?_
    refine hl_val rfl rfl (v := (.slice sv s_n s_c)) (hv_move rfl) ?_
    refine hl_val rfl rfl (v := (.int .i64 v_1)) (hv_move rfl) ?_
    obtain ⟨sv_b, sv_o, hqe, hi7, hi8, Hq⟩ := H
    subst hqe
    have H := Hq; clear Hq
    refine hl_val rfl rfl (v := (ptr sv_b (sv_o + (Int.toNat v_1) * 1))) (hv_index TyQA.el50 rfl rfl hi7 hi8) ?_
    obtain ⟨x, hc9, H⟩ := H
    refine hl_val rfl rfl (v := (.int .i64 x)) (hv_load TyQA.agg3 rfl hc9) ?_
    refine hl_val rfl rfl (v := (.bool (v == x))) (hv_arith rfl rfl rfl) ?_
    refine hl_nil ?_
    refine seqQ_n ?_
    refine hx_cond (b := v == x) rfl (fun hb10 => ?_) (fun hb10 => ?_)
    · replace H := H.1 hb10
      refine hx_seq ?_
      refine hx_region ?_
      refine hl_val rfl rfl (v := (.int .i64 v_1)) (hv_move rfl) ?_
      refine hl_val rfl rfl (v := (.int .i64 v_1)) (hv_assign rfl) ?_
      refine hl_nil ?_
      refine seqQ_n ?_
      refine hx_ret ?_
      refine blockQ_ret ?_
      refine seqQ_ret ?_
      refine seqQ_ret ?_
      refine blockQ_ret ?_
      refine seqQ_ret ?_
      exact endQ_ret _ (res_one Try.results57 (rv_tmp rfl)) H
    · replace H := H.2 hb10
      refine hx_skip ?_
      refine blockQ_n ?_
      refine seqQ_n ?_
      refine hx_region ?_
      refine hl_val rfl rfl (v := (.int .i64 (IntKind.i64.wrap (v_1 + 1)))) (hv_arith rfl rfl rfl) ?_
      refine hl_val rfl rfl (v := (.int .i64 (IntKind.i64.wrap (v_1 + 1)))) (hv_move rfl) ?_
      refine hl_nil ?_
      refine seqQ_n ?_
      exact ⟨IntKind.i64.wrap (v_1 + 1), ⟨⟨H.1, rfl⟩, H.2⟩, (has_cons rfl (has_cons rfl (has_cons rfl (has_cons rfl has_nil))))⟩
  · replace H := H.2 hb6
    refine hx_exit ?_
    refine seqQ_exit ?_
    refine seqQ_exit ?_
    refine blockQ_here ?_
    refine seqQ_n ?_
    refine hx_seq ?_
    refine hx_region ?_
    refine hl_val rfl rfl (v := (.int .i64 (-1))) (hv_assign rfl) ?_
    refine hl_nil ?_
    refine seqQ_n ?_
    refine hx_ret ?_
    exact endQ_ret _ (res_one Try.results57 (rv_tmp rfl)) H

/-- slices.Clone[[]int,int] -/
theorem f48_sh (sv : Option Addr) (s_n : Nat) (s_c : Nat) (h : Heap) (R : Value → Heap → Prop)
    (H : ((sv.isNone = true → R (.slice none 0 0) h) ∧ (sv.isNone = false → (∀ nb h1, nb = Array.size h → h1 = Array.push h (.cells #[] 3) → HAppend Try.prog 50 50 (.slice (some ⟨nb, 0, none⟩) 0 0) (.slice sv s_n s_c) h1 (fun vv h2 => ∃ ap : Option Addr, ∃ ap_n ap_c : Nat, vv = (.slice ap ap_n ap_c) ∧ R (.slice ap ap_n ap_c) h2))))) :
    HC Try.prog 48 #[(.slice sv s_n s_c)] h R := by
  refine hc_of (args := [(.slice sv s_n s_c)]) Try.func48 rfl Try.ntmps48 (Nat.le_of_ble_eq_true rfl) ?_
  refine hx_seq ?_
  refine hx_region ?_
  refine hl_val rfl rfl (v := (.slice none 0 0)) (hv_assign rfl) ?_
  refine hl_nil ?_
  refine seqQ_n ?_
  refine hx_seq ?_
  refine hx_seq ?_
  refine hx_region ?_
  refine hl_val rfl rfl (v := (.slice sv s_n s_c)) (hv_move rfl) ?_
  refine hl_val rfl rfl (v := (.bool sv.isNone)) (hv_sliceNil TyQA.u50 rfl rfl) ?_
  refine hl_nil ?_
  refine seqQ_n ?_
  refine hx_cond (b := sv.isNone) rfl (fun hb1 => ?_) (fun hb1 => ?_)
  · replace H := H.1 hb1
    refine hx_seq ?_
    refine hx_region ?_
    refine hl_val rfl rfl (v := (.slice none 0 0)) (hv_assign rfl) ?_
    refine hl_nil ?_
    refine seqQ_n ?_
    refine hx_ret ?_
    refine seqQ_ret ?_
    exact endQ_ret _ (res_one Try.results48 (rv_tmp rfl)) H
  · replace H := H.2 hb1
    refine hx_skip ?_
    refine seqQ_n ?_
    refine hx_seq ?_
    refine hx_region ?_
    refine hl_step rfl rfl (hn_buildSlice (n := 0) (vs := []) (cs := #[]) TyQA.u50 TyQA.sz3 TyQA.z3 rfl rfl (by kernel_rfl) ?_)
    intro nb h1 eb2 eh3
    replace H := H nb h1 eb2 eh3
    have xx4 : Ext h h1 := by rw [eh3]; exact Ext.push _ _
    refine hl_val rfl rfl (v := (.slice sv s_n s_c)) (hv_move rfl) ?_
    refine hl_step rfl rfl (hs_append rfl rfl (HAppend.mono H ?_))
    rintro _ h2 ⟨ap, ap_n, ap_c, rfl, H⟩
    refine hl_val rfl rfl (v := (.slice ap ap_n ap_c)) (hv_assign rfl) ?_
    refine hl_nil ?_
    refine seqQ_n ?_
    refine hx_ret ?_
    exact endQ_ret _ (res_one Try.results48 (rv_tmp rfl)) H

/-- cellar/region.New -/
theorem f10_sh (regions : Int) (h : Heap) (R : Value → Heap → Prop)
    (H : ((((decide (regions < 2)) || (decide (regions > 256))) = true → R (.tuple #[(.pointer none), (.int .i64 1)]) h) ∧ (((decide (regions < 2)) || (decide (regions > 256))) = false → ((0 : Int) ≤ regions ∧ 32 * regions ≤ 140737488355328 ∧ regions ≤ 140737488355328 ∧ ∀ nb h1, nb = Array.size h → h1 = Array.push h (.cells (zcells [(.int .i64 0), (.int .u64 0), (.int .i64 0), (.int .i64 0)] (Int.toNat regions)).toArray 31) → (∀ mb h2, mb = Array.size h1 → Ext h1 h2 → Array.size h2 = Array.size h1 + 1 → MapL h2 mb (Value.int .i64) [] → (∀ nb_1 h3, nb_1 = Array.size h2 → h3 = Array.push h2 (.cells #[(.slice (some ⟨nb, 0, none⟩) (Int.toNat regions) (Int.toNat regions)), (.slice none 0 0), (.int .u64 0), (.int .i64 (-1)), (.map (some mb))] 67) → (∃ x : Option Addr, ∃ x_n x_c : Nat, hcell h3 nb_1 0 = some (.slice x x_n x_c) ∧ (∃ (I19 : Int → Heap → Prop) (mu20 : Int → Heap → Nat), I19 0 h3 ∧ (∀ (v : Int) (h4 : Heap), I19 v h4 → (((decide (v < (x_n : Int))) = true → (∃ x_1 : Option Addr, ∃ x_n_1 x_c_1 : Nat, hcell h4 nb_1 0 = some (.slice x_1 x_n_1 x_c_1) ∧ (∃ x_1_b x_1_o : Nat, x_1 = some ⟨x_1_b, x_1_o, none⟩ ∧ (0 : Int) ≤ v ∧ v < (x_n_1 : Int) ∧ (HW h4 x_1_b (x_1_o + (Int.toNat v) * 4) ∧ ∀ h5, h5 = hset h4 x_1_b (x_1_o + (Int.toNat v) * 4) (.int .i64 1) → (∃ x_2 : Option Addr, ∃ x_n_2 x_c_2 : Nat, hcell h5 nb_1 1 = some (.slice x_2 x_n_2 x_c_2) ∧ (∀ nb_2 h6, nb_2 = Array.size h5 → h6 = Array.push h5 (.cells #[(.int .i64 v)] 3) → HAppend Try.prog 50 50 (.slice x_2 x_n_2 x_c_2) (.slice (some ⟨nb_2, 0, none⟩) 1 1) h6 (fun vv h7 => ∃ ap : Option Addr, ∃ ap_n ap_c : Nat, vv = (.slice ap ap_n ap_c) ∧ (HW h7 nb_1 1 ∧ ∀ h8, h8 = hset h7 nb_1 1 (.slice ap ap_n ap_c) → (I19 (IntKind.i64.wrap (v + 1)) h8 ∧ mu20 (IntKind.i64.wrap (v + 1)) h8 < mu20 v h4))))))))) ∧ ((decide (v < (x_n : Int))) = false → R (.tuple #[(ptr nb_1 0), (.int .i64 0)]) h4))))))))))) :
    HC Try.prog 10 #[(.int .i64 regions)] h R := by
  refine hc_of (args := [(.int .i64 regions)]) Try.func10 rfl Try.ntmps10 (Nat.le_of_ble_eq_true rfl) ?_
  refine hx_seq ?_
  refine hx_region ?_
  refine hl_val rfl rfl (v := (.pointer none)) (hv_assign rfl) ?_
  refine hl_val rfl rfl (v := (.int .i64 0)) (hv_assign rfl) ?_
  refine hl_nil ?_
  refine seqQ_n ?_
  refine hx_seq ?_
  refine hx_cut (fun ρ h' => h = h' ∧ Has ρ [(0, (.int .i64 regions)), (11, (.bool ((decide (regions < 2)) || (decide (regions > 256)))))]) ?_ ?_
  · refine hx_region ?_
    refine hl_val rfl rfl (v := (.int .i64 regions)) (hv_move rfl) ?_
    refine hl_val rfl rfl (v := (.bool (decide (regions < 2)))) (hv_arith rfl rfl rfl) ?_
    refine hl_val rfl rfl (v := (.bool (decide (regions < 2)))) (hv_move rfl) ?_
    rcases bool_or (decide (regions < 2)) with hg3 | hg3
    · refine hl_no (wanted_n rfl rfl rfl hg3) rfl ?_
      refine hl_no (wanted_n rfl rfl rfl hg3) rfl ?_
      refine hl_val rfl rfl (v := (.bool true)) (hv_pick_t rfl hg3 rfl) ?_
      refine hl_nil ?_
      refine seqQ_n ?_
      exact ⟨rfl, (has_cons rfl (has_cons (show ((.bool true) : Value) = (.bool ((decide (regions < 2)) || (decide (regions > 256)))) from (by first | rfl | (try rw [hg3]; all_goals first | rfl | (simp only [Bool.true_or, Bool.or_true, Bool.false_or, Bool.or_false, Bool.true_and, Bool.and_true, Bool.false_and, Bool.and_false, Bool.not_true, Bool.not_false, Bool.cond_true, Bool.cond_false]; done)) | simp [hg3])) has_nil))⟩
    · refine hl_yes (wanted_y rfl rfl rfl hg3) rfl (HStep.of_val (v := (.int .i64 regions)) (hv_move rfl) ?_)
      refine hl_yes (wanted_y rfl rfl rfl hg3) rfl (HStep.of_val (v := (.bool (decide (regions > 256)))) (hv_arith rfl rfl rfl) ?_)
      refine hl_val rfl rfl (v := (.bool (decide (regions > 256)))) (hv_pick_f rfl hg3 rfl) ?_
      refine hl_nil ?_
      refine seqQ_n ?_
      exact ⟨rfl, (has_cons rfl (has_cons (show ((.bool (decide (regions > 256))) : Value) = (.bool ((decide (regions < 2)) || (decide (regions > 256)))) from (by first | rfl | (try rw [hg3]; all_goals first | rfl | (simp only [Bool.true_or, Bool.or_true, Bool.false_or, Bool.or_false, Bool.true_and, Bool.and_true, Bool.false_and, Bool.and_false, Bool.not_true, Bool.not_false, Bool.cond_true, Bool.cond_false]; done)) | simp [hg3])) has_nil))⟩
  · rintro ρ _ ⟨rfl, hH⟩
    refine hx_has _ hH ?_
    refine hx_cond (b := ((decide (regions < 2)) || (decide (regions > 256)))) rfl (fun hb4 => ?_) (fun hb4 => ?_)
    · replace H := H.1 hb4
      refine hx_seq ?_
      refine hx_region ?_
      refine hl_val rfl rfl (v := (.pointer none)) (hv_assign rfl) ?_
      refine hl_val rfl rfl (v := (.int .i64 1)) (hv_assign rfl) ?_
      refine hl_nil ?_
      refine seqQ_n ?_
      refine hx_ret ?_
      refine seqQ_ret ?_
      exact endQ_ret _ (res_two Try.results10 (rv_tmp rfl) (rv_tmp rfl)) H
    · replace H := H.2 hb4
      refine hx_skip ?_
      refine seqQ_n ?_
      refine hx_seq ?_
      refine hx_region ?_
      refine hl_val rfl rfl (v := (.int .i64 regions)) (hv_move rfl) ?_
      obtain ⟨hm5, hm6, hm7, H⟩ := H
      refine hl_step rfl rfl (hn_make (z := (.agg #[(.int .i64 0), (.int .u64 0), (.int .i64 0), (.int .i64 0)])) (zs := [(.int .i64 0), (.int .u64 0), (.int .i64 0), (.int .i64 0)]) (n := regions) TyQA.u28 TyQA.sz31 TyQA.by31 TyQA.z31 rfl rfl hm5 hm6 hm7 rfl rfl ?_)
      intro nb h1 eb8 eh9
      replace H := H nb h1 eb8 eh9
      have xx10 : Ext h h1 := by rw [eh9]; exact Ext.push _ _
      refine hl_step rfl rfl (hn_makeMap (enc := (Value.int .i64)) ?_)
      intro mb h2 eb11 ex12 ez13 mm14
      replace H := H mb h2 eb11 ex12 ez13 mm14
      refine hl_val rfl rfl (v := (.agg #[(.slice (some ⟨nb, 0, none⟩) (Int.toNat regions) (Int.toNat regions)), (.slice none 0 0), (.int .u64 0), (.int .i64 (-1)), (.map (some mb))])) (hv_build (vs := [(0, (.slice (some ⟨nb, 0, none⟩) (Int.toNat regions) (Int.toNat regions))), (3, (.int .i64 (-1))), (4, (.map (some mb)))]) (cs := #[(.slice (some ⟨nb, 0, none⟩) (Int.toNat regions) (Int.toNat regions)), (.slice none 0 0), (.int .u64 0), (.int .i64 (-1)), (.map (some mb))]) TyQA.z67 TyQA.pl67 rfl (by kernel_rfl)) ?_
      refine hl_step rfl rfl (hn_box (v := (.agg #[(.slice (some ⟨nb, 0, none⟩) (Int.toNat regions) (Int.toNat regions)), (.slice none 0 0), (.int .u64 0), (.int .i64 (-1)), (.map (some mb))])) rfl ?_)
      intro nb_1 h3 eb15 eh16
      replace H := H nb_1 h3 eb15 eh16
      have xx17 : Ext h2 h3 := by rw [eh16]; exact Ext.push _ _
      refine hl_val rfl rfl (v := (ptr nb_1 0)) (hv_assign rfl) ?_
      refine hl_nil ?_
      refine seqQ_n ?_
      refine hx_seq ?_
      refine hx_seq ?_
      refine hx_region ?_
      refine hl_val rfl rfl (v := (ptr nb_1 0)) (hv_move rfl) ?_
      refine hl_val rfl rfl (v := (ptr nb_1 0)) (hv_nil rfl) ?_
      refine hl_val rfl rfl (v := (ptr nb_1 0)) (hv_field TyQA.fld67_0 (b := nb_1) (o := 0) rfl) ?_
      obtain ⟨x, x_n, x_c, hc18, H⟩ := H
      refine hl_val rfl rfl (v := (.slice x x_n x_c)) (hv_load TyQA.agg28 rfl hc18) ?_
      refine hl_val rfl rfl (v := (.int .i64 (x_n : Int))) (hv_len (n := x_n) TyQA.u28 rfl) ?_
      refine hl_val rfl rfl (v := (.int .i64 0)) (hv_move rfl) ?_
      refine hl_nil ?_
      refine seqQ_n ?_
      refine hx_block ?_
      obtain ⟨I19, mu20, Ha21, Hr22⟩ := H
      refine hx_loopT (σ := Int) (fun s => [(4, (ptr nb_1 0)), (21, (.int .i64 (x_n : Int))), (22, (.int .i64 s))]) (fun s h' => I19 s h' ∧ True) (fun s h' => mu20 s h') 0 ⟨Ha21, trivial⟩ (has_cons rfl (has_cons rfl (has_cons rfl has_nil))) ?_
      rintro v ρ h4 ⟨Hi23, -⟩
      have H := Hr22 v h4 Hi23
      refine hx_seq ?_
      refine hx_region ?_
      refine hl_val rfl rfl (v := (.bool (decide (v < (x_n : Int))))) (hv_arith rfl rfl rfl) ?_
      refine hl_nil ?_
      refine seqQ_n ?_
      refine hx_seq ?_
      refine hx_cond (b := decide (v < (x_n : Int))) rfl (fun hb24 => ?_) (fun hb24 => ?_)
      · replace H := H.1 hb24
        refine hx_skip ?_
        refine seqQ_n ?_
        refine hx_seq ?_
        refine hx_block ?_
        refine hx_seq ?_
        refine hx_region ?_
        refine hl_val rfl rfl (v := (.int .i64 v)) (hv_move rfl) ?_
        refine hl_val rfl rfl (v := (.int .i64 v)) (hv_assign rfl) ?_
        refine hl_nil ?_
        refine seqQ_n ?_
        refine hx_seq ?_
        refine hx_region ?_
        refine hl_val rfl rfl (v := (ptr nb_1 0)) (hv_move rfl) ?_
        refine hl_val rfl rfl (v := (ptr nb_1 0)) (hv_nil rfl) ?_
        refine hl_val rfl rfl (v := (ptr nb_1 0)) (hv_field TyQA.fld67_0 (b := nb_1) (o := 0) rfl) ?_
        obtain ⟨x_1, x_n_1, x_c_1, hc25, H⟩ := H
        refine hl_val rfl rfl (v := (.slice x_1 x_n_1 x_c_1)) (hv_load TyQA.agg28 rfl hc25) ?_
        refine hl_val rfl rfl (v := (.int .i64 v)) (hv_move rfl) ?_
        obtain ⟨x_1_b, x_1_o, hqe, hi26, hi27, Hq⟩ := H
        subst hqe
        have H := Hq; clear Hq
        refine hl_val rfl rfl (v := (ptr x_1_b (x_1_o + (Int.toNat v) * 4))) (hv_index TyQA.el28 rfl rfl hi26 hi27) ?_
        refine hl_val rfl rfl (v := (ptr x_1_b (x_1_o + (Int.toNat v) * 4))) (hv_field TyQA.fld31_0 (b := x_1_b) (o := x_1_o + (Int.toNat v) * 4) rfl) ?_
        obtain ⟨hw29, H⟩ := H
        refine hl_step rfl rfl (hn_store (v := (.int .i64 1)) rfl rfl TyQA.sz3 rfl hw29 ?_)
        intro h5 eh28
        replace H := H h5 eh28
        refine hl_nil ?_
        refine seqQ_n ?_
        refine hx_region ?_
        refine hl_val rfl rfl (v := (ptr nb_1 0)) (hv_move rfl) ?_
        refine hl_val rfl rfl (v := (ptr nb_1 0)) (hv_move rfl) ?_
        refine hl_val rfl rfl (v := (ptr nb_1 0)) (hv_nil rfl) ?_
        refine hl_val rfl rfl (v := (ptr nb_1 1)) (hv_field TyQA.fld67_1 (b := nb_1) (o := 0) rfl) ?_
        obtain ⟨x_2, x_n_2, x_c_2, hc30, H⟩ := H
        refine hl_val rfl rfl (v := (.slice x_2 x_n_2 x_c_2)) (hv_load TyQA.agg50 rfl hc30) ?_
        refine hl_val rfl rfl (v := (.int .i64 v)) (hv_move rfl) ?_
        refine hl_step rfl rfl (hn_buildSlice (n := 1) (vs := [(0, (.int .i64 v))]) (cs := #[(.int .i64 v)]) TyQA.u50 TyQA.sz3 TyQA.z3 rfl rfl (by kernel_rfl) ?_)
        intro nb_2 h6 eb31 eh32
        replace H := H nb_2 h6 eb31 eh32
        have xx33 : Ext h5 h6 := by rw [eh32]; exact Ext.push _ _
        refine hl_step rfl rfl (hs_append rfl rfl (HAppend.mono H ?_))
        rintro _ h7 ⟨ap, ap_n, ap_c, rfl, H⟩
        refine hl_val rfl rfl (v := (ptr nb_1 0)) (hv_nil rfl) ?_
        refine hl_val rfl rfl (v := (ptr nb_1 1)) (hv_field TyQA.fld67_1 (b := nb_1) (o := 0) rfl) ?_
        obtain ⟨hw35, H⟩ := H
        refine hl_step rfl rfl (hn_store (v := (.slice ap ap_n ap_c)) rfl rfl TyQA.sz50 rfl hw35 ?_)
        intro h8 eh34
        replace H := H h8 eh34
        refine hl_nil ?_
        refine blockQ_n ?_
        refine seqQ_n ?_
        refine hx_region ?_
        refine hl_val rfl rfl (v := (.int .i64 (IntKind.i64.wrap (v + 1)))) (hv_arith rfl rfl rfl) ?_
        refine hl_val rfl rfl (v := (.int .i64 (IntKind.i64.wrap (v + 1)))) (hv_move rfl) ?_
        refine hl_nil ?_
        refine seqQ_n ?_
        exact ⟨IntKind.i64.wrap (v + 1), ⟨⟨H.1, trivial⟩, H.2⟩, (has_cons rfl (has_cons rfl (has_cons rfl has_nil)))⟩
      · replace H := H.2 hb24
        refine hx_exit ?_
        refine seqQ_exit ?_
        refine seqQ_exit ?_
        refine blockQ_here ?_
        refine seqQ_n ?_
        refine hx_seq ?_
        refine hx_region ?_
        refine hl_val rfl rfl (v := (ptr nb_1 0)) (hv_move rfl) ?_
        refine hl_val rfl rfl (v := (ptr nb_1 0)) (hv_assign rfl) ?_
        refine hl_val rfl rfl (v := (.int .i64 0)) (hv_assign rfl) ?_
        refine hl_nil ?_
        refine seqQ_n ?_
        refine hx_ret ?_
        exact endQ_ret _ (res_two Try.results10 (rv_tmp rfl) (rv_tmp rfl)) H

end Go.Proofs.Ytfdgjgjcppfmiaa
