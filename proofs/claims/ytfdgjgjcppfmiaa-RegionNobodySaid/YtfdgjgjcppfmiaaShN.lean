/-
Shallow forms, written by gen.py (a program of this session) out of the print of the program.
-/
import Derived.Test.YtfdgjgjcppfmiaaMor
import Derived.Test.YtfdgjgjcppfmiaaProg
namespace Go.Proofs.Ytfdgjgjcppfmiaa
open Go
set_option maxRecDepth 100000
set_option maxHeartbeats 4000000

theorem Ty.agg3 : aggB Try.prog 3 = some false := by kernel_rfl
theorem Ty.agg31 : aggB Try.prog 31 = some true := by kernel_rfl
theorem Ty.agg50 : aggB Try.prog 50 = some false := by kernel_rfl
theorem Ty.cb11 : CallB Try.prog 11 := fun _ _ => Try.call11 _ _
theorem Ty.cb13 : CallB Try.prog 13 := fun _ _ => Try.call13 _ _
theorem Ty.cb14 : CallB Try.prog 14 := fun _ _ => Try.call14 _ _
theorem Ty.cb15 : CallB Try.prog 15 := fun _ _ => Try.call15 _ _
theorem Ty.cb16 : CallB Try.prog 16 := fun _ _ => Try.call16 _ _
theorem Ty.cb21 : CallB Try.prog 21 := fun _ _ => Try.call21 _ _
theorem Ty.cb22 : CallB Try.prog 22 := fun _ _ => Try.call22 _ _
theorem Ty.cb23 : CallB Try.prog 23 := fun _ _ => Try.call23 _ _
theorem Ty.cb24 : CallB Try.prog 24 := fun _ _ => Try.call24 _ _
theorem Ty.cb25 : CallB Try.prog 25 := fun _ _ => Try.call25 _ _
theorem Ty.cb26 : CallB Try.prog 26 := fun _ _ => Try.call26 _ _
theorem Ty.cb27 : CallB Try.prog 27 := fun _ _ => Try.call27 _ _
theorem Ty.cb28 : CallB Try.prog 28 := fun _ _ => Try.call28 _ _
theorem Ty.cb31 : CallB Try.prog 31 := fun _ _ => Try.call31 _ _
theorem Ty.cb32 : CallB Try.prog 32 := fun _ _ => Try.call32 _ _
theorem Ty.cb9 : CallB Try.prog 9 := fun _ _ => Try.call9 _ _
theorem Ty.fld31_0 : fldB Try.prog 31 0 = some 0 := by kernel_rfl
theorem Ty.fld31_2 : fldB Try.prog 31 2 = some 2 := by kernel_rfl
theorem Ty.fld31_3 : fldB Try.prog 31 3 = some 3 := by kernel_rfl
theorem Ty.pl31 : plB Try.prog 31 = some [(0, 1), (1, 1), (2, 1), (3, 1)] := by kernel_rfl
theorem Ty.se31 : seB Try.prog 31 = some [(3, 0), (29, 1), (3, 2), (3, 3)] := by kernel_rfl
theorem Ty.sz3 : szB Try.prog 3 = some 1 := by kernel_rfl
theorem Ty.sz31 : szB Try.prog 31 = some 4 := by kernel_rfl
theorem Ty.sz50 : szB Try.prog 50 = some 1 := by kernel_rfl
theorem Ty.u50 : Try.prog.underlying 50 = some (.slice 3) := by kernel_rfl
theorem Ty.up24 : Try.prog.underlying 24 = some (.pointer 67) := by kernel_rfl
theorem Ty.z3 : zeroB Try.prog 3 (.int .i64 0) := by unfold zeroB; kernel_rfl
theorem Ty.z31 : zeroB Try.prog 31 (.agg #[(.int .i64 0), (.int .u64 0), (.int .i64 0), (.int .i64 0)]) := by unfold zeroB; kernel_rfl
theorem Ty.z50 : zeroB Try.prog 50 (.slice none 0 0) := by unfold zeroB; kernel_rfl

/-- (*cellar/region.Manager).made -/
theorem f32_shn  (h : Heap) (R : Value → Heap → Prop)
    (H : R (.bool false) h) :
    HC Try.prog 32 #[(.pointer none)] h R := by
  refine hc_of (args := [(.pointer none)]) Try.func32 rfl Try.ntmps32 (Nat.le_of_ble_eq_true rfl) ?_
  refine hx_seq ?_
  refine hx_region ?_
  refine hl_val rfl rfl (v := (.bool false)) (hv_assign rfl) ?_
  refine hl_nil ?_
  refine seqQ_n ?_
  refine hx_seq ?_
  refine hx_region ?_
  refine hl_val rfl rfl (v := (.pointer none)) (hv_move rfl) ?_
  refine hl_val rfl rfl (v := (.bool false)) (hv_ptrNil Ty.up24 rfl rfl) ?_
  refine hl_val rfl rfl (v := (.bool false)) (hv_move rfl) ?_
  refine hl_no (wanted_n rfl rfl (c := false) rfl rfl) rfl ?_
  refine hl_no (wanted_n rfl rfl (c := false) rfl rfl) rfl ?_
  refine hl_no (wanted_n rfl rfl (c := false) rfl rfl) rfl ?_
  refine hl_no (wanted_n rfl rfl (c := false) rfl rfl) rfl ?_
  refine hl_no (wanted_n rfl rfl (c := false) rfl rfl) rfl ?_
  refine hl_no (wanted_n rfl rfl (c := false) rfl rfl) rfl ?_
  refine hl_val rfl rfl (v := (.bool false)) (hv_pick (t := false) rfl rfl) ?_
  refine hl_val rfl rfl (v := (.bool false)) (hv_assign rfl) ?_
  refine hl_nil ?_
  refine seqQ_n ?_
  refine hx_ret ?_
  exact endQ_ret _ (res_one Try.results32 (rv_tmp rfl)) H

/-- (*cellar/region.Manager).at -/
theorem f31_shn (region : Int) (state : Int) (h : Heap) (R : Value → Heap → Prop)
    (H : (∃ r : Bool, HC Try.prog 32 #[(.pointer none)] h (fun vv h' => vv = (.bool r) ∧ h' = h) ∧ (((!r) = true → R (.tuple #[(.pointer none), (.int .i64 6)]) h) ∧ ((!r) = false → (((decide (region < 0)) = true → R (.tuple #[(.pointer none), (.int .i64 90)]) h) ∧ ((decide (region < 0)) = false → False)))))) :
    HC Try.prog 31 #[(.pointer none), (.int .i64 region), (.int .i64 state)] h R := by
  refine hc_of (args := [(.pointer none), (.int .i64 region), (.int .i64 state)]) Try.func31 rfl Try.ntmps31 (Nat.le_of_ble_eq_true rfl) ?_
  refine hx_seq ?_
  refine hx_region ?_
  refine hl_val rfl rfl (v := (.pointer none)) (hv_assign rfl) ?_
  refine hl_val rfl rfl (v := (.int .i64 0)) (hv_assign rfl) ?_
  refine hl_nil ?_
  refine seqQ_n ?_
  refine hx_seq ?_
  refine hx_block ?_
  refine hx_seq ?_
  refine hx_region ?_
  refine hl_val rfl rfl (v := (.pointer none)) (hv_move rfl) ?_
  obtain ⟨r, hr1, H⟩ := H
  refine hl_val rfl rfl (v := (.bool r)) (hv_call Ty.cb32 (vs := [(.pointer none)]) rfl hr1) ?_
  refine hl_val rfl rfl (v := (.bool (!r))) (hv_not (b := r) rfl) ?_
  refine hl_val rfl rfl (v := (.bool (!r))) (hv_assign rfl) ?_
  refine hl_nil ?_
  refine seqQ_n ?_
  refine hx_cond (b := !r) rfl (fun hb3 => ?_) (fun hb3 => ?_)
  · replace H := H.1 hb3
    refine hx_seq ?_
    refine hx_region ?_
    refine hl_val rfl rfl (v := (.pointer none)) (hv_assign rfl) ?_
    refine hl_val rfl rfl (v := (.int .i64 6)) (hv_assign rfl) ?_
    refine hl_nil ?_
    refine seqQ_n ?_
    refine hx_ret ?_
    refine blockQ_ret ?_
    refine seqQ_ret ?_
    exact endQ_ret _ (res_two Try.results31 (rv_tmp rfl) (rv_tmp rfl)) H
  · replace H := H.2 hb3
    refine hx_seq ?_
    refine hx_region ?_
    refine hl_val rfl rfl (v := (.int .i64 region)) (hv_move rfl) ?_
    refine hl_val rfl rfl (v := (.bool (decide (region < 0)))) (hv_arith rfl rfl rfl) ?_
    refine hl_val rfl rfl (v := (.bool (decide (region < 0)))) (hv_move rfl) ?_
    rcases bool_or (decide (region < 0)) with hg2 | hg2
    · replace H := H.1 hg2
      refine hl_no (wanted_n rfl rfl rfl hg2) rfl ?_
      refine hl_no (wanted_n rfl rfl rfl hg2) rfl ?_
      refine hl_no (wanted_n rfl rfl rfl hg2) rfl ?_
      refine hl_no (wanted_n rfl rfl rfl hg2) rfl ?_
      refine hl_no (wanted_n rfl rfl rfl hg2) rfl ?_
      refine hl_no (wanted_n rfl rfl rfl hg2) rfl ?_
      refine hl_no (wanted_n rfl rfl rfl hg2) rfl ?_
      refine hl_val rfl rfl (v := (.bool true)) (hv_pick_t rfl hg2 rfl) ?_
      refine hl_val rfl rfl (v := (.bool true)) (hv_assign rfl) ?_
      refine hl_nil ?_
      refine seqQ_n ?_
      refine hx_cond (b := true) rfl (fun _ => ?_) (fun hb => by cases hb)
      refine hx_seq ?_
      refine hx_region ?_
      refine hl_val rfl rfl (v := (.pointer none)) (hv_assign rfl) ?_
      refine hl_val rfl rfl (v := (.int .i64 90)) (hv_assign rfl) ?_
      refine hl_nil ?_
      refine seqQ_n ?_
      refine hx_ret ?_
      refine blockQ_ret ?_
      refine seqQ_ret ?_
      exact endQ_ret _ (res_two Try.results31 (rv_tmp rfl) (rv_tmp rfl)) H
    · replace H := H.2 hg2
      refine hl_yes (wanted_y rfl rfl rfl hg2) rfl (HStep.of_val (v := (.int .i64 region)) (hv_move rfl) ?_)
      refine hl_yes (wanted_y rfl rfl rfl hg2) rfl (HStep.of_val (v := (.pointer none)) (hv_move rfl) ?_)
      exact H.elim

/-- (*cellar/region.Manager).Open -/
theorem f13_shn  (h : Heap) (R : Value → Heap → Prop)
    (H : (∃ r : Bool, HC Try.prog 32 #[(.pointer none)] h (fun vv h' => vv = (.bool r) ∧ h' = h) ∧ (((!r) = true → R (.tuple #[(.int .i64 0), (.int .u64 0), (.int .i64 6)]) h) ∧ ((!r) = false → False)))) :
    HC Try.prog 13 #[(.pointer none)] h R := by
  refine hc_of (args := [(.pointer none)]) Try.func13 rfl Try.ntmps13 (Nat.le_of_ble_eq_true rfl) ?_
  refine hx_seq ?_
  refine hx_region ?_
  refine hl_val rfl rfl (v := (.int .i64 0)) (hv_assign rfl) ?_
  refine hl_val rfl rfl (v := (.int .u64 0)) (hv_assign rfl) ?_
  refine hl_val rfl rfl (v := (.int .i64 0)) (hv_assign rfl) ?_
  refine hl_nil ?_
  refine seqQ_n ?_
  refine hx_seq ?_
  refine hx_block ?_
  refine hx_seq ?_
  refine hx_region ?_
  refine hl_val rfl rfl (v := (.pointer none)) (hv_move rfl) ?_
  obtain ⟨r, hr1, H⟩ := H
  refine hl_val rfl rfl (v := (.bool r)) (hv_call Ty.cb32 (vs := [(.pointer none)]) rfl hr1) ?_
  refine hl_val rfl rfl (v := (.bool (!r))) (hv_not (b := r) rfl) ?_
  refine hl_val rfl rfl (v := (.bool (!r))) (hv_assign rfl) ?_
  refine hl_nil ?_
  refine seqQ_n ?_
  refine hx_cond (b := !r) rfl (fun hb2 => ?_) (fun hb2 => ?_)
  · replace H := H.1 hb2
    refine hx_seq ?_
    refine hx_region ?_
    refine hl_val rfl rfl (v := (.int .i64 0)) (hv_assign rfl) ?_
    refine hl_val rfl rfl (v := (.int .u64 0)) (hv_assign rfl) ?_
    refine hl_val rfl rfl (v := (.int .i64 6)) (hv_assign rfl) ?_
    refine hl_nil ?_
    refine seqQ_n ?_
    refine hx_ret ?_
    refine blockQ_ret ?_
    refine seqQ_ret ?_
    exact endQ_ret _ (res_three Try.results13 (rv_tmp rfl) (rv_tmp rfl) (rv_tmp rfl)) H
  · replace H := H.2 hb2
    refine hx_seq ?_
    refine hx_region ?_
    refine hl_val rfl rfl (v := (.pointer none)) (hv_move rfl) ?_
    exact H.elim

/-- (*cellar/region.Manager).Drain -/
theorem f21_shn (task : Int) (region : Int) (h : Heap) (R : Value → Heap → Prop)
    (H : (∃ r0 : Option Addr, ∃ r1 : Int, HC Try.prog 31 #[(.pointer none), (.int .i64 region), (.int .i64 4)] h (fun vv h' => vv = (.tuple #[(.pointer r0), (.int .i64 r1)]) ∧ h' = h) ∧ (((r1 != 0) = true → R (.tuple #[(.bool false), (.int .i64 r1)]) h) ∧ ((r1 != 0) = false → (∃ r0_b r0_o : Nat, r0 = some ⟨r0_b, r0_o, none⟩ ∧ (∃ x : Int, hcell h r0_b (r0_o + 2) = some (.int .i64 x) ∧ (((x == 0) = true → R (.tuple #[(.bool true), (.int .i64 0)]) h) ∧ ((x == 0) = false → (False ∧ R (.tuple #[(.bool false), (.int .i64 0)]) h))))))))) :
    HC Try.prog 21 #[(.pointer none), (.int .i64 task), (.int .i64 region)] h R := by
  refine hc_of (args := [(.pointer none), (.int .i64 task), (.int .i64 region)]) Try.func21 rfl Try.ntmps21 (Nat.le_of_ble_eq_true rfl) ?_
  refine hx_seq ?_
  refine hx_region ?_
  refine hl_val rfl rfl (v := (.bool false)) (hv_assign rfl) ?_
  refine hl_val rfl rfl (v := (.int .i64 0)) (hv_assign rfl) ?_
  refine hl_nil ?_
  refine seqQ_n ?_
  refine hx_seq ?_
  refine hx_region ?_
  refine hl_val rfl rfl (v := (.pointer none)) (hv_move rfl) ?_
  refine hl_val rfl rfl (v := (.int .i64 region)) (hv_move rfl) ?_
  obtain ⟨r0, r1, hr1, H⟩ := H
  refine hl_val rfl rfl (v := (.tuple #[(.pointer r0), (.int .i64 r1)])) (hv_call Ty.cb31 (vs := [(.pointer none), (.int .i64 region), (.int .i64 4)]) rfl hr1) ?_
  refine hl_val rfl rfl (v := (.tuple #[(.pointer r0), (.int .i64 r1)])) (hv_move rfl) ?_
  refine hl_val rfl rfl (v := (.pointer r0)) (hv_extract (vs := #[(.pointer r0), (.int .i64 r1)]) rfl rfl) ?_
  refine hl_val rfl rfl (v := (.int .i64 r1)) (hv_extract (vs := #[(.pointer r0), (.int .i64 r1)]) rfl rfl) ?_
  refine hl_val rfl rfl (v := (.pointer r0)) (hv_assign rfl) ?_
  refine hl_val rfl rfl (v := (.int .i64 r1)) (hv_assign rfl) ?_
  refine hl_nil ?_
  refine seqQ_n ?_
  refine hx_seq ?_
  refine hx_block ?_
  refine hx_seq ?_
  refine hx_region ?_
  refine hl_val rfl rfl (v := (.int .i64 r1)) (hv_move rfl) ?_
  refine hl_val rfl rfl (v := (.bool (r1 != 0))) (hv_arith rfl rfl rfl) ?_
  refine hl_val rfl rfl (v := (.bool (r1 != 0))) (hv_assign rfl) ?_
  refine hl_nil ?_
  refine seqQ_n ?_
  refine hx_cond (b := r1 != 0) rfl (fun hb6 => ?_) (fun hb6 => ?_)
  · replace H := H.1 hb6
    refine hx_seq ?_
    refine hx_region ?_
    refine hl_val rfl rfl (v := (.int .i64 r1)) (hv_move rfl) ?_
    refine hl_val rfl rfl (v := (.bool false)) (hv_assign rfl) ?_
    refine hl_val rfl rfl (v := (.int .i64 r1)) (hv_assign rfl) ?_
    refine hl_nil ?_
    refine seqQ_n ?_
    refine hx_ret ?_
    refine blockQ_ret ?_
    refine seqQ_ret ?_
    exact endQ_ret _ (res_two Try.results21 (rv_tmp rfl) (rv_tmp rfl)) H
  · replace H := H.2 hb6
    refine hx_seq ?_
    refine hx_region ?_
    refine hl_val rfl rfl (v := (.pointer r0)) (hv_move rfl) ?_
    obtain ⟨r0_b, r0_o, hqe, Hq⟩ := H
    subst hqe
    have H := Hq; clear Hq
    refine hl_val rfl rfl (v := (ptr r0_b r0_o)) (hv_nil rfl) ?_
    refine hl_val rfl rfl (v := (ptr r0_b (r0_o + 2))) (hv_field Ty.fld31_2 (b := r0_b) (o := r0_o) rfl) ?_
    obtain ⟨x, hc5, H⟩ := H
    refine hl_val rfl rfl (v := (.int .i64 x)) (hv_load Ty.agg3 rfl hc5) ?_
    refine hl_val rfl rfl (v := (.bool (x == 0))) (hv_arith rfl rfl rfl) ?_
    refine hl_val rfl rfl (v := (.bool (x == 0))) (hv_assign rfl) ?_
    refine hl_nil ?_
    refine seqQ_n ?_
    refine hx_cond (b := x == 0) rfl (fun hb4 => ?_) (fun hb4 => ?_)
    · replace H := H.1 hb4
      refine hx_seq ?_
      refine hx_region ?_
      refine hl_val rfl rfl (v := (.bool true)) (hv_assign rfl) ?_
      refine hl_val rfl rfl (v := (.int .i64 0)) (hv_assign rfl) ?_
      refine hl_nil ?_
      refine seqQ_n ?_
      refine hx_ret ?_
      refine blockQ_ret ?_
      refine seqQ_ret ?_
      exact endQ_ret _ (res_two Try.results21 (rv_tmp rfl) (rv_tmp rfl)) H
    · replace H := H.2 hb4
      refine hx_skip ?_
      refine blockQ_n ?_
      refine seqQ_n ?_
      obtain ⟨Hx2, Hy3⟩ := H
      refine hx_cut (fun ρ h' => h = h' ∧ Has ρ []) ?_ ?_
      · have H := Hx2; clear Hx2 Hy3
        refine hx_seq ?_
        refine hx_region ?_
        refine hl_val rfl rfl (v := (.pointer none)) (hv_move rfl) ?_
        exact H.elim
      · have H := Hy3; clear Hx2 Hy3
        rintro ρ _ ⟨rfl, hH⟩
        refine hx_has _ hH ?_
        refine hx_seq ?_
        refine hx_region ?_
        refine hl_val rfl rfl (v := (.bool false)) (hv_assign rfl) ?_
        refine hl_val rfl rfl (v := (.int .i64 0)) (hv_assign rfl) ?_
        refine hl_nil ?_
        refine seqQ_n ?_
        refine hx_ret ?_
        exact endQ_ret _ (res_two Try.results21 (rv_tmp rfl) (rv_tmp rfl)) H

/-- (*cellar/region.Manager).Unpin -/
theorem f22_shn (region : Int) (h : Heap) (R : Value → Heap → Prop)
    (H : (∃ r0 : Option Addr, ∃ r1 : Int, HC Try.prog 31 #[(.pointer none), (.int .i64 region), (.int .i64 0)] h (fun vv h' => vv = (.tuple #[(.pointer r0), (.int .i64 r1)]) ∧ h' = h) ∧ (((r1 != 0) = true → R (.tuple #[(.slice none 0 0), (.int .i64 r1)]) h) ∧ ((r1 != 0) = false → (∃ r0_b r0_o : Nat, r0 = some ⟨r0_b, r0_o, none⟩ ∧ (∃ x : Int, hcell h r0_b (r0_o + 2) = some (.int .i64 x) ∧ (((x == 0) = true → R (.tuple #[(.slice none 0 0), (.int .i64 92)]) h) ∧ ((x == 0) = false → (∃ x_1 : Int, hcell h r0_b (r0_o + 2) = some (.int .i64 x_1) ∧ (HW h r0_b (r0_o + 2) ∧ ∀ h1, h1 = hset h r0_b (r0_o + 2) (.int .i64 (IntKind.i64.wrap (x_1 - 1))) → (∃ j : Bool, (∃ x_2 : Int, hcell h1 r0_b r0_o = some (.int .i64 x_2) ∧ (((x_2 != 4) = true → (j = true)) ∧ ((x_2 != 4) = false → (∃ x_3 : Int, hcell h1 r0_b (r0_o + 2) = some (.int .i64 x_3) ∧ (j = (decide (x_3 > 0))))))) ∧ ((j = true → R (.tuple #[(.slice none 0 0), (.int .i64 0)]) h1) ∧ (j = false → False))))))))))))) :
    HC Try.prog 22 #[(.pointer none), (.int .i64 region)] h R := by
  refine hc_of (args := [(.pointer none), (.int .i64 region)]) Try.func22 rfl Try.ntmps22 (Nat.le_of_ble_eq_true rfl) ?_
  refine hx_seq ?_
  refine hx_region ?_
  refine hl_val rfl rfl (v := (.slice none 0 0)) (hv_assign rfl) ?_
  refine hl_val rfl rfl (v := (.int .i64 0)) (hv_assign rfl) ?_
  refine hl_nil ?_
  refine seqQ_n ?_
  refine hx_seq ?_
  refine hx_region ?_
  refine hl_val rfl rfl (v := (.pointer none)) (hv_move rfl) ?_
  refine hl_val rfl rfl (v := (.int .i64 region)) (hv_move rfl) ?_
  obtain ⟨r0, r1, hr1, H⟩ := H
  refine hl_val rfl rfl (v := (.tuple #[(.pointer r0), (.int .i64 r1)])) (hv_call Ty.cb31 (vs := [(.pointer none), (.int .i64 region), (.int .i64 0)]) rfl hr1) ?_
  refine hl_val rfl rfl (v := (.tuple #[(.pointer r0), (.int .i64 r1)])) (hv_move rfl) ?_
  refine hl_val rfl rfl (v := (.pointer r0)) (hv_extract (vs := #[(.pointer r0), (.int .i64 r1)]) rfl rfl) ?_
  refine hl_val rfl rfl (v := (.int .i64 r1)) (hv_extract (vs := #[(.pointer r0), (.int .i64 r1)]) rfl rfl) ?_
  refine hl_val rfl rfl (v := (.pointer r0)) (hv_assign rfl) ?_
  refine hl_val rfl rfl (v := (.int .i64 r1)) (hv_assign rfl) ?_
  refine hl_nil ?_
  refine seqQ_n ?_
  refine hx_seq ?_
  refine hx_block ?_
  refine hx_seq ?_
  refine hx_region ?_
  refine hl_val rfl rfl (v := (.int .i64 r1)) (hv_move rfl) ?_
  refine hl_val rfl rfl (v := (.bool (r1 != 0))) (hv_arith rfl rfl rfl) ?_
  refine hl_val rfl rfl (v := (.bool (r1 != 0))) (hv_assign rfl) ?_
  refine hl_nil ?_
  refine seqQ_n ?_
  refine hx_cond (b := r1 != 0) rfl (fun hb13 => ?_) (fun hb13 => ?_)
  · replace H := H.1 hb13
    refine hx_seq ?_
    refine hx_region ?_
    refine hl_val rfl rfl (v := (.int .i64 r1)) (hv_move rfl) ?_
    refine hl_val rfl rfl (v := (.slice none 0 0)) (hv_assign rfl) ?_
    refine hl_val rfl rfl (v := (.int .i64 r1)) (hv_assign rfl) ?_
    refine hl_nil ?_
    refine seqQ_n ?_
    refine hx_ret ?_
    refine blockQ_ret ?_
    refine seqQ_ret ?_
    exact endQ_ret _ (res_two Try.results22 (rv_tmp rfl) (rv_tmp rfl)) H
  · replace H := H.2 hb13
    refine hx_seq ?_
    refine hx_region ?_
    refine hl_val rfl rfl (v := (.pointer r0)) (hv_move rfl) ?_
    obtain ⟨r0_b, r0_o, hqe, Hq⟩ := H
    subst hqe
    have H := Hq; clear Hq
    refine hl_val rfl rfl (v := (ptr r0_b r0_o)) (hv_nil rfl) ?_
    refine hl_val rfl rfl (v := (ptr r0_b (r0_o + 2))) (hv_field Ty.fld31_2 (b := r0_b) (o := r0_o) rfl) ?_
    obtain ⟨x, hc12, H⟩ := H
    refine hl_val rfl rfl (v := (.int .i64 x)) (hv_load Ty.agg3 rfl hc12) ?_
    refine hl_val rfl rfl (v := (.bool (x == 0))) (hv_arith rfl rfl rfl) ?_
    refine hl_val rfl rfl (v := (.bool (x == 0))) (hv_assign rfl) ?_
    refine hl_nil ?_
    refine seqQ_n ?_
    refine hx_cond (b := x == 0) rfl (fun hb11 => ?_) (fun hb11 => ?_)
    · replace H := H.1 hb11
      refine hx_seq ?_
      refine hx_region ?_
      refine hl_val rfl rfl (v := (.slice none 0 0)) (hv_assign rfl) ?_
      refine hl_val rfl rfl (v := (.int .i64 92)) (hv_assign rfl) ?_
      refine hl_nil ?_
      refine seqQ_n ?_
      refine hx_ret ?_
      refine blockQ_ret ?_
      refine seqQ_ret ?_
      exact endQ_ret _ (res_two Try.results22 (rv_tmp rfl) (rv_tmp rfl)) H
    · replace H := H.2 hb11
      refine hx_skip ?_
      refine blockQ_n ?_
      refine seqQ_n ?_
      refine hx_seq ?_
      refine hx_region ?_
      refine hl_val rfl rfl (v := (ptr r0_b r0_o)) (hv_move rfl) ?_
      refine hl_val rfl rfl (v := (ptr r0_b r0_o)) (hv_nil rfl) ?_
      refine hl_val rfl rfl (v := (ptr r0_b (r0_o + 2))) (hv_field Ty.fld31_2 (b := r0_b) (o := r0_o) rfl) ?_
      obtain ⟨x_1, hc10, H⟩ := H
      refine hl_val rfl rfl (v := (.int .i64 x_1)) (hv_load Ty.agg3 rfl hc10) ?_
      refine hl_val rfl rfl (v := (.int .i64 (IntKind.i64.wrap (x_1 - 1)))) (hv_arith rfl rfl rfl) ?_
      refine hl_val rfl rfl (v := (ptr r0_b r0_o)) (hv_nil rfl) ?_
      refine hl_val rfl rfl (v := (ptr r0_b (r0_o + 2))) (hv_field Ty.fld31_2 (b := r0_b) (o := r0_o) rfl) ?_
      obtain ⟨hw2, H⟩ := H
      refine hl_step rfl rfl (hn_store (v := (.int .i64 (IntKind.i64.wrap (x_1 - 1)))) rfl rfl Ty.sz3 rfl hw2 ?_)
      intro h1 eh3
      replace H := H h1 eh3
      refine hl_nil ?_
      refine seqQ_n ?_
      refine hx_seq ?_
      obtain ⟨j, Hx8, Hy9⟩ := H
      refine hx_cut (fun ρ h' => h1 = h' ∧ Has ρ [(0, (.pointer none)), (1, (.int .i64 region)), (43, (.bool j))]) ?_ ?_
      · have H := Hx8; clear Hx8 Hy9
        refine hx_region ?_
        refine hl_val rfl rfl (v := (ptr r0_b r0_o)) (hv_move rfl) ?_
        refine hl_val rfl rfl (v := (ptr r0_b r0_o)) (hv_nil rfl) ?_
        refine hl_val rfl rfl (v := (ptr r0_b r0_o)) (hv_field Ty.fld31_0 (b := r0_b) (o := r0_o) rfl) ?_
        obtain ⟨x_2, hc6, H⟩ := H
        refine hl_val rfl rfl (v := (.int .i64 x_2)) (hv_load Ty.agg3 rfl hc6) ?_
        refine hl_val rfl rfl (v := (.bool (x_2 != 4))) (hv_arith rfl rfl rfl) ?_
        refine hl_val rfl rfl (v := (.bool (x_2 != 4))) (hv_move rfl) ?_
        rcases bool_or (x_2 != 4) with hg4 | hg4
        · replace H := H.1 hg4
          refine hl_no (wanted_n rfl rfl rfl hg4) rfl ?_
          refine hl_no (wanted_n rfl rfl rfl hg4) rfl ?_
          refine hl_no (wanted_n rfl rfl rfl hg4) rfl ?_
          refine hl_no (wanted_n rfl rfl rfl hg4) rfl ?_
          refine hl_no (wanted_n rfl rfl rfl hg4) rfl ?_
          refine hl_val rfl rfl (v := (.bool true)) (hv_pick_t rfl hg4 rfl) ?_
          refine hl_nil ?_
          refine seqQ_n ?_
          obtain rfl := H
          exact ⟨rfl, (has_cons rfl (has_cons rfl (has_cons rfl has_nil)))⟩
        · replace H := H.2 hg4
          refine hl_yes (wanted_y rfl rfl rfl hg4) rfl (HStep.of_val (v := (ptr r0_b r0_o)) (hv_move rfl) ?_)
          refine hl_yes (wanted_y rfl rfl rfl hg4) rfl (HStep.of_val (v := (ptr r0_b r0_o)) (hv_nil rfl) ?_)
          refine hl_yes (wanted_y rfl rfl rfl hg4) rfl (HStep.of_val (v := (ptr r0_b (r0_o + 2))) (hv_field Ty.fld31_2 (b := r0_b) (o := r0_o) rfl) ?_)
          obtain ⟨x_3, hc5, H⟩ := H
          refine hl_yes (wanted_y rfl rfl rfl hg4) rfl (HStep.of_val (v := (.int .i64 x_3)) (hv_load Ty.agg3 rfl hc5) ?_)
          refine hl_yes (wanted_y rfl rfl rfl hg4) rfl (HStep.of_val (v := (.bool (decide (x_3 > 0)))) (hv_arith rfl rfl rfl) ?_)
          refine hl_val rfl rfl (v := (.bool (decide (x_3 > 0)))) (hv_pick_f rfl hg4 rfl) ?_
          refine hl_nil ?_
          refine seqQ_n ?_
          obtain rfl := H
          exact ⟨rfl, (has_cons rfl (has_cons rfl (has_cons rfl has_nil)))⟩
      · have H := Hy9; clear Hx8 Hy9
        rintro ρ _ ⟨rfl, hH⟩
        refine hx_has _ hH ?_
        refine hx_cond (b := j) rfl (fun hb7 => ?_) (fun hb7 => ?_)
        · replace H := H.1 hb7
          refine hx_seq ?_
          refine hx_region ?_
          refine hl_val rfl rfl (v := (.slice none 0 0)) (hv_assign rfl) ?_
          refine hl_val rfl rfl (v := (.int .i64 0)) (hv_assign rfl) ?_
          refine hl_nil ?_
          refine seqQ_n ?_
          refine hx_ret ?_
          refine seqQ_ret ?_
          exact endQ_ret _ (res_two Try.results22 (rv_tmp rfl) (rv_tmp rfl)) H
        · replace H := H.2 hb7
          refine hx_skip ?_
          refine seqQ_n ?_
          refine hx_seq ?_
          refine hx_region ?_
          refine hl_val rfl rfl (v := (.pointer none)) (hv_move rfl) ?_
          exact H.elim

/-- (*cellar/region.Manager).Info -/
theorem f11_shn (region : Int) (h : Heap) (R : Value → Heap → Prop)
    (H : (∀ nb h1, nb = Array.size h → h1 = Array.push h (.cells #[(.int .i64 0), (.int .u64 0), (.int .i64 0), (.int .i64 0)] 31) → (∃ r0 : Option Addr, ∃ r1 : Int, HC Try.prog 31 #[(.pointer none), (.int .i64 region), (.int .i64 0)] h1 (fun vv h' => vv = (.tuple #[(.pointer r0), (.int .i64 r1)]) ∧ h' = h1) ∧ (((r1 != 0) = true → (HWs h1 nb 0 4 ∧ ∀ h2, h2 = hsets h1 nb 0 [(.int .i64 0), (.int .u64 0), (.int .i64 0), (.int .i64 0)] → (∃ res_State res_Sequence res_Pins res_Erases : Int, hcell h2 nb 0 = some (.int .i64 res_State) ∧ hcell h2 nb 1 = some (.int .u64 res_Sequence) ∧ hcell h2 nb 2 = some (.int .i64 res_Pins) ∧ hcell h2 nb 3 = some (.int .i64 res_Erases) ∧ R (.tuple #[(.agg #[(.int .i64 res_State), (.int .u64 res_Sequence), (.int .i64 res_Pins), (.int .i64 res_Erases)]), (.bool false)]) h2))) ∧ ((r1 != 0) = false → (∃ r0_b r0_o : Nat, r0 = some ⟨r0_b, r0_o, none⟩ ∧ (∃ x_State x_Sequence x_Pins x_Erases : Int, hcell h1 r0_b r0_o = some (.int .i64 x_State) ∧ hcell h1 r0_b (r0_o + 1) = some (.int .u64 x_Sequence) ∧ hcell h1 r0_b (r0_o + 2) = some (.int .i64 x_Pins) ∧ hcell h1 r0_b (r0_o + 3) = some (.int .i64 x_Erases) ∧ (HWs h1 nb 0 4 ∧ ∀ h3, h3 = hsets h1 nb 0 [(.int .i64 x_State), (.int .u64 x_Sequence), (.int .i64 x_Pins), (.int .i64 x_Erases)] → (∃ res_State res_Sequence res_Pins res_Erases : Int, hcell h3 nb 0 = some (.int .i64 res_State) ∧ hcell h3 nb 1 = some (.int .u64 res_Sequence) ∧ hcell h3 nb 2 = some (.int .i64 res_Pins) ∧ hcell h3 nb 3 = some (.int .i64 res_Erases) ∧ R (.tuple #[(.agg #[(.int .i64 res_State), (.int .u64 res_Sequence), (.int .i64 res_Pins), (.int .i64 res_Erases)]), (.bool true)]) h3))))))))) :
    HC Try.prog 11 #[(.pointer none), (.int .i64 region)] h R := by
  refine hc_of (args := [(.pointer none), (.int .i64 region)]) Try.func11 rfl Try.ntmps11 (Nat.le_of_ble_eq_true rfl) ?_
  refine hx_seq ?_
  refine hx_region ?_
  refine hl_step rfl rfl (hn_alloc Ty.z31 ?_)
  intro nb h1 eb1 eh2
  replace H := H nb h1 eb1 eh2
  refine hl_val rfl rfl (v := (.bool false)) (hv_assign rfl) ?_
  refine hl_nil ?_
  refine seqQ_n ?_
  refine hx_seq ?_
  refine hx_region ?_
  refine hl_val rfl rfl (v := (.pointer none)) (hv_move rfl) ?_
  refine hl_val rfl rfl (v := (.int .i64 region)) (hv_move rfl) ?_
  obtain ⟨r0, r1, hr3, H⟩ := H
  refine hl_val rfl rfl (v := (.tuple #[(.pointer r0), (.int .i64 r1)])) (hv_call Ty.cb31 (vs := [(.pointer none), (.int .i64 region), (.int .i64 0)]) rfl hr3) ?_
  refine hl_val rfl rfl (v := (.tuple #[(.pointer r0), (.int .i64 r1)])) (hv_move rfl) ?_
  refine hl_val rfl rfl (v := (.pointer r0)) (hv_extract (vs := #[(.pointer r0), (.int .i64 r1)]) rfl rfl) ?_
  refine hl_val rfl rfl (v := (.int .i64 r1)) (hv_extract (vs := #[(.pointer r0), (.int .i64 r1)]) rfl rfl) ?_
  refine hl_val rfl rfl (v := (.pointer r0)) (hv_assign rfl) ?_
  refine hl_val rfl rfl (v := (.int .i64 r1)) (hv_assign rfl) ?_
  refine hl_nil ?_
  refine seqQ_n ?_
  refine hx_seq ?_
  refine hx_seq ?_
  refine hx_region ?_
  refine hl_val rfl rfl (v := (.int .i64 r1)) (hv_move rfl) ?_
  refine hl_val rfl rfl (v := (.bool (r1 != 0))) (hv_arith rfl rfl rfl) ?_
  refine hl_nil ?_
  refine seqQ_n ?_
  refine hx_cond (b := r1 != 0) rfl (fun hb20 => ?_) (fun hb20 => ?_)
  · replace H := H.1 hb20
    refine hx_seq ?_
    refine hx_region ?_
    refine hl_val rfl rfl (v := (.agg #[(.int .i64 0), (.int .u64 0), (.int .i64 0), (.int .i64 0)])) (hv_build (vs := []) (cs := #[(.int .i64 0), (.int .u64 0), (.int .i64 0), (.int .i64 0)]) Ty.z31 Ty.pl31 rfl (by kernel_rfl)) ?_
    obtain ⟨hw4, H⟩ := H
    refine hl_step rfl rfl (hn_stores (vs := [(.int .i64 0), (.int .u64 0), (.int .i64 0), (.int .i64 0)]) rfl rfl Ty.sz31 rfl hw4 ?_)
    intro h2 eh5
    replace H := H h2 eh5
    refine hl_val rfl rfl (v := (.bool false)) (hv_assign rfl) ?_
    refine hl_nil ?_
    refine seqQ_n ?_
    refine hx_ret ?_
    refine seqQ_ret ?_
    obtain ⟨res_State, res_Sequence, res_Pins, res_Erases, hc6, hc7, hc8, hc9, H⟩ := H
    exact endQ_ret _ (res_two Try.results11 (rv_cell (vs := [(.int .i64 res_State), (.int .u64 res_Sequence), (.int .i64 res_Pins), (.int .i64 res_Erases)]) Ty.agg31 Ty.sz31 rfl (hcells_cons hc6 (hcells_cons hc7 (hcells_cons hc8 (hcells_cons hc9 hcells_nil))))) (rv_tmp rfl)) H
  · replace H := H.2 hb20
    refine hx_skip ?_
    refine seqQ_n ?_
    refine hx_seq ?_
    refine hx_region ?_
    refine hl_val rfl rfl (v := (.pointer r0)) (hv_move rfl) ?_
    obtain ⟨r0_b, r0_o, hqe, Hq⟩ := H
    subst hqe
    have H := Hq; clear Hq
    refine hl_val rfl rfl (v := (ptr r0_b r0_o)) (hv_nil rfl) ?_
    obtain ⟨x_State, x_Sequence, x_Pins, x_Erases, hc16, hc17, hc18, hc19, H⟩ := H
    refine hl_val rfl rfl (v := (.agg #[(.int .i64 x_State), (.int .u64 x_Sequence), (.int .i64 x_Pins), (.int .i64 x_Erases)])) (hv_loads (vs := [(.int .i64 x_State), (.int .u64 x_Sequence), (.int .i64 x_Pins), (.int .i64 x_Erases)]) Ty.agg31 Ty.sz31 rfl (hcells_cons hc16 (hcells_cons hc17 (hcells_cons hc18 (hcells_cons hc19 hcells_nil))))) ?_
    obtain ⟨hw10, H⟩ := H
    refine hl_step rfl rfl (hn_stores (vs := [(.int .i64 x_State), (.int .u64 x_Sequence), (.int .i64 x_Pins), (.int .i64 x_Erases)]) rfl rfl Ty.sz31 rfl hw10 ?_)
    intro h3 eh11
    replace H := H h3 eh11
    refine hl_val rfl rfl (v := (.bool true)) (hv_assign rfl) ?_
    refine hl_nil ?_
    refine seqQ_n ?_
    refine hx_ret ?_
    obtain ⟨res_State, res_Sequence, res_Pins, res_Erases, hc12, hc13, hc14, hc15, H⟩ := H
    exact endQ_ret _ (res_two Try.results11 (rv_cell (vs := [(.int .i64 res_State), (.int .u64 res_Sequence), (.int .i64 res_Pins), (.int .i64 res_Erases)]) Ty.agg31 Ty.sz31 rfl (hcells_cons hc12 (hcells_cons hc13 (hcells_cons hc14 (hcells_cons hc15 hcells_nil))))) (rv_tmp rfl)) H

/-- (*cellar/region.Manager).Seal -/
theorem f23_shn  (h : Heap) (R : Value → Heap → Prop)
    (H : (∃ r : Bool, HC Try.prog 32 #[(.pointer none)] h (fun vv h' => vv = (.bool r) ∧ h' = h) ∧ (((!r) = true → R (.int .i64 6) h) ∧ ((!r) = false → False)))) :
    HC Try.prog 23 #[(.pointer none)] h R := by
  refine hc_of (args := [(.pointer none)]) Try.func23 rfl Try.ntmps23 (Nat.le_of_ble_eq_true rfl) ?_
  refine hx_seq ?_
  refine hx_region ?_
  refine hl_val rfl rfl (v := (.int .i64 0)) (hv_assign rfl) ?_
  refine hl_nil ?_
  refine seqQ_n ?_
  refine hx_seq ?_
  refine hx_block ?_
  refine hx_seq ?_
  refine hx_region ?_
  refine hl_val rfl rfl (v := (.pointer none)) (hv_move rfl) ?_
  obtain ⟨r, hr1, H⟩ := H
  refine hl_val rfl rfl (v := (.bool r)) (hv_call Ty.cb32 (vs := [(.pointer none)]) rfl hr1) ?_
  refine hl_val rfl rfl (v := (.bool (!r))) (hv_not (b := r) rfl) ?_
  refine hl_val rfl rfl (v := (.bool (!r))) (hv_assign rfl) ?_
  refine hl_nil ?_
  refine seqQ_n ?_
  refine hx_cond (b := !r) rfl (fun hb2 => ?_) (fun hb2 => ?_)
  · replace H := H.1 hb2
    refine hx_seq ?_
    refine hx_region ?_
    refine hl_val rfl rfl (v := (.int .i64 6)) (hv_assign rfl) ?_
    refine hl_nil ?_
    refine seqQ_n ?_
    refine hx_ret ?_
    refine blockQ_ret ?_
    refine seqQ_ret ?_
    exact endQ_ret _ (res_one Try.results23 (rv_tmp rfl)) H
  · replace H := H.2 hb2
    refine hx_seq ?_
    refine hx_region ?_
    refine hl_val rfl rfl (v := (.pointer none)) (hv_move rfl) ?_
    exact H.elim

/-- (*cellar/region.Manager).Mark -/
theorem f24_shn (region : Int) (h : Heap) (R : Value → Heap → Prop)
    (H : (∃ r0 : Option Addr, ∃ r1 : Int, HC Try.prog 31 #[(.pointer none), (.int .i64 region), (.int .i64 3)] h (fun vv h' => vv = (.tuple #[(.pointer r0), (.int .i64 r1)]) ∧ h' = h) ∧ (∃ A2 : Heap → Prop, (((r1 == 0) = true → (∃ r0_b r0_o : Nat, r0 = some ⟨r0_b, r0_o, none⟩ ∧ (HW h r0_b r0_o ∧ ∀ h2, h2 = hset h r0_b r0_o (.int .i64 4) → (A2 h2)))) ∧ ((r1 == 0) = false → (A2 h))) ∧ (∀ (h1 : Heap), A2 h1 → R (.int .i64 r1) h1)))) :
    HC Try.prog 24 #[(.pointer none), (.int .i64 region)] h R := by
  refine hc_of (args := [(.pointer none), (.int .i64 region)]) Try.func24 rfl Try.ntmps24 (Nat.le_of_ble_eq_true rfl) ?_
  refine hx_seq ?_
  refine hx_region ?_
  refine hl_val rfl rfl (v := (.int .i64 0)) (hv_assign rfl) ?_
  refine hl_nil ?_
  refine seqQ_n ?_
  refine hx_seq ?_
  refine hx_region ?_
  refine hl_val rfl rfl (v := (.pointer none)) (hv_move rfl) ?_
  refine hl_val rfl rfl (v := (.int .i64 region)) (hv_move rfl) ?_
  obtain ⟨r0, r1, hr1, H⟩ := H
  refine hl_val rfl rfl (v := (.tuple #[(.pointer r0), (.int .i64 r1)])) (hv_call Ty.cb31 (vs := [(.pointer none), (.int .i64 region), (.int .i64 3)]) rfl hr1) ?_
  refine hl_val rfl rfl (v := (.tuple #[(.pointer r0), (.int .i64 r1)])) (hv_move rfl) ?_
  refine hl_val rfl rfl (v := (.pointer r0)) (hv_extract (vs := #[(.pointer r0), (.int .i64 r1)]) rfl rfl) ?_
  refine hl_val rfl rfl (v := (.int .i64 r1)) (hv_extract (vs := #[(.pointer r0), (.int .i64 r1)]) rfl rfl) ?_
  refine hl_val rfl rfl (v := (.pointer r0)) (hv_assign rfl) ?_
  refine hl_val rfl rfl (v := (.int .i64 r1)) (hv_assign rfl) ?_
  refine hl_nil ?_
  refine seqQ_n ?_
  obtain ⟨A2, Hx6, Hy7⟩ := H
  refine hx_cut (fun ρ h' => A2 h' ∧ Has ρ [(6, (.int .i64 r1))]) ?_ ?_
  · have H := Hx6; clear Hx6 Hy7
    refine hx_seq ?_
    refine hx_region ?_
    refine hl_val rfl rfl (v := (.int .i64 r1)) (hv_move rfl) ?_
    refine hl_val rfl rfl (v := (.bool (r1 == 0))) (hv_arith rfl rfl rfl) ?_
    refine hl_nil ?_
    refine seqQ_n ?_
    refine hx_cond (b := r1 == 0) rfl (fun hb5 => ?_) (fun hb5 => ?_)
    · replace H := H.1 hb5
      refine hx_region ?_
      refine hl_val rfl rfl (v := (.pointer r0)) (hv_move rfl) ?_
      obtain ⟨r0_b, r0_o, hqe, Hq⟩ := H
      subst hqe
      have H := Hq; clear Hq
      refine hl_val rfl rfl (v := (ptr r0_b r0_o)) (hv_nil rfl) ?_
      refine hl_val rfl rfl (v := (ptr r0_b r0_o)) (hv_field Ty.fld31_0 (b := r0_b) (o := r0_o) rfl) ?_
      obtain ⟨hw3, H⟩ := H
      refine hl_step rfl rfl (hn_store (v := (.int .i64 4)) rfl rfl Ty.sz3 rfl hw3 ?_)
      intro h2 eh4
      replace H := H h2 eh4
      refine hl_nil ?_
      refine seqQ_n ?_
      exact ⟨H, (has_cons rfl has_nil)⟩
    · replace H := H.2 hb5
      refine hx_skip ?_
      refine seqQ_n ?_
      exact ⟨H, (has_cons rfl has_nil)⟩
  · rintro ρ h1 ⟨HA8, hH⟩
    have H := Hy7 h1 HA8; clear Hx6 Hy7
    refine hx_has _ hH ?_
    refine hx_seq ?_
    refine hx_region ?_
    refine hl_val rfl rfl (v := (.int .i64 r1)) (hv_move rfl) ?_
    refine hl_val rfl rfl (v := (.int .i64 r1)) (hv_assign rfl) ?_
    refine hl_nil ?_
    refine seqQ_n ?_
    refine hx_ret ?_
    exact endQ_ret _ (res_one Try.results24 (rv_tmp rfl)) H

/-- (*cellar/region.Manager).Free -/
theorem f25_shn (region : Int) (h : Heap) (R : Value → Heap → Prop)
    (H : (∃ r0 : Option Addr, ∃ r1 : Int, HC Try.prog 31 #[(.pointer none), (.int .i64 region), (.int .i64 4)] h (fun vv h' => vv = (.tuple #[(.pointer r0), (.int .i64 r1)]) ∧ h' = h) ∧ (((r1 != 0) = true → R (.int .i64 r1) h) ∧ ((r1 != 0) = false → (∃ r0_b r0_o : Nat, r0 = some ⟨r0_b, r0_o, none⟩ ∧ (∃ x : Int, hcell h r0_b (r0_o + 2) = some (.int .i64 x) ∧ (((decide (x > 0)) = true → R (.int .i64 92) h) ∧ ((decide (x > 0)) = false → (∃ x_1 : Int, hcell h r0_b (r0_o + 3) = some (.int .i64 x_1) ∧ (HWs h r0_b r0_o 4 ∧ ∀ h1, h1 = hsets h r0_b r0_o [(.int .i64 1), (.int .u64 0), (.int .i64 0), (.int .i64 (IntKind.i64.wrap ((if 2147483646 < x_1 then 2147483646 else x_1) + 1)))] → False)))))))))) :
    HC Try.prog 25 #[(.pointer none), (.int .i64 region)] h R := by
  refine hc_of (args := [(.pointer none), (.int .i64 region)]) Try.func25 rfl Try.ntmps25 (Nat.le_of_ble_eq_true rfl) ?_
  refine hx_seq ?_
  refine hx_region ?_
  refine hl_val rfl rfl (v := (.int .i64 0)) (hv_assign rfl) ?_
  refine hl_nil ?_
  refine seqQ_n ?_
  refine hx_seq ?_
  refine hx_region ?_
  refine hl_val rfl rfl (v := (.pointer none)) (hv_move rfl) ?_
  refine hl_val rfl rfl (v := (.int .i64 region)) (hv_move rfl) ?_
  obtain ⟨r0, r1, hr1, H⟩ := H
  refine hl_val rfl rfl (v := (.tuple #[(.pointer r0), (.int .i64 r1)])) (hv_call Ty.cb31 (vs := [(.pointer none), (.int .i64 region), (.int .i64 4)]) rfl hr1) ?_
  refine hl_val rfl rfl (v := (.tuple #[(.pointer r0), (.int .i64 r1)])) (hv_move rfl) ?_
  refine hl_val rfl rfl (v := (.pointer r0)) (hv_extract (vs := #[(.pointer r0), (.int .i64 r1)]) rfl rfl) ?_
  refine hl_val rfl rfl (v := (.int .i64 r1)) (hv_extract (vs := #[(.pointer r0), (.int .i64 r1)]) rfl rfl) ?_
  refine hl_val rfl rfl (v := (.pointer r0)) (hv_assign rfl) ?_
  refine hl_val rfl rfl (v := (.int .i64 r1)) (hv_assign rfl) ?_
  refine hl_nil ?_
  refine seqQ_n ?_
  refine hx_seq ?_
  refine hx_block ?_
  refine hx_seq ?_
  refine hx_region ?_
  refine hl_val rfl rfl (v := (.int .i64 r1)) (hv_move rfl) ?_
  refine hl_val rfl rfl (v := (.bool (r1 != 0))) (hv_arith rfl rfl rfl) ?_
  refine hl_val rfl rfl (v := (.bool (r1 != 0))) (hv_assign rfl) ?_
  refine hl_nil ?_
  refine seqQ_n ?_
  refine hx_cond (b := r1 != 0) rfl (fun hb7 => ?_) (fun hb7 => ?_)
  · replace H := H.1 hb7
    refine hx_seq ?_
    refine hx_region ?_
    refine hl_val rfl rfl (v := (.int .i64 r1)) (hv_move rfl) ?_
    refine hl_val rfl rfl (v := (.int .i64 r1)) (hv_assign rfl) ?_
    refine hl_nil ?_
    refine seqQ_n ?_
    refine hx_ret ?_
    refine blockQ_ret ?_
    refine seqQ_ret ?_
    exact endQ_ret _ (res_one Try.results25 (rv_tmp rfl)) H
  · replace H := H.2 hb7
    refine hx_seq ?_
    refine hx_region ?_
    refine hl_val rfl rfl (v := (.pointer r0)) (hv_move rfl) ?_
    obtain ⟨r0_b, r0_o, hqe, Hq⟩ := H
    subst hqe
    have H := Hq; clear Hq
    refine hl_val rfl rfl (v := (ptr r0_b r0_o)) (hv_nil rfl) ?_
    refine hl_val rfl rfl (v := (ptr r0_b (r0_o + 2))) (hv_field Ty.fld31_2 (b := r0_b) (o := r0_o) rfl) ?_
    obtain ⟨x, hc6, H⟩ := H
    refine hl_val rfl rfl (v := (.int .i64 x)) (hv_load Ty.agg3 rfl hc6) ?_
    refine hl_val rfl rfl (v := (.bool (decide (x > 0)))) (hv_arith rfl rfl rfl) ?_
    refine hl_val rfl rfl (v := (.bool (decide (x > 0)))) (hv_assign rfl) ?_
    refine hl_nil ?_
    refine seqQ_n ?_
    refine hx_cond (b := decide (x > 0)) rfl (fun hb5 => ?_) (fun hb5 => ?_)
    · replace H := H.1 hb5
      refine hx_seq ?_
      refine hx_region ?_
      refine hl_val rfl rfl (v := (.int .i64 92)) (hv_assign rfl) ?_
      refine hl_nil ?_
      refine seqQ_n ?_
      refine hx_ret ?_
      refine blockQ_ret ?_
      refine seqQ_ret ?_
      exact endQ_ret _ (res_one Try.results25 (rv_tmp rfl)) H
    · replace H := H.2 hb5
      refine hx_skip ?_
      refine blockQ_n ?_
      refine seqQ_n ?_
      refine hx_seq ?_
      refine hx_region ?_
      refine hl_val rfl rfl (v := (ptr r0_b r0_o)) (hv_move rfl) ?_
      refine hl_val rfl rfl (v := (ptr r0_b r0_o)) (hv_move rfl) ?_
      refine hl_val rfl rfl (v := (ptr r0_b r0_o)) (hv_nil rfl) ?_
      refine hl_val rfl rfl (v := (ptr r0_b (r0_o + 3))) (hv_field Ty.fld31_3 (b := r0_b) (o := r0_o) rfl) ?_
      obtain ⟨x_1, hc4, H⟩ := H
      refine hl_val rfl rfl (v := (.int .i64 x_1)) (hv_load Ty.agg3 rfl hc4) ?_
      refine hl_val rfl rfl (v := (.int .i64 (if 2147483646 < x_1 then 2147483646 else x_1))) (hv_min rfl rfl) ?_
      refine hl_val rfl rfl (v := (.int .i64 (IntKind.i64.wrap ((if 2147483646 < x_1 then 2147483646 else x_1) + 1)))) (hv_arith rfl rfl rfl) ?_
      refine hl_val rfl rfl (v := (.agg #[(.int .i64 1), (.int .u64 0), (.int .i64 0), (.int .i64 (IntKind.i64.wrap ((if 2147483646 < x_1 then 2147483646 else x_1) + 1)))])) (hv_build (vs := [(0, (.int .i64 1)), (3, (.int .i64 (IntKind.i64.wrap ((if 2147483646 < x_1 then 2147483646 else x_1) + 1))))]) (cs := #[(.int .i64 1), (.int .u64 0), (.int .i64 0), (.int .i64 (IntKind.i64.wrap ((if 2147483646 < x_1 then 2147483646 else x_1) + 1)))]) Ty.z31 Ty.pl31 rfl (by kernel_rfl)) ?_
      refine hl_val rfl rfl (v := (ptr r0_b r0_o)) (hv_nil rfl) ?_
      obtain ⟨hw2, H⟩ := H
      refine hl_step rfl rfl (hn_stores (vs := [(.int .i64 1), (.int .u64 0), (.int .i64 0), (.int .i64 (IntKind.i64.wrap ((if 2147483646 < x_1 then 2147483646 else x_1) + 1)))]) rfl rfl Ty.sz31 rfl hw2 ?_)
      intro h1 eh3
      replace H := H h1 eh3
      refine hl_nil ?_
      refine seqQ_n ?_
      refine hx_seq ?_
      refine hx_region ?_
      refine hl_val rfl rfl (v := (.pointer none)) (hv_move rfl) ?_
      refine hl_val rfl rfl (v := (.pointer none)) (hv_move rfl) ?_
      exact H.elim

/-- (*cellar/region.Manager).Pin -/
theorem f26_shn (region : Int) (h : Heap) (R : Value → Heap → Prop)
    (H : (∃ r0 : Option Addr, ∃ r1 : Int, HC Try.prog 31 #[(.pointer none), (.int .i64 region), (.int .i64 0)] h (fun vv h' => vv = (.tuple #[(.pointer r0), (.int .i64 r1)]) ∧ h' = h) ∧ (∃ j : Bool, (((r1 != 0) = true → (j = true)) ∧ ((r1 != 0) = false → (∃ r0_b r0_o : Nat, r0 = some ⟨r0_b, r0_o, none⟩ ∧ (∃ x : Int, hcell h r0_b r0_o = some (.int .i64 x) ∧ (((x == 1) = true → (j = true)) ∧ ((x == 1) = false → (∃ x_1 : Int, hcell h r0_b r0_o = some (.int .i64 x_1) ∧ (((x_1 == 4) = true → (j = true)) ∧ ((x_1 == 4) = false → (∃ x_2 : Int, hcell h r0_b (r0_o + 2) = some (.int .i64 x_2) ∧ (j = (decide (x_2 ≥ 2147483647))))))))))))) ∧ ((j = true → R (.bool false) h) ∧ (j = false → (∃ r0_b_1 r0_o_1 : Nat, r0 = some ⟨r0_b_1, r0_o_1, none⟩ ∧ (∃ x_3 : Int, hcell h r0_b_1 (r0_o_1 + 2) = some (.int .i64 x_3) ∧ (HW h r0_b_1 (r0_o_1 + 2) ∧ ∀ h1, h1 = hset h r0_b_1 (r0_o_1 + 2) (.int .i64 (IntKind.i64.wrap (x_3 + 1))) → R (.bool true) h1)))))))) :
    HC Try.prog 26 #[(.pointer none), (.int .i64 region)] h R := by
  refine hc_of (args := [(.pointer none), (.int .i64 region)]) Try.func26 rfl Try.ntmps26 (Nat.le_of_ble_eq_true rfl) ?_
  refine hx_seq ?_
  refine hx_region ?_
  refine hl_val rfl rfl (v := (.bool false)) (hv_assign rfl) ?_
  refine hl_nil ?_
  refine seqQ_n ?_
  refine hx_seq ?_
  refine hx_region ?_
  refine hl_val rfl rfl (v := (.pointer none)) (hv_move rfl) ?_
  refine hl_val rfl rfl (v := (.int .i64 region)) (hv_move rfl) ?_
  obtain ⟨r0, r1, hr1, H⟩ := H
  refine hl_val rfl rfl (v := (.tuple #[(.pointer r0), (.int .i64 r1)])) (hv_call Ty.cb31 (vs := [(.pointer none), (.int .i64 region), (.int .i64 0)]) rfl hr1) ?_
  refine hl_val rfl rfl (v := (.tuple #[(.pointer r0), (.int .i64 r1)])) (hv_move rfl) ?_
  refine hl_val rfl rfl (v := (.pointer r0)) (hv_extract (vs := #[(.pointer r0), (.int .i64 r1)]) rfl rfl) ?_
  refine hl_val rfl rfl (v := (.int .i64 r1)) (hv_extract (vs := #[(.pointer r0), (.int .i64 r1)]) rfl rfl) ?_
  refine hl_val rfl rfl (v := (.pointer r0)) (hv_assign rfl) ?_
  refine hl_val rfl rfl (v := (.int .i64 r1)) (hv_assign rfl) ?_
  refine hl_nil ?_
  refine seqQ_n ?_
  refine hx_seq ?_
  obtain ⟨j, Hx12, Hy13⟩ := H
  refine hx_cut (fun ρ h' => h = h' ∧ Has ρ [(5, (.pointer r0)), (35, (.bool j))]) ?_ ?_
  · have H := Hx12; clear Hx12 Hy13
    refine hx_region ?_
    refine hl_val rfl rfl (v := (.int .i64 r1)) (hv_move rfl) ?_
    refine hl_val rfl rfl (v := (.bool (r1 != 0))) (hv_arith rfl rfl rfl) ?_
    refine hl_val rfl rfl (v := (.bool (r1 != 0))) (hv_move rfl) ?_
    rcases bool_or (r1 != 0) with hg2 | hg2
    · replace H := H.1 hg2
      refine hl_no (wanted_n rfl rfl rfl hg2) rfl ?_
      refine hl_no (wanted_n rfl rfl rfl hg2) rfl ?_
      refine hl_no (wanted_n rfl rfl rfl hg2) rfl ?_
      refine hl_no (wanted_n rfl rfl rfl hg2) rfl ?_
      refine hl_no (wanted_n rfl rfl rfl hg2) rfl ?_
      refine hl_val rfl rfl (v := (.bool true)) (hv_pick_t rfl hg2 rfl) ?_
      refine hl_val rfl rfl (v := (.bool true)) (hv_move rfl) ?_
      refine hl_no (wanted_n rfl rfl (c := true) rfl rfl) rfl ?_
      refine hl_no (wanted_n rfl rfl (c := true) rfl rfl) rfl ?_
      refine hl_no (wanted_n rfl rfl (c := true) rfl rfl) rfl ?_
      refine hl_no (wanted_n rfl rfl (c := true) rfl rfl) rfl ?_
      refine hl_no (wanted_n rfl rfl (c := true) rfl rfl) rfl ?_
      refine hl_val rfl rfl (v := (.bool true)) (hv_pick (t := true) rfl rfl) ?_
      refine hl_val rfl rfl (v := (.bool true)) (hv_move rfl) ?_
      refine hl_no (wanted_n rfl rfl (c := true) rfl rfl) rfl ?_
      refine hl_no (wanted_n rfl rfl (c := true) rfl rfl) rfl ?_
      refine hl_no (wanted_n rfl rfl (c := true) rfl rfl) rfl ?_
      refine hl_no (wanted_n rfl rfl (c := true) rfl rfl) rfl ?_
      refine hl_no (wanted_n rfl rfl (c := true) rfl rfl) rfl ?_
      refine hl_val rfl rfl (v := (.bool true)) (hv_pick (t := true) rfl rfl) ?_
      refine hl_nil ?_
      refine seqQ_n ?_
      obtain rfl := H
      exact ⟨rfl, (has_cons rfl (has_cons rfl has_nil))⟩
    · replace H := H.2 hg2
      refine hl_yes (wanted_y rfl rfl rfl hg2) rfl (HStep.of_val (v := (.pointer r0)) (hv_move rfl) ?_)
      obtain ⟨r0_b, r0_o, hqe, Hq⟩ := H
      subst hqe
      have H := Hq; clear Hq
      refine hl_yes (wanted_y rfl rfl rfl hg2) rfl (HStep.of_val (v := (ptr r0_b r0_o)) (hv_nil rfl) ?_)
      refine hl_yes (wanted_y rfl rfl rfl hg2) rfl (HStep.of_val (v := (ptr r0_b r0_o)) (hv_field Ty.fld31_0 (b := r0_b) (o := r0_o) rfl) ?_)
      obtain ⟨x, hc7, H⟩ := H
      refine hl_yes (wanted_y rfl rfl rfl hg2) rfl (HStep.of_val (v := (.int .i64 x)) (hv_load Ty.agg3 rfl hc7) ?_)
      refine hl_yes (wanted_y rfl rfl rfl hg2) rfl (HStep.of_val (v := (.bool (x == 1))) (hv_arith rfl rfl rfl) ?_)
      refine hl_val rfl rfl (v := (.bool (x == 1))) (hv_pick_f rfl hg2 rfl) ?_
      refine hl_val rfl rfl (v := (.bool (x == 1))) (hv_move rfl) ?_
      rcases bool_or (x == 1) with hg3 | hg3
      · replace H := H.1 hg3
        refine hl_no (wanted_n rfl rfl rfl hg3) rfl ?_
        refine hl_no (wanted_n rfl rfl rfl hg3) rfl ?_
        refine hl_no (wanted_n rfl rfl rfl hg3) rfl ?_
        refine hl_no (wanted_n rfl rfl rfl hg3) rfl ?_
        refine hl_no (wanted_n rfl rfl rfl hg3) rfl ?_
        refine hl_val rfl rfl (v := (.bool true)) (hv_pick_t rfl hg3 rfl) ?_
        refine hl_val rfl rfl (v := (.bool true)) (hv_move rfl) ?_
        refine hl_no (wanted_n rfl rfl (c := true) rfl rfl) rfl ?_
        refine hl_no (wanted_n rfl rfl (c := true) rfl rfl) rfl ?_
        refine hl_no (wanted_n rfl rfl (c := true) rfl rfl) rfl ?_
        refine hl_no (wanted_n rfl rfl (c := true) rfl rfl) rfl ?_
        refine hl_no (wanted_n rfl rfl (c := true) rfl rfl) rfl ?_
        refine hl_val rfl rfl (v := (.bool true)) (hv_pick (t := true) rfl rfl) ?_
        refine hl_nil ?_
        refine seqQ_n ?_
        obtain rfl := H
        exact ⟨rfl, (has_cons rfl (has_cons rfl has_nil))⟩
      · replace H := H.2 hg3
        refine hl_yes (wanted_y rfl rfl rfl hg3) rfl (HStep.of_val (v := (ptr r0_b r0_o)) (hv_move rfl) ?_)
        refine hl_yes (wanted_y rfl rfl rfl hg3) rfl (HStep.of_val (v := (ptr r0_b r0_o)) (hv_nil rfl) ?_)
        refine hl_yes (wanted_y rfl rfl rfl hg3) rfl (HStep.of_val (v := (ptr r0_b r0_o)) (hv_field Ty.fld31_0 (b := r0_b) (o := r0_o) rfl) ?_)
        obtain ⟨x_1, hc6, H⟩ := H
        refine hl_yes (wanted_y rfl rfl rfl hg3) rfl (HStep.of_val (v := (.int .i64 x_1)) (hv_load Ty.agg3 rfl hc6) ?_)
        refine hl_yes (wanted_y rfl rfl rfl hg3) rfl (HStep.of_val (v := (.bool (x_1 == 4))) (hv_arith rfl rfl rfl) ?_)
        refine hl_val rfl rfl (v := (.bool (x_1 == 4))) (hv_pick_f rfl hg3 rfl) ?_
        refine hl_val rfl rfl (v := (.bool (x_1 == 4))) (hv_move rfl) ?_
        rcases bool_or (x_1 == 4) with hg4 | hg4
        · replace H := H.1 hg4
          refine hl_no (wanted_n rfl rfl rfl hg4) rfl ?_
          refine hl_no (wanted_n rfl rfl rfl hg4) rfl ?_
          refine hl_no (wanted_n rfl rfl rfl hg4) rfl ?_
          refine hl_no (wanted_n rfl rfl rfl hg4) rfl ?_
          refine hl_no (wanted_n rfl rfl rfl hg4) rfl ?_
          refine hl_val rfl rfl (v := (.bool true)) (hv_pick_t rfl hg4 rfl) ?_
          refine hl_nil ?_
          refine seqQ_n ?_
          obtain rfl := H
          exact ⟨rfl, (has_cons rfl (has_cons rfl has_nil))⟩
        · replace H := H.2 hg4
          refine hl_yes (wanted_y rfl rfl rfl hg4) rfl (HStep.of_val (v := (ptr r0_b r0_o)) (hv_move rfl) ?_)
          refine hl_yes (wanted_y rfl rfl rfl hg4) rfl (HStep.of_val (v := (ptr r0_b r0_o)) (hv_nil rfl) ?_)
          refine hl_yes (wanted_y rfl rfl rfl hg4) rfl (HStep.of_val (v := (ptr r0_b (r0_o + 2))) (hv_field Ty.fld31_2 (b := r0_b) (o := r0_o) rfl) ?_)
          obtain ⟨x_2, hc5, H⟩ := H
          refine hl_yes (wanted_y rfl rfl rfl hg4) rfl (HStep.of_val (v := (.int .i64 x_2)) (hv_load Ty.agg3 rfl hc5) ?_)
          refine hl_yes (wanted_y rfl rfl rfl hg4) rfl (HStep.of_val (v := (.bool (decide (x_2 ≥ 2147483647)))) (hv_arith rfl rfl rfl) ?_)
          refine hl_val rfl rfl (v := (.bool (decide (x_2 ≥ 2147483647)))) (hv_pick_f rfl hg4 rfl) ?_
          refine hl_nil ?_
          refine seqQ_n ?_
          obtain rfl := H
          exact ⟨rfl, (has_cons rfl (has_cons rfl has_nil))⟩
  · have H := Hy13; clear Hx12 Hy13
    rintro ρ _ ⟨rfl, hH⟩
    refine hx_has _ hH ?_
    refine hx_cond (b := j) rfl (fun hb11 => ?_) (fun hb11 => ?_)
    · replace H := H.1 hb11
      refine hx_seq ?_
      refine hx_region ?_
      refine hl_val rfl rfl (v := (.bool false)) (hv_assign rfl) ?_
      refine hl_nil ?_
      refine seqQ_n ?_
      refine hx_ret ?_
      refine seqQ_ret ?_
      exact endQ_ret _ (res_one Try.results26 (rv_tmp rfl)) H
    · replace H := H.2 hb11
      refine hx_skip ?_
      refine seqQ_n ?_
      refine hx_seq ?_
      refine hx_region ?_
      refine hl_val rfl rfl (v := (.pointer r0)) (hv_move rfl) ?_
      obtain ⟨r0_b_1, r0_o_1, hqe, Hq⟩ := H
      subst hqe
      have H := Hq; clear Hq
      refine hl_val rfl rfl (v := (ptr r0_b_1 r0_o_1)) (hv_nil rfl) ?_
      refine hl_val rfl rfl (v := (ptr r0_b_1 (r0_o_1 + 2))) (hv_field Ty.fld31_2 (b := r0_b_1) (o := r0_o_1) rfl) ?_
      obtain ⟨x_3, hc10, H⟩ := H
      refine hl_val rfl rfl (v := (.int .i64 x_3)) (hv_load Ty.agg3 rfl hc10) ?_
      refine hl_val rfl rfl (v := (.int .i64 (IntKind.i64.wrap (x_3 + 1)))) (hv_arith rfl rfl rfl) ?_
      refine hl_val rfl rfl (v := (ptr r0_b_1 r0_o_1)) (hv_nil rfl) ?_
      refine hl_val rfl rfl (v := (ptr r0_b_1 (r0_o_1 + 2))) (hv_field Ty.fld31_2 (b := r0_b_1) (o := r0_o_1) rfl) ?_
      obtain ⟨hw8, H⟩ := H
      refine hl_step rfl rfl (hn_store (v := (.int .i64 (IntKind.i64.wrap (x_3 + 1)))) rfl rfl Ty.sz3 rfl hw8 ?_)
      intro h1 eh9
      replace H := H h1 eh9
      refine hl_nil ?_
      refine seqQ_n ?_
      refine hx_seq ?_
      refine hx_region ?_
      refine hl_val rfl rfl (v := (.bool true)) (hv_assign rfl) ?_
      refine hl_nil ?_
      refine seqQ_n ?_
      refine hx_ret ?_
      exact endQ_ret _ (res_one Try.results26 (rv_tmp rfl)) H

/-- (*cellar/region.Manager).Last -/
theorem f15_shn  (h : Heap) (R : Value → Heap → Prop)
    (H : (∃ r : Bool, HC Try.prog 32 #[(.pointer none)] h (fun vv h' => vv = (.bool r) ∧ h' = h) ∧ (((!r) = true → R (.int .u64 0) h) ∧ ((!r) = false → False)))) :
    HC Try.prog 15 #[(.pointer none)] h R := by
  refine hc_of (args := [(.pointer none)]) Try.func15 rfl Try.ntmps15 (Nat.le_of_ble_eq_true rfl) ?_
  refine hx_seq ?_
  refine hx_region ?_
  refine hl_val rfl rfl (v := (.int .u64 0)) (hv_assign rfl) ?_
  refine hl_nil ?_
  refine seqQ_n ?_
  refine hx_seq ?_
  refine hx_seq ?_
  refine hx_region ?_
  refine hl_val rfl rfl (v := (.pointer none)) (hv_move rfl) ?_
  obtain ⟨r, hr1, H⟩ := H
  refine hl_val rfl rfl (v := (.bool r)) (hv_call Ty.cb32 (vs := [(.pointer none)]) rfl hr1) ?_
  refine hl_val rfl rfl (v := (.bool (!r))) (hv_not (b := r) rfl) ?_
  refine hl_nil ?_
  refine seqQ_n ?_
  refine hx_cond (b := !r) rfl (fun hb2 => ?_) (fun hb2 => ?_)
  · replace H := H.1 hb2
    refine hx_seq ?_
    refine hx_region ?_
    refine hl_val rfl rfl (v := (.int .u64 0)) (hv_assign rfl) ?_
    refine hl_nil ?_
    refine seqQ_n ?_
    refine hx_ret ?_
    refine seqQ_ret ?_
    exact endQ_ret _ (res_one Try.results15 (rv_tmp rfl)) H
  · replace H := H.2 hb2
    refine hx_skip ?_
    refine seqQ_n ?_
    refine hx_seq ?_
    refine hx_region ?_
    refine hl_val rfl rfl (v := (.pointer none)) (hv_move rfl) ?_
    exact H.elim

/-- (*cellar/region.Manager).Current -/
theorem f14_shn  (h : Heap) (R : Value → Heap → Prop)
    (H : (∃ r : Bool, HC Try.prog 32 #[(.pointer none)] h (fun vv h' => vv = (.bool r) ∧ h' = h) ∧ (((!r) = true → R (.int .i64 (-1)) h) ∧ ((!r) = false → False)))) :
    HC Try.prog 14 #[(.pointer none)] h R := by
  refine hc_of (args := [(.pointer none)]) Try.func14 rfl Try.ntmps14 (Nat.le_of_ble_eq_true rfl) ?_
  refine hx_seq ?_
  refine hx_region ?_
  refine hl_val rfl rfl (v := (.int .i64 0)) (hv_assign rfl) ?_
  refine hl_nil ?_
  refine seqQ_n ?_
  refine hx_seq ?_
  refine hx_seq ?_
  refine hx_region ?_
  refine hl_val rfl rfl (v := (.pointer none)) (hv_move rfl) ?_
  obtain ⟨r, hr1, H⟩ := H
  refine hl_val rfl rfl (v := (.bool r)) (hv_call Ty.cb32 (vs := [(.pointer none)]) rfl hr1) ?_
  refine hl_val rfl rfl (v := (.bool (!r))) (hv_not (b := r) rfl) ?_
  refine hl_nil ?_
  refine seqQ_n ?_
  refine hx_cond (b := !r) rfl (fun hb2 => ?_) (fun hb2 => ?_)
  · replace H := H.1 hb2
    refine hx_seq ?_
    refine hx_region ?_
    refine hl_val rfl rfl (v := (.int .i64 (-1))) (hv_assign rfl) ?_
    refine hl_nil ?_
    refine seqQ_n ?_
    refine hx_ret ?_
    refine seqQ_ret ?_
    exact endQ_ret _ (res_one Try.results14 (rv_tmp rfl)) H
  · replace H := H.2 hb2
    refine hx_skip ?_
    refine seqQ_n ?_
    refine hx_seq ?_
    refine hx_region ?_
    refine hl_val rfl rfl (v := (.pointer none)) (hv_move rfl) ?_
    exact H.elim

/-- (*cellar/region.Manager).Frees -/
theorem f27_shn  (h : Heap) (R : Value → Heap → Prop)
    (H : (∃ r : Bool, HC Try.prog 32 #[(.pointer none)] h (fun vv h' => vv = (.bool r) ∧ h' = h) ∧ (((!r) = true → R (.slice none 0 0) h) ∧ ((!r) = false → False)))) :
    HC Try.prog 27 #[(.pointer none)] h R := by
  refine hc_of (args := [(.pointer none)]) Try.func27 rfl Try.ntmps27 (Nat.le_of_ble_eq_true rfl) ?_
  refine hx_seq ?_
  refine hx_region ?_
  refine hl_val rfl rfl (v := (.slice none 0 0)) (hv_assign rfl) ?_
  refine hl_nil ?_
  refine seqQ_n ?_
  refine hx_seq ?_
  refine hx_seq ?_
  refine hx_region ?_
  refine hl_val rfl rfl (v := (.pointer none)) (hv_move rfl) ?_
  obtain ⟨r, hr1, H⟩ := H
  refine hl_val rfl rfl (v := (.bool r)) (hv_call Ty.cb32 (vs := [(.pointer none)]) rfl hr1) ?_
  refine hl_val rfl rfl (v := (.bool (!r))) (hv_not (b := r) rfl) ?_
  refine hl_nil ?_
  refine seqQ_n ?_
  refine hx_cond (b := !r) rfl (fun hb2 => ?_) (fun hb2 => ?_)
  · replace H := H.1 hb2
    refine hx_seq ?_
    refine hx_region ?_
    refine hl_val rfl rfl (v := (.slice none 0 0)) (hv_assign rfl) ?_
    refine hl_nil ?_
    refine seqQ_n ?_
    refine hx_ret ?_
    refine seqQ_ret ?_
    exact endQ_ret _ (res_one Try.results27 (rv_tmp rfl)) H
  · replace H := H.2 hb2
    refine hx_skip ?_
    refine seqQ_n ?_
    refine hx_seq ?_
    refine hx_region ?_
    refine hl_val rfl rfl (v := (.pointer none)) (hv_move rfl) ?_
    exact H.elim

/-- (*cellar/region.Manager).Sealed -/
theorem f16_shn  (h : Heap) (R : Value → Heap → Prop)
    (H : (∀ m h1, m = Array.size h → h1 = Array.push h (.cells #[(.pointer none)] 24) → R (.func (.func 34) #[] #[(ptr m 0)]) h1)) :
    HC Try.prog 16 #[(.pointer none)] h R := by
  refine hc_of (args := [(.pointer none)]) Try.func16 rfl Try.ntmps16 (Nat.le_of_ble_eq_true rfl) ?_
  refine hx_seq ?_
  refine hx_region ?_
  refine hl_step rfl rfl (hn_box (v := (.pointer none)) rfl ?_)
  intro m h1 eb1 eh2
  replace H := H m h1 eb1 eh2
  refine hl_val rfl rfl (v := .nilFunc) (hv_assign rfl) ?_
  refine hl_nil ?_
  refine seqQ_n ?_
  refine hx_seq ?_
  refine hx_region ?_
  refine hl_val rfl rfl (v := (.func (.func 34) #[] #[(ptr m 0)])) (hv_makeFunc (fv := []) (cv := [(ptr m 0)]) rfl rfl) ?_
  refine hl_val rfl rfl (v := (.func (.func 34) #[] #[(ptr m 0)])) (hv_assign rfl) ?_
  refine hl_nil ?_
  refine seqQ_n ?_
  refine hx_ret ?_
  exact endQ_ret _ (res_one Try.results16 (rv_tmp rfl)) H

/-- cellar/cellarlaw09.sealed -/
theorem f28_shn  (h : Heap) (R : Value → Heap → Prop)
    (H : (∀ l h1, l = Array.size h → h1 = Array.push h (.cells #[(.slice none 0 0)] 50) → HC Try.prog 16 #[(.pointer none)] h1 (fun vv h2 => ∃ r : Value, vv = r ∧ (∀ (Lp3 : LoopState → Option Code → Heap → Prop) (l_1 : Nat) (h3 : Heap) (y : Value), (∀ s p h h', Lp3 s p h → h'[l_1]? = h[l_1]? → Lp3 s p h') → l_1 = Array.size h2 + 1 → Ext h2 h3 → Array.size h3 = Array.size h2 + 2 → Lp3 .ready none h3 → (∀ (it : Int) (h4 : Heap) (K11 : Value → Heap → Prop), Lp3 .ready none h4 → (Lp3 .ready none h4 ∧ ∀ h7, Only l_1 h4 h7 → Lp3 .busy none h7 → (∃ x : Option Addr, ∃ x_n x_c : Nat, hcell h7 l 0 = some (.slice x x_n x_c) ∧ (∀ nb h8, nb = Array.size h7 → h8 = Array.push h7 (.cells #[(.int .i64 it)] 3) → HAppend Try.prog 50 50 (.slice x x_n x_c) (.slice (some ⟨nb, 0, none⟩) 1 1) h8 (fun vv h9 => ∃ ap : Option Addr, ∃ ap_n ap_c : Nat, vv = (.slice ap ap_n ap_c) ∧ (HW h9 l 0 ∧ ∀ h10, h10 = hset h9 l 0 (.slice ap ap_n ap_c) → (Lp3 .busy none h10 ∧ ∀ h11, Only l_1 h10 h11 → Lp3 .ready none h11 → K11 (.bool true) h11)))))) → HCV Try.prog y [(.int .i64 it)] h4 K11) → HCF Try.prog r [y] h3 (fun _ h5 => ∃ (st : LoopState) (pend : Option Code), Lp3 st pend h5 ∧ st ≠ .busy ∧ ∀ h6, Only l_1 h5 h6 → Lp3 .exhausted pend h6 → ((pend = none ∧ (∃ x_1 : Option Addr, ∃ x_n_1 x_c_1 : Nat, hcell h6 l 0 = some (.slice x_1 x_n_1 x_c_1) ∧ (∀ h12, Shut' (Array.size h) h6 h12 → R (.slice x_1 x_n_1 x_c_1) h12))))))))) :
    HC Try.prog 28 #[(.pointer none)] h R := by
  refine hc_ofM (args := [(.pointer none)]) Try.func28 rfl Try.ntmps28 (Nat.le_of_ble_eq_true rfl) ?_
  refine hx_seq ?_
  refine hx_region ?_
  refine hl_val rfl rfl (v := (.slice none 0 0)) (hv_assign rfl) ?_
  refine hl_nil ?_
  refine seqQ_n ?_
  refine hx_seq ?_
  refine hx_region ?_
  refine hl_step rfl rfl (hn_alloc Ty.z50 ?_)
  intro l h1 eb1 eh2
  replace H := H l h1 eb1 eh2
  refine hl_nil ?_
  refine seqQ_n ?_
  refine hx_seq ?_
  refine hx_seq ?_
  refine hx_region ?_
  refine hl_val rfl rfl (v := (.pointer none)) (hv_move rfl) ?_
  refine hl_step rfl rfl (hs_call Ty.cb16 (vs := [(.pointer none)]) rfl (HC.mono H ?_))
  rintro _ h2 ⟨r, rfl, H⟩
  refine hl_nil ?_
  refine seqQ_n ?_
  refine hx_block ?_
  refine hx_range rfl rfl rfl (fun h3 l_1 le4 lx5 lz6 La7 => ?_)
  refine HCF.mono (H (fun st p h => LoopAt h l_1 _ _ _ _ _ st p) l_1 h3 _ (fun s p h h' k e => k.same e) le4 lx5 lz6 La7 ?_) ?_
  · intro it h4 K11 Lb8 H
    refine hcv_yield Lb8 rfl rfl ?_
    refine hx_region ?_
    refine hl_val rfl rfl (v := (.int .i64 it)) (hv_assign rfl) ?_
    refine hl_nil ?_
    obtain ⟨Lf16, H⟩ := H
    refine ⟨rfl, Lf16, ?_⟩
    intro h7 lo14 Le15
    replace H := H h7 lo14 Le15
    refine hx_block ?_
    refine hx_region ?_
    obtain ⟨x, x_n, x_c, hc21, H⟩ := H
    refine hl_val rfl rfl (v := (.slice x x_n x_c)) (hv_load Ty.agg50 rfl hc21) ?_
    refine hl_val rfl rfl (v := (.int .i64 it)) (hv_move rfl) ?_
    refine hl_step rfl rfl (hn_buildSlice (n := 1) (vs := [(0, (.int .i64 it))]) (cs := #[(.int .i64 it)]) Ty.u50 Ty.sz3 Ty.z3 rfl rfl (by kernel_rfl) ?_)
    intro nb h8 eb17 eh18
    replace H := H nb h8 eb17 eh18
    refine hl_step rfl rfl (hs_append rfl rfl (HAppend.mono H ?_))
    rintro _ h9 ⟨ap, ap_n, ap_c, rfl, H⟩
    obtain ⟨hw19, H⟩ := H
    refine hl_step rfl rfl (hn_store (v := (.slice ap ap_n ap_c)) rfl rfl Ty.sz50 rfl hw19 ?_)
    intro h10 eh20
    replace H := H h10 eh20
    refine hl_nil ?_
    refine blockQ_n ?_
    exact H
  · rintro _ h5 ⟨st, pend, Lc9, hst13, H⟩
    refine ⟨st, pend, Lc9, hst13, ?_⟩
    intro h6 lo12 Ld10
    replace H := H h6 lo12 Ld10
    obtain ⟨rfl, H⟩ := H
    refine jumpQ_n ?_
    refine blockQ_n ?_
    refine seqQ_n ?_
    refine hx_seq ?_
    refine hx_region ?_
    obtain ⟨x_1, x_n_1, x_c_1, hc22, H⟩ := H
    refine hl_val rfl rfl (v := (.slice x_1 x_n_1 x_c_1)) (hv_load Ty.agg50 rfl hc22) ?_
    refine hl_val rfl rfl (v := (.slice x_1 x_n_1 x_c_1)) (hv_assign rfl) ?_
    refine hl_nil ?_
    refine seqQ_n ?_
    refine hx_ret ?_
    exact endQM_ret _ (fun h' hs => ⟨res_one Try.results28 (rv_tmp rfl), H h' hs⟩)

/-- cellar/cellarlaw09.RegionNobody -/
theorem f7_shn (n : Int) (task : Int) (h : Heap) (R : Value → Heap → Prop)
    (H : HC Try.prog 13 #[(.pointer none)] h (fun vv h1 => ∃ r0 r1 r2 : Int, vv = (.tuple #[(.int .i64 r0), (.int .u64 r1), (.int .i64 r2)]) ∧ HC Try.prog 21 #[(.pointer none), (.int .i64 task), (.int .i64 n)] h1 (fun vv h2 => ∃ r0_1 : Bool, ∃ r1_1 : Int, vv = (.tuple #[(.bool r0_1), (.int .i64 r1_1)]) ∧ HC Try.prog 22 #[(.pointer none), (.int .i64 n)] h2 (fun vv h3 => ∃ r0_2 : Option Addr, ∃ r0_n r0_c : Nat, ∃ r1_2 : Int, vv = (.tuple #[(.slice r0_2 r0_n r0_c), (.int .i64 r1_2)]) ∧ HC Try.prog 11 #[(.pointer none), (.int .i64 n)] h3 (fun vv h4 => ∃ r0_State r0_Sequence r0_Pins r0_Erases : Int, ∃ r1_3 : Bool, vv = (.tuple #[(.agg #[(.int .i64 r0_State), (.int .u64 r0_Sequence), (.int .i64 r0_Pins), (.int .i64 r0_Erases)]), (.bool r1_3)]) ∧ (∀ x h5, x = Array.size h4 → h5 = Array.push h4 (.cells #[(.int .i64 0), (.int .u64 0), (.int .i64 0), (.int .i64 0)] 31) → (HWs h5 x 0 4 ∧ ∀ h6, h6 = hsets h5 x 0 [(.int .i64 r0_State), (.int .u64 r0_Sequence), (.int .i64 r0_Pins), (.int .i64 r0_Erases)] → (∃ A5 : Bool → Heap → Prop, HC Try.prog 9 #[] h6 (fun vv h8 => ∃ r : Bool, vv = (.bool r) ∧ ((r = true → (((r2 == 6) = true → HC Try.prog 23 #[(.pointer none)] h8 (fun vv h9 => ∃ r_1 : Int, vv = (.int .i64 r_1) ∧ (((r_1 == 6) = true → HC Try.prog 24 #[(.pointer none), (.int .i64 n)] h9 (fun vv h10 => ∃ r_2 : Int, vv = (.int .i64 r_2) ∧ (((r_2 == 6) = true → (((!r0_1) = true → (((r1_1 == 6) = true → HC Try.prog 25 #[(.pointer none), (.int .i64 n)] h10 (fun vv h11 => ∃ r_3 : Int, vv = (.int .i64 r_3) ∧ (((r_3 == 6) = true → HC Try.prog 26 #[(.pointer none), (.int .i64 n)] h11 (fun vv h12 => ∃ r_4 : Bool, vv = (.bool r_4) ∧ (((!r_4) = true → ((((r0_n : Int) == 0) = true → (((r1_2 == 6) = true → (((!r1_3) = true → (∃ x_State x_Sequence x_Pins x_Erases : Int, hcell h12 x 0 = some (.int .i64 x_State) ∧ hcell h12 x 1 = some (.int .u64 x_Sequence) ∧ hcell h12 x 2 = some (.int .i64 x_Pins) ∧ hcell h12 x 3 = some (.int .i64 x_Erases) ∧ ((((x_State == 0 && (x_Sequence == 0 && (x_Pins == 0 && (x_Erases == 0 && true))))) = true → (∃ r_5 : Int, HC Try.prog 15 #[(.pointer none)] h12 (fun vv h' => vv = (.int .u64 r_5) ∧ h' = h12) ∧ (((r_5 == 0) = true → (∃ r_6 : Int, HC Try.prog 14 #[(.pointer none)] h12 (fun vv h' => vv = (.int .i64 r_6) ∧ h' = h12) ∧ (((r_6 == (-1)) = true → HC Try.prog 27 #[(.pointer none)] h12 (fun vv h13 => ∃ r_7 : Option Addr, ∃ r_n r_c : Nat, vv = (.slice r_7 r_n r_c) ∧ ((((r_n : Int) == 0) = true → HC Try.prog 28 #[(.pointer none)] h13 (fun vv h14 => ∃ r_8 : Option Addr, ∃ r_n_1 r_c_1 : Nat, vv = (.slice r_8 r_n_1 r_c_1) ∧ (A5 ((r_n_1 : Int) == 0) h14))) ∧ (((r_n : Int) == 0) = false → (A5 false h13))))) ∧ ((r_6 == (-1)) = false → (A5 false h12))))) ∧ ((r_5 == 0) = false → (A5 false h12))))) ∧ (((x_State == 0 && (x_Sequence == 0 && (x_Pins == 0 && (x_Erases == 0 && true))))) = false → (A5 false h12))))) ∧ ((!r1_3) = false → (A5 false h12)))) ∧ ((r1_2 == 6) = false → (A5 false h12)))) ∧ (((r0_n : Int) == 0) = false → (A5 false h12)))) ∧ ((!r_4) = false → (A5 false h12))))) ∧ ((r_3 == 6) = false → (A5 false h11))))) ∧ ((r1_1 == 6) = false → (A5 false h10)))) ∧ ((!r0_1) = false → (A5 false h10)))) ∧ ((r_2 == 6) = false → (A5 false h10))))) ∧ ((r_1 == 6) = false → (A5 false h9))))) ∧ ((r2 == 6) = false → (A5 false h8)))) ∧ (r = false → (A5 false h8)))) ∧ (∀ (j : Bool) (h7 : Heap), A5 j h7 → R (.bool j) h7))))))))) :
    HC Try.prog 7 #[(.int .i64 n), (.int .i64 task)] h R := by
  refine hc_of (args := [(.int .i64 n), (.int .i64 task)]) Try.func7 rfl Try.ntmps7 (Nat.le_of_ble_eq_true rfl) ?_
  refine hx_seq ?_
  refine hx_region ?_
  refine hl_val rfl rfl (v := (.bool false)) (hv_assign rfl) ?_
  refine hl_nil ?_
  refine seqQ_n ?_
  refine hx_seq ?_
  refine hx_region ?_
  refine hl_val rfl rfl (v := (.pointer none)) (hv_assign rfl) ?_
  refine hl_nil ?_
  refine seqQ_n ?_
  refine hx_seq ?_
  refine hx_region ?_
  refine hl_val rfl rfl (v := (.pointer none)) (hv_move rfl) ?_
  refine hl_step rfl rfl (hs_call Ty.cb13 (vs := [(.pointer none)]) rfl (HC.mono H ?_))
  rintro _ h1 ⟨r0, r1, r2, rfl, H⟩
  refine hl_val rfl rfl (v := (.tuple #[(.int .i64 r0), (.int .u64 r1), (.int .i64 r2)])) (hv_move rfl) ?_
  refine hl_val rfl rfl (v := (.int .i64 r0)) (hv_extract (vs := #[(.int .i64 r0), (.int .u64 r1), (.int .i64 r2)]) rfl rfl) ?_
  refine hl_val rfl rfl (v := (.int .u64 r1)) (hv_extract (vs := #[(.int .i64 r0), (.int .u64 r1), (.int .i64 r2)]) rfl rfl) ?_
  refine hl_val rfl rfl (v := (.int .i64 r2)) (hv_extract (vs := #[(.int .i64 r0), (.int .u64 r1), (.int .i64 r2)]) rfl rfl) ?_
  refine hl_val rfl rfl (v := (.int .i64 r0)) (hv_assign rfl) ?_
  refine hl_val rfl rfl (v := (.int .u64 r1)) (hv_assign rfl) ?_
  refine hl_val rfl rfl (v := (.int .i64 r2)) (hv_assign rfl) ?_
  refine hl_nil ?_
  refine seqQ_n ?_
  refine hx_seq ?_
  refine hx_region ?_
  refine hl_val rfl rfl (v := (.pointer none)) (hv_move rfl) ?_
  refine hl_val rfl rfl (v := (.int .i64 task)) (hv_move rfl) ?_
  refine hl_val rfl rfl (v := (.int .i64 n)) (hv_move rfl) ?_
  refine hl_step rfl rfl (hs_call Ty.cb21 (vs := [(.pointer none), (.int .i64 task), (.int .i64 n)]) rfl (HC.mono H ?_))
  rintro _ h2 ⟨r0_1, r1_1, rfl, H⟩
  refine hl_val rfl rfl (v := (.tuple #[(.bool r0_1), (.int .i64 r1_1)])) (hv_move rfl) ?_
  refine hl_val rfl rfl (v := (.bool r0_1)) (hv_extract (vs := #[(.bool r0_1), (.int .i64 r1_1)]) rfl rfl) ?_
  refine hl_val rfl rfl (v := (.int .i64 r1_1)) (hv_extract (vs := #[(.bool r0_1), (.int .i64 r1_1)]) rfl rfl) ?_
  refine hl_val rfl rfl (v := (.bool r0_1)) (hv_assign rfl) ?_
  refine hl_val rfl rfl (v := (.int .i64 r1_1)) (hv_assign rfl) ?_
  refine hl_nil ?_
  refine seqQ_n ?_
  refine hx_seq ?_
  refine hx_region ?_
  refine hl_val rfl rfl (v := (.pointer none)) (hv_move rfl) ?_
  refine hl_val rfl rfl (v := (.int .i64 n)) (hv_move rfl) ?_
  refine hl_step rfl rfl (hs_call Ty.cb22 (vs := [(.pointer none), (.int .i64 n)]) rfl (HC.mono H ?_))
  rintro _ h3 ⟨r0_2, r0_n, r0_c, r1_2, rfl, H⟩
  refine hl_val rfl rfl (v := (.tuple #[(.slice r0_2 r0_n r0_c), (.int .i64 r1_2)])) (hv_move rfl) ?_
  refine hl_val rfl rfl (v := (.slice r0_2 r0_n r0_c)) (hv_extract (vs := #[(.slice r0_2 r0_n r0_c), (.int .i64 r1_2)]) rfl rfl) ?_
  refine hl_val rfl rfl (v := (.int .i64 r1_2)) (hv_extract (vs := #[(.slice r0_2 r0_n r0_c), (.int .i64 r1_2)]) rfl rfl) ?_
  refine hl_val rfl rfl (v := (.slice r0_2 r0_n r0_c)) (hv_assign rfl) ?_
  refine hl_val rfl rfl (v := (.int .i64 r1_2)) (hv_assign rfl) ?_
  refine hl_nil ?_
  refine seqQ_n ?_
  refine hx_seq ?_
  refine hx_region ?_
  refine hl_val rfl rfl (v := (.pointer none)) (hv_move rfl) ?_
  refine hl_val rfl rfl (v := (.int .i64 n)) (hv_move rfl) ?_
  refine hl_step rfl rfl (hs_call Ty.cb11 (vs := [(.pointer none), (.int .i64 n)]) rfl (HC.mono H ?_))
  rintro _ h4 ⟨r0_State, r0_Sequence, r0_Pins, r0_Erases, r1_3, rfl, H⟩
  refine hl_val rfl rfl (v := (.tuple #[(.agg #[(.int .i64 r0_State), (.int .u64 r0_Sequence), (.int .i64 r0_Pins), (.int .i64 r0_Erases)]), (.bool r1_3)])) (hv_move rfl) ?_
  refine hl_val rfl rfl (v := (.agg #[(.int .i64 r0_State), (.int .u64 r0_Sequence), (.int .i64 r0_Pins), (.int .i64 r0_Erases)])) (hv_extract (vs := #[(.agg #[(.int .i64 r0_State), (.int .u64 r0_Sequence), (.int .i64 r0_Pins), (.int .i64 r0_Erases)]), (.bool r1_3)]) rfl rfl) ?_
  refine hl_val rfl rfl (v := (.bool r1_3)) (hv_extract (vs := #[(.agg #[(.int .i64 r0_State), (.int .u64 r0_Sequence), (.int .i64 r0_Pins), (.int .i64 r0_Erases)]), (.bool r1_3)]) rfl rfl) ?_
  refine hl_step rfl rfl (hn_alloc Ty.z31 ?_)
  intro x h5 eb1 eh2
  replace H := H x h5 eb1 eh2
  obtain ⟨hw3, H⟩ := H
  refine hl_step rfl rfl (hn_stores (vs := [(.int .i64 r0_State), (.int .u64 r0_Sequence), (.int .i64 r0_Pins), (.int .i64 r0_Erases)]) rfl rfl Ty.sz31 rfl hw3 ?_)
  intro h6 eh4
  replace H := H h6 eh4
  refine hl_val rfl rfl (v := (.bool r1_3)) (hv_assign rfl) ?_
  refine hl_nil ?_
  refine seqQ_n ?_
  obtain ⟨A5, Hx27, Hy28⟩ := H
  refine hx_cut (fun ρ h' => ∃ j : Bool, A5 j h' ∧ Has ρ [(4, (.bool j))]) ?_ ?_
  · have H := Hx27; clear Hx27 Hy28
    refine hx_region ?_
    refine hl_step rfl rfl (hs_call Ty.cb9 (vs := []) rfl (HC.mono H ?_))
    rintro _ h8 ⟨r, rfl, H⟩
    refine hl_val rfl rfl (v := (.bool r)) (hv_move rfl) ?_
    rcases bool_or (r) with hg6 | hg6
    · replace H := H.1 hg6
      refine hl_yes (wanted_y rfl rfl rfl hg6) rfl (HStep.of_val (v := (.int .i64 r2)) (hv_move rfl) ?_)
      refine hl_yes (wanted_y rfl rfl rfl hg6) rfl (HStep.of_val (v := (.bool (r2 == 6))) (hv_arith rfl rfl rfl) ?_)
      refine hl_val rfl rfl (v := (.bool (r2 == 6))) (hv_pick_t rfl hg6 rfl) ?_
      refine hl_val rfl rfl (v := (.bool (r2 == 6))) (hv_move rfl) ?_
      rcases bool_or (r2 == 6) with hg7 | hg7
      · replace H := H.1 hg7
        refine hl_yes (wanted_y rfl rfl rfl hg7) rfl (HStep.of_val (v := (.pointer none)) (hv_move rfl) ?_)
        refine hl_yes (wanted_y rfl rfl rfl hg7) rfl (hs_call Ty.cb23 (vs := [(.pointer none)]) rfl (HC.mono H ?_))
        rintro _ h9 ⟨r_1, rfl, H⟩
        refine hl_yes (wanted_y rfl rfl rfl hg7) rfl (HStep.of_val (v := (.bool (r_1 == 6))) (hv_arith rfl rfl rfl) ?_)
        refine hl_val rfl rfl (v := (.bool (r_1 == 6))) (hv_pick_t rfl hg7 rfl) ?_
        refine hl_val rfl rfl (v := (.bool (r_1 == 6))) (hv_move rfl) ?_
        rcases bool_or (r_1 == 6) with hg8 | hg8
        · replace H := H.1 hg8
          refine hl_yes (wanted_y rfl rfl rfl hg8) rfl (HStep.of_val (v := (.pointer none)) (hv_move rfl) ?_)
          refine hl_yes (wanted_y rfl rfl rfl hg8) rfl (HStep.of_val (v := (.int .i64 n)) (hv_move rfl) ?_)
          refine hl_yes (wanted_y rfl rfl rfl hg8) rfl (hs_call Ty.cb24 (vs := [(.pointer none), (.int .i64 n)]) rfl (HC.mono H ?_))
          rintro _ h10 ⟨r_2, rfl, H⟩
          refine hl_yes (wanted_y rfl rfl rfl hg8) rfl (HStep.of_val (v := (.bool (r_2 == 6))) (hv_arith rfl rfl rfl) ?_)
          refine hl_val rfl rfl (v := (.bool (r_2 == 6))) (hv_pick_t rfl hg8 rfl) ?_
          refine hl_val rfl rfl (v := (.bool (r_2 == 6))) (hv_move rfl) ?_
          rcases bool_or (r_2 == 6) with hg9 | hg9
          · replace H := H.1 hg9
            refine hl_yes (wanted_y rfl rfl rfl hg9) rfl (HStep.of_val (v := (.bool r0_1)) (hv_move rfl) ?_)
            refine hl_yes (wanted_y rfl rfl rfl hg9) rfl (HStep.of_val (v := (.bool (!r0_1))) (hv_not (b := r0_1) rfl) ?_)
            refine hl_val rfl rfl (v := (.bool (!r0_1))) (hv_pick_t rfl hg9 rfl) ?_
            refine hl_val rfl rfl (v := (.bool (!r0_1))) (hv_move rfl) ?_
            rcases bool_or (!r0_1) with hg10 | hg10
            · replace H := H.1 hg10
              refine hl_yes (wanted_y rfl rfl rfl hg10) rfl (HStep.of_val (v := (.int .i64 r1_1)) (hv_move rfl) ?_)
              refine hl_yes (wanted_y rfl rfl rfl hg10) rfl (HStep.of_val (v := (.bool (r1_1 == 6))) (hv_arith rfl rfl rfl) ?_)
              refine hl_val rfl rfl (v := (.bool (r1_1 == 6))) (hv_pick_t rfl hg10 rfl) ?_
              refine hl_val rfl rfl (v := (.bool (r1_1 == 6))) (hv_move rfl) ?_
              rcases bool_or (r1_1 == 6) with hg11 | hg11
              · replace H := H.1 hg11
                refine hl_yes (wanted_y rfl rfl rfl hg11) rfl (HStep.of_val (v := (.pointer none)) (hv_move rfl) ?_)
                refine hl_yes (wanted_y rfl rfl rfl hg11) rfl (HStep.of_val (v := (.int .i64 n)) (hv_move rfl) ?_)
                refine hl_yes (wanted_y rfl rfl rfl hg11) rfl (hs_call Ty.cb25 (vs := [(.pointer none), (.int .i64 n)]) rfl (HC.mono H ?_))
                rintro _ h11 ⟨r_3, rfl, H⟩
                refine hl_yes (wanted_y rfl rfl rfl hg11) rfl (HStep.of_val (v := (.bool (r_3 == 6))) (hv_arith rfl rfl rfl) ?_)
                refine hl_val rfl rfl (v := (.bool (r_3 == 6))) (hv_pick_t rfl hg11 rfl) ?_
                refine hl_val rfl rfl (v := (.bool (r_3 == 6))) (hv_move rfl) ?_
                rcases bool_or (r_3 == 6) with hg12 | hg12
                · replace H := H.1 hg12
                  refine hl_yes (wanted_y rfl rfl rfl hg12) rfl (HStep.of_val (v := (.pointer none)) (hv_move rfl) ?_)
                  refine hl_yes (wanted_y rfl rfl rfl hg12) rfl (HStep.of_val (v := (.int .i64 n)) (hv_move rfl) ?_)
                  refine hl_yes (wanted_y rfl rfl rfl hg12) rfl (hs_call Ty.cb26 (vs := [(.pointer none), (.int .i64 n)]) rfl (HC.mono H ?_))
                  rintro _ h12 ⟨r_4, rfl, H⟩
                  refine hl_yes (wanted_y rfl rfl rfl hg12) rfl (HStep.of_val (v := (.bool (!r_4))) (hv_not (b := r_4) rfl) ?_)
                  refine hl_val rfl rfl (v := (.bool (!r_4))) (hv_pick_t rfl hg12 rfl) ?_
                  refine hl_val rfl rfl (v := (.bool (!r_4))) (hv_move rfl) ?_
                  rcases bool_or (!r_4) with hg13 | hg13
                  · replace H := H.1 hg13
                    refine hl_yes (wanted_y rfl rfl rfl hg13) rfl (HStep.of_val (v := (.slice r0_2 r0_n r0_c)) (hv_move rfl) ?_)
                    refine hl_yes (wanted_y rfl rfl rfl hg13) rfl (HStep.of_val (v := (.int .i64 (r0_n : Int))) (hv_len (n := r0_n) Ty.u50 rfl) ?_)
                    refine hl_yes (wanted_y rfl rfl rfl hg13) rfl (HStep.of_val (v := (.bool ((r0_n : Int) == 0))) (hv_arith rfl rfl rfl) ?_)
                    refine hl_val rfl rfl (v := (.bool ((r0_n : Int) == 0))) (hv_pick_t rfl hg13 rfl) ?_
                    refine hl_val rfl rfl (v := (.bool ((r0_n : Int) == 0))) (hv_move rfl) ?_
                    rcases bool_or ((r0_n : Int) == 0) with hg14 | hg14
                    · replace H := H.1 hg14
                      refine hl_yes (wanted_y rfl rfl rfl hg14) rfl (HStep.of_val (v := (.int .i64 r1_2)) (hv_move rfl) ?_)
                      refine hl_yes (wanted_y rfl rfl rfl hg14) rfl (HStep.of_val (v := (.bool (r1_2 == 6))) (hv_arith rfl rfl rfl) ?_)
                      refine hl_val rfl rfl (v := (.bool (r1_2 == 6))) (hv_pick_t rfl hg14 rfl) ?_
                      refine hl_val rfl rfl (v := (.bool (r1_2 == 6))) (hv_move rfl) ?_
                      rcases bool_or (r1_2 == 6) with hg15 | hg15
                      · replace H := H.1 hg15
                        refine hl_yes (wanted_y rfl rfl rfl hg15) rfl (HStep.of_val (v := (.bool r1_3)) (hv_move rfl) ?_)
                        refine hl_yes (wanted_y rfl rfl rfl hg15) rfl (HStep.of_val (v := (.bool (!r1_3))) (hv_not (b := r1_3) rfl) ?_)
                        refine hl_val rfl rfl (v := (.bool (!r1_3))) (hv_pick_t rfl hg15 rfl) ?_
                        refine hl_val rfl rfl (v := (.bool (!r1_3))) (hv_move rfl) ?_
                        rcases bool_or (!r1_3) with hg16 | hg16
                        · replace H := H.1 hg16
                          obtain ⟨x_State, x_Sequence, x_Pins, x_Erases, hc23, hc24, hc25, hc26, H⟩ := H
                          refine hl_yes (wanted_y rfl rfl rfl hg16) rfl (HStep.of_val (v := (.agg #[(.int .i64 x_State), (.int .u64 x_Sequence), (.int .i64 x_Pins), (.int .i64 x_Erases)])) (hv_loads (vs := [(.int .i64 x_State), (.int .u64 x_Sequence), (.int .i64 x_Pins), (.int .i64 x_Erases)]) Ty.agg31 Ty.sz31 rfl (hcells_cons hc23 (hcells_cons hc24 (hcells_cons hc25 (hcells_cons hc26 hcells_nil))))) ?_)
                          refine hl_yes (wanted_y rfl rfl rfl hg16) rfl (HStep.of_val (v := (.agg #[(.int .i64 0), (.int .u64 0), (.int .i64 0), (.int .i64 0)])) (hv_build (vs := []) (cs := #[(.int .i64 0), (.int .u64 0), (.int .i64 0), (.int .i64 0)]) Ty.z31 Ty.pl31 rfl (by kernel_rfl)) ?_)
                          refine hl_yes (wanted_y rfl rfl rfl hg16) rfl (HStep.of_val (v := (.bool ((x_State == 0 && (x_Sequence == 0 && (x_Pins == 0 && (x_Erases == 0 && true))))))) (hv_structEq (xs := [(.int .i64 x_State), (.int .u64 x_Sequence), (.int .i64 x_Pins), (.int .i64 x_Erases)]) (ys := [(.int .i64 0), (.int .u64 0), (.int .i64 0), (.int .i64 0)]) (b := (x_State == 0 && (x_Sequence == 0 && (x_Pins == 0 && (x_Erases == 0 && true))))) Ty.se31 rfl rfl (by kernel_rfl) rfl) ?_)
                          refine hl_val rfl rfl (v := (.bool ((x_State == 0 && (x_Sequence == 0 && (x_Pins == 0 && (x_Erases == 0 && true))))))) (hv_pick_t rfl hg16 rfl) ?_
                          refine hl_val rfl rfl (v := (.bool ((x_State == 0 && (x_Sequence == 0 && (x_Pins == 0 && (x_Erases == 0 && true))))))) (hv_move rfl) ?_
                          rcases bool_or (((x_State == 0 && (x_Sequence == 0 && (x_Pins == 0 && (x_Erases == 0 && true)))))) with hg17 | hg17
                          · replace H := H.1 hg17
                            refine hl_yes (wanted_y rfl rfl rfl hg17) rfl (HStep.of_val (v := (.pointer none)) (hv_move rfl) ?_)
                            obtain ⟨r_5, hr18, H⟩ := H
                            refine hl_yes (wanted_y rfl rfl rfl hg17) rfl (HStep.of_val (v := (.int .u64 r_5)) (hv_call Ty.cb15 (vs := [(.pointer none)]) rfl hr18) ?_)
                            refine hl_yes (wanted_y rfl rfl rfl hg17) rfl (HStep.of_val (v := (.bool (r_5 == 0))) (hv_arith rfl rfl rfl) ?_)
                            refine hl_val rfl rfl (v := (.bool (r_5 == 0))) (hv_pick_t rfl hg17 rfl) ?_
                            refine hl_val rfl rfl (v := (.bool (r_5 == 0))) (hv_move rfl) ?_
                            rcases bool_or (r_5 == 0) with hg19 | hg19
                            · replace H := H.1 hg19
                              refine hl_yes (wanted_y rfl rfl rfl hg19) rfl (HStep.of_val (v := (.pointer none)) (hv_move rfl) ?_)
                              obtain ⟨r_6, hr20, H⟩ := H
                              refine hl_yes (wanted_y rfl rfl rfl hg19) rfl (HStep.of_val (v := (.int .i64 r_6)) (hv_call Ty.cb14 (vs := [(.pointer none)]) rfl hr20) ?_)
                              refine hl_yes (wanted_y rfl rfl rfl hg19) rfl (HStep.of_val (v := (.bool (r_6 == (-1)))) (hv_arith rfl rfl rfl) ?_)
                              refine hl_val rfl rfl (v := (.bool (r_6 == (-1)))) (hv_pick_t rfl hg19 rfl) ?_
                              refine hl_val rfl rfl (v := (.bool (r_6 == (-1)))) (hv_move rfl) ?_
                              rcases bool_or (r_6 == (-1)) with hg21 | hg21
                              · replace H := H.1 hg21
                                refine hl_yes (wanted_y rfl rfl rfl hg21) rfl (HStep.of_val (v := (.pointer none)) (hv_move rfl) ?_)
                                refine hl_yes (wanted_y rfl rfl rfl hg21) rfl (hs_call Ty.cb27 (vs := [(.pointer none)]) rfl (HC.mono H ?_))
                                rintro _ h13 ⟨r_7, r_n, r_c, rfl, H⟩
                                refine hl_yes (wanted_y rfl rfl rfl hg21) rfl (HStep.of_val (v := (.int .i64 (r_n : Int))) (hv_len (n := r_n) Ty.u50 rfl) ?_)
                                refine hl_yes (wanted_y rfl rfl rfl hg21) rfl (HStep.of_val (v := (.bool ((r_n : Int) == 0))) (hv_arith rfl rfl rfl) ?_)
                                refine hl_val rfl rfl (v := (.bool ((r_n : Int) == 0))) (hv_pick_t rfl hg21 rfl) ?_
                                refine hl_val rfl rfl (v := (.bool ((r_n : Int) == 0))) (hv_move rfl) ?_
                                rcases bool_or ((r_n : Int) == 0) with hg22 | hg22
                                · replace H := H.1 hg22
                                  refine hl_yes (wanted_y rfl rfl rfl hg22) rfl (HStep.of_val (v := (.pointer none)) (hv_move rfl) ?_)
                                  refine hl_yes (wanted_y rfl rfl rfl hg22) rfl (hs_call Ty.cb28 (vs := [(.pointer none)]) rfl (HC.mono H ?_))
                                  rintro _ h14 ⟨r_8, r_n_1, r_c_1, rfl, H⟩
                                  refine hl_yes (wanted_y rfl rfl rfl hg22) rfl (HStep.of_val (v := (.int .i64 (r_n_1 : Int))) (hv_len (n := r_n_1) Ty.u50 rfl) ?_)
                                  refine hl_yes (wanted_y rfl rfl rfl hg22) rfl (HStep.of_val (v := (.bool ((r_n_1 : Int) == 0))) (hv_arith rfl rfl rfl) ?_)
                                  refine hl_val rfl rfl (v := (.bool ((r_n_1 : Int) == 0))) (hv_pick_t rfl hg22 rfl) ?_
                                  refine hl_val rfl rfl (v := (.bool ((r_n_1 : Int) == 0))) (hv_assign rfl) ?_
                                  refine hl_nil ?_
                                  refine seqQ_n ?_
                                  exact ⟨_, H, (has_cons rfl has_nil)⟩
                                · replace H := H.2 hg22
                                  refine hl_no (wanted_n rfl rfl rfl hg22) rfl ?_
                                  refine hl_no (wanted_n rfl rfl rfl hg22) rfl ?_
                                  refine hl_no (wanted_n rfl rfl rfl hg22) rfl ?_
                                  refine hl_no (wanted_n rfl rfl rfl hg22) rfl ?_
                                  refine hl_val rfl rfl (v := (.bool false)) (hv_pick_f rfl hg22 rfl) ?_
                                  refine hl_val rfl rfl (v := (.bool false)) (hv_assign rfl) ?_
                                  refine hl_nil ?_
                                  refine seqQ_n ?_
                                  exact ⟨_, H, (has_cons rfl has_nil)⟩
                              · replace H := H.2 hg21
                                refine hl_no (wanted_n rfl rfl rfl hg21) rfl ?_
                                refine hl_no (wanted_n rfl rfl rfl hg21) rfl ?_
                                refine hl_no (wanted_n rfl rfl rfl hg21) rfl ?_
                                refine hl_no (wanted_n rfl rfl rfl hg21) rfl ?_
                                refine hl_val rfl rfl (v := (.bool false)) (hv_pick_f rfl hg21 rfl) ?_
                                refine hl_val rfl rfl (v := (.bool false)) (hv_move rfl) ?_
                                refine hl_no (wanted_n rfl rfl (c := false) rfl rfl) rfl ?_
                                refine hl_no (wanted_n rfl rfl (c := false) rfl rfl) rfl ?_
                                refine hl_no (wanted_n rfl rfl (c := false) rfl rfl) rfl ?_
                                refine hl_no (wanted_n rfl rfl (c := false) rfl rfl) rfl ?_
                                refine hl_val rfl rfl (v := (.bool false)) (hv_pick (t := false) rfl rfl) ?_
                                refine hl_val rfl rfl (v := (.bool false)) (hv_assign rfl) ?_
                                refine hl_nil ?_
                                refine seqQ_n ?_
                                exact ⟨_, H, (has_cons rfl has_nil)⟩
                            · replace H := H.2 hg19
                              refine hl_no (wanted_n rfl rfl rfl hg19) rfl ?_
                              refine hl_no (wanted_n rfl rfl rfl hg19) rfl ?_
                              refine hl_no (wanted_n rfl rfl rfl hg19) rfl ?_
                              refine hl_val rfl rfl (v := (.bool false)) (hv_pick_f rfl hg19 rfl) ?_
                              refine hl_val rfl rfl (v := (.bool false)) (hv_move rfl) ?_
                              refine hl_no (wanted_n rfl rfl (c := false) rfl rfl) rfl ?_
                              refine hl_no (wanted_n rfl rfl (c := false) rfl rfl) rfl ?_
                              refine hl_no (wanted_n rfl rfl (c := false) rfl rfl) rfl ?_
                              refine hl_no (wanted_n rfl rfl (c := false) rfl rfl) rfl ?_
                              refine hl_val rfl rfl (v := (.bool false)) (hv_pick (t := false) rfl rfl) ?_
                              refine hl_val rfl rfl (v := (.bool false)) (hv_move rfl) ?_
                              refine hl_no (wanted_n rfl rfl (c := false) rfl rfl) rfl ?_
                              refine hl_no (wanted_n rfl rfl (c := false) rfl rfl) rfl ?_
                              refine hl_no (wanted_n rfl rfl (c := false) rfl rfl) rfl ?_
                              refine hl_no (wanted_n rfl rfl (c := false) rfl rfl) rfl ?_
                              refine hl_val rfl rfl (v := (.bool false)) (hv_pick (t := false) rfl rfl) ?_
                              refine hl_val rfl rfl (v := (.bool false)) (hv_assign rfl) ?_
                              refine hl_nil ?_
                              refine seqQ_n ?_
                              exact ⟨_, H, (has_cons rfl has_nil)⟩
                          · replace H := H.2 hg17
                            refine hl_no (wanted_n rfl rfl rfl hg17) rfl ?_
                            refine hl_no (wanted_n rfl rfl rfl hg17) rfl ?_
                            refine hl_no (wanted_n rfl rfl rfl hg17) rfl ?_
                            refine hl_val rfl rfl (v := (.bool false)) (hv_pick_f rfl hg17 rfl) ?_
                            refine hl_val rfl rfl (v := (.bool false)) (hv_move rfl) ?_
                            refine hl_no (wanted_n rfl rfl (c := false) rfl rfl) rfl ?_
                            refine hl_no (wanted_n rfl rfl (c := false) rfl rfl) rfl ?_
                            refine hl_no (wanted_n rfl rfl (c := false) rfl rfl) rfl ?_
                            refine hl_val rfl rfl (v := (.bool false)) (hv_pick (t := false) rfl rfl) ?_
                            refine hl_val rfl rfl (v := (.bool false)) (hv_move rfl) ?_
                            refine hl_no (wanted_n rfl rfl (c := false) rfl rfl) rfl ?_
                            refine hl_no (wanted_n rfl rfl (c := false) rfl rfl) rfl ?_
                            refine hl_no (wanted_n rfl rfl (c := false) rfl rfl) rfl ?_
                            refine hl_no (wanted_n rfl rfl (c := false) rfl rfl) rfl ?_
                            refine hl_val rfl rfl (v := (.bool false)) (hv_pick (t := false) rfl rfl) ?_
                            refine hl_val rfl rfl (v := (.bool false)) (hv_move rfl) ?_
                            refine hl_no (wanted_n rfl rfl (c := false) rfl rfl) rfl ?_
                            refine hl_no (wanted_n rfl rfl (c := false) rfl rfl) rfl ?_
                            refine hl_no (wanted_n rfl rfl (c := false) rfl rfl) rfl ?_
                            refine hl_no (wanted_n rfl rfl (c := false) rfl rfl) rfl ?_
                            refine hl_val rfl rfl (v := (.bool false)) (hv_pick (t := false) rfl rfl) ?_
                            refine hl_val rfl rfl (v := (.bool false)) (hv_assign rfl) ?_
                            refine hl_nil ?_
                            refine seqQ_n ?_
                            exact ⟨_, H, (has_cons rfl has_nil)⟩
                        · replace H := H.2 hg16
                          refine hl_no (wanted_n rfl rfl rfl hg16) rfl ?_
                          refine hl_no (wanted_n rfl rfl rfl hg16) rfl ?_
                          refine hl_no (wanted_n rfl rfl rfl hg16) rfl ?_
                          refine hl_val rfl rfl (v := (.bool false)) (hv_pick_f rfl hg16 rfl) ?_
                          refine hl_val rfl rfl (v := (.bool false)) (hv_move rfl) ?_
                          refine hl_no (wanted_n rfl rfl (c := false) rfl rfl) rfl ?_
                          refine hl_no (wanted_n rfl rfl (c := false) rfl rfl) rfl ?_
                          refine hl_no (wanted_n rfl rfl (c := false) rfl rfl) rfl ?_
                          refine hl_val rfl rfl (v := (.bool false)) (hv_pick (t := false) rfl rfl) ?_
                          refine hl_val rfl rfl (v := (.bool false)) (hv_move rfl) ?_
                          refine hl_no (wanted_n rfl rfl (c := false) rfl rfl) rfl ?_
                          refine hl_no (wanted_n rfl rfl (c := false) rfl rfl) rfl ?_
                          refine hl_no (wanted_n rfl rfl (c := false) rfl rfl) rfl ?_
                          refine hl_val rfl rfl (v := (.bool false)) (hv_pick (t := false) rfl rfl) ?_
                          refine hl_val rfl rfl (v := (.bool false)) (hv_move rfl) ?_
                          refine hl_no (wanted_n rfl rfl (c := false) rfl rfl) rfl ?_
                          refine hl_no (wanted_n rfl rfl (c := false) rfl rfl) rfl ?_
                          refine hl_no (wanted_n rfl rfl (c := false) rfl rfl) rfl ?_
                          refine hl_no (wanted_n rfl rfl (c := false) rfl rfl) rfl ?_
                          refine hl_val rfl rfl (v := (.bool false)) (hv_pick (t := false) rfl rfl) ?_
                          refine hl_val rfl rfl (v := (.bool false)) (hv_move rfl) ?_
                          refine hl_no (wanted_n rfl rfl (c := false) rfl rfl) rfl ?_
                          refine hl_no (wanted_n rfl rfl (c := false) rfl rfl) rfl ?_
                          refine hl_no (wanted_n rfl rfl (c := false) rfl rfl) rfl ?_
                          refine hl_no (wanted_n rfl rfl (c := false) rfl rfl) rfl ?_
                          refine hl_val rfl rfl (v := (.bool false)) (hv_pick (t := false) rfl rfl) ?_
                          refine hl_val rfl rfl (v := (.bool false)) (hv_assign rfl) ?_
                          refine hl_nil ?_
                          refine seqQ_n ?_
                          exact ⟨_, H, (has_cons rfl has_nil)⟩
                      · replace H := H.2 hg15
                        refine hl_no (wanted_n rfl rfl rfl hg15) rfl ?_
                        refine hl_no (wanted_n rfl rfl rfl hg15) rfl ?_
                        refine hl_val rfl rfl (v := (.bool false)) (hv_pick_f rfl hg15 rfl) ?_
                        refine hl_val rfl rfl (v := (.bool false)) (hv_move rfl) ?_
                        refine hl_no (wanted_n rfl rfl (c := false) rfl rfl) rfl ?_
                        refine hl_no (wanted_n rfl rfl (c := false) rfl rfl) rfl ?_
                        refine hl_no (wanted_n rfl rfl (c := false) rfl rfl) rfl ?_
                        refine hl_val rfl rfl (v := (.bool false)) (hv_pick (t := false) rfl rfl) ?_
                        refine hl_val rfl rfl (v := (.bool false)) (hv_move rfl) ?_
                        refine hl_no (wanted_n rfl rfl (c := false) rfl rfl) rfl ?_
                        refine hl_no (wanted_n rfl rfl (c := false) rfl rfl) rfl ?_
                        refine hl_no (wanted_n rfl rfl (c := false) rfl rfl) rfl ?_
                        refine hl_val rfl rfl (v := (.bool false)) (hv_pick (t := false) rfl rfl) ?_
                        refine hl_val rfl rfl (v := (.bool false)) (hv_move rfl) ?_
                        refine hl_no (wanted_n rfl rfl (c := false) rfl rfl) rfl ?_
                        refine hl_no (wanted_n rfl rfl (c := false) rfl rfl) rfl ?_
                        refine hl_no (wanted_n rfl rfl (c := false) rfl rfl) rfl ?_
                        refine hl_val rfl rfl (v := (.bool false)) (hv_pick (t := false) rfl rfl) ?_
                        refine hl_val rfl rfl (v := (.bool false)) (hv_move rfl) ?_
                        refine hl_no (wanted_n rfl rfl (c := false) rfl rfl) rfl ?_
                        refine hl_no (wanted_n rfl rfl (c := false) rfl rfl) rfl ?_
                        refine hl_no (wanted_n rfl rfl (c := false) rfl rfl) rfl ?_
                        refine hl_no (wanted_n rfl rfl (c := false) rfl rfl) rfl ?_
                        refine hl_val rfl rfl (v := (.bool false)) (hv_pick (t := false) rfl rfl) ?_
                        refine hl_val rfl rfl (v := (.bool false)) (hv_move rfl) ?_
                        refine hl_no (wanted_n rfl rfl (c := false) rfl rfl) rfl ?_
                        refine hl_no (wanted_n rfl rfl (c := false) rfl rfl) rfl ?_
                        refine hl_no (wanted_n rfl rfl (c := false) rfl rfl) rfl ?_
                        refine hl_no (wanted_n rfl rfl (c := false) rfl rfl) rfl ?_
                        refine hl_val rfl rfl (v := (.bool false)) (hv_pick (t := false) rfl rfl) ?_
                        refine hl_val rfl rfl (v := (.bool false)) (hv_assign rfl) ?_
                        refine hl_nil ?_
                        refine seqQ_n ?_
                        exact ⟨_, H, (has_cons rfl has_nil)⟩
                    · replace H := H.2 hg14
                      refine hl_no (wanted_n rfl rfl rfl hg14) rfl ?_
                      refine hl_no (wanted_n rfl rfl rfl hg14) rfl ?_
                      refine hl_val rfl rfl (v := (.bool false)) (hv_pick_f rfl hg14 rfl) ?_
                      refine hl_val rfl rfl (v := (.bool false)) (hv_move rfl) ?_
                      refine hl_no (wanted_n rfl rfl (c := false) rfl rfl) rfl ?_
                      refine hl_no (wanted_n rfl rfl (c := false) rfl rfl) rfl ?_
                      refine hl_val rfl rfl (v := (.bool false)) (hv_pick (t := false) rfl rfl) ?_
                      refine hl_val rfl rfl (v := (.bool false)) (hv_move rfl) ?_
                      refine hl_no (wanted_n rfl rfl (c := false) rfl rfl) rfl ?_
                      refine hl_no (wanted_n rfl rfl (c := false) rfl rfl) rfl ?_
                      refine hl_no (wanted_n rfl rfl (c := false) rfl rfl) rfl ?_
                      refine hl_val rfl rfl (v := (.bool false)) (hv_pick (t := false) rfl rfl) ?_
                      refine hl_val rfl rfl (v := (.bool false)) (hv_move rfl) ?_
                      refine hl_no (wanted_n rfl rfl (c := false) rfl rfl) rfl ?_
                      refine hl_no (wanted_n rfl rfl (c := false) rfl rfl) rfl ?_
                      refine hl_no (wanted_n rfl rfl (c := false) rfl rfl) rfl ?_
                      refine hl_val rfl rfl (v := (.bool false)) (hv_pick (t := false) rfl rfl) ?_
                      refine hl_val rfl rfl (v := (.bool false)) (hv_move rfl) ?_
                      refine hl_no (wanted_n rfl rfl (c := false) rfl rfl) rfl ?_
                      refine hl_no (wanted_n rfl rfl (c := false) rfl rfl) rfl ?_
                      refine hl_no (wanted_n rfl rfl (c := false) rfl rfl) rfl ?_
                      refine hl_val rfl rfl (v := (.bool false)) (hv_pick (t := false) rfl rfl) ?_
                      refine hl_val rfl rfl (v := (.bool false)) (hv_move rfl) ?_
                      refine hl_no (wanted_n rfl rfl (c := false) rfl rfl) rfl ?_
                      refine hl_no (wanted_n rfl rfl (c := false) rfl rfl) rfl ?_
                      refine hl_no (wanted_n rfl rfl (c := false) rfl rfl) rfl ?_
                      refine hl_no (wanted_n rfl rfl (c := false) rfl rfl) rfl ?_
                      refine hl_val rfl rfl (v := (.bool false)) (hv_pick (t := false) rfl rfl) ?_
                      refine hl_val rfl rfl (v := (.bool false)) (hv_move rfl) ?_
                      refine hl_no (wanted_n rfl rfl (c := false) rfl rfl) rfl ?_
                      refine hl_no (wanted_n rfl rfl (c := false) rfl rfl) rfl ?_
                      refine hl_no (wanted_n rfl rfl (c := false) rfl rfl) rfl ?_
                      refine hl_no (wanted_n rfl rfl (c := false) rfl rfl) rfl ?_
                      refine hl_val rfl rfl (v := (.bool false)) (hv_pick (t := false) rfl rfl) ?_
                      refine hl_val rfl rfl (v := (.bool false)) (hv_assign rfl) ?_
                      refine hl_nil ?_
                      refine seqQ_n ?_
                      exact ⟨_, H, (has_cons rfl has_nil)⟩
                  · replace H := H.2 hg13
                    refine hl_no (wanted_n rfl rfl rfl hg13) rfl ?_
                    refine hl_no (wanted_n rfl rfl rfl hg13) rfl ?_
                    refine hl_no (wanted_n rfl rfl rfl hg13) rfl ?_
                    refine hl_val rfl rfl (v := (.bool false)) (hv_pick_f rfl hg13 rfl) ?_
                    refine hl_val rfl rfl (v := (.bool false)) (hv_move rfl) ?_
                    refine hl_no (wanted_n rfl rfl (c := false) rfl rfl) rfl ?_
                    refine hl_no (wanted_n rfl rfl (c := false) rfl rfl) rfl ?_
                    refine hl_val rfl rfl (v := (.bool false)) (hv_pick (t := false) rfl rfl) ?_
                    refine hl_val rfl rfl (v := (.bool false)) (hv_move rfl) ?_
                    refine hl_no (wanted_n rfl rfl (c := false) rfl rfl) rfl ?_
                    refine hl_no (wanted_n rfl rfl (c := false) rfl rfl) rfl ?_
                    refine hl_val rfl rfl (v := (.bool false)) (hv_pick (t := false) rfl rfl) ?_
                    refine hl_val rfl rfl (v := (.bool false)) (hv_move rfl) ?_
                    refine hl_no (wanted_n rfl rfl (c := false) rfl rfl) rfl ?_
                    refine hl_no (wanted_n rfl rfl (c := false) rfl rfl) rfl ?_
                    refine hl_no (wanted_n rfl rfl (c := false) rfl rfl) rfl ?_
                    refine hl_val rfl rfl (v := (.bool false)) (hv_pick (t := false) rfl rfl) ?_
                    refine hl_val rfl rfl (v := (.bool false)) (hv_move rfl) ?_
                    refine hl_no (wanted_n rfl rfl (c := false) rfl rfl) rfl ?_
                    refine hl_no (wanted_n rfl rfl (c := false) rfl rfl) rfl ?_
                    refine hl_no (wanted_n rfl rfl (c := false) rfl rfl) rfl ?_
                    refine hl_val rfl rfl (v := (.bool false)) (hv_pick (t := false) rfl rfl) ?_
                    refine hl_val rfl rfl (v := (.bool false)) (hv_move rfl) ?_
                    refine hl_no (wanted_n rfl rfl (c := false) rfl rfl) rfl ?_
                    refine hl_no (wanted_n rfl rfl (c := false) rfl rfl) rfl ?_
                    refine hl_no (wanted_n rfl rfl (c := false) rfl rfl) rfl ?_
                    refine hl_val rfl rfl (v := (.bool false)) (hv_pick (t := false) rfl rfl) ?_
                    refine hl_val rfl rfl (v := (.bool false)) (hv_move rfl) ?_
                    refine hl_no (wanted_n rfl rfl (c := false) rfl rfl) rfl ?_
                    refine hl_no (wanted_n rfl rfl (c := false) rfl rfl) rfl ?_
                    refine hl_no (wanted_n rfl rfl (c := false) rfl rfl) rfl ?_
                    refine hl_no (wanted_n rfl rfl (c := false) rfl rfl) rfl ?_
                    refine hl_val rfl rfl (v := (.bool false)) (hv_pick (t := false) rfl rfl) ?_
                    refine hl_val rfl rfl (v := (.bool false)) (hv_move rfl) ?_
                    refine hl_no (wanted_n rfl rfl (c := false) rfl rfl) rfl ?_
                    refine hl_no (wanted_n rfl rfl (c := false) rfl rfl) rfl ?_
                    refine hl_no (wanted_n rfl rfl (c := false) rfl rfl) rfl ?_
                    refine hl_no (wanted_n rfl rfl (c := false) rfl rfl) rfl ?_
                    refine hl_val rfl rfl (v := (.bool false)) (hv_pick (t := false) rfl rfl) ?_
                    refine hl_val rfl rfl (v := (.bool false)) (hv_assign rfl) ?_
                    refine hl_nil ?_
                    refine seqQ_n ?_
                    exact ⟨_, H, (has_cons rfl has_nil)⟩
                · replace H := H.2 hg12
                  refine hl_no (wanted_n rfl rfl rfl hg12) rfl ?_
                  refine hl_no (wanted_n rfl rfl rfl hg12) rfl ?_
                  refine hl_no (wanted_n rfl rfl rfl hg12) rfl ?_
                  refine hl_no (wanted_n rfl rfl rfl hg12) rfl ?_
                  refine hl_val rfl rfl (v := (.bool false)) (hv_pick_f rfl hg12 rfl) ?_
                  refine hl_val rfl rfl (v := (.bool false)) (hv_move rfl) ?_
                  refine hl_no (wanted_n rfl rfl (c := false) rfl rfl) rfl ?_
                  refine hl_no (wanted_n rfl rfl (c := false) rfl rfl) rfl ?_
                  refine hl_no (wanted_n rfl rfl (c := false) rfl rfl) rfl ?_
                  refine hl_val rfl rfl (v := (.bool false)) (hv_pick (t := false) rfl rfl) ?_
                  refine hl_val rfl rfl (v := (.bool false)) (hv_move rfl) ?_
                  refine hl_no (wanted_n rfl rfl (c := false) rfl rfl) rfl ?_
                  refine hl_no (wanted_n rfl rfl (c := false) rfl rfl) rfl ?_
                  refine hl_val rfl rfl (v := (.bool false)) (hv_pick (t := false) rfl rfl) ?_
                  refine hl_val rfl rfl (v := (.bool false)) (hv_move rfl) ?_
                  refine hl_no (wanted_n rfl rfl (c := false) rfl rfl) rfl ?_
                  refine hl_no (wanted_n rfl rfl (c := false) rfl rfl) rfl ?_
                  refine hl_val rfl rfl (v := (.bool false)) (hv_pick (t := false) rfl rfl) ?_
                  refine hl_val rfl rfl (v := (.bool false)) (hv_move rfl) ?_
                  refine hl_no (wanted_n rfl rfl (c := false) rfl rfl) rfl ?_
                  refine hl_no (wanted_n rfl rfl (c := false) rfl rfl) rfl ?_
                  refine hl_no (wanted_n rfl rfl (c := false) rfl rfl) rfl ?_
                  refine hl_val rfl rfl (v := (.bool false)) (hv_pick (t := false) rfl rfl) ?_
                  refine hl_val rfl rfl (v := (.bool false)) (hv_move rfl) ?_
                  refine hl_no (wanted_n rfl rfl (c := false) rfl rfl) rfl ?_
                  refine hl_no (wanted_n rfl rfl (c := false) rfl rfl) rfl ?_
                  refine hl_no (wanted_n rfl rfl (c := false) rfl rfl) rfl ?_
                  refine hl_val rfl rfl (v := (.bool false)) (hv_pick (t := false) rfl rfl) ?_
                  refine hl_val rfl rfl (v := (.bool false)) (hv_move rfl) ?_
                  refine hl_no (wanted_n rfl rfl (c := false) rfl rfl) rfl ?_
                  refine hl_no (wanted_n rfl rfl (c := false) rfl rfl) rfl ?_
                  refine hl_no (wanted_n rfl rfl (c := false) rfl rfl) rfl ?_
                  refine hl_val rfl rfl (v := (.bool false)) (hv_pick (t := false) rfl rfl) ?_
                  refine hl_val rfl rfl (v := (.bool false)) (hv_move rfl) ?_
                  refine hl_no (wanted_n rfl rfl (c := false) rfl rfl) rfl ?_
                  refine hl_no (wanted_n rfl rfl (c := false) rfl rfl) rfl ?_
                  refine hl_no (wanted_n rfl rfl (c := false) rfl rfl) rfl ?_
                  refine hl_no (wanted_n rfl rfl (c := false) rfl rfl) rfl ?_
                  refine hl_val rfl rfl (v := (.bool false)) (hv_pick (t := false) rfl rfl) ?_
                  refine hl_val rfl rfl (v := (.bool false)) (hv_move rfl) ?_
                  refine hl_no (wanted_n rfl rfl (c := false) rfl rfl) rfl ?_
                  refine hl_no (wanted_n rfl rfl (c := false) rfl rfl) rfl ?_
                  refine hl_no (wanted_n rfl rfl (c := false) rfl rfl) rfl ?_
                  refine hl_no (wanted_n rfl rfl (c := false) rfl rfl) rfl ?_
                  refine hl_val rfl rfl (v := (.bool false)) (hv_pick (t := false) rfl rfl) ?_
                  refine hl_val rfl rfl (v := (.bool false)) (hv_assign rfl) ?_
                  refine hl_nil ?_
                  refine seqQ_n ?_
                  exact ⟨_, H, (has_cons rfl has_nil)⟩
              · replace H := H.2 hg11
                refine hl_no (wanted_n rfl rfl rfl hg11) rfl ?_
                refine hl_no (wanted_n rfl rfl rfl hg11) rfl ?_
                refine hl_no (wanted_n rfl rfl rfl hg11) rfl ?_
                refine hl_no (wanted_n rfl rfl rfl hg11) rfl ?_
                refine hl_val rfl rfl (v := (.bool false)) (hv_pick_f rfl hg11 rfl) ?_
                refine hl_val rfl rfl (v := (.bool false)) (hv_move rfl) ?_
                refine hl_no (wanted_n rfl rfl (c := false) rfl rfl) rfl ?_
                refine hl_no (wanted_n rfl rfl (c := false) rfl rfl) rfl ?_
                refine hl_no (wanted_n rfl rfl (c := false) rfl rfl) rfl ?_
                refine hl_no (wanted_n rfl rfl (c := false) rfl rfl) rfl ?_
                refine hl_val rfl rfl (v := (.bool false)) (hv_pick (t := false) rfl rfl) ?_
                refine hl_val rfl rfl (v := (.bool false)) (hv_move rfl) ?_
                refine hl_no (wanted_n rfl rfl (c := false) rfl rfl) rfl ?_
                refine hl_no (wanted_n rfl rfl (c := false) rfl rfl) rfl ?_
                refine hl_no (wanted_n rfl rfl (c := false) rfl rfl) rfl ?_
                refine hl_val rfl rfl (v := (.bool false)) (hv_pick (t := false) rfl rfl) ?_
                refine hl_val rfl rfl (v := (.bool false)) (hv_move rfl) ?_
                refine hl_no (wanted_n rfl rfl (c := false) rfl rfl) rfl ?_
                refine hl_no (wanted_n rfl rfl (c := false) rfl rfl) rfl ?_
                refine hl_val rfl rfl (v := (.bool false)) (hv_pick (t := false) rfl rfl) ?_
                refine hl_val rfl rfl (v := (.bool false)) (hv_move rfl) ?_
                refine hl_no (wanted_n rfl rfl (c := false) rfl rfl) rfl ?_
                refine hl_no (wanted_n rfl rfl (c := false) rfl rfl) rfl ?_
                refine hl_val rfl rfl (v := (.bool false)) (hv_pick (t := false) rfl rfl) ?_
                refine hl_val rfl rfl (v := (.bool false)) (hv_move rfl) ?_
                refine hl_no (wanted_n rfl rfl (c := false) rfl rfl) rfl ?_
                refine hl_no (wanted_n rfl rfl (c := false) rfl rfl) rfl ?_
                refine hl_no (wanted_n rfl rfl (c := false) rfl rfl) rfl ?_
                refine hl_val rfl rfl (v := (.bool false)) (hv_pick (t := false) rfl rfl) ?_
                refine hl_val rfl rfl (v := (.bool false)) (hv_move rfl) ?_
                refine hl_no (wanted_n rfl rfl (c := false) rfl rfl) rfl ?_
                refine hl_no (wanted_n rfl rfl (c := false) rfl rfl) rfl ?_
                refine hl_no (wanted_n rfl rfl (c := false) rfl rfl) rfl ?_
                refine hl_val rfl rfl (v := (.bool false)) (hv_pick (t := false) rfl rfl) ?_
                refine hl_val rfl rfl (v := (.bool false)) (hv_move rfl) ?_
                refine hl_no (wanted_n rfl rfl (c := false) rfl rfl) rfl ?_
                refine hl_no (wanted_n rfl rfl (c := false) rfl rfl) rfl ?_
                refine hl_no (wanted_n rfl rfl (c := false) rfl rfl) rfl ?_
                refine hl_val rfl rfl (v := (.bool false)) (hv_pick (t := false) rfl rfl) ?_
                refine hl_val rfl rfl (v := (.bool false)) (hv_move rfl) ?_
                refine hl_no (wanted_n rfl rfl (c := false) rfl rfl) rfl ?_
                refine hl_no (wanted_n rfl rfl (c := false) rfl rfl) rfl ?_
                refine hl_no (wanted_n rfl rfl (c := false) rfl rfl) rfl ?_
                refine hl_no (wanted_n rfl rfl (c := false) rfl rfl) rfl ?_
                refine hl_val rfl rfl (v := (.bool false)) (hv_pick (t := false) rfl rfl) ?_
                refine hl_val rfl rfl (v := (.bool false)) (hv_move rfl) ?_
                refine hl_no (wanted_n rfl rfl (c := false) rfl rfl) rfl ?_
                refine hl_no (wanted_n rfl rfl (c := false) rfl rfl) rfl ?_
                refine hl_no (wanted_n rfl rfl (c := false) rfl rfl) rfl ?_
                refine hl_no (wanted_n rfl rfl (c := false) rfl rfl) rfl ?_
                refine hl_val rfl rfl (v := (.bool false)) (hv_pick (t := false) rfl rfl) ?_
                refine hl_val rfl rfl (v := (.bool false)) (hv_assign rfl) ?_
                refine hl_nil ?_
                refine seqQ_n ?_
                exact ⟨_, H, (has_cons rfl has_nil)⟩
            · replace H := H.2 hg10
              refine hl_no (wanted_n rfl rfl rfl hg10) rfl ?_
              refine hl_no (wanted_n rfl rfl rfl hg10) rfl ?_
              refine hl_val rfl rfl (v := (.bool false)) (hv_pick_f rfl hg10 rfl) ?_
              refine hl_val rfl rfl (v := (.bool false)) (hv_move rfl) ?_
              refine hl_no (wanted_n rfl rfl (c := false) rfl rfl) rfl ?_
              refine hl_no (wanted_n rfl rfl (c := false) rfl rfl) rfl ?_
              refine hl_no (wanted_n rfl rfl (c := false) rfl rfl) rfl ?_
              refine hl_no (wanted_n rfl rfl (c := false) rfl rfl) rfl ?_
              refine hl_val rfl rfl (v := (.bool false)) (hv_pick (t := false) rfl rfl) ?_
              refine hl_val rfl rfl (v := (.bool false)) (hv_move rfl) ?_
              refine hl_no (wanted_n rfl rfl (c := false) rfl rfl) rfl ?_
              refine hl_no (wanted_n rfl rfl (c := false) rfl rfl) rfl ?_
              refine hl_no (wanted_n rfl rfl (c := false) rfl rfl) rfl ?_
              refine hl_no (wanted_n rfl rfl (c := false) rfl rfl) rfl ?_
              refine hl_val rfl rfl (v := (.bool false)) (hv_pick (t := false) rfl rfl) ?_
              refine hl_val rfl rfl (v := (.bool false)) (hv_move rfl) ?_
              refine hl_no (wanted_n rfl rfl (c := false) rfl rfl) rfl ?_
              refine hl_no (wanted_n rfl rfl (c := false) rfl rfl) rfl ?_
              refine hl_no (wanted_n rfl rfl (c := false) rfl rfl) rfl ?_
              refine hl_val rfl rfl (v := (.bool false)) (hv_pick (t := false) rfl rfl) ?_
              refine hl_val rfl rfl (v := (.bool false)) (hv_move rfl) ?_
              refine hl_no (wanted_n rfl rfl (c := false) rfl rfl) rfl ?_
              refine hl_no (wanted_n rfl rfl (c := false) rfl rfl) rfl ?_
              refine hl_val rfl rfl (v := (.bool false)) (hv_pick (t := false) rfl rfl) ?_
              refine hl_val rfl rfl (v := (.bool false)) (hv_move rfl) ?_
              refine hl_no (wanted_n rfl rfl (c := false) rfl rfl) rfl ?_
              refine hl_no (wanted_n rfl rfl (c := false) rfl rfl) rfl ?_
              refine hl_val rfl rfl (v := (.bool false)) (hv_pick (t := false) rfl rfl) ?_
              refine hl_val rfl rfl (v := (.bool false)) (hv_move rfl) ?_
              refine hl_no (wanted_n rfl rfl (c := false) rfl rfl) rfl ?_
              refine hl_no (wanted_n rfl rfl (c := false) rfl rfl) rfl ?_
              refine hl_no (wanted_n rfl rfl (c := false) rfl rfl) rfl ?_
              refine hl_val rfl rfl (v := (.bool false)) (hv_pick (t := false) rfl rfl) ?_
              refine hl_val rfl rfl (v := (.bool false)) (hv_move rfl) ?_
              refine hl_no (wanted_n rfl rfl (c := false) rfl rfl) rfl ?_
              refine hl_no (wanted_n rfl rfl (c := false) rfl rfl) rfl ?_
              refine hl_no (wanted_n rfl rfl (c := false) rfl rfl) rfl ?_
              refine hl_val rfl rfl (v := (.bool false)) (hv_pick (t := false) rfl rfl) ?_
              refine hl_val rfl rfl (v := (.bool false)) (hv_move rfl) ?_
              refine hl_no (wanted_n rfl rfl (c := false) rfl rfl) rfl ?_
              refine hl_no (wanted_n rfl rfl (c := false) rfl rfl) rfl ?_
              refine hl_no (wanted_n rfl rfl (c := false) rfl rfl) rfl ?_
              refine hl_val rfl rfl (v := (.bool false)) (hv_pick (t := false) rfl rfl) ?_
              refine hl_val rfl rfl (v := (.bool false)) (hv_move rfl) ?_
              refine hl_no (wanted_n rfl rfl (c := false) rfl rfl) rfl ?_
              refine hl_no (wanted_n rfl rfl (c := false) rfl rfl) rfl ?_
              refine hl_no (wanted_n rfl rfl (c := false) rfl rfl) rfl ?_
              refine hl_no (wanted_n rfl rfl (c := false) rfl rfl) rfl ?_
              refine hl_val rfl rfl (v := (.bool false)) (hv_pick (t := false) rfl rfl) ?_
              refine hl_val rfl rfl (v := (.bool false)) (hv_move rfl) ?_
              refine hl_no (wanted_n rfl rfl (c := false) rfl rfl) rfl ?_
              refine hl_no (wanted_n rfl rfl (c := false) rfl rfl) rfl ?_
              refine hl_no (wanted_n rfl rfl (c := false) rfl rfl) rfl ?_
              refine hl_no (wanted_n rfl rfl (c := false) rfl rfl) rfl ?_
              refine hl_val rfl rfl (v := (.bool false)) (hv_pick (t := false) rfl rfl) ?_
              refine hl_val rfl rfl (v := (.bool false)) (hv_assign rfl) ?_
              refine hl_nil ?_
              refine seqQ_n ?_
              exact ⟨_, H, (has_cons rfl has_nil)⟩
          · replace H := H.2 hg9
            refine hl_no (wanted_n rfl rfl rfl hg9) rfl ?_
            refine hl_no (wanted_n rfl rfl rfl hg9) rfl ?_
            refine hl_val rfl rfl (v := (.bool false)) (hv_pick_f rfl hg9 rfl) ?_
            refine hl_val rfl rfl (v := (.bool false)) (hv_move rfl) ?_
            refine hl_no (wanted_n rfl rfl (c := false) rfl rfl) rfl ?_
            refine hl_no (wanted_n rfl rfl (c := false) rfl rfl) rfl ?_
            refine hl_val rfl rfl (v := (.bool false)) (hv_pick (t := false) rfl rfl) ?_
            refine hl_val rfl rfl (v := (.bool false)) (hv_move rfl) ?_
            refine hl_no (wanted_n rfl rfl (c := false) rfl rfl) rfl ?_
            refine hl_no (wanted_n rfl rfl (c := false) rfl rfl) rfl ?_
            refine hl_no (wanted_n rfl rfl (c := false) rfl rfl) rfl ?_
            refine hl_no (wanted_n rfl rfl (c := false) rfl rfl) rfl ?_
            refine hl_val rfl rfl (v := (.bool false)) (hv_pick (t := false) rfl rfl) ?_
            refine hl_val rfl rfl (v := (.bool false)) (hv_move rfl) ?_
            refine hl_no (wanted_n rfl rfl (c := false) rfl rfl) rfl ?_
            refine hl_no (wanted_n rfl rfl (c := false) rfl rfl) rfl ?_
            refine hl_no (wanted_n rfl rfl (c := false) rfl rfl) rfl ?_
            refine hl_no (wanted_n rfl rfl (c := false) rfl rfl) rfl ?_
            refine hl_val rfl rfl (v := (.bool false)) (hv_pick (t := false) rfl rfl) ?_
            refine hl_val rfl rfl (v := (.bool false)) (hv_move rfl) ?_
            refine hl_no (wanted_n rfl rfl (c := false) rfl rfl) rfl ?_
            refine hl_no (wanted_n rfl rfl (c := false) rfl rfl) rfl ?_
            refine hl_no (wanted_n rfl rfl (c := false) rfl rfl) rfl ?_
            refine hl_val rfl rfl (v := (.bool false)) (hv_pick (t := false) rfl rfl) ?_
            refine hl_val rfl rfl (v := (.bool false)) (hv_move rfl) ?_
            refine hl_no (wanted_n rfl rfl (c := false) rfl rfl) rfl ?_
            refine hl_no (wanted_n rfl rfl (c := false) rfl rfl) rfl ?_
            refine hl_val rfl rfl (v := (.bool false)) (hv_pick (t := false) rfl rfl) ?_
            refine hl_val rfl rfl (v := (.bool false)) (hv_move rfl) ?_
            refine hl_no (wanted_n rfl rfl (c := false) rfl rfl) rfl ?_
            refine hl_no (wanted_n rfl rfl (c := false) rfl rfl) rfl ?_
            refine hl_val rfl rfl (v := (.bool false)) (hv_pick (t := false) rfl rfl) ?_
            refine hl_val rfl rfl (v := (.bool false)) (hv_move rfl) ?_
            refine hl_no (wanted_n rfl rfl (c := false) rfl rfl) rfl ?_
            refine hl_no (wanted_n rfl rfl (c := false) rfl rfl) rfl ?_
            refine hl_no (wanted_n rfl rfl (c := false) rfl rfl) rfl ?_
            refine hl_val rfl rfl (v := (.bool false)) (hv_pick (t := false) rfl rfl) ?_
            refine hl_val rfl rfl (v := (.bool false)) (hv_move rfl) ?_
            refine hl_no (wanted_n rfl rfl (c := false) rfl rfl) rfl ?_
            refine hl_no (wanted_n rfl rfl (c := false) rfl rfl) rfl ?_
            refine hl_no (wanted_n rfl rfl (c := false) rfl rfl) rfl ?_
            refine hl_val rfl rfl (v := (.bool false)) (hv_pick (t := false) rfl rfl) ?_
            refine hl_val rfl rfl (v := (.bool false)) (hv_move rfl) ?_
            refine hl_no (wanted_n rfl rfl (c := false) rfl rfl) rfl ?_
            refine hl_no (wanted_n rfl rfl (c := false) rfl rfl) rfl ?_
            refine hl_no (wanted_n rfl rfl (c := false) rfl rfl) rfl ?_
            refine hl_val rfl rfl (v := (.bool false)) (hv_pick (t := false) rfl rfl) ?_
            refine hl_val rfl rfl (v := (.bool false)) (hv_move rfl) ?_
            refine hl_no (wanted_n rfl rfl (c := false) rfl rfl) rfl ?_
            refine hl_no (wanted_n rfl rfl (c := false) rfl rfl) rfl ?_
            refine hl_no (wanted_n rfl rfl (c := false) rfl rfl) rfl ?_
            refine hl_no (wanted_n rfl rfl (c := false) rfl rfl) rfl ?_
            refine hl_val rfl rfl (v := (.bool false)) (hv_pick (t := false) rfl rfl) ?_
            refine hl_val rfl rfl (v := (.bool false)) (hv_move rfl) ?_
            refine hl_no (wanted_n rfl rfl (c := false) rfl rfl) rfl ?_
            refine hl_no (wanted_n rfl rfl (c := false) rfl rfl) rfl ?_
            refine hl_no (wanted_n rfl rfl (c := false) rfl rfl) rfl ?_
            refine hl_no (wanted_n rfl rfl (c := false) rfl rfl) rfl ?_
            refine hl_val rfl rfl (v := (.bool false)) (hv_pick (t := false) rfl rfl) ?_
            refine hl_val rfl rfl (v := (.bool false)) (hv_assign rfl) ?_
            refine hl_nil ?_
            refine seqQ_n ?_
            exact ⟨_, H, (has_cons rfl has_nil)⟩
        · replace H := H.2 hg8
          refine hl_no (wanted_n rfl rfl rfl hg8) rfl ?_
          refine hl_no (wanted_n rfl rfl rfl hg8) rfl ?_
          refine hl_no (wanted_n rfl rfl rfl hg8) rfl ?_
          refine hl_no (wanted_n rfl rfl rfl hg8) rfl ?_
          refine hl_val rfl rfl (v := (.bool false)) (hv_pick_f rfl hg8 rfl) ?_
          refine hl_val rfl rfl (v := (.bool false)) (hv_move rfl) ?_
          refine hl_no (wanted_n rfl rfl (c := false) rfl rfl) rfl ?_
          refine hl_no (wanted_n rfl rfl (c := false) rfl rfl) rfl ?_
          refine hl_val rfl rfl (v := (.bool false)) (hv_pick (t := false) rfl rfl) ?_
          refine hl_val rfl rfl (v := (.bool false)) (hv_move rfl) ?_
          refine hl_no (wanted_n rfl rfl (c := false) rfl rfl) rfl ?_
          refine hl_no (wanted_n rfl rfl (c := false) rfl rfl) rfl ?_
          refine hl_val rfl rfl (v := (.bool false)) (hv_pick (t := false) rfl rfl) ?_
          refine hl_val rfl rfl (v := (.bool false)) (hv_move rfl) ?_
          refine hl_no (wanted_n rfl rfl (c := false) rfl rfl) rfl ?_
          refine hl_no (wanted_n rfl rfl (c := false) rfl rfl) rfl ?_
          refine hl_no (wanted_n rfl rfl (c := false) rfl rfl) rfl ?_
          refine hl_no (wanted_n rfl rfl (c := false) rfl rfl) rfl ?_
          refine hl_val rfl rfl (v := (.bool false)) (hv_pick (t := false) rfl rfl) ?_
          refine hl_val rfl rfl (v := (.bool false)) (hv_move rfl) ?_
          refine hl_no (wanted_n rfl rfl (c := false) rfl rfl) rfl ?_
          refine hl_no (wanted_n rfl rfl (c := false) rfl rfl) rfl ?_
          refine hl_no (wanted_n rfl rfl (c := false) rfl rfl) rfl ?_
          refine hl_no (wanted_n rfl rfl (c := false) rfl rfl) rfl ?_
          refine hl_val rfl rfl (v := (.bool false)) (hv_pick (t := false) rfl rfl) ?_
          refine hl_val rfl rfl (v := (.bool false)) (hv_move rfl) ?_
          refine hl_no (wanted_n rfl rfl (c := false) rfl rfl) rfl ?_
          refine hl_no (wanted_n rfl rfl (c := false) rfl rfl) rfl ?_
          refine hl_no (wanted_n rfl rfl (c := false) rfl rfl) rfl ?_
          refine hl_val rfl rfl (v := (.bool false)) (hv_pick (t := false) rfl rfl) ?_
          refine hl_val rfl rfl (v := (.bool false)) (hv_move rfl) ?_
          refine hl_no (wanted_n rfl rfl (c := false) rfl rfl) rfl ?_
          refine hl_no (wanted_n rfl rfl (c := false) rfl rfl) rfl ?_
          refine hl_val rfl rfl (v := (.bool false)) (hv_pick (t := false) rfl rfl) ?_
          refine hl_val rfl rfl (v := (.bool false)) (hv_move rfl) ?_
          refine hl_no (wanted_n rfl rfl (c := false) rfl rfl) rfl ?_
          refine hl_no (wanted_n rfl rfl (c := false) rfl rfl) rfl ?_
          refine hl_val rfl rfl (v := (.bool false)) (hv_pick (t := false) rfl rfl) ?_
          refine hl_val rfl rfl (v := (.bool false)) (hv_move rfl) ?_
          refine hl_no (wanted_n rfl rfl (c := false) rfl rfl) rfl ?_
          refine hl_no (wanted_n rfl rfl (c := false) rfl rfl) rfl ?_
          refine hl_no (wanted_n rfl rfl (c := false) rfl rfl) rfl ?_
          refine hl_val rfl rfl (v := (.bool false)) (hv_pick (t := false) rfl rfl) ?_
          refine hl_val rfl rfl (v := (.bool false)) (hv_move rfl) ?_
          refine hl_no (wanted_n rfl rfl (c := false) rfl rfl) rfl ?_
          refine hl_no (wanted_n rfl rfl (c := false) rfl rfl) rfl ?_
          refine hl_no (wanted_n rfl rfl (c := false) rfl rfl) rfl ?_
          refine hl_val rfl rfl (v := (.bool false)) (hv_pick (t := false) rfl rfl) ?_
          refine hl_val rfl rfl (v := (.bool false)) (hv_move rfl) ?_
          refine hl_no (wanted_n rfl rfl (c := false) rfl rfl) rfl ?_
          refine hl_no (wanted_n rfl rfl (c := false) rfl rfl) rfl ?_
          refine hl_no (wanted_n rfl rfl (c := false) rfl rfl) rfl ?_
          refine hl_val rfl rfl (v := (.bool false)) (hv_pick (t := false) rfl rfl) ?_
          refine hl_val rfl rfl (v := (.bool false)) (hv_move rfl) ?_
          refine hl_no (wanted_n rfl rfl (c := false) rfl rfl) rfl ?_
          refine hl_no (wanted_n rfl rfl (c := false) rfl rfl) rfl ?_
          refine hl_no (wanted_n rfl rfl (c := false) rfl rfl) rfl ?_
          refine hl_no (wanted_n rfl rfl (c := false) rfl rfl) rfl ?_
          refine hl_val rfl rfl (v := (.bool false)) (hv_pick (t := false) rfl rfl) ?_
          refine hl_val rfl rfl (v := (.bool false)) (hv_move rfl) ?_
          refine hl_no (wanted_n rfl rfl (c := false) rfl rfl) rfl ?_
          refine hl_no (wanted_n rfl rfl (c := false) rfl rfl) rfl ?_
          refine hl_no (wanted_n rfl rfl (c := false) rfl rfl) rfl ?_
          refine hl_no (wanted_n rfl rfl (c := false) rfl rfl) rfl ?_
          refine hl_val rfl rfl (v := (.bool false)) (hv_pick (t := false) rfl rfl) ?_
          refine hl_val rfl rfl (v := (.bool false)) (hv_assign rfl) ?_
          refine hl_nil ?_
          refine seqQ_n ?_
          exact ⟨_, H, (has_cons rfl has_nil)⟩
      · replace H := H.2 hg7
        refine hl_no (wanted_n rfl rfl rfl hg7) rfl ?_
        refine hl_no (wanted_n rfl rfl rfl hg7) rfl ?_
        refine hl_no (wanted_n rfl rfl rfl hg7) rfl ?_
        refine hl_val rfl rfl (v := (.bool false)) (hv_pick_f rfl hg7 rfl) ?_
        refine hl_val rfl rfl (v := (.bool false)) (hv_move rfl) ?_
        refine hl_no (wanted_n rfl rfl (c := false) rfl rfl) rfl ?_
        refine hl_no (wanted_n rfl rfl (c := false) rfl rfl) rfl ?_
        refine hl_no (wanted_n rfl rfl (c := false) rfl rfl) rfl ?_
        refine hl_no (wanted_n rfl rfl (c := false) rfl rfl) rfl ?_
        refine hl_val rfl rfl (v := (.bool false)) (hv_pick (t := false) rfl rfl) ?_
        refine hl_val rfl rfl (v := (.bool false)) (hv_move rfl) ?_
        refine hl_no (wanted_n rfl rfl (c := false) rfl rfl) rfl ?_
        refine hl_no (wanted_n rfl rfl (c := false) rfl rfl) rfl ?_
        refine hl_val rfl rfl (v := (.bool false)) (hv_pick (t := false) rfl rfl) ?_
        refine hl_val rfl rfl (v := (.bool false)) (hv_move rfl) ?_
        refine hl_no (wanted_n rfl rfl (c := false) rfl rfl) rfl ?_
        refine hl_no (wanted_n rfl rfl (c := false) rfl rfl) rfl ?_
        refine hl_val rfl rfl (v := (.bool false)) (hv_pick (t := false) rfl rfl) ?_
        refine hl_val rfl rfl (v := (.bool false)) (hv_move rfl) ?_
        refine hl_no (wanted_n rfl rfl (c := false) rfl rfl) rfl ?_
        refine hl_no (wanted_n rfl rfl (c := false) rfl rfl) rfl ?_
        refine hl_no (wanted_n rfl rfl (c := false) rfl rfl) rfl ?_
        refine hl_no (wanted_n rfl rfl (c := false) rfl rfl) rfl ?_
        refine hl_val rfl rfl (v := (.bool false)) (hv_pick (t := false) rfl rfl) ?_
        refine hl_val rfl rfl (v := (.bool false)) (hv_move rfl) ?_
        refine hl_no (wanted_n rfl rfl (c := false) rfl rfl) rfl ?_
        refine hl_no (wanted_n rfl rfl (c := false) rfl rfl) rfl ?_
        refine hl_no (wanted_n rfl rfl (c := false) rfl rfl) rfl ?_
        refine hl_no (wanted_n rfl rfl (c := false) rfl rfl) rfl ?_
        refine hl_val rfl rfl (v := (.bool false)) (hv_pick (t := false) rfl rfl) ?_
        refine hl_val rfl rfl (v := (.bool false)) (hv_move rfl) ?_
        refine hl_no (wanted_n rfl rfl (c := false) rfl rfl) rfl ?_
        refine hl_no (wanted_n rfl rfl (c := false) rfl rfl) rfl ?_
        refine hl_no (wanted_n rfl rfl (c := false) rfl rfl) rfl ?_
        refine hl_val rfl rfl (v := (.bool false)) (hv_pick (t := false) rfl rfl) ?_
        refine hl_val rfl rfl (v := (.bool false)) (hv_move rfl) ?_
        refine hl_no (wanted_n rfl rfl (c := false) rfl rfl) rfl ?_
        refine hl_no (wanted_n rfl rfl (c := false) rfl rfl) rfl ?_
        refine hl_val rfl rfl (v := (.bool false)) (hv_pick (t := false) rfl rfl) ?_
        refine hl_val rfl rfl (v := (.bool false)) (hv_move rfl) ?_
        refine hl_no (wanted_n rfl rfl (c := false) rfl rfl) rfl ?_
        refine hl_no (wanted_n rfl rfl (c := false) rfl rfl) rfl ?_
        refine hl_val rfl rfl (v := (.bool false)) (hv_pick (t := false) rfl rfl) ?_
        refine hl_val rfl rfl (v := (.bool false)) (hv_move rfl) ?_
        refine hl_no (wanted_n rfl rfl (c := false) rfl rfl) rfl ?_
        refine hl_no (wanted_n rfl rfl (c := false) rfl rfl) rfl ?_
        refine hl_no (wanted_n rfl rfl (c := false) rfl rfl) rfl ?_
        refine hl_val rfl rfl (v := (.bool false)) (hv_pick (t := false) rfl rfl) ?_
        refine hl_val rfl rfl (v := (.bool false)) (hv_move rfl) ?_
        refine hl_no (wanted_n rfl rfl (c := false) rfl rfl) rfl ?_
        refine hl_no (wanted_n rfl rfl (c := false) rfl rfl) rfl ?_
        refine hl_no (wanted_n rfl rfl (c := false) rfl rfl) rfl ?_
        refine hl_val rfl rfl (v := (.bool false)) (hv_pick (t := false) rfl rfl) ?_
        refine hl_val rfl rfl (v := (.bool false)) (hv_move rfl) ?_
        refine hl_no (wanted_n rfl rfl (c := false) rfl rfl) rfl ?_
        refine hl_no (wanted_n rfl rfl (c := false) rfl rfl) rfl ?_
        refine hl_no (wanted_n rfl rfl (c := false) rfl rfl) rfl ?_
        refine hl_val rfl rfl (v := (.bool false)) (hv_pick (t := false) rfl rfl) ?_
        refine hl_val rfl rfl (v := (.bool false)) (hv_move rfl) ?_
        refine hl_no (wanted_n rfl rfl (c := false) rfl rfl) rfl ?_
        refine hl_no (wanted_n rfl rfl (c := false) rfl rfl) rfl ?_
        refine hl_no (wanted_n rfl rfl (c := false) rfl rfl) rfl ?_
        refine hl_no (wanted_n rfl rfl (c := false) rfl rfl) rfl ?_
        refine hl_val rfl rfl (v := (.bool false)) (hv_pick (t := false) rfl rfl) ?_
        refine hl_val rfl rfl (v := (.bool false)) (hv_move rfl) ?_
        refine hl_no (wanted_n rfl rfl (c := false) rfl rfl) rfl ?_
        refine hl_no (wanted_n rfl rfl (c := false) rfl rfl) rfl ?_
        refine hl_no (wanted_n rfl rfl (c := false) rfl rfl) rfl ?_
        refine hl_no (wanted_n rfl rfl (c := false) rfl rfl) rfl ?_
        refine hl_val rfl rfl (v := (.bool false)) (hv_pick (t := false) rfl rfl) ?_
        refine hl_val rfl rfl (v := (.bool false)) (hv_assign rfl) ?_
        refine hl_nil ?_
        refine seqQ_n ?_
        exact ⟨_, H, (has_cons rfl has_nil)⟩
    · replace H := H.2 hg6
      refine hl_no (wanted_n rfl rfl rfl hg6) rfl ?_
      refine hl_no (wanted_n rfl rfl rfl hg6) rfl ?_
      refine hl_val rfl rfl (v := (.bool false)) (hv_pick_f rfl hg6 rfl) ?_
      refine hl_val rfl rfl (v := (.bool false)) (hv_move rfl) ?_
      refine hl_no (wanted_n rfl rfl (c := false) rfl rfl) rfl ?_
      refine hl_no (wanted_n rfl rfl (c := false) rfl rfl) rfl ?_
      refine hl_no (wanted_n rfl rfl (c := false) rfl rfl) rfl ?_
      refine hl_val rfl rfl (v := (.bool false)) (hv_pick (t := false) rfl rfl) ?_
      refine hl_val rfl rfl (v := (.bool false)) (hv_move rfl) ?_
      refine hl_no (wanted_n rfl rfl (c := false) rfl rfl) rfl ?_
      refine hl_no (wanted_n rfl rfl (c := false) rfl rfl) rfl ?_
      refine hl_no (wanted_n rfl rfl (c := false) rfl rfl) rfl ?_
      refine hl_no (wanted_n rfl rfl (c := false) rfl rfl) rfl ?_
      refine hl_val rfl rfl (v := (.bool false)) (hv_pick (t := false) rfl rfl) ?_
      refine hl_val rfl rfl (v := (.bool false)) (hv_move rfl) ?_
      refine hl_no (wanted_n rfl rfl (c := false) rfl rfl) rfl ?_
      refine hl_no (wanted_n rfl rfl (c := false) rfl rfl) rfl ?_
      refine hl_val rfl rfl (v := (.bool false)) (hv_pick (t := false) rfl rfl) ?_
      refine hl_val rfl rfl (v := (.bool false)) (hv_move rfl) ?_
      refine hl_no (wanted_n rfl rfl (c := false) rfl rfl) rfl ?_
      refine hl_no (wanted_n rfl rfl (c := false) rfl rfl) rfl ?_
      refine hl_val rfl rfl (v := (.bool false)) (hv_pick (t := false) rfl rfl) ?_
      refine hl_val rfl rfl (v := (.bool false)) (hv_move rfl) ?_
      refine hl_no (wanted_n rfl rfl (c := false) rfl rfl) rfl ?_
      refine hl_no (wanted_n rfl rfl (c := false) rfl rfl) rfl ?_
      refine hl_no (wanted_n rfl rfl (c := false) rfl rfl) rfl ?_
      refine hl_no (wanted_n rfl rfl (c := false) rfl rfl) rfl ?_
      refine hl_val rfl rfl (v := (.bool false)) (hv_pick (t := false) rfl rfl) ?_
      refine hl_val rfl rfl (v := (.bool false)) (hv_move rfl) ?_
      refine hl_no (wanted_n rfl rfl (c := false) rfl rfl) rfl ?_
      refine hl_no (wanted_n rfl rfl (c := false) rfl rfl) rfl ?_
      refine hl_no (wanted_n rfl rfl (c := false) rfl rfl) rfl ?_
      refine hl_no (wanted_n rfl rfl (c := false) rfl rfl) rfl ?_
      refine hl_val rfl rfl (v := (.bool false)) (hv_pick (t := false) rfl rfl) ?_
      refine hl_val rfl rfl (v := (.bool false)) (hv_move rfl) ?_
      refine hl_no (wanted_n rfl rfl (c := false) rfl rfl) rfl ?_
      refine hl_no (wanted_n rfl rfl (c := false) rfl rfl) rfl ?_
      refine hl_no (wanted_n rfl rfl (c := false) rfl rfl) rfl ?_
      refine hl_val rfl rfl (v := (.bool false)) (hv_pick (t := false) rfl rfl) ?_
      refine hl_val rfl rfl (v := (.bool false)) (hv_move rfl) ?_
      refine hl_no (wanted_n rfl rfl (c := false) rfl rfl) rfl ?_
      refine hl_no (wanted_n rfl rfl (c := false) rfl rfl) rfl ?_
      refine hl_val rfl rfl (v := (.bool false)) (hv_pick (t := false) rfl rfl) ?_
      refine hl_val rfl rfl (v := (.bool false)) (hv_move rfl) ?_
      refine hl_no (wanted_n rfl rfl (c := false) rfl rfl) rfl ?_
      refine hl_no (wanted_n rfl rfl (c := false) rfl rfl) rfl ?_
      refine hl_val rfl rfl (v := (.bool false)) (hv_pick (t := false) rfl rfl) ?_
      refine hl_val rfl rfl (v := (.bool false)) (hv_move rfl) ?_
      refine hl_no (wanted_n rfl rfl (c := false) rfl rfl) rfl ?_
      refine hl_no (wanted_n rfl rfl (c := false) rfl rfl) rfl ?_
      refine hl_no (wanted_n rfl rfl (c := false) rfl rfl) rfl ?_
      refine hl_val rfl rfl (v := (.bool false)) (hv_pick (t := false) rfl rfl) ?_
      refine hl_val rfl rfl (v := (.bool false)) (hv_move rfl) ?_
      refine hl_no (wanted_n rfl rfl (c := false) rfl rfl) rfl ?_
      refine hl_no (wanted_n rfl rfl (c := false) rfl rfl) rfl ?_
      refine hl_no (wanted_n rfl rfl (c := false) rfl rfl) rfl ?_
      refine hl_val rfl rfl (v := (.bool false)) (hv_pick (t := false) rfl rfl) ?_
      refine hl_val rfl rfl (v := (.bool false)) (hv_move rfl) ?_
      refine hl_no (wanted_n rfl rfl (c := false) rfl rfl) rfl ?_
      refine hl_no (wanted_n rfl rfl (c := false) rfl rfl) rfl ?_
      refine hl_no (wanted_n rfl rfl (c := false) rfl rfl) rfl ?_
      refine hl_val rfl rfl (v := (.bool false)) (hv_pick (t := false) rfl rfl) ?_
      refine hl_val rfl rfl (v := (.bool false)) (hv_move rfl) ?_
      refine hl_no (wanted_n rfl rfl (c := false) rfl rfl) rfl ?_
      refine hl_no (wanted_n rfl rfl (c := false) rfl rfl) rfl ?_
      refine hl_no (wanted_n rfl rfl (c := false) rfl rfl) rfl ?_
      refine hl_no (wanted_n rfl rfl (c := false) rfl rfl) rfl ?_
      refine hl_val rfl rfl (v := (.bool false)) (hv_pick (t := false) rfl rfl) ?_
      refine hl_val rfl rfl (v := (.bool false)) (hv_move rfl) ?_
      refine hl_no (wanted_n rfl rfl (c := false) rfl rfl) rfl ?_
      refine hl_no (wanted_n rfl rfl (c := false) rfl rfl) rfl ?_
      refine hl_no (wanted_n rfl rfl (c := false) rfl rfl) rfl ?_
      refine hl_no (wanted_n rfl rfl (c := false) rfl rfl) rfl ?_
      refine hl_val rfl rfl (v := (.bool false)) (hv_pick (t := false) rfl rfl) ?_
      refine hl_val rfl rfl (v := (.bool false)) (hv_assign rfl) ?_
      refine hl_nil ?_
      refine seqQ_n ?_
      exact ⟨_, H, (has_cons rfl has_nil)⟩
  · rintro ρ h7 ⟨j, HA29, hH⟩
    have H := Hy28 j h7 HA29; clear Hx27 Hy28
    refine hx_has _ hH ?_
    refine hx_ret ?_
    exact endQ_ret _ (res_one Try.results7 (rv_tmp rfl)) H

end Go.Proofs.Ytfdgjgjcppfmiaa
