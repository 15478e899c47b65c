/-
Shallow forms, written by gen2.py (a program of ours) out of the print of the program.
-/
import Derived.Test.YtfdgjgjcppfmiaaPrv
import Derived.Test.YtfdgjgjcppfmiaaSrt
import Derived.Test.YtfdgjgjcppfmiaaRng
import Derived.Test.YtfdgjgjcppfmiaaMor
import Derived.Test.YtfdgjgjcppfmiaaProg
namespace Go.Proofs.Ytfdgjgjcppfmiaa
open Go
set_option maxRecDepth 100000
set_option maxHeartbeats 4000000

theorem TyQC.agg24 : aggB Try.prog 24 = some false := by kernel_rfl
theorem TyQC.agg28 : aggB Try.prog 28 = some false := by kernel_rfl
theorem TyQC.agg29 : aggB Try.prog 29 = some false := by kernel_rfl
theorem TyQC.agg3 : aggB Try.prog 3 = some false := by kernel_rfl
theorem TyQC.agg31 : aggB Try.prog 31 = some true := by kernel_rfl
theorem TyQC.agg50 : aggB Try.prog 50 = some false := by kernel_rfl
theorem TyQC.cb10 : CallB Try.prog 10 := fun _ _ => Try.call10 _ _
theorem TyQC.cb11 : CallB Try.prog 11 := fun _ _ => Try.call11 _ _
theorem TyQC.cb13 : CallB Try.prog 13 := fun _ _ => Try.call13 _ _
theorem TyQC.cb14 : CallB Try.prog 14 := fun _ _ => Try.call14 _ _
theorem TyQC.cb15 : CallB Try.prog 15 := fun _ _ => Try.call15 _ _
theorem TyQC.cb16 : CallB Try.prog 16 := fun _ _ => Try.call16 _ _
theorem TyQC.cb18 : CallB Try.prog 18 := fun _ _ => Try.call18 _ _
theorem TyQC.cb20 : CallB Try.prog 20 := fun _ _ => Try.call20 _ _
theorem TyQC.cb21 : CallB Try.prog 21 := fun _ _ => Try.call21 _ _
theorem TyQC.cb22 : CallB Try.prog 22 := fun _ _ => Try.call22 _ _
theorem TyQC.cb23 : CallB Try.prog 23 := fun _ _ => Try.call23 _ _
theorem TyQC.cb24 : CallB Try.prog 24 := fun _ _ => Try.call24 _ _
theorem TyQC.cb25 : CallB Try.prog 25 := fun _ _ => Try.call25 _ _
theorem TyQC.cb26 : CallB Try.prog 26 := fun _ _ => Try.call26 _ _
theorem TyQC.cb27 : CallB Try.prog 27 := fun _ _ => Try.call27 _ _
theorem TyQC.cb28 : CallB Try.prog 28 := fun _ _ => Try.call28 _ _
theorem TyQC.cb32 : CallB Try.prog 32 := fun _ _ => Try.call32 _ _
theorem TyQC.cb35 : CallB Try.prog 35 := fun _ _ => Try.call35 _ _
theorem TyQC.cb37 : CallB Try.prog 37 := fun _ _ => Try.call37 _ _
theorem TyQC.cb39 : CallB Try.prog 39 := fun _ _ => Try.call39 _ _
theorem TyQC.cb40 : CallB Try.prog 40 := fun _ _ => Try.call40 _ _
theorem TyQC.cb41 : CallB Try.prog 41 := fun _ _ => Try.call41 _ _
theorem TyQC.cb42 : CallB Try.prog 42 := fun _ _ => Try.call42 _ _
theorem TyQC.cb43 : CallB Try.prog 43 := fun _ _ => Try.call43 _ _
theorem TyQC.cb44 : CallB Try.prog 44 := fun _ _ => Try.call44 _ _
theorem TyQC.cb45 : CallB Try.prog 45 := fun _ _ => Try.call45 _ _
theorem TyQC.cb46 : CallB Try.prog 46 := fun _ _ => Try.call46 _ _
theorem TyQC.cb55 : CallB Try.prog 55 := fun _ _ => Try.call55 _ _
theorem TyQC.el28 : elB Try.prog 28 = some 4 := by kernel_rfl
theorem TyQC.el50 : elB Try.prog 50 = some 1 := by kernel_rfl
theorem TyQC.fld31_0 : fldB Try.prog 31 0 = some 0 := by kernel_rfl
theorem TyQC.fld31_1 : fldB Try.prog 31 1 = some 1 := by kernel_rfl
theorem TyQC.fld36_0 : fldB Try.prog 36 0 = some 0 := by kernel_rfl
theorem TyQC.fld36_1 : fldB Try.prog 36 1 = some 1 := by kernel_rfl
theorem TyQC.fld36_2 : fldB Try.prog 36 2 = some 2 := by kernel_rfl
theorem TyQC.fld67_0 : fldB Try.prog 67 0 = some 0 := by kernel_rfl
theorem TyQC.fld78_0 : fldB Try.prog 78 0 = some 0 := by kernel_rfl
theorem TyQC.fld78_1 : fldB Try.prog 78 1 = some 1 := by kernel_rfl
theorem TyQC.fld78_2 : fldB Try.prog 78 2 = some 2 := by kernel_rfl
theorem TyQC.fld78_3 : fldB Try.prog 78 3 = some 3 := by kernel_rfl
theorem TyQC.mixed : Try.prog.follows .mixedOrders = true := by kernel_rfl
theorem TyQC.pl31 : plB Try.prog 31 = some [(0, 1), (1, 1), (2, 1), (3, 1)] := by kernel_rfl
theorem TyQC.pl36 : plB Try.prog 36 = some [(0, 1), (1, 1), (2, 1)] := by kernel_rfl
theorem TyQC.se31 : seB Try.prog 31 = some [(3, 0), (29, 1), (3, 2), (3, 3)] := by kernel_rfl
theorem TyQC.sz3 : szB Try.prog 3 = some 1 := by kernel_rfl
theorem TyQC.sz31 : szB Try.prog 31 = some 4 := by kernel_rfl
theorem TyQC.sz50 : szB Try.prog 50 = some 1 := by kernel_rfl
theorem TyQC.u28 : Try.prog.underlying 28 = some (.slice 31) := by kernel_rfl
theorem TyQC.u4 : Try.prog.underlying 4 = some (.bool) := by kernel_rfl
theorem TyQC.u50 : Try.prog.underlying 50 = some (.slice 3) := by kernel_rfl
theorem TyQC.up24 : Try.prog.underlying 24 = some (.pointer 67) := by kernel_rfl
theorem TyQC.z3 : zeroB Try.prog 3 (.int .i64 0) := by unfold zeroB; kernel_rfl
theorem TyQC.z31 : zeroB Try.prog 31 (.agg #[(.int .i64 0), (.int .u64 0), (.int .i64 0), (.int .i64 0)]) := by unfold zeroB; kernel_rfl
theorem TyQC.z36 : zeroB Try.prog 36 (.agg #[(.int .i64 0), (.int .i64 0), (.int .i64 0)]) := by unfold zeroB; kernel_rfl
theorem TyQC.z50 : zeroB Try.prog 50 (.slice none 0 0) := by unfold zeroB; kernel_rfl

/-- cellar/cellarlaw09.lives -/
theorem f9_sh  (h : Heap) (R : Value → Heap → Prop)
    (H : HC Try.prog 10 #[(.int .i64 2)] h (fun vv h1 => ∃ r0 : Option Addr, ∃ r1 : Int, vv = (.tuple #[(.pointer r0), (.int .i64 r1)]) ∧ ((((r1 != 0) || r0.isNone) = true → R (.bool false) h1) ∧ (((r1 != 0) || r0.isNone) = false → HC Try.prog 13 #[(.pointer r0)] h1 (fun vv h2 => ∃ r0_1 r1_1 r2 : Int, vv = (.tuple #[(.int .i64 r0_1), (.int .u64 r1_1), (.int .i64 r2)]) ∧ (∃ A7 : Bool → Heap → Prop, (((r0_1 == 0) = true → (((r1_1 == 1) = true → (((r2 == 0) = true → HC Try.prog 26 #[(.pointer r0), (.int .i64 0)] h2 (fun vv h4 => ∃ r : Bool, vv = (.bool r) ∧ ((r = true → HC Try.prog 23 #[(.pointer r0)] h4 (fun vv h5 => ∃ r_1 : Int, vv = (.int .i64 r_1) ∧ (((r_1 == 0) = true → HC Try.prog 24 #[(.pointer r0), (.int .i64 0)] h5 (fun vv h6 => ∃ r_2 : Int, vv = (.int .i64 r_2) ∧ (((r_2 == 0) = true → HC Try.prog 26 #[(.pointer r0), (.int .i64 0)] h6 (fun vv h7 => ∃ r_3 : Bool, vv = (.bool r_3) ∧ (((!r_3) = true → HC Try.prog 25 #[(.pointer r0), (.int .i64 0)] h7 (fun vv h8 => ∃ r_4 : Int, vv = (.int .i64 r_4) ∧ (A7 (r_4 == 92) h8))) ∧ ((!r_3) = false → (A7 false h7))))) ∧ ((r_2 == 0) = false → (A7 false h6))))) ∧ ((r_1 == 0) = false → (A7 false h5))))) ∧ (r = false → (A7 false h4))))) ∧ ((r2 == 0) = false → (A7 false h2)))) ∧ ((r1_1 == 1) = false → (A7 false h2)))) ∧ ((r0_1 == 0) = false → (A7 false h2))) ∧ (∀ (j_1 : Bool) (h3 : Heap), A7 j_1 h3 → R (.bool j_1) h3))))))) :
    HC Try.prog 9 #[] h R := by
  refine hc_of (args := []) Try.func9 rfl Try.ntmps9 (Nat.le_of_ble_eq_true rfl) ?_
  refine hx_seq ?_
  refine hx_region ?_
  refine hl_val rfl rfl (v := (.bool false)) (hv_assign rfl) ?_
  refine hl_nil ?_
  refine seqQ_n ?_
  refine hx_seq ?_
  refine hx_region ?_
  refine hl_step rfl rfl (hs_call TyQC.cb10 (vs := [(.int .i64 2)]) rfl (HC.mono H ?_))
  rintro _ h1 ⟨r0, r1, rfl, H⟩
  refine hl_val rfl rfl (v := (.tuple #[(.pointer r0), (.int .i64 r1)])) (hv_move rfl) ?_
  refine hl_val rfl rfl (v := (.pointer r0)) (hv_extract (vs := #[(.pointer r0), (.int .i64 r1)]) rfl rfl) ?_
  refine hl_val rfl rfl (v := (.int .i64 r1)) (hv_extract (vs := #[(.pointer r0), (.int .i64 r1)]) rfl rfl) ?_
  refine hl_val rfl rfl (v := (.pointer r0)) (hv_assign rfl) ?_
  refine hl_val rfl rfl (v := (.int .i64 r1)) (hv_assign rfl) ?_
  refine hl_nil ?_
  refine seqQ_n ?_
  refine hx_seq ?_
  refine hx_cut (fun ρ h' => h1 = h' ∧ Has ρ [(1, (.pointer r0)), (14, (.bool ((r1 != 0) || r0.isNone)))]) ?_ ?_
  · refine hx_region ?_
    refine hl_val rfl rfl (v := (.int .i64 r1)) (hv_move rfl) ?_
    refine hl_val rfl rfl (v := (.bool (r1 != 0))) (hv_arith rfl rfl rfl) ?_
    refine hl_val rfl rfl (v := (.bool (r1 != 0))) (hv_move rfl) ?_
    rcases bool_or (r1 != 0) with hg3 | hg3
    · refine hl_no (wanted_n rfl rfl rfl hg3) rfl ?_
      refine hl_no (wanted_n rfl rfl rfl hg3) rfl ?_
      refine hl_val rfl rfl (v := (.bool true)) (hv_pick_t rfl hg3 rfl) ?_
      refine hl_nil ?_
      refine seqQ_n ?_
      exact ⟨rfl, (has_cons rfl (has_cons (show ((.bool true) : Value) = (.bool ((r1 != 0) || r0.isNone)) from (by first | rfl | ((try rw [hg3]); all_goals first | rfl | (simp only [Bool.true_or, Bool.or_true, Bool.false_or, Bool.or_false, Bool.true_and, Bool.and_true, Bool.false_and, Bool.and_false, Bool.not_true, Bool.not_false, Bool.cond_true, Bool.cond_false]; done)) | simp [hg3])) has_nil))⟩
    · refine hl_yes (wanted_y rfl rfl rfl hg3) rfl (HStep.of_val (v := (.pointer r0)) (hv_move rfl) ?_)
      refine hl_yes (wanted_y rfl rfl rfl hg3) rfl (HStep.of_val (v := (.bool r0.isNone)) (hv_ptrNil TyQC.up24 rfl rfl) ?_)
      refine hl_val rfl rfl (v := (.bool r0.isNone)) (hv_pick_f rfl hg3 rfl) ?_
      refine hl_nil ?_
      refine seqQ_n ?_
      exact ⟨rfl, (has_cons rfl (has_cons (show ((.bool r0.isNone) : Value) = (.bool ((r1 != 0) || r0.isNone)) from (by first | rfl | ((try rw [hg3]); all_goals first | rfl | (simp only [Bool.true_or, Bool.or_true, Bool.false_or, Bool.or_false, Bool.true_and, Bool.and_true, Bool.false_and, Bool.and_false, Bool.not_true, Bool.not_false, Bool.cond_true, Bool.cond_false]; done)) | simp [hg3])) has_nil))⟩
  · rintro ρ _ ⟨rfl, hH⟩
    refine hx_has _ hH ?_
    refine hx_cond (b := ((r1 != 0) || r0.isNone)) rfl (fun hb4 => ?_) (fun hb4 => ?_)
    · replace H := H.1 hb4
      refine hx_seq ?_
      refine hx_region ?_
      refine hl_val rfl rfl (v := (.bool false)) (hv_assign rfl) ?_
      refine hl_nil ?_
      refine seqQ_n ?_
      refine hx_ret ?_
      refine seqQ_ret ?_
      exact endQ_ret _ (res_one Try.results9 (rv_tmp rfl)) H
    · replace H := H.2 hb4
      refine hx_skip ?_
      refine seqQ_n ?_
      refine hx_seq ?_
      refine hx_region ?_
      refine hl_val rfl rfl (v := (.pointer r0)) (hv_move rfl) ?_
      refine hl_step rfl rfl (hs_call TyQC.cb13 (vs := [(.pointer r0)]) rfl (HC.mono H ?_))
      rintro _ h2 ⟨r0_1, r1_1, r2, rfl, H⟩
      refine hl_val rfl rfl (v := (.tuple #[(.int .i64 r0_1), (.int .u64 r1_1), (.int .i64 r2)])) (hv_move rfl) ?_
      refine hl_val rfl rfl (v := (.int .i64 r0_1)) (hv_extract (vs := #[(.int .i64 r0_1), (.int .u64 r1_1), (.int .i64 r2)]) rfl rfl) ?_
      refine hl_val rfl rfl (v := (.int .u64 r1_1)) (hv_extract (vs := #[(.int .i64 r0_1), (.int .u64 r1_1), (.int .i64 r2)]) rfl rfl) ?_
      refine hl_val rfl rfl (v := (.int .i64 r2)) (hv_extract (vs := #[(.int .i64 r0_1), (.int .u64 r1_1), (.int .i64 r2)]) rfl rfl) ?_
      refine hl_val rfl rfl (v := (.int .i64 r0_1)) (hv_assign rfl) ?_
      refine hl_val rfl rfl (v := (.int .u64 r1_1)) (hv_assign rfl) ?_
      refine hl_val rfl rfl (v := (.int .i64 r2)) (hv_assign rfl) ?_
      refine hl_nil ?_
      refine seqQ_n ?_
      obtain ⟨A7, Hx5, Hy6⟩ := H
      refine hx_cut (fun ρ h' => ∃ j_1 : Bool, (A7 j_1 h' ∧ True) ∧ Has ρ [(0, (.bool j_1))]) ?_ ?_
      · have H := Hx5; clear Hx5 Hy6
        refine hx_region ?_
        refine hl_val rfl rfl (v := (.int .i64 r0_1)) (hv_move rfl) ?_
        refine hl_val rfl rfl (v := (.bool (r0_1 == 0))) (hv_arith rfl rfl rfl) ?_
        refine hl_val rfl rfl (v := (.bool (r0_1 == 0))) (hv_move rfl) ?_
        rcases bool_or (r0_1 == 0) with hg9 | hg9
        · replace H := H.1 hg9
          refine hl_yes (wanted_y rfl rfl rfl hg9) rfl (HStep.of_val (v := (.int .u64 r1_1)) (hv_move rfl) ?_)
          refine hl_yes (wanted_y rfl rfl rfl hg9) rfl (HStep.of_val (v := (.bool (r1_1 == 1))) (hv_arith rfl rfl rfl) ?_)
          refine hl_val rfl rfl (v := (.bool (r1_1 == 1))) (hv_pick_t rfl hg9 rfl) ?_
          refine hl_val rfl rfl (v := (.bool (r1_1 == 1))) (hv_move rfl) ?_
          rcases bool_or (r1_1 == 1) with hg10 | hg10
          · replace H := H.1 hg10
            refine hl_yes (wanted_y rfl rfl rfl hg10) rfl (HStep.of_val (v := (.int .i64 r2)) (hv_move rfl) ?_)
            refine hl_yes (wanted_y rfl rfl rfl hg10) rfl (HStep.of_val (v := (.bool (r2 == 0))) (hv_arith rfl rfl rfl) ?_)
            refine hl_val rfl rfl (v := (.bool (r2 == 0))) (hv_pick_t rfl hg10 rfl) ?_
            refine hl_val rfl rfl (v := (.bool (r2 == 0))) (hv_move rfl) ?_
            rcases bool_or (r2 == 0) with hg11 | hg11
            · replace H := H.1 hg11
              refine hl_yes (wanted_y rfl rfl rfl hg11) rfl (HStep.of_val (v := (.pointer r0)) (hv_move rfl) ?_)
              refine hl_yes (wanted_y rfl rfl rfl hg11) rfl (hs_call TyQC.cb26 (vs := [(.pointer r0), (.int .i64 0)]) rfl (HC.mono H ?_))
              rintro _ h4 ⟨r, rfl, H⟩
              refine hl_val rfl rfl (v := (.bool r)) (hv_pick_t rfl hg11 rfl) ?_
              refine hl_val rfl rfl (v := (.bool r)) (hv_move rfl) ?_
              rcases bool_or (r) with hg12 | hg12
              · replace H := H.1 hg12
                refine hl_yes (wanted_y rfl rfl rfl hg12) rfl (HStep.of_val (v := (.pointer r0)) (hv_move rfl) ?_)
                refine hl_yes (wanted_y rfl rfl rfl hg12) rfl (hs_call TyQC.cb23 (vs := [(.pointer r0)]) rfl (HC.mono H ?_))
                rintro _ h5 ⟨r_1, rfl, H⟩
                refine hl_yes (wanted_y rfl rfl rfl hg12) rfl (HStep.of_val (v := (.bool (r_1 == 0))) (hv_arith rfl rfl rfl) ?_)
                refine hl_val rfl rfl (v := (.bool (r_1 == 0))) (hv_pick_t rfl hg12 rfl) ?_
                refine hl_val rfl rfl (v := (.bool (r_1 == 0))) (hv_move rfl) ?_
                rcases bool_or (r_1 == 0) with hg13 | hg13
                · replace H := H.1 hg13
                  refine hl_yes (wanted_y rfl rfl rfl hg13) rfl (HStep.of_val (v := (.pointer r0)) (hv_move rfl) ?_)
                  refine hl_yes (wanted_y rfl rfl rfl hg13) rfl (hs_call TyQC.cb24 (vs := [(.pointer r0), (.int .i64 0)]) rfl (HC.mono H ?_))
                  rintro _ h6 ⟨r_2, rfl, H⟩
                  refine hl_yes (wanted_y rfl rfl rfl hg13) rfl (HStep.of_val (v := (.bool (r_2 == 0))) (hv_arith rfl rfl rfl) ?_)
                  refine hl_val rfl rfl (v := (.bool (r_2 == 0))) (hv_pick_t rfl hg13 rfl) ?_
                  refine hl_val rfl rfl (v := (.bool (r_2 == 0))) (hv_move rfl) ?_
                  rcases bool_or (r_2 == 0) with hg14 | hg14
                  · replace H := H.1 hg14
                    refine hl_yes (wanted_y rfl rfl rfl hg14) rfl (HStep.of_val (v := (.pointer r0)) (hv_move rfl) ?_)
                    refine hl_yes (wanted_y rfl rfl rfl hg14) rfl (hs_call TyQC.cb26 (vs := [(.pointer r0), (.int .i64 0)]) rfl (HC.mono H ?_))
                    rintro _ h7 ⟨r_3, rfl, H⟩
                    refine hl_yes (wanted_y rfl rfl rfl hg14) rfl (HStep.of_val (v := (.bool (!r_3))) (hv_not (b := r_3) rfl) ?_)
                    refine hl_val rfl rfl (v := (.bool (!r_3))) (hv_pick_t rfl hg14 rfl) ?_
                    refine hl_val rfl rfl (v := (.bool (!r_3))) (hv_move rfl) ?_
                    rcases bool_or (!r_3) with hg15 | hg15
                    · replace H := H.1 hg15
                      refine hl_yes (wanted_y rfl rfl rfl hg15) rfl (HStep.of_val (v := (.pointer r0)) (hv_move rfl) ?_)
                      refine hl_yes (wanted_y rfl rfl rfl hg15) rfl (hs_call TyQC.cb25 (vs := [(.pointer r0), (.int .i64 0)]) rfl (HC.mono H ?_))
                      rintro _ h8 ⟨r_4, rfl, H⟩
                      refine hl_yes (wanted_y rfl rfl rfl hg15) rfl (HStep.of_val (v := (.bool (r_4 == 92))) (hv_arith rfl rfl rfl) ?_)
                      refine hl_val rfl rfl (v := (.bool (r_4 == 92))) (hv_pick_t rfl hg15 rfl) ?_
                      refine hl_val rfl rfl (v := (.bool (r_4 == 92))) (hv_assign rfl) ?_
                      refine hl_nil ?_
                      refine seqQ_n ?_
                      exact ⟨_, ⟨H, trivial⟩, (has_cons rfl has_nil)⟩
                    · replace H := H.2 hg15
                      refine hl_no (wanted_n rfl rfl rfl hg15) rfl ?_
                      refine hl_no (wanted_n rfl rfl rfl hg15) rfl ?_
                      refine hl_no (wanted_n rfl rfl rfl hg15) rfl ?_
                      refine hl_val rfl rfl (v := (.bool false)) (hv_pick_f rfl hg15 rfl) ?_
                      refine hl_val rfl rfl (v := (.bool false)) (hv_assign rfl) ?_
                      refine hl_nil ?_
                      refine seqQ_n ?_
                      exact ⟨_, ⟨H, trivial⟩, (has_cons rfl has_nil)⟩
                  · replace H := H.2 hg14
                    refine hl_no (wanted_n rfl rfl rfl hg14) rfl ?_
                    refine hl_no (wanted_n rfl rfl rfl hg14) rfl ?_
                    refine hl_no (wanted_n rfl rfl rfl hg14) rfl ?_
                    refine hl_val rfl rfl (v := (.bool false)) (hv_pick_f rfl hg14 rfl) ?_
                    refine hl_val rfl rfl (v := (.bool false)) (hv_move rfl) ?_
                    refine hl_no (wanted_n rfl rfl (c := false) rfl rfl) rfl ?_
                    refine hl_no (wanted_n rfl rfl (c := false) rfl rfl) rfl ?_
                    refine hl_no (wanted_n rfl rfl (c := false) rfl rfl) rfl ?_
                    refine hl_val rfl rfl (v := (.bool false)) (hv_pick (t := false) rfl rfl) ?_
                    refine hl_val rfl rfl (v := (.bool false)) (hv_assign rfl) ?_
                    refine hl_nil ?_
                    refine seqQ_n ?_
                    exact ⟨_, ⟨H, trivial⟩, (has_cons rfl has_nil)⟩
                · replace H := H.2 hg13
                  refine hl_no (wanted_n rfl rfl rfl hg13) rfl ?_
                  refine hl_no (wanted_n rfl rfl rfl hg13) rfl ?_
                  refine hl_no (wanted_n rfl rfl rfl hg13) rfl ?_
                  refine hl_val rfl rfl (v := (.bool false)) (hv_pick_f rfl hg13 rfl) ?_
                  refine hl_val rfl rfl (v := (.bool false)) (hv_move rfl) ?_
                  refine hl_no (wanted_n rfl rfl (c := false) rfl rfl) rfl ?_
                  refine hl_no (wanted_n rfl rfl (c := false) rfl rfl) rfl ?_
                  refine hl_no (wanted_n rfl rfl (c := false) rfl rfl) rfl ?_
                  refine hl_val rfl rfl (v := (.bool false)) (hv_pick (t := false) rfl rfl) ?_
                  refine hl_val rfl rfl (v := (.bool false)) (hv_move rfl) ?_
                  refine hl_no (wanted_n rfl rfl (c := false) rfl rfl) rfl ?_
                  refine hl_no (wanted_n rfl rfl (c := false) rfl rfl) rfl ?_
                  refine hl_no (wanted_n rfl rfl (c := false) rfl rfl) rfl ?_
                  refine hl_val rfl rfl (v := (.bool false)) (hv_pick (t := false) rfl rfl) ?_
                  refine hl_val rfl rfl (v := (.bool false)) (hv_assign rfl) ?_
                  refine hl_nil ?_
                  refine seqQ_n ?_
                  exact ⟨_, ⟨H, trivial⟩, (has_cons rfl has_nil)⟩
              · replace H := H.2 hg12
                refine hl_no (wanted_n rfl rfl rfl hg12) rfl ?_
                refine hl_no (wanted_n rfl rfl rfl hg12) rfl ?_
                refine hl_no (wanted_n rfl rfl rfl hg12) rfl ?_
                refine hl_val rfl rfl (v := (.bool false)) (hv_pick_f rfl hg12 rfl) ?_
                refine hl_val rfl rfl (v := (.bool false)) (hv_move rfl) ?_
                refine hl_no (wanted_n rfl rfl (c := false) rfl rfl) rfl ?_
                refine hl_no (wanted_n rfl rfl (c := false) rfl rfl) rfl ?_
                refine hl_no (wanted_n rfl rfl (c := false) rfl rfl) rfl ?_
                refine hl_val rfl rfl (v := (.bool false)) (hv_pick (t := false) rfl rfl) ?_
                refine hl_val rfl rfl (v := (.bool false)) (hv_move rfl) ?_
                refine hl_no (wanted_n rfl rfl (c := false) rfl rfl) rfl ?_
                refine hl_no (wanted_n rfl rfl (c := false) rfl rfl) rfl ?_
                refine hl_no (wanted_n rfl rfl (c := false) rfl rfl) rfl ?_
                refine hl_val rfl rfl (v := (.bool false)) (hv_pick (t := false) rfl rfl) ?_
                refine hl_val rfl rfl (v := (.bool false)) (hv_move rfl) ?_
                refine hl_no (wanted_n rfl rfl (c := false) rfl rfl) rfl ?_
                refine hl_no (wanted_n rfl rfl (c := false) rfl rfl) rfl ?_
                refine hl_no (wanted_n rfl rfl (c := false) rfl rfl) rfl ?_
                refine hl_val rfl rfl (v := (.bool false)) (hv_pick (t := false) rfl rfl) ?_
                refine hl_val rfl rfl (v := (.bool false)) (hv_assign rfl) ?_
                refine hl_nil ?_
                refine seqQ_n ?_
                exact ⟨_, ⟨H, trivial⟩, (has_cons rfl has_nil)⟩
            · replace H := H.2 hg11
              refine hl_no (wanted_n rfl rfl rfl hg11) rfl ?_
              refine hl_no (wanted_n rfl rfl rfl hg11) rfl ?_
              refine hl_val rfl rfl (v := (.bool false)) (hv_pick_f rfl hg11 rfl) ?_
              refine hl_val rfl rfl (v := (.bool false)) (hv_move rfl) ?_
              refine hl_no (wanted_n rfl rfl (c := false) rfl rfl) rfl ?_
              refine hl_no (wanted_n rfl rfl (c := false) rfl rfl) rfl ?_
              refine hl_no (wanted_n rfl rfl (c := false) rfl rfl) rfl ?_
              refine hl_val rfl rfl (v := (.bool false)) (hv_pick (t := false) rfl rfl) ?_
              refine hl_val rfl rfl (v := (.bool false)) (hv_move rfl) ?_
              refine hl_no (wanted_n rfl rfl (c := false) rfl rfl) rfl ?_
              refine hl_no (wanted_n rfl rfl (c := false) rfl rfl) rfl ?_
              refine hl_no (wanted_n rfl rfl (c := false) rfl rfl) rfl ?_
              refine hl_val rfl rfl (v := (.bool false)) (hv_pick (t := false) rfl rfl) ?_
              refine hl_val rfl rfl (v := (.bool false)) (hv_move rfl) ?_
              refine hl_no (wanted_n rfl rfl (c := false) rfl rfl) rfl ?_
              refine hl_no (wanted_n rfl rfl (c := false) rfl rfl) rfl ?_
              refine hl_no (wanted_n rfl rfl (c := false) rfl rfl) rfl ?_
              refine hl_val rfl rfl (v := (.bool false)) (hv_pick (t := false) rfl rfl) ?_
              refine hl_val rfl rfl (v := (.bool false)) (hv_move rfl) ?_
              refine hl_no (wanted_n rfl rfl (c := false) rfl rfl) rfl ?_
              refine hl_no (wanted_n rfl rfl (c := false) rfl rfl) rfl ?_
              refine hl_no (wanted_n rfl rfl (c := false) rfl rfl) rfl ?_
              refine hl_val rfl rfl (v := (.bool false)) (hv_pick (t := false) rfl rfl) ?_
              refine hl_val rfl rfl (v := (.bool false)) (hv_assign rfl) ?_
              refine hl_nil ?_
              refine seqQ_n ?_
              exact ⟨_, ⟨H, trivial⟩, (has_cons rfl has_nil)⟩
          · replace H := H.2 hg10
            refine hl_no (wanted_n rfl rfl rfl hg10) rfl ?_
            refine hl_no (wanted_n rfl rfl rfl hg10) rfl ?_
            refine hl_val rfl rfl (v := (.bool false)) (hv_pick_f rfl hg10 rfl) ?_
            refine hl_val rfl rfl (v := (.bool false)) (hv_move rfl) ?_
            refine hl_no (wanted_n rfl rfl (c := false) rfl rfl) rfl ?_
            refine hl_no (wanted_n rfl rfl (c := false) rfl rfl) rfl ?_
            refine hl_val rfl rfl (v := (.bool false)) (hv_pick (t := false) rfl rfl) ?_
            refine hl_val rfl rfl (v := (.bool false)) (hv_move rfl) ?_
            refine hl_no (wanted_n rfl rfl (c := false) rfl rfl) rfl ?_
            refine hl_no (wanted_n rfl rfl (c := false) rfl rfl) rfl ?_
            refine hl_no (wanted_n rfl rfl (c := false) rfl rfl) rfl ?_
            refine hl_val rfl rfl (v := (.bool false)) (hv_pick (t := false) rfl rfl) ?_
            refine hl_val rfl rfl (v := (.bool false)) (hv_move rfl) ?_
            refine hl_no (wanted_n rfl rfl (c := false) rfl rfl) rfl ?_
            refine hl_no (wanted_n rfl rfl (c := false) rfl rfl) rfl ?_
            refine hl_no (wanted_n rfl rfl (c := false) rfl rfl) rfl ?_
            refine hl_val rfl rfl (v := (.bool false)) (hv_pick (t := false) rfl rfl) ?_
            refine hl_val rfl rfl (v := (.bool false)) (hv_move rfl) ?_
            refine hl_no (wanted_n rfl rfl (c := false) rfl rfl) rfl ?_
            refine hl_no (wanted_n rfl rfl (c := false) rfl rfl) rfl ?_
            refine hl_no (wanted_n rfl rfl (c := false) rfl rfl) rfl ?_
            refine hl_val rfl rfl (v := (.bool false)) (hv_pick (t := false) rfl rfl) ?_
            refine hl_val rfl rfl (v := (.bool false)) (hv_move rfl) ?_
            refine hl_no (wanted_n rfl rfl (c := false) rfl rfl) rfl ?_
            refine hl_no (wanted_n rfl rfl (c := false) rfl rfl) rfl ?_
            refine hl_no (wanted_n rfl rfl (c := false) rfl rfl) rfl ?_
            refine hl_val rfl rfl (v := (.bool false)) (hv_pick (t := false) rfl rfl) ?_
            refine hl_val rfl rfl (v := (.bool false)) (hv_assign rfl) ?_
            refine hl_nil ?_
            refine seqQ_n ?_
            exact ⟨_, ⟨H, trivial⟩, (has_cons rfl has_nil)⟩
        · replace H := H.2 hg9
          refine hl_no (wanted_n rfl rfl rfl hg9) rfl ?_
          refine hl_no (wanted_n rfl rfl rfl hg9) rfl ?_
          refine hl_val rfl rfl (v := (.bool false)) (hv_pick_f rfl hg9 rfl) ?_
          refine hl_val rfl rfl (v := (.bool false)) (hv_move rfl) ?_
          refine hl_no (wanted_n rfl rfl (c := false) rfl rfl) rfl ?_
          refine hl_no (wanted_n rfl rfl (c := false) rfl rfl) rfl ?_
          refine hl_val rfl rfl (v := (.bool false)) (hv_pick (t := false) rfl rfl) ?_
          refine hl_val rfl rfl (v := (.bool false)) (hv_move rfl) ?_
          refine hl_no (wanted_n rfl rfl (c := false) rfl rfl) rfl ?_
          refine hl_no (wanted_n rfl rfl (c := false) rfl rfl) rfl ?_
          refine hl_val rfl rfl (v := (.bool false)) (hv_pick (t := false) rfl rfl) ?_
          refine hl_val rfl rfl (v := (.bool false)) (hv_move rfl) ?_
          refine hl_no (wanted_n rfl rfl (c := false) rfl rfl) rfl ?_
          refine hl_no (wanted_n rfl rfl (c := false) rfl rfl) rfl ?_
          refine hl_no (wanted_n rfl rfl (c := false) rfl rfl) rfl ?_
          refine hl_val rfl rfl (v := (.bool false)) (hv_pick (t := false) rfl rfl) ?_
          refine hl_val rfl rfl (v := (.bool false)) (hv_move rfl) ?_
          refine hl_no (wanted_n rfl rfl (c := false) rfl rfl) rfl ?_
          refine hl_no (wanted_n rfl rfl (c := false) rfl rfl) rfl ?_
          refine hl_no (wanted_n rfl rfl (c := false) rfl rfl) rfl ?_
          refine hl_val rfl rfl (v := (.bool false)) (hv_pick (t := false) rfl rfl) ?_
          refine hl_val rfl rfl (v := (.bool false)) (hv_move rfl) ?_
          refine hl_no (wanted_n rfl rfl (c := false) rfl rfl) rfl ?_
          refine hl_no (wanted_n rfl rfl (c := false) rfl rfl) rfl ?_
          refine hl_no (wanted_n rfl rfl (c := false) rfl rfl) rfl ?_
          refine hl_val rfl rfl (v := (.bool false)) (hv_pick (t := false) rfl rfl) ?_
          refine hl_val rfl rfl (v := (.bool false)) (hv_move rfl) ?_
          refine hl_no (wanted_n rfl rfl (c := false) rfl rfl) rfl ?_
          refine hl_no (wanted_n rfl rfl (c := false) rfl rfl) rfl ?_
          refine hl_no (wanted_n rfl rfl (c := false) rfl rfl) rfl ?_
          refine hl_val rfl rfl (v := (.bool false)) (hv_pick (t := false) rfl rfl) ?_
          refine hl_val rfl rfl (v := (.bool false)) (hv_assign rfl) ?_
          refine hl_nil ?_
          refine seqQ_n ?_
          exact ⟨_, ⟨H, trivial⟩, (has_cons rfl has_nil)⟩
      · rintro ρ h3 ⟨j_1, ⟨HA8, -⟩, hH⟩
        have H := Hy6 j_1 h3 HA8; clear Hx5 Hy6
        refine hx_has _ hH ?_
        refine hx_ret ?_
        exact endQ_ret _ (res_one Try.results9 (rv_tmp rfl)) H

/-- cellar/cellarlaw09.step -/
theorem f18_sh (m_b : Nat) (m_o : Nat) (x_b : Nat) (x_o : Nat) (o_Kind : Int) (o_N : Int) (o_Task : Int) (h : Heap) (R : Value → Heap → Prop)
    (H : (((o_Kind == 1) = true → (∀ (o : Nat) (h1 : Heap), Array.size h ≤ o → o < Array.size h1 → Ext h h1 → HC Try.prog 13 #[(ptr m_b m_o)] h1 (fun vv h2 => Kp [o] h1 h2 ∧ ∃ r0 r1 r2 : Int, vv = (.tuple #[(.int .i64 r0), (.int .u64 r1), (.int .i64 r2)]) ∧ HC Try.prog 39 #[(ptr x_b x_o)] h2 (fun vv h3 => Kp [o] h2 h3 ∧ ∃ r0_1 r1_1 r2_1 : Int, vv = (.tuple #[(.int .i64 r0_1), (.int .u64 r1_1), (.int .i64 r2_1)]) ∧ R (.bool ((r0 == r0_1) && ((r1 == r1_1) && (r2 == r2_1)))) h3)))) ∧ ((o_Kind == 1) = false → (((o_Kind == 2) = true → (∀ (o : Nat) (h1 : Heap), Array.size h ≤ o → o < Array.size h1 → Ext h h1 → HC Try.prog 23 #[(ptr m_b m_o)] h1 (fun vv h4 => Kp [o] h1 h4 ∧ ∃ r : Int, vv = (.int .i64 r) ∧ HC Try.prog 40 #[(ptr x_b x_o)] h4 (fun vv h5 => Kp [o] h4 h5 ∧ ∃ r_1 : Int, vv = (.int .i64 r_1) ∧ R (.bool (r == r_1)) h5)))) ∧ ((o_Kind == 2) = false → (((o_Kind == 3) = true → (∃ T17 : Heap → Heap → Prop, Fit T17 ∧ (∀ (o : Nat) (h1 : Heap), Array.size h ≤ o → o < Array.size h1 → Ext h h1 → ((∀ hx, T17 h1 hx → Kp [o] h1 hx) ∧ HC Try.prog 24 #[(ptr m_b m_o), (.int .i64 o_N)] h1 (fun vv h8 => T17 h1 h8 ∧ Kp [o] h1 h8 ∧ ∃ r_2 : Int, vv = (.int .i64 r_2) ∧ HC Try.prog 41 #[(ptr x_b x_o), (.int .i64 o_N)] h8 (fun vv h9 => Kp [o] h8 h9 ∧ ∃ r_3 : Int, vv = (.int .i64 r_3) ∧ R (.bool (r_2 == r_3)) h9)))))) ∧ ((o_Kind == 3) = false → (((o_Kind == 4) = true → (∀ (o : Nat) (h1 : Heap), Array.size h ≤ o → o < Array.size h1 → Ext h h1 → HC Try.prog 21 #[(ptr m_b m_o), (.int .i64 o_Task), (.int .i64 o_N)] h1 (fun vv h10 => Kp [o] h1 h10 ∧ ∃ r0 : Bool, ∃ r1 : Int, vv = (.tuple #[(.bool r0), (.int .i64 r1)]) ∧ HC Try.prog 42 #[(ptr x_b x_o), (.int .i64 o_Task), (.int .i64 o_N)] h10 (fun vv h11 => Kp [o] h10 h11 ∧ ∃ r0_1 : Bool, ∃ r1_1 : Int, vv = (.tuple #[(.bool r0_1), (.int .i64 r1_1)]) ∧ R (.bool ((r0 == r0_1) && (r1 == r1_1))) h11)))) ∧ ((o_Kind == 4) = false → (((o_Kind == 5) = true → (∃ T34 : Heap → Heap → Prop, Fit T34 ∧ (∀ (o : Nat) (h1 : Heap), Array.size h ≤ o → o < Array.size h1 → Ext h h1 → ((∀ hx, T34 h1 hx → Kp [o] h1 hx) ∧ HC Try.prog 25 #[(ptr m_b m_o), (.int .i64 o_N)] h1 (fun vv h14 => T34 h1 h14 ∧ Kp [o] h1 h14 ∧ ∃ r_2 : Int, vv = (.int .i64 r_2) ∧ HC Try.prog 43 #[(ptr x_b x_o), (.int .i64 o_N)] h14 (fun vv h15 => Kp [o] h14 h15 ∧ ∃ r_3 : Int, vv = (.int .i64 r_3) ∧ R (.bool (r_2 == r_3)) h15)))))) ∧ ((o_Kind == 5) = false → (((o_Kind == 6) = true → (∃ T45 : Heap → Heap → Prop, Fit T45 ∧ (∀ (o : Nat) (h1 : Heap), Array.size h ≤ o → o < Array.size h1 → Ext h h1 → ((∀ hx, T45 h1 hx → Kp [o] h1 hx) ∧ HC Try.prog 26 #[(ptr m_b m_o), (.int .i64 o_N)] h1 (fun vv h18 => T45 h1 h18 ∧ Kp [o] h1 h18 ∧ ∃ r_2 : Bool, vv = (.bool r_2) ∧ HC Try.prog 44 #[(ptr x_b x_o), (.int .i64 o_N)] h18 (fun vv h19 => Kp [o] h18 h19 ∧ ∃ r_3 : Bool, vv = (.bool r_3) ∧ R (.bool (r_2 == r_3)) h19)))))) ∧ ((o_Kind == 6) = false → (((o_Kind == 7) = true → (∀ (o : Nat) (h1 : Heap), Array.size h ≤ o → o < Array.size h1 → Ext h h1 → HC Try.prog 22 #[(ptr m_b m_o), (.int .i64 o_N)] h1 (fun vv h20 => Kp [o] h1 h20 ∧ ∃ r0 : Option Addr, ∃ r0_n r0_c : Nat, ∃ r1 : Int, vv = (.tuple #[(.slice r0 r0_n r0_c), (.int .i64 r1)]) ∧ HC Try.prog 45 #[(ptr x_b x_o), (.int .i64 o_N)] h20 (fun vv h21 => Kp [o] h20 h21 ∧ ∃ r0_1 : Option Addr, ∃ r0_n_1 r0_c_1 : Nat, ∃ r1_1 : Int, vv = (.tuple #[(.slice r0_1 r0_n_1 r0_c_1), (.int .i64 r1_1)]) ∧ (∃ j : Bool, (∃ r : Bool, HC Try.prog 46 #[(.slice r0 r0_n r0_c), (.slice r0_1 r0_n_1 r0_c_1)] h21 (fun vv h' => vv = (.bool r) ∧ h' = h21) ∧ ((r = true → (j = (r1 == r1_1))) ∧ (r = false → (j = false)))) ∧ R (.bool j) h21))))) ∧ ((o_Kind == 7) = false → (((o_Kind == 8) = true → (∀ (o : Nat) (h1 : Heap), Array.size h ≤ o → o < Array.size h1 → Ext h h1 → HC Try.prog 11 #[(ptr m_b m_o), (.int .i64 o_N)] h1 (fun vv h22 => Kp [o] h1 h22 ∧ ∃ r0_State r0_Sequence r0_Pins r0_Erases : Int, ∃ r1 : Bool, vv = (.tuple #[(.agg #[(.int .i64 r0_State), (.int .u64 r0_Sequence), (.int .i64 r0_Pins), (.int .i64 r0_Erases)]), (.bool r1)]) ∧ (∃ j : Bool, (((decide (o_N < 0)) = true → (j = true)) ∧ ((decide (o_N < 0)) = false → (∃ x : Option Addr, ∃ x_n x_c : Nat, hcell h22 x_b x_o = some (.slice x x_n x_c) ∧ (j = (decide (o_N ≥ (x_n : Int))))))) ∧ ((j = true → (∀ (h24 : Heap), Ext h22 h24 → R (.bool ((!r1) && ((r0_State == 0 && (r0_Sequence == 0 && (r0_Pins == 0 && (r0_Erases == 0 && true))))))) h24)) ∧ (j = false → (∃ j_1 : Bool, ((r1 = true → (∃ x_1 : Option Addr, ∃ x_n_1 x_c_1 : Nat, hcell h22 x_b x_o = some (.slice x_1 x_n_1 x_c_1) ∧ (∃ x_1_b x_1_o : Nat, x_1 = some ⟨x_1_b, x_1_o, none⟩ ∧ (0 : Int) ≤ o_N ∧ o_N < (x_n_1 : Int) ∧ (∃ x_State x_Sequence x_Pins x_Erases : Int, hcell h22 x_1_b (x_1_o + (Int.toNat o_N) * 4) = some (.int .i64 x_State) ∧ hcell h22 x_1_b ((x_1_o + (Int.toNat o_N) * 4) + 1) = some (.int .u64 x_Sequence) ∧ hcell h22 x_1_b ((x_1_o + (Int.toNat o_N) * 4) + 2) = some (.int .i64 x_Pins) ∧ hcell h22 x_1_b ((x_1_o + (Int.toNat o_N) * 4) + 3) = some (.int .i64 x_Erases) ∧ (j_1 = ((r0_State == x_State && (r0_Sequence == x_Sequence && (r0_Pins == x_Pins && (r0_Erases == x_Erases && true)))))))))) ∧ (r1 = false → (j_1 = false))) ∧ (∀ (h24 : Heap), Ext h22 h24 → R (.bool j_1) h24)))))))) ∧ ((o_Kind == 8) = false → (((o_Kind == 9) = true → (∃ T91 : Heap → Heap → Prop, Fit T91 ∧ (∀ (h1 : Heap), Ext h h1 → (∃ x : Option Addr, ∃ x_n x_c : Nat, (∀ hx, T91 h1 hx → hcell hx x_b (x_o + 1) = some (.slice x x_n x_c)) ∧ HC Try.prog 27 #[(ptr m_b m_o)] h1 (fun vv h25 => T91 h1 h25 ∧ ∃ r : Option Addr, ∃ r_n r_c : Nat, vv = (.slice r r_n r_c) ∧ (∃ r_1 : Bool, (∀ h26, T91 h25 h26 → HC Try.prog 46 #[(.slice r r_n r_c), (.slice x x_n x_c)] h26 (fun vv h' => vv = (.bool r_1) ∧ h' = h26)) ∧ R (.bool r_1) h25)))))) ∧ ((o_Kind == 9) = false → (((o_Kind == 10) = true → (∀ (h1 : Heap), Ext h h1 → HC Try.prog 28 #[(ptr m_b m_o)] h1 (fun vv h27 => ∃ r : Option Addr, ∃ r_n r_c : Nat, vv = (.slice r r_n r_c) ∧ HC Try.prog 20 #[(ptr x_b x_o)] h27 (fun vv h28 => ∃ r_1 : Option Addr, ∃ r_n_1 r_c_1 : Nat, vv = (.slice r_1 r_n_1 r_c_1) ∧ (∃ r_2 : Bool, HC Try.prog 46 #[(.slice r r_n r_c), (.slice r_1 r_n_1 r_c_1)] h28 (fun vv h' => vv = (.bool r_2) ∧ h' = h28) ∧ R (.bool r_2) h28))))) ∧ ((o_Kind == 10) = false → (∃ j : Bool, (∀ (h1 : Heap), Ext h h1 → (∃ r : Int, (∀ h30, Ext h1 h30 → HC Try.prog 15 #[(ptr m_b m_o)] h30 (fun vv h' => vv = (.int .u64 r) ∧ h' = h30)) ∧ (∃ x : Int, hcell h1 x_b (x_o + 2) = some (.int .u64 x) ∧ (((r == x) = true → (∃ r_1 : Int, (∀ h29, Ext h1 h29 → HC Try.prog 14 #[(ptr m_b m_o)] h29 (fun vv h' => vv = (.int .i64 r_1) ∧ h' = h29)) ∧ (∃ x_1 : Int, hcell h1 x_b (x_o + 3) = some (.int .i64 x_1) ∧ (j = (r_1 == x_1))))) ∧ ((r == x) = false → (j = false)))))) ∧ (∀ (h1 : Heap), Ext h h1 → R (.bool j) h1))))))))))))))))))))))) :
    HC Try.prog 18 #[(ptr m_b m_o), (ptr x_b x_o), (.agg #[(.int .i64 o_Kind), (.int .i64 o_N), (.int .i64 o_Task)])] h R := by
  refine hc_of (args := [(ptr m_b m_o), (ptr x_b x_o), (.agg #[(.int .i64 o_Kind), (.int .i64 o_N), (.int .i64 o_Task)])]) Try.func18 rfl Try.ntmps18 (Nat.le_of_ble_eq_true rfl) ?_
  refine hx_seq ?_
  refine hx_region ?_
  refine hl_step rfl rfl (hn_box (v := (.agg #[(.int .i64 o_Kind), (.int .i64 o_N), (.int .i64 o_Task)])) rfl ?_)
  intro o h1 eb1 eh2
  have xx3 : Ext h h1 := by rw [eh2]; exact Ext.push _ _
  have lo5 : Array.size h ≤ o := Nat.le_of_eq (Eq.symm eb1)
  have hr4 : h1[o]? = some (.cells #[(.int .i64 o_Kind), (.int .i64 o_N), (.int .i64 o_Task)] 36 (0, 0)) := by rw [eh2]; exact push_new eb1
  refine hl_val rfl rfl (v := (.bool false)) (hv_assign rfl) ?_
  refine hl_nil ?_
  refine seqQ_n ?_
  refine hx_seq ?_
  refine hx_seq ?_
  refine hx_region ?_
  refine hl_val rfl rfl (v := (ptr o 0)) (hv_field TyQC.fld36_0 (b := o) (o := 0) rfl) ?_
  refine hl_val rfl rfl (v := (.int .i64 o_Kind)) (hv_load TyQC.agg3 rfl (rowcell hr4 rfl)) ?_
  refine hl_nil ?_
  refine seqQ_n ?_
  refine hx_block ?_
  refine hx_seq ?_
  refine hx_region ?_
  refine hl_val rfl rfl (v := (.bool (o_Kind == 1))) (hv_arith rfl rfl rfl) ?_
  refine hl_val rfl rfl (v := (.bool (o_Kind == 1))) (hv_assign rfl) ?_
  refine hl_nil ?_
  refine seqQ_n ?_
  refine hx_cond (b := o_Kind == 1) rfl (fun hb6 => ?_) (fun hb6 => ?_)
  · replace H := H.1 hb6
    refine hx_seq ?_
    refine hx_region ?_
    refine hl_val rfl rfl (v := (ptr m_b m_o)) (hv_move rfl) ?_
    replace H := H o h1 lo5 (row_lt hr4) xx3
    refine hl_step rfl rfl (hs_call TyQC.cb13 (vs := [(ptr m_b m_o)]) rfl (HC.mono H ?_))
    rintro _ h2 ⟨kp7, r0, r1, r2, rfl, H⟩
    replace hr4 := Kp.row kp7 (by simp) hr4
    refine hl_val rfl rfl (v := (.tuple #[(.int .i64 r0), (.int .u64 r1), (.int .i64 r2)])) (hv_move rfl) ?_
    refine hl_val rfl rfl (v := (.int .i64 r0)) (hv_extract (vs := #[(.int .i64 r0), (.int .u64 r1), (.int .i64 r2)]) rfl rfl) ?_
    refine hl_val rfl rfl (v := (.int .u64 r1)) (hv_extract (vs := #[(.int .i64 r0), (.int .u64 r1), (.int .i64 r2)]) rfl rfl) ?_
    refine hl_val rfl rfl (v := (.int .i64 r2)) (hv_extract (vs := #[(.int .i64 r0), (.int .u64 r1), (.int .i64 r2)]) rfl rfl) ?_
    refine hl_val rfl rfl (v := (.int .i64 r0)) (hv_assign rfl) ?_
    refine hl_val rfl rfl (v := (.int .u64 r1)) (hv_assign rfl) ?_
    refine hl_val rfl rfl (v := (.int .i64 r2)) (hv_assign rfl) ?_
    refine hl_nil ?_
    refine seqQ_n ?_
    refine hx_seq ?_
    refine hx_region ?_
    refine hl_val rfl rfl (v := (ptr x_b x_o)) (hv_move rfl) ?_
    refine hl_step rfl rfl (hs_call TyQC.cb39 (vs := [(ptr x_b x_o)]) rfl (HC.mono H ?_))
    rintro _ h3 ⟨kp8, r0_1, r1_1, r2_1, rfl, H⟩
    replace hr4 := Kp.row kp8 (by simp) hr4
    refine hl_val rfl rfl (v := (.tuple #[(.int .i64 r0_1), (.int .u64 r1_1), (.int .i64 r2_1)])) (hv_move rfl) ?_
    refine hl_val rfl rfl (v := (.int .i64 r0_1)) (hv_extract (vs := #[(.int .i64 r0_1), (.int .u64 r1_1), (.int .i64 r2_1)]) rfl rfl) ?_
    refine hl_val rfl rfl (v := (.int .u64 r1_1)) (hv_extract (vs := #[(.int .i64 r0_1), (.int .u64 r1_1), (.int .i64 r2_1)]) rfl rfl) ?_
    refine hl_val rfl rfl (v := (.int .i64 r2_1)) (hv_extract (vs := #[(.int .i64 r0_1), (.int .u64 r1_1), (.int .i64 r2_1)]) rfl rfl) ?_
    refine hl_val rfl rfl (v := (.int .i64 r0_1)) (hv_assign rfl) ?_
    refine hl_val rfl rfl (v := (.int .u64 r1_1)) (hv_assign rfl) ?_
    refine hl_val rfl rfl (v := (.int .i64 r2_1)) (hv_assign rfl) ?_
    refine hl_nil ?_
    refine seqQ_n ?_
    refine hx_cut (fun ρ h' => h3 = h' ∧ Has ρ [(6, (.bool ((r0 == r0_1) && ((r1 == r1_1) && (r2 == r2_1)))))]) ?_ ?_
    · refine hx_region ?_
      refine hl_val rfl rfl (v := (.int .i64 r0)) (hv_move rfl) ?_
      refine hl_val rfl rfl (v := (.int .i64 r0_1)) (hv_move rfl) ?_
      refine hl_val rfl rfl (v := (.bool (r0 == r0_1))) (hv_arith rfl rfl rfl) ?_
      refine hl_val rfl rfl (v := (.bool (r0 == r0_1))) (hv_move rfl) ?_
      rcases bool_or (r0 == r0_1) with hg11 | hg11
      · refine hl_yes (wanted_y rfl rfl rfl hg11) rfl (HStep.of_val (v := (.int .u64 r1)) (hv_move rfl) ?_)
        refine hl_yes (wanted_y rfl rfl rfl hg11) rfl (HStep.of_val (v := (.int .u64 r1_1)) (hv_move rfl) ?_)
        refine hl_yes (wanted_y rfl rfl rfl hg11) rfl (HStep.of_val (v := (.bool (r1 == r1_1))) (hv_arith rfl rfl rfl) ?_)
        refine hl_val rfl rfl (v := (.bool (r1 == r1_1))) (hv_pick_t rfl hg11 rfl) ?_
        refine hl_val rfl rfl (v := (.bool (r1 == r1_1))) (hv_move rfl) ?_
        rcases bool_or (r1 == r1_1) with hg12 | hg12
        · refine hl_yes (wanted_y rfl rfl rfl hg12) rfl (HStep.of_val (v := (.int .i64 r2)) (hv_move rfl) ?_)
          refine hl_yes (wanted_y rfl rfl rfl hg12) rfl (HStep.of_val (v := (.int .i64 r2_1)) (hv_move rfl) ?_)
          refine hl_yes (wanted_y rfl rfl rfl hg12) rfl (HStep.of_val (v := (.bool (r2 == r2_1))) (hv_arith rfl rfl rfl) ?_)
          refine hl_val rfl rfl (v := (.bool (r2 == r2_1))) (hv_pick_t rfl hg12 rfl) ?_
          refine hl_val rfl rfl (v := (.bool (r2 == r2_1))) (hv_assign rfl) ?_
          refine hl_nil ?_
          refine seqQ_n ?_
          exact ⟨rfl, (has_cons (show ((.bool (r2 == r2_1)) : Value) = (.bool ((r0 == r0_1) && ((r1 == r1_1) && (r2 == r2_1)))) from (by first | rfl | ((try rw [hg11]); (try rw [hg12]); all_goals first | rfl | (simp only [Bool.true_or, Bool.or_true, Bool.false_or, Bool.or_false, Bool.true_and, Bool.and_true, Bool.false_and, Bool.and_false, Bool.not_true, Bool.not_false, Bool.cond_true, Bool.cond_false]; done)) | simp [hg11, hg12])) has_nil)⟩
        · refine hl_no (wanted_n rfl rfl rfl hg12) rfl ?_
          refine hl_no (wanted_n rfl rfl rfl hg12) rfl ?_
          refine hl_no (wanted_n rfl rfl rfl hg12) rfl ?_
          refine hl_val rfl rfl (v := (.bool false)) (hv_pick_f rfl hg12 rfl) ?_
          refine hl_val rfl rfl (v := (.bool false)) (hv_assign rfl) ?_
          refine hl_nil ?_
          refine seqQ_n ?_
          exact ⟨rfl, (has_cons (show ((.bool false) : Value) = (.bool ((r0 == r0_1) && ((r1 == r1_1) && (r2 == r2_1)))) from (by first | rfl | ((try rw [hg11]); (try rw [hg12]); all_goals first | rfl | (simp only [Bool.true_or, Bool.or_true, Bool.false_or, Bool.or_false, Bool.true_and, Bool.and_true, Bool.false_and, Bool.and_false, Bool.not_true, Bool.not_false, Bool.cond_true, Bool.cond_false]; done)) | simp [hg11, hg12])) has_nil)⟩
      · refine hl_no (wanted_n rfl rfl rfl hg11) rfl ?_
        refine hl_no (wanted_n rfl rfl rfl hg11) rfl ?_
        refine hl_no (wanted_n rfl rfl rfl hg11) rfl ?_
        refine hl_val rfl rfl (v := (.bool false)) (hv_pick_f rfl hg11 rfl) ?_
        refine hl_val rfl rfl (v := (.bool false)) (hv_move rfl) ?_
        refine hl_no (wanted_n rfl rfl (c := false) rfl rfl) rfl ?_
        refine hl_no (wanted_n rfl rfl (c := false) rfl rfl) rfl ?_
        refine hl_no (wanted_n rfl rfl (c := false) rfl rfl) rfl ?_
        refine hl_val rfl rfl (v := (.bool false)) (hv_pick (t := false) rfl rfl) ?_
        refine hl_val rfl rfl (v := (.bool false)) (hv_assign rfl) ?_
        refine hl_nil ?_
        refine seqQ_n ?_
        exact ⟨rfl, (has_cons (show ((.bool false) : Value) = (.bool ((r0 == r0_1) && ((r1 == r1_1) && (r2 == r2_1)))) from (by first | rfl | ((try rw [hg11]); all_goals first | rfl | (simp only [Bool.true_or, Bool.or_true, Bool.false_or, Bool.or_false, Bool.true_and, Bool.and_true, Bool.false_and, Bool.and_false, Bool.not_true, Bool.not_false, Bool.cond_true, Bool.cond_false]; done)) | simp [hg11])) has_nil)⟩
    · rintro ρ _ ⟨rfl, hH⟩
      refine hx_has _ hH ?_
      refine hx_ret ?_
      refine blockQ_ret ?_
      refine seqQ_ret ?_
      exact endQ_ret _ (res_one Try.results18 (rv_tmp rfl)) H
  · replace H := H.2 hb6
    refine hx_seq ?_
    refine hx_region ?_
    refine hl_val rfl rfl (v := (.bool (o_Kind == 2))) (hv_arith rfl rfl rfl) ?_
    refine hl_val rfl rfl (v := (.bool (o_Kind == 2))) (hv_assign rfl) ?_
    refine hl_nil ?_
    refine seqQ_n ?_
    refine hx_cond (b := o_Kind == 2) rfl (fun hb13 => ?_) (fun hb13 => ?_)
    · replace H := H.1 hb13
      refine hx_seq ?_
      refine hx_region ?_
      refine hl_val rfl rfl (v := (ptr m_b m_o)) (hv_move rfl) ?_
      replace H := H o h1 lo5 (row_lt hr4) xx3
      refine hl_step rfl rfl (hs_call TyQC.cb23 (vs := [(ptr m_b m_o)]) rfl (HC.mono H ?_))
      rintro _ h4 ⟨kp14, r, rfl, H⟩
      replace hr4 := Kp.row kp14 (by simp) hr4
      refine hl_val rfl rfl (v := (ptr x_b x_o)) (hv_move rfl) ?_
      refine hl_step rfl rfl (hs_call TyQC.cb40 (vs := [(ptr x_b x_o)]) rfl (HC.mono H ?_))
      rintro _ h5 ⟨kp15, r_1, rfl, H⟩
      replace hr4 := Kp.row kp15 (by simp) hr4
      refine hl_val rfl rfl (v := (.bool (r == r_1))) (hv_arith rfl rfl rfl) ?_
      refine hl_val rfl rfl (v := (.bool (r == r_1))) (hv_assign rfl) ?_
      refine hl_nil ?_
      refine seqQ_n ?_
      refine hx_ret ?_
      refine blockQ_ret ?_
      refine seqQ_ret ?_
      exact endQ_ret _ (res_one Try.results18 (rv_tmp rfl)) H
    · replace H := H.2 hb13
      refine hx_seq ?_
      refine hx_region ?_
      refine hl_val rfl rfl (v := (.bool (o_Kind == 3))) (hv_arith rfl rfl rfl) ?_
      refine hl_val rfl rfl (v := (.bool (o_Kind == 3))) (hv_assign rfl) ?_
      refine hl_nil ?_
      refine seqQ_n ?_
      refine hx_cond (b := o_Kind == 3) rfl (fun hb16 => ?_) (fun hb16 => ?_)
      · replace H := H.1 hb16
        refine hx_seq ?_
        obtain ⟨T17, hT18, H⟩ := H
        refine hx_drawT TyQC.mixed T17 hT18 [.pure, .pure, .read, .tame, .pure, .pure, .stay, .wild, .pure, .pure] [0, 1, 2, 4, 5, 6, 3, 7, 8, 9] (by kernel_rfl) ?_
        refine hp_pure (i := 0) rfl (wanted_0 rfl) rfl (ptr m_b m_o) (fun _ => hv_move rfl) ?_
        refine hp_pure (i := 1) rfl (wanted_0 rfl) rfl (ptr o 1) (fun _ => hv_field TyQC.fld36_1 (b := o) (o := 0) rfl) ?_
        refine hp_read (i := 2) rfl (wanted_0 rfl) rfl (.int .i64 o_N) (fun _ he => hv_load TyQC.agg3 rfl (Ext.cell he (rowcell hr4 rfl))) ?_
        refine hp_pure (i := 4) rfl (wanted_0 rfl) rfl (ptr x_b x_o) (fun _ => hv_move rfl) ?_
        refine hp_pure (i := 5) rfl (wanted_0 rfl) rfl (ptr o 1) (fun _ => hv_field TyQC.fld36_1 (b := o) (o := 0) rfl) ?_
        replace H := H o h1 lo5 (row_lt hr4) xx3
        obtain ⟨hk26, H⟩ := H
        refine hp_stay (i := 6) rfl (wanted_0 rfl) rfl (.int .i64 o_N) (fun _ he => hv_load TyQC.agg3 rfl ((fun hx he => rowcell (Kp.row (hk26 hx he) (by simp) hr4) rfl) _ he)) ?_
        refine hp_tame (i := 3) rfl (wanted_0 rfl) rfl (hs_call TyQC.cb24 (vs := [(ptr m_b m_o), (.int .i64 o_N)]) rfl (HC.mono H ?_))
        rintro _ h8 ⟨ht23, kp24, r_2, rfl, H⟩
        refine ⟨ht23, ?_⟩
        replace hr4 := Kp.row kp24 (by simp) hr4
        refine hp_wild (i := 7) rfl (wanted_0 rfl) rfl (hs_call TyQC.cb41 (vs := [(ptr x_b x_o), (.int .i64 o_N)]) rfl (HC.mono H ?_))
        rintro _ h9 ⟨kp25, r_3, rfl, H⟩
        replace hr4 := Kp.row kp25 (by simp) hr4
        refine hp_pure (i := 8) rfl (wanted_0 rfl) rfl (.bool (r_2 == r_3)) (fun _ => hv_arith rfl rfl rfl) ?_
        refine hp_pure (i := 9) rfl (wanted_0 rfl) rfl (.bool (r_2 == r_3)) (fun _ => hv_assign rfl) ?_
        refine hp_nil ?_
        refine seqQ_n ?_
        refine hx_ret ?_
        refine blockQ_ret ?_
        refine seqQ_ret ?_
        exact endQ_ret _ (res_one Try.results18 (rv_tmp rfl)) H
      · replace H := H.2 hb16
        refine hx_seq ?_
        refine hx_region ?_
        refine hl_val rfl rfl (v := (.bool (o_Kind == 4))) (hv_arith rfl rfl rfl) ?_
        refine hl_val rfl rfl (v := (.bool (o_Kind == 4))) (hv_assign rfl) ?_
        refine hl_nil ?_
        refine seqQ_n ?_
        refine hx_cond (b := o_Kind == 4) rfl (fun hb27 => ?_) (fun hb27 => ?_)
        · replace H := H.1 hb27
          refine hx_seq ?_
          refine hx_region ?_
          refine hl_val rfl rfl (v := (ptr m_b m_o)) (hv_move rfl) ?_
          refine hl_val rfl rfl (v := (ptr o 2)) (hv_field TyQC.fld36_2 (b := o) (o := 0) rfl) ?_
          refine hl_val rfl rfl (v := (.int .i64 o_Task)) (hv_load TyQC.agg3 rfl (rowcell hr4 rfl)) ?_
          refine hl_val rfl rfl (v := (ptr o 1)) (hv_field TyQC.fld36_1 (b := o) (o := 0) rfl) ?_
          refine hl_val rfl rfl (v := (.int .i64 o_N)) (hv_load TyQC.agg3 rfl (rowcell hr4 rfl)) ?_
          replace H := H o h1 lo5 (row_lt hr4) xx3
          refine hl_step rfl rfl (hs_call TyQC.cb21 (vs := [(ptr m_b m_o), (.int .i64 o_Task), (.int .i64 o_N)]) rfl (HC.mono H ?_))
          rintro _ h10 ⟨kp28, r0, r1, rfl, H⟩
          replace hr4 := Kp.row kp28 (by simp) hr4
          refine hl_val rfl rfl (v := (.tuple #[(.bool r0), (.int .i64 r1)])) (hv_move rfl) ?_
          refine hl_val rfl rfl (v := (.bool r0)) (hv_extract (vs := #[(.bool r0), (.int .i64 r1)]) rfl rfl) ?_
          refine hl_val rfl rfl (v := (.int .i64 r1)) (hv_extract (vs := #[(.bool r0), (.int .i64 r1)]) rfl rfl) ?_
          refine hl_val rfl rfl (v := (.bool r0)) (hv_assign rfl) ?_
          refine hl_val rfl rfl (v := (.int .i64 r1)) (hv_assign rfl) ?_
          refine hl_nil ?_
          refine seqQ_n ?_
          refine hx_seq ?_
          refine hx_region ?_
          refine hl_val rfl rfl (v := (ptr x_b x_o)) (hv_move rfl) ?_
          refine hl_val rfl rfl (v := (ptr o 2)) (hv_field TyQC.fld36_2 (b := o) (o := 0) rfl) ?_
          refine hl_val rfl rfl (v := (.int .i64 o_Task)) (hv_load TyQC.agg3 rfl (rowcell hr4 rfl)) ?_
          refine hl_val rfl rfl (v := (ptr o 1)) (hv_field TyQC.fld36_1 (b := o) (o := 0) rfl) ?_
          refine hl_val rfl rfl (v := (.int .i64 o_N)) (hv_load TyQC.agg3 rfl (rowcell hr4 rfl)) ?_
          refine hl_step rfl rfl (hs_call TyQC.cb42 (vs := [(ptr x_b x_o), (.int .i64 o_Task), (.int .i64 o_N)]) rfl (HC.mono H ?_))
          rintro _ h11 ⟨kp29, r0_1, r1_1, rfl, H⟩
          replace hr4 := Kp.row kp29 (by simp) hr4
          refine hl_val rfl rfl (v := (.tuple #[(.bool r0_1), (.int .i64 r1_1)])) (hv_move rfl) ?_
          refine hl_val rfl rfl (v := (.bool r0_1)) (hv_extract (vs := #[(.bool r0_1), (.int .i64 r1_1)]) rfl rfl) ?_
          refine hl_val rfl rfl (v := (.int .i64 r1_1)) (hv_extract (vs := #[(.bool r0_1), (.int .i64 r1_1)]) rfl rfl) ?_
          refine hl_val rfl rfl (v := (.bool r0_1)) (hv_assign rfl) ?_
          refine hl_val rfl rfl (v := (.int .i64 r1_1)) (hv_assign rfl) ?_
          refine hl_nil ?_
          refine seqQ_n ?_
          refine hx_cut (fun ρ h' => h11 = h' ∧ Has ρ [(6, (.bool ((r0 == r0_1) && (r1 == r1_1))))]) ?_ ?_
          · refine hx_region ?_
            refine hl_val rfl rfl (v := (.bool r0)) (hv_move rfl) ?_
            refine hl_val rfl rfl (v := (.bool r0_1)) (hv_move rfl) ?_
            refine hl_val rfl rfl (v := (.bool (r0 == r0_1))) (hv_eqBool TyQC.u4 rfl rfl rfl) ?_
            refine hl_val rfl rfl (v := (.bool (r0 == r0_1))) (hv_move rfl) ?_
            rcases bool_or (r0 == r0_1) with hg32 | hg32
            · refine hl_yes (wanted_y rfl rfl rfl hg32) rfl (HStep.of_val (v := (.int .i64 r1)) (hv_move rfl) ?_)
              refine hl_yes (wanted_y rfl rfl rfl hg32) rfl (HStep.of_val (v := (.int .i64 r1_1)) (hv_move rfl) ?_)
              refine hl_yes (wanted_y rfl rfl rfl hg32) rfl (HStep.of_val (v := (.bool (r1 == r1_1))) (hv_arith rfl rfl rfl) ?_)
              refine hl_val rfl rfl (v := (.bool (r1 == r1_1))) (hv_pick_t rfl hg32 rfl) ?_
              refine hl_val rfl rfl (v := (.bool (r1 == r1_1))) (hv_assign rfl) ?_
              refine hl_nil ?_
              refine seqQ_n ?_
              exact ⟨rfl, (has_cons (show ((.bool (r1 == r1_1)) : Value) = (.bool ((r0 == r0_1) && (r1 == r1_1))) from (by first | rfl | ((try rw [hg32]); all_goals first | rfl | (simp only [Bool.true_or, Bool.or_true, Bool.false_or, Bool.or_false, Bool.true_and, Bool.and_true, Bool.false_and, Bool.and_false, Bool.not_true, Bool.not_false, Bool.cond_true, Bool.cond_false]; done)) | simp [hg32])) has_nil)⟩
            · refine hl_no (wanted_n rfl rfl rfl hg32) rfl ?_
              refine hl_no (wanted_n rfl rfl rfl hg32) rfl ?_
              refine hl_no (wanted_n rfl rfl rfl hg32) rfl ?_
              refine hl_val rfl rfl (v := (.bool false)) (hv_pick_f rfl hg32 rfl) ?_
              refine hl_val rfl rfl (v := (.bool false)) (hv_assign rfl) ?_
              refine hl_nil ?_
              refine seqQ_n ?_
              exact ⟨rfl, (has_cons (show ((.bool false) : Value) = (.bool ((r0 == r0_1) && (r1 == r1_1))) from (by first | rfl | ((try rw [hg32]); all_goals first | rfl | (simp only [Bool.true_or, Bool.or_true, Bool.false_or, Bool.or_false, Bool.true_and, Bool.and_true, Bool.false_and, Bool.and_false, Bool.not_true, Bool.not_false, Bool.cond_true, Bool.cond_false]; done)) | simp [hg32])) has_nil)⟩
          · rintro ρ _ ⟨rfl, hH⟩
            refine hx_has _ hH ?_
            refine hx_ret ?_
            refine blockQ_ret ?_
            refine seqQ_ret ?_
            exact endQ_ret _ (res_one Try.results18 (rv_tmp rfl)) H
        · replace H := H.2 hb27
          refine hx_seq ?_
          refine hx_region ?_
          refine hl_val rfl rfl (v := (.bool (o_Kind == 5))) (hv_arith rfl rfl rfl) ?_
          refine hl_val rfl rfl (v := (.bool (o_Kind == 5))) (hv_assign rfl) ?_
          refine hl_nil ?_
          refine seqQ_n ?_
          refine hx_cond (b := o_Kind == 5) rfl (fun hb33 => ?_) (fun hb33 => ?_)
          · replace H := H.1 hb33
            refine hx_seq ?_
            obtain ⟨T34, hT35, H⟩ := H
            refine hx_drawT TyQC.mixed T34 hT35 [.pure, .pure, .read, .tame, .pure, .pure, .stay, .wild, .pure, .pure] [0, 1, 2, 4, 5, 6, 3, 7, 8, 9] (by kernel_rfl) ?_
            refine hp_pure (i := 0) rfl (wanted_0 rfl) rfl (ptr m_b m_o) (fun _ => hv_move rfl) ?_
            refine hp_pure (i := 1) rfl (wanted_0 rfl) rfl (ptr o 1) (fun _ => hv_field TyQC.fld36_1 (b := o) (o := 0) rfl) ?_
            refine hp_read (i := 2) rfl (wanted_0 rfl) rfl (.int .i64 o_N) (fun _ he => hv_load TyQC.agg3 rfl (Ext.cell he (rowcell hr4 rfl))) ?_
            refine hp_pure (i := 4) rfl (wanted_0 rfl) rfl (ptr x_b x_o) (fun _ => hv_move rfl) ?_
            refine hp_pure (i := 5) rfl (wanted_0 rfl) rfl (ptr o 1) (fun _ => hv_field TyQC.fld36_1 (b := o) (o := 0) rfl) ?_
            replace H := H o h1 lo5 (row_lt hr4) xx3
            obtain ⟨hk43, H⟩ := H
            refine hp_stay (i := 6) rfl (wanted_0 rfl) rfl (.int .i64 o_N) (fun _ he => hv_load TyQC.agg3 rfl ((fun hx he => rowcell (Kp.row (hk43 hx he) (by simp) hr4) rfl) _ he)) ?_
            refine hp_tame (i := 3) rfl (wanted_0 rfl) rfl (hs_call TyQC.cb25 (vs := [(ptr m_b m_o), (.int .i64 o_N)]) rfl (HC.mono H ?_))
            rintro _ h14 ⟨ht40, kp41, r_2, rfl, H⟩
            refine ⟨ht40, ?_⟩
            replace hr4 := Kp.row kp41 (by simp) hr4
            refine hp_wild (i := 7) rfl (wanted_0 rfl) rfl (hs_call TyQC.cb43 (vs := [(ptr x_b x_o), (.int .i64 o_N)]) rfl (HC.mono H ?_))
            rintro _ h15 ⟨kp42, r_3, rfl, H⟩
            replace hr4 := Kp.row kp42 (by simp) hr4
            refine hp_pure (i := 8) rfl (wanted_0 rfl) rfl (.bool (r_2 == r_3)) (fun _ => hv_arith rfl rfl rfl) ?_
            refine hp_pure (i := 9) rfl (wanted_0 rfl) rfl (.bool (r_2 == r_3)) (fun _ => hv_assign rfl) ?_
            refine hp_nil ?_
            refine seqQ_n ?_
            refine hx_ret ?_
            refine blockQ_ret ?_
            refine seqQ_ret ?_
            exact endQ_ret _ (res_one Try.results18 (rv_tmp rfl)) H
          · replace H := H.2 hb33
            refine hx_seq ?_
            refine hx_region ?_
            refine hl_val rfl rfl (v := (.bool (o_Kind == 6))) (hv_arith rfl rfl rfl) ?_
            refine hl_val rfl rfl (v := (.bool (o_Kind == 6))) (hv_assign rfl) ?_
            refine hl_nil ?_
            refine seqQ_n ?_
            refine hx_cond (b := o_Kind == 6) rfl (fun hb44 => ?_) (fun hb44 => ?_)
            · replace H := H.1 hb44
              refine hx_seq ?_
              obtain ⟨T45, hT46, H⟩ := H
              refine hx_drawT TyQC.mixed T45 hT46 [.pure, .pure, .read, .tame, .pure, .pure, .stay, .wild, .pure, .pure] [0, 1, 2, 4, 5, 6, 3, 7, 8, 9] (by kernel_rfl) ?_
              refine hp_pure (i := 0) rfl (wanted_0 rfl) rfl (ptr m_b m_o) (fun _ => hv_move rfl) ?_
              refine hp_pure (i := 1) rfl (wanted_0 rfl) rfl (ptr o 1) (fun _ => hv_field TyQC.fld36_1 (b := o) (o := 0) rfl) ?_
              refine hp_read (i := 2) rfl (wanted_0 rfl) rfl (.int .i64 o_N) (fun _ he => hv_load TyQC.agg3 rfl (Ext.cell he (rowcell hr4 rfl))) ?_
              refine hp_pure (i := 4) rfl (wanted_0 rfl) rfl (ptr x_b x_o) (fun _ => hv_move rfl) ?_
              refine hp_pure (i := 5) rfl (wanted_0 rfl) rfl (ptr o 1) (fun _ => hv_field TyQC.fld36_1 (b := o) (o := 0) rfl) ?_
              replace H := H o h1 lo5 (row_lt hr4) xx3
              obtain ⟨hk54, H⟩ := H
              refine hp_stay (i := 6) rfl (wanted_0 rfl) rfl (.int .i64 o_N) (fun _ he => hv_load TyQC.agg3 rfl ((fun hx he => rowcell (Kp.row (hk54 hx he) (by simp) hr4) rfl) _ he)) ?_
              refine hp_tame (i := 3) rfl (wanted_0 rfl) rfl (hs_call TyQC.cb26 (vs := [(ptr m_b m_o), (.int .i64 o_N)]) rfl (HC.mono H ?_))
              rintro _ h18 ⟨ht51, kp52, r_2, rfl, H⟩
              refine ⟨ht51, ?_⟩
              replace hr4 := Kp.row kp52 (by simp) hr4
              refine hp_wild (i := 7) rfl (wanted_0 rfl) rfl (hs_call TyQC.cb44 (vs := [(ptr x_b x_o), (.int .i64 o_N)]) rfl (HC.mono H ?_))
              rintro _ h19 ⟨kp53, r_3, rfl, H⟩
              replace hr4 := Kp.row kp53 (by simp) hr4
              refine hp_pure (i := 8) rfl (wanted_0 rfl) rfl (.bool (r_2 == r_3)) (fun _ => hv_eqBool TyQC.u4 rfl rfl rfl) ?_
              refine hp_pure (i := 9) rfl (wanted_0 rfl) rfl (.bool (r_2 == r_3)) (fun _ => hv_assign rfl) ?_
              refine hp_nil ?_
              refine seqQ_n ?_
              refine hx_ret ?_
              refine blockQ_ret ?_
              refine seqQ_ret ?_
              exact endQ_ret _ (res_one Try.results18 (rv_tmp rfl)) H
            · replace H := H.2 hb44
              refine hx_seq ?_
              refine hx_region ?_
              refine hl_val rfl rfl (v := (.bool (o_Kind == 7))) (hv_arith rfl rfl rfl) ?_
              refine hl_val rfl rfl (v := (.bool (o_Kind == 7))) (hv_assign rfl) ?_
              refine hl_nil ?_
              refine seqQ_n ?_
              refine hx_cond (b := o_Kind == 7) rfl (fun hb55 => ?_) (fun hb55 => ?_)
              · replace H := H.1 hb55
                refine hx_seq ?_
                refine hx_region ?_
                refine hl_val rfl rfl (v := (ptr m_b m_o)) (hv_move rfl) ?_
                refine hl_val rfl rfl (v := (ptr o 1)) (hv_field TyQC.fld36_1 (b := o) (o := 0) rfl) ?_
                refine hl_val rfl rfl (v := (.int .i64 o_N)) (hv_load TyQC.agg3 rfl (rowcell hr4 rfl)) ?_
                replace H := H o h1 lo5 (row_lt hr4) xx3
                refine hl_step rfl rfl (hs_call TyQC.cb22 (vs := [(ptr m_b m_o), (.int .i64 o_N)]) rfl (HC.mono H ?_))
                rintro _ h20 ⟨kp56, r0, r0_n, r0_c, r1, rfl, H⟩
                replace hr4 := Kp.row kp56 (by simp) hr4
                refine hl_val rfl rfl (v := (.tuple #[(.slice r0 r0_n r0_c), (.int .i64 r1)])) (hv_move rfl) ?_
                refine hl_val rfl rfl (v := (.slice r0 r0_n r0_c)) (hv_extract (vs := #[(.slice r0 r0_n r0_c), (.int .i64 r1)]) rfl rfl) ?_
                refine hl_val rfl rfl (v := (.int .i64 r1)) (hv_extract (vs := #[(.slice r0 r0_n r0_c), (.int .i64 r1)]) rfl rfl) ?_
                refine hl_val rfl rfl (v := (.slice r0 r0_n r0_c)) (hv_assign rfl) ?_
                refine hl_val rfl rfl (v := (.int .i64 r1)) (hv_assign rfl) ?_
                refine hl_nil ?_
                refine seqQ_n ?_
                refine hx_seq ?_
                refine hx_region ?_
                refine hl_val rfl rfl (v := (ptr x_b x_o)) (hv_move rfl) ?_
                refine hl_val rfl rfl (v := (ptr o 1)) (hv_field TyQC.fld36_1 (b := o) (o := 0) rfl) ?_
                refine hl_val rfl rfl (v := (.int .i64 o_N)) (hv_load TyQC.agg3 rfl (rowcell hr4 rfl)) ?_
                refine hl_step rfl rfl (hs_call TyQC.cb45 (vs := [(ptr x_b x_o), (.int .i64 o_N)]) rfl (HC.mono H ?_))
                rintro _ h21 ⟨kp57, r0_1, r0_n_1, r0_c_1, r1_1, rfl, H⟩
                replace hr4 := Kp.row kp57 (by simp) hr4
                refine hl_val rfl rfl (v := (.tuple #[(.slice r0_1 r0_n_1 r0_c_1), (.int .i64 r1_1)])) (hv_move rfl) ?_
                refine hl_val rfl rfl (v := (.slice r0_1 r0_n_1 r0_c_1)) (hv_extract (vs := #[(.slice r0_1 r0_n_1 r0_c_1), (.int .i64 r1_1)]) rfl rfl) ?_
                refine hl_val rfl rfl (v := (.int .i64 r1_1)) (hv_extract (vs := #[(.slice r0_1 r0_n_1 r0_c_1), (.int .i64 r1_1)]) rfl rfl) ?_
                refine hl_val rfl rfl (v := (.slice r0_1 r0_n_1 r0_c_1)) (hv_assign rfl) ?_
                refine hl_val rfl rfl (v := (.int .i64 r1_1)) (hv_assign rfl) ?_
                refine hl_nil ?_
                refine seqQ_n ?_
                obtain ⟨j, Hx58, Hy59⟩ := H
                refine hx_cut (fun ρ h' => h21 = h' ∧ Has ρ [(6, (.bool j))]) ?_ ?_
                · have H := Hx58; clear Hx58 Hy59
                  refine hx_region ?_
                  refine hl_val rfl rfl (v := (.slice r0 r0_n r0_c)) (hv_move rfl) ?_
                  refine hl_val rfl rfl (v := (.slice r0_1 r0_n_1 r0_c_1)) (hv_move rfl) ?_
                  obtain ⟨r, hr60, H⟩ := H
                  refine hl_val rfl rfl (v := (.bool r)) (hv_call TyQC.cb46 (vs := [(.slice r0 r0_n r0_c), (.slice r0_1 r0_n_1 r0_c_1)]) rfl hr60) ?_
                  refine hl_val rfl rfl (v := (.bool r)) (hv_move rfl) ?_
                  rcases bool_or (r) with hg61 | hg61
                  · replace H := H.1 hg61
                    refine hl_yes (wanted_y rfl rfl rfl hg61) rfl (HStep.of_val (v := (.int .i64 r1)) (hv_move rfl) ?_)
                    refine hl_yes (wanted_y rfl rfl rfl hg61) rfl (HStep.of_val (v := (.int .i64 r1_1)) (hv_move rfl) ?_)
                    refine hl_yes (wanted_y rfl rfl rfl hg61) rfl (HStep.of_val (v := (.bool (r1 == r1_1))) (hv_arith rfl rfl rfl) ?_)
                    refine hl_val rfl rfl (v := (.bool (r1 == r1_1))) (hv_pick_t rfl hg61 rfl) ?_
                    refine hl_val rfl rfl (v := (.bool (r1 == r1_1))) (hv_assign rfl) ?_
                    refine hl_nil ?_
                    refine seqQ_n ?_
                    obtain rfl := H
                    exact ⟨rfl, (has_cons rfl has_nil)⟩
                  · replace H := H.2 hg61
                    refine hl_no (wanted_n rfl rfl rfl hg61) rfl ?_
                    refine hl_no (wanted_n rfl rfl rfl hg61) rfl ?_
                    refine hl_no (wanted_n rfl rfl rfl hg61) rfl ?_
                    refine hl_val rfl rfl (v := (.bool false)) (hv_pick_f rfl hg61 rfl) ?_
                    refine hl_val rfl rfl (v := (.bool false)) (hv_assign rfl) ?_
                    refine hl_nil ?_
                    refine seqQ_n ?_
                    obtain rfl := H
                    exact ⟨rfl, (has_cons rfl has_nil)⟩
                · have H := Hy59; clear Hx58 Hy59
                  rintro ρ _ ⟨rfl, hH⟩
                  refine hx_has _ hH ?_
                  refine hx_ret ?_
                  refine blockQ_ret ?_
                  refine seqQ_ret ?_
                  exact endQ_ret _ (res_one Try.results18 (rv_tmp rfl)) H
              · replace H := H.2 hb55
                refine hx_seq ?_
                refine hx_region ?_
                refine hl_val rfl rfl (v := (.bool (o_Kind == 8))) (hv_arith rfl rfl rfl) ?_
                refine hl_val rfl rfl (v := (.bool (o_Kind == 8))) (hv_assign rfl) ?_
                refine hl_nil ?_
                refine seqQ_n ?_
                refine hx_cond (b := o_Kind == 8) rfl (fun hb62 => ?_) (fun hb62 => ?_)
                · replace H := H.1 hb62
                  refine hx_seq ?_
                  refine hx_region ?_
                  refine hl_val rfl rfl (v := (ptr m_b m_o)) (hv_move rfl) ?_
                  refine hl_val rfl rfl (v := (ptr o 1)) (hv_field TyQC.fld36_1 (b := o) (o := 0) rfl) ?_
                  refine hl_val rfl rfl (v := (.int .i64 o_N)) (hv_load TyQC.agg3 rfl (rowcell hr4 rfl)) ?_
                  replace H := H o h1 lo5 (row_lt hr4) xx3
                  refine hl_step rfl rfl (hs_call TyQC.cb11 (vs := [(ptr m_b m_o), (.int .i64 o_N)]) rfl (HC.mono H ?_))
                  rintro _ h22 ⟨kp63, r0_State, r0_Sequence, r0_Pins, r0_Erases, r1, rfl, H⟩
                  replace hr4 := Kp.row kp63 (by simp) hr4
                  refine hl_val rfl rfl (v := (.tuple #[(.agg #[(.int .i64 r0_State), (.int .u64 r0_Sequence), (.int .i64 r0_Pins), (.int .i64 r0_Erases)]), (.bool r1)])) (hv_move rfl) ?_
                  refine hl_val rfl rfl (v := (.agg #[(.int .i64 r0_State), (.int .u64 r0_Sequence), (.int .i64 r0_Pins), (.int .i64 r0_Erases)])) (hv_extract (vs := #[(.agg #[(.int .i64 r0_State), (.int .u64 r0_Sequence), (.int .i64 r0_Pins), (.int .i64 r0_Erases)]), (.bool r1)]) rfl rfl) ?_
                  refine hl_val rfl rfl (v := (.bool r1)) (hv_extract (vs := #[(.agg #[(.int .i64 r0_State), (.int .u64 r0_Sequence), (.int .i64 r0_Pins), (.int .i64 r0_Erases)]), (.bool r1)]) rfl rfl) ?_
                  refine hl_step rfl rfl (hn_alloc TyQC.z31 ?_)
                  intro a h23 eb64 eh65
                  have xx66 : Ext h22 h23 := by rw [eh65]; exact Ext.push _ _
                  have ne69 := Nat.ne_of_lt (Nat.lt_of_lt_of_eq (row_lt hr4) (Eq.symm eb64))
                  have lo68 : Array.size h22 ≤ a := Nat.le_of_eq (Eq.symm eb64)
                  have hr67 : h23[a]? = some (.cells #[(.int .i64 0), (.int .u64 0), (.int .i64 0), (.int .i64 0)] 31 (0, 0)) := by rw [eh65]; exact push_new eb64
                  replace hr4 := Ext.row xx66 hr4
                  refine hl_step rfl rfl (hn_stores (vs := [(.int .i64 r0_State), (.int .u64 r0_Sequence), (.int .i64 r0_Pins), (.int .i64 r0_Erases)]) rfl rfl TyQC.sz31 rfl (HWs_row hr67 (by simp)) ?_)
                  intro h24 eh70
                  replace hr4 := row_hsets_ne eh70 ne69 hr4
                  have hr67' : h24[a]? = some (.cells #[(.int .i64 r0_State), (.int .u64 r0_Sequence), (.int .i64 r0_Pins), (.int .i64 r0_Erases)] 31 (0, 0)) := row_hsets_eq eh70 hr67 rfl
                  have xv71 := ext_hsets eh70 xx66 lo68
                  refine hl_val rfl rfl (v := (.bool r1)) (hv_assign rfl) ?_
                  refine hl_nil ?_
                  refine seqQ_n ?_
                  refine hx_seq ?_
                  obtain ⟨j, Hx72, Hy73⟩ := H
                  refine hx_cut (fun ρ h' => h24 = h' ∧ Has ρ [(1, (ptr x_b x_o)), (5, (ptr o 0)), (21, (ptr a 0)), (22, (.bool r1)), (165, (.bool j))]) ?_ ?_
                  · have H := Hx72; clear Hx72 Hy73
                    refine hx_draw TyQC.mixed [.pure, .read, .pure, .pure, .pure, .read, .pure, .pure, .pure, .read, .pure, .pure, .pure] [0, 1, 2, 3, 4, 5, 6, 7, 8, 9, 10, 11, 12] (by kernel_rfl) ?_
                    refine hp_pure (i := 0) rfl (wanted_0 rfl) rfl (ptr o 1) (fun _ => hv_field TyQC.fld36_1 (b := o) (o := 0) rfl) ?_
                    refine hp_read (i := 1) rfl (wanted_0 rfl) rfl (.int .i64 o_N) (fun _ he => hv_load TyQC.agg3 rfl (Ext.cell he (rowcell hr4 rfl))) ?_
                    refine hp_pure (i := 2) rfl (wanted_0 rfl) rfl (.bool (decide (o_N < 0))) (fun _ => hv_arith rfl rfl rfl) ?_
                    refine hp_pure (i := 3) rfl (wanted_0 rfl) rfl (.bool (decide (o_N < 0))) (fun _ => hv_move rfl) ?_
                    rcases bool_or (decide (o_N < 0)) with hg74 | hg74
                    · replace H := H.1 hg74
                      refine hp_no (i := 4) rfl (wanted_n rfl rfl rfl hg74) ?_
                      refine hp_no (i := 5) rfl (wanted_n rfl rfl rfl hg74) ?_
                      refine hp_no (i := 6) rfl (wanted_n rfl rfl rfl hg74) ?_
                      refine hp_no (i := 7) rfl (wanted_n rfl rfl rfl hg74) ?_
                      refine hp_no (i := 8) rfl (wanted_n rfl rfl rfl hg74) ?_
                      refine hp_no (i := 9) rfl (wanted_n rfl rfl rfl hg74) ?_
                      refine hp_no (i := 10) rfl (wanted_n rfl rfl rfl hg74) ?_
                      refine hp_no (i := 11) rfl (wanted_n rfl rfl rfl hg74) ?_
                      refine hp_pure (i := 12) rfl (wanted_0 rfl) rfl (.bool true) (fun _ => hv_pick_t rfl hg74 rfl) ?_
                      refine hp_nil ?_
                      refine seqQ_n ?_
                      obtain rfl := H
                      exact ⟨rfl, (has_cons rfl (has_cons rfl (has_cons rfl (has_cons rfl (has_cons rfl has_nil)))))⟩
                    · replace H := H.2 hg74
                      refine hp_pure (i := 4) rfl (wanted_y rfl rfl rfl hg74) rfl (ptr o 1) (fun _ => hv_field TyQC.fld36_1 (b := o) (o := 0) rfl) ?_
                      refine hp_read (i := 5) rfl (wanted_y rfl rfl rfl hg74) rfl (.int .i64 o_N) (fun _ he => hv_load TyQC.agg3 rfl (Ext.cell he (rowcell hr4 rfl))) ?_
                      refine hp_pure (i := 6) rfl (wanted_y rfl rfl rfl hg74) rfl (ptr x_b x_o) (fun _ => hv_move rfl) ?_
                      refine hp_pure (i := 7) rfl (wanted_y rfl rfl rfl hg74) rfl (ptr x_b x_o) (fun _ => hv_nil rfl) ?_
                      refine hp_pure (i := 8) rfl (wanted_y rfl rfl rfl hg74) rfl (ptr x_b x_o) (fun _ => hv_field TyQC.fld78_0 (b := x_b) (o := x_o) rfl) ?_
                      obtain ⟨x, x_n, x_c, hc75, H⟩ := H
                      refine hp_read (i := 9) rfl (wanted_y rfl rfl rfl hg74) rfl (.slice x x_n x_c) (fun _ he => hv_load TyQC.agg28 rfl (Ext.cell he (Ext.cell xv71 hc75))) ?_
                      refine hp_pure (i := 10) rfl (wanted_y rfl rfl rfl hg74) rfl (.int .i64 (x_n : Int)) (fun _ => hv_len (n := x_n) TyQC.u28 rfl) ?_
                      refine hp_pure (i := 11) rfl (wanted_y rfl rfl rfl hg74) rfl (.bool (decide (o_N ≥ (x_n : Int)))) (fun _ => hv_arith rfl rfl rfl) ?_
                      refine hp_pure (i := 12) rfl (wanted_0 rfl) rfl (.bool (decide (o_N ≥ (x_n : Int)))) (fun _ => hv_pick_f rfl hg74 rfl) ?_
                      refine hp_nil ?_
                      refine seqQ_n ?_
                      obtain rfl := H
                      exact ⟨rfl, (has_cons rfl (has_cons rfl (has_cons rfl (has_cons rfl (has_cons rfl has_nil)))))⟩
                  · have H := Hy73; clear Hx72 Hy73
                    rintro ρ _ ⟨rfl, hH⟩
                    refine hx_has _ hH ?_
                    refine hx_cond (b := j) rfl (fun hb76 => ?_) (fun hb76 => ?_)
                    · replace H := H.1 hb76
                      refine hx_cut (fun ρ h' => h24 = h' ∧ Has ρ [(6, (.bool ((!r1) && ((r0_State == 0 && (r0_Sequence == 0 && (r0_Pins == 0 && (r0_Erases == 0 && true))))))))]) ?_ ?_
                      · refine hx_region ?_
                        refine hl_val rfl rfl (v := (.bool r1)) (hv_move rfl) ?_
                        refine hl_val rfl rfl (v := (.bool (!r1))) (hv_not (b := r1) rfl) ?_
                        refine hl_val rfl rfl (v := (.bool (!r1))) (hv_move rfl) ?_
                        rcases bool_or (!r1) with hg79 | hg79
                        · refine hl_yes (wanted_y rfl rfl rfl hg79) rfl (HStep.of_val (v := (.agg #[(.int .i64 r0_State), (.int .u64 r0_Sequence), (.int .i64 r0_Pins), (.int .i64 r0_Erases)])) (hv_loads (vs := [(.int .i64 r0_State), (.int .u64 r0_Sequence), (.int .i64 r0_Pins), (.int .i64 r0_Erases)]) TyQC.agg31 TyQC.sz31 rfl (hcells_cons (rowcell hr67' rfl) (hcells_cons (rowcell hr67' rfl) (hcells_cons (rowcell hr67' rfl) (hcells_cons (rowcell hr67' rfl) hcells_nil))))) ?_)
                          refine hl_yes (wanted_y rfl rfl rfl hg79) rfl (HStep.of_val (v := (.agg #[(.int .i64 0), (.int .u64 0), (.int .i64 0), (.int .i64 0)])) (hv_build (vs := []) (cs := #[(.int .i64 0), (.int .u64 0), (.int .i64 0), (.int .i64 0)]) TyQC.z31 TyQC.pl31 rfl (by kernel_rfl)) ?_)
                          refine hl_yes (wanted_y rfl rfl rfl hg79) rfl (HStep.of_val (v := (.bool ((r0_State == 0 && (r0_Sequence == 0 && (r0_Pins == 0 && (r0_Erases == 0 && true))))))) (hv_structEq (xs := [(.int .i64 r0_State), (.int .u64 r0_Sequence), (.int .i64 r0_Pins), (.int .i64 r0_Erases)]) (ys := [(.int .i64 0), (.int .u64 0), (.int .i64 0), (.int .i64 0)]) (b := (r0_State == 0 && (r0_Sequence == 0 && (r0_Pins == 0 && (r0_Erases == 0 && true))))) TyQC.se31 rfl rfl (by kernel_rfl) rfl) ?_)
                          refine hl_val rfl rfl (v := (.bool ((r0_State == 0 && (r0_Sequence == 0 && (r0_Pins == 0 && (r0_Erases == 0 && true))))))) (hv_pick_t rfl hg79 rfl) ?_
                          refine hl_val rfl rfl (v := (.bool ((r0_State == 0 && (r0_Sequence == 0 && (r0_Pins == 0 && (r0_Erases == 0 && true))))))) (hv_assign rfl) ?_
                          refine hl_nil ?_
                          refine seqQ_n ?_
                          exact ⟨rfl, (has_cons (show ((.bool ((r0_State == 0 && (r0_Sequence == 0 && (r0_Pins == 0 && (r0_Erases == 0 && true)))))) : Value) = (.bool ((!r1) && ((r0_State == 0 && (r0_Sequence == 0 && (r0_Pins == 0 && (r0_Erases == 0 && true))))))) from (by first | rfl | ((try rw [hg79]); all_goals first | rfl | (simp only [Bool.true_or, Bool.or_true, Bool.false_or, Bool.or_false, Bool.true_and, Bool.and_true, Bool.false_and, Bool.and_false, Bool.not_true, Bool.not_false, Bool.cond_true, Bool.cond_false]; done)) | simp [hg79])) has_nil)⟩
                        · refine hl_no (wanted_n rfl rfl rfl hg79) rfl ?_
                          refine hl_no (wanted_n rfl rfl rfl hg79) rfl ?_
                          refine hl_no (wanted_n rfl rfl rfl hg79) rfl ?_
                          refine hl_val rfl rfl (v := (.bool false)) (hv_pick_f rfl hg79 rfl) ?_
                          refine hl_val rfl rfl (v := (.bool false)) (hv_assign rfl) ?_
                          refine hl_nil ?_
                          refine seqQ_n ?_
                          exact ⟨rfl, (has_cons (show ((.bool false) : Value) = (.bool ((!r1) && ((r0_State == 0 && (r0_Sequence == 0 && (r0_Pins == 0 && (r0_Erases == 0 && true))))))) from (by first | rfl | ((try rw [hg79]); all_goals first | rfl | (simp only [Bool.true_or, Bool.or_true, Bool.false_or, Bool.or_false, Bool.true_and, Bool.and_true, Bool.false_and, Bool.and_false, Bool.not_true, Bool.not_false, Bool.cond_true, Bool.cond_false]; done)) | simp [hg79])) has_nil)⟩
                      · rintro ρ _ ⟨rfl, hH⟩
                        refine hx_has _ hH ?_
                        refine hx_ret ?_
                        refine seqQ_ret ?_
                        refine blockQ_ret ?_
                        refine seqQ_ret ?_
                        replace H := H h24 xv71
                        exact endQ_ret _ (res_one Try.results18 (rv_tmp rfl)) H
                    · replace H := H.2 hb76
                      refine hx_skip ?_
                      refine seqQ_n ?_
                      obtain ⟨j_1, Hx80, Hy81⟩ := H
                      refine hx_cut (fun ρ h' => h24 = h' ∧ Has ρ [(6, (.bool j_1))]) ?_ ?_
                      · have H := Hx80; clear Hx80 Hy81
                        refine hx_draw TyQC.mixed [.pure, .pure, .read, .pure, .pure, .pure, .read, .pure, .read, .pure, .read, .pure, .pure, .pure] [0, 1, 2, 3, 4, 5, 6, 7, 8, 9, 10, 11, 12, 13] (by kernel_rfl) ?_
                        refine hp_pure (i := 0) rfl (wanted_0 rfl) rfl (.bool r1) (fun _ => hv_move rfl) ?_
                        refine hp_pure (i := 1) rfl (wanted_0 rfl) rfl (.bool r1) (fun _ => hv_move rfl) ?_
                        rcases bool_or (r1) with hg82 | hg82
                        · replace H := H.1 hg82
                          refine hp_read (i := 2) rfl (wanted_y rfl rfl rfl hg82) rfl (.agg #[(.int .i64 r0_State), (.int .u64 r0_Sequence), (.int .i64 r0_Pins), (.int .i64 r0_Erases)]) (fun _ he => hv_loads (vs := [(.int .i64 r0_State), (.int .u64 r0_Sequence), (.int .i64 r0_Pins), (.int .i64 r0_Erases)]) TyQC.agg31 TyQC.sz31 rfl (hcells_cons (Ext.cell he (rowcell hr67' rfl)) (hcells_cons (Ext.cell he (rowcell hr67' rfl)) (hcells_cons (Ext.cell he (rowcell hr67' rfl)) (hcells_cons (Ext.cell he (rowcell hr67' rfl)) hcells_nil))))) ?_
                          refine hp_pure (i := 3) rfl (wanted_y rfl rfl rfl hg82) rfl (ptr x_b x_o) (fun _ => hv_move rfl) ?_
                          refine hp_pure (i := 4) rfl (wanted_y rfl rfl rfl hg82) rfl (ptr x_b x_o) (fun _ => hv_nil rfl) ?_
                          refine hp_pure (i := 5) rfl (wanted_y rfl rfl rfl hg82) rfl (ptr x_b x_o) (fun _ => hv_field TyQC.fld78_0 (b := x_b) (o := x_o) rfl) ?_
                          obtain ⟨x_1, x_n_1, x_c_1, hc83, H⟩ := H
                          refine hp_read (i := 6) rfl (wanted_y rfl rfl rfl hg82) rfl (.slice x_1 x_n_1 x_c_1) (fun _ he => hv_load TyQC.agg28 rfl (Ext.cell he (Ext.cell xv71 hc83))) ?_
                          refine hp_pure (i := 7) rfl (wanted_y rfl rfl rfl hg82) rfl (ptr o 1) (fun _ => hv_field TyQC.fld36_1 (b := o) (o := 0) rfl) ?_
                          refine hp_read (i := 8) rfl (wanted_y rfl rfl rfl hg82) rfl (.int .i64 o_N) (fun _ he => hv_load TyQC.agg3 rfl (Ext.cell he (rowcell hr4 rfl))) ?_
                          obtain ⟨x_1_b, x_1_o, hqe, hi84, hi85, Hq⟩ := H
                          subst hqe
                          have H := Hq; clear Hq
                          refine hp_pure (i := 9) rfl (wanted_y rfl rfl rfl hg82) rfl (ptr x_1_b (x_1_o + (Int.toNat o_N) * 4)) (fun _ => hv_index TyQC.el28 rfl rfl hi84 hi85) ?_
                          obtain ⟨x_State, x_Sequence, x_Pins, x_Erases, hc86, hc87, hc88, hc89, H⟩ := H
                          refine hp_read (i := 10) rfl (wanted_y rfl rfl rfl hg82) rfl (.agg #[(.int .i64 x_State), (.int .u64 x_Sequence), (.int .i64 x_Pins), (.int .i64 x_Erases)]) (fun _ he => hv_loads (vs := [(.int .i64 x_State), (.int .u64 x_Sequence), (.int .i64 x_Pins), (.int .i64 x_Erases)]) TyQC.agg31 TyQC.sz31 rfl (hcells_cons (Ext.cell he (Ext.cell xv71 hc86)) (hcells_cons (Ext.cell he (Ext.cell xv71 hc87)) (hcells_cons (Ext.cell he (Ext.cell xv71 hc88)) (hcells_cons (Ext.cell he (Ext.cell xv71 hc89)) hcells_nil))))) ?_
                          refine hp_pure (i := 11) rfl (wanted_y rfl rfl rfl hg82) rfl (.bool ((r0_State == x_State && (r0_Sequence == x_Sequence && (r0_Pins == x_Pins && (r0_Erases == x_Erases && true)))))) (fun _ => hv_structEq (xs := [(.int .i64 r0_State), (.int .u64 r0_Sequence), (.int .i64 r0_Pins), (.int .i64 r0_Erases)]) (ys := [(.int .i64 x_State), (.int .u64 x_Sequence), (.int .i64 x_Pins), (.int .i64 x_Erases)]) (b := (r0_State == x_State && (r0_Sequence == x_Sequence && (r0_Pins == x_Pins && (r0_Erases == x_Erases && true))))) TyQC.se31 rfl rfl (by kernel_rfl) rfl) ?_
                          refine hp_pure (i := 12) rfl (wanted_0 rfl) rfl (.bool ((r0_State == x_State && (r0_Sequence == x_Sequence && (r0_Pins == x_Pins && (r0_Erases == x_Erases && true)))))) (fun _ => hv_pick_t rfl hg82 rfl) ?_
                          refine hp_pure (i := 13) rfl (wanted_0 rfl) rfl (.bool ((r0_State == x_State && (r0_Sequence == x_Sequence && (r0_Pins == x_Pins && (r0_Erases == x_Erases && true)))))) (fun _ => hv_assign rfl) ?_
                          refine hp_nil ?_
                          refine seqQ_n ?_
                          obtain rfl := H
                          exact ⟨rfl, (has_cons rfl has_nil)⟩
                        · replace H := H.2 hg82
                          refine hp_no (i := 2) rfl (wanted_n rfl rfl rfl hg82) ?_
                          refine hp_no (i := 3) rfl (wanted_n rfl rfl rfl hg82) ?_
                          refine hp_no (i := 4) rfl (wanted_n rfl rfl rfl hg82) ?_
                          refine hp_no (i := 5) rfl (wanted_n rfl rfl rfl hg82) ?_
                          refine hp_no (i := 6) rfl (wanted_n rfl rfl rfl hg82) ?_
                          refine hp_no (i := 7) rfl (wanted_n rfl rfl rfl hg82) ?_
                          refine hp_no (i := 8) rfl (wanted_n rfl rfl rfl hg82) ?_
                          refine hp_no (i := 9) rfl (wanted_n rfl rfl rfl hg82) ?_
                          refine hp_no (i := 10) rfl (wanted_n rfl rfl rfl hg82) ?_
                          refine hp_no (i := 11) rfl (wanted_n rfl rfl rfl hg82) ?_
                          refine hp_pure (i := 12) rfl (wanted_0 rfl) rfl (.bool false) (fun _ => hv_pick_f rfl hg82 rfl) ?_
                          refine hp_pure (i := 13) rfl (wanted_0 rfl) rfl (.bool false) (fun _ => hv_assign rfl) ?_
                          refine hp_nil ?_
                          refine seqQ_n ?_
                          obtain rfl := H
                          exact ⟨rfl, (has_cons rfl has_nil)⟩
                      · have H := Hy81; clear Hx80 Hy81
                        rintro ρ _ ⟨rfl, hH⟩
                        refine hx_has _ hH ?_
                        refine hx_ret ?_
                        refine blockQ_ret ?_
                        refine seqQ_ret ?_
                        replace H := H h24 xv71
                        exact endQ_ret _ (res_one Try.results18 (rv_tmp rfl)) H
                · replace H := H.2 hb62
                  refine hx_seq ?_
                  refine hx_region ?_
                  refine hl_val rfl rfl (v := (.bool (o_Kind == 9))) (hv_arith rfl rfl rfl) ?_
                  refine hl_val rfl rfl (v := (.bool (o_Kind == 9))) (hv_assign rfl) ?_
                  refine hl_nil ?_
                  refine seqQ_n ?_
                  refine hx_cond (b := o_Kind == 9) rfl (fun hb90 => ?_) (fun hb90 => ?_)
                  · replace H := H.1 hb90
                    refine hx_seq ?_
                    obtain ⟨T91, hT92, H⟩ := H
                    refine hx_drawT TyQC.mixed T91 hT92 [.pure, .tame, .pure, .pure, .pure, .stay, .stay, .pure] [0, 2, 3, 4, 5, 1, 6, 7] (by kernel_rfl) ?_
                    refine hp_pure (i := 0) rfl (wanted_0 rfl) rfl (ptr m_b m_o) (fun _ => hv_move rfl) ?_
                    refine hp_pure (i := 2) rfl (wanted_0 rfl) rfl (ptr x_b x_o) (fun _ => hv_move rfl) ?_
                    refine hp_pure (i := 3) rfl (wanted_0 rfl) rfl (ptr x_b x_o) (fun _ => hv_nil rfl) ?_
                    refine hp_pure (i := 4) rfl (wanted_0 rfl) rfl (ptr x_b (x_o + 1)) (fun _ => hv_field TyQC.fld78_1 (b := x_b) (o := x_o) rfl) ?_
                    replace H := H h1 xx3
                    obtain ⟨x, x_n, x_c, hc93, H⟩ := H
                    refine hp_stay (i := 5) rfl (wanted_0 rfl) rfl (.slice x x_n x_c) (fun _ he => hv_load TyQC.agg50 rfl (hc93 _ he)) ?_
                    refine hp_tame (i := 1) rfl (wanted_0 rfl) rfl (hs_call TyQC.cb27 (vs := [(ptr m_b m_o)]) rfl (HC.mono H ?_))
                    rintro _ h25 ⟨ht94, r, r_n, r_c, rfl, H⟩
                    refine ⟨ht94, ?_⟩
                    obtain ⟨r_1, hr95, H⟩ := H
                    refine hp_stay (i := 6) rfl (wanted_0 rfl) rfl (.bool r_1) (fun _ he => hv_call TyQC.cb46 (vs := [(.slice r r_n r_c), (.slice x x_n x_c)]) rfl (hr95 _ he)) ?_
                    refine hp_pure (i := 7) rfl (wanted_0 rfl) rfl (.bool r_1) (fun _ => hv_assign rfl) ?_
                    refine hp_nil ?_
                    refine seqQ_n ?_
                    refine hx_ret ?_
                    refine blockQ_ret ?_
                    refine seqQ_ret ?_
                    exact endQ_ret _ (res_one Try.results18 (rv_tmp rfl)) H
                  · replace H := H.2 hb90
                    refine hx_seq ?_
                    refine hx_region ?_
                    refine hl_val rfl rfl (v := (.bool (o_Kind == 10))) (hv_arith rfl rfl rfl) ?_
                    refine hl_val rfl rfl (v := (.bool (o_Kind == 10))) (hv_assign rfl) ?_
                    refine hl_nil ?_
                    refine seqQ_n ?_
                    refine hx_cond (b := o_Kind == 10) rfl (fun hb96 => ?_) (fun hb96 => ?_)
                    · replace H := H.1 hb96
                      refine hx_seq ?_
                      refine hx_region ?_
                      refine hl_val rfl rfl (v := (ptr m_b m_o)) (hv_move rfl) ?_
                      replace H := H h1 xx3
                      refine hl_step rfl rfl (hs_call TyQC.cb28 (vs := [(ptr m_b m_o)]) rfl (HC.mono H ?_))
                      rintro _ h27 ⟨r, r_n, r_c, rfl, H⟩
                      refine hl_val rfl rfl (v := (ptr x_b x_o)) (hv_move rfl) ?_
                      refine hl_step rfl rfl (hs_call TyQC.cb20 (vs := [(ptr x_b x_o)]) rfl (HC.mono H ?_))
                      rintro _ h28 ⟨r_1, r_n_1, r_c_1, rfl, H⟩
                      obtain ⟨r_2, hr97, H⟩ := H
                      refine hl_val rfl rfl (v := (.bool r_2)) (hv_call TyQC.cb46 (vs := [(.slice r r_n r_c), (.slice r_1 r_n_1 r_c_1)]) rfl hr97) ?_
                      refine hl_val rfl rfl (v := (.bool r_2)) (hv_assign rfl) ?_
                      refine hl_nil ?_
                      refine seqQ_n ?_
                      refine hx_ret ?_
                      refine blockQ_ret ?_
                      refine seqQ_ret ?_
                      exact endQ_ret _ (res_one Try.results18 (rv_tmp rfl)) H
                    · replace H := H.2 hb96
                      refine hx_skip ?_
                      refine blockQ_n ?_
                      refine seqQ_n ?_
                      obtain ⟨j, Hx98, Hy99⟩ := H
                      refine hx_cut (fun ρ h' => h1 = h' ∧ Has ρ [(6, (.bool j))]) ?_ ?_
                      · have H := Hx98; clear Hx98 Hy99
                        refine hx_draw TyQC.mixed [.pure, .read, .pure, .pure, .pure, .read, .pure, .pure, .pure, .read, .pure, .pure, .pure, .read, .pure, .pure, .pure] [0, 1, 2, 3, 4, 5, 6, 7, 8, 9, 10, 11, 12, 13, 14, 15, 16] (by kernel_rfl) ?_
                        refine hp_pure (i := 0) rfl (wanted_0 rfl) rfl (ptr m_b m_o) (fun _ => hv_move rfl) ?_
                        replace H := H h1 xx3
                        obtain ⟨r, hr100, H⟩ := H
                        refine hp_read (i := 1) rfl (wanted_0 rfl) rfl (.int .u64 r) (fun _ he => hv_call TyQC.cb15 (vs := [(ptr m_b m_o)]) rfl (hr100 _ he)) ?_
                        refine hp_pure (i := 2) rfl (wanted_0 rfl) rfl (ptr x_b x_o) (fun _ => hv_move rfl) ?_
                        refine hp_pure (i := 3) rfl (wanted_0 rfl) rfl (ptr x_b x_o) (fun _ => hv_nil rfl) ?_
                        refine hp_pure (i := 4) rfl (wanted_0 rfl) rfl (ptr x_b (x_o + 2)) (fun _ => hv_field TyQC.fld78_2 (b := x_b) (o := x_o) rfl) ?_
                        obtain ⟨x, hc101, H⟩ := H
                        refine hp_read (i := 5) rfl (wanted_0 rfl) rfl (.int .u64 x) (fun _ he => hv_load TyQC.agg29 rfl (Ext.cell he hc101)) ?_
                        refine hp_pure (i := 6) rfl (wanted_0 rfl) rfl (.bool (r == x)) (fun _ => hv_arith rfl rfl rfl) ?_
                        refine hp_pure (i := 7) rfl (wanted_0 rfl) rfl (.bool (r == x)) (fun _ => hv_move rfl) ?_
                        rcases bool_or (r == x) with hg102 | hg102
                        · replace H := H.1 hg102
                          refine hp_pure (i := 8) rfl (wanted_y rfl rfl rfl hg102) rfl (ptr m_b m_o) (fun _ => hv_move rfl) ?_
                          obtain ⟨r_1, hr103, H⟩ := H
                          refine hp_read (i := 9) rfl (wanted_y rfl rfl rfl hg102) rfl (.int .i64 r_1) (fun _ he => hv_call TyQC.cb14 (vs := [(ptr m_b m_o)]) rfl (hr103 _ he)) ?_
                          refine hp_pure (i := 10) rfl (wanted_y rfl rfl rfl hg102) rfl (ptr x_b x_o) (fun _ => hv_move rfl) ?_
                          refine hp_pure (i := 11) rfl (wanted_y rfl rfl rfl hg102) rfl (ptr x_b x_o) (fun _ => hv_nil rfl) ?_
                          refine hp_pure (i := 12) rfl (wanted_y rfl rfl rfl hg102) rfl (ptr x_b (x_o + 3)) (fun _ => hv_field TyQC.fld78_3 (b := x_b) (o := x_o) rfl) ?_
                          obtain ⟨x_1, hc104, H⟩ := H
                          refine hp_read (i := 13) rfl (wanted_y rfl rfl rfl hg102) rfl (.int .i64 x_1) (fun _ he => hv_load TyQC.agg3 rfl (Ext.cell he hc104)) ?_
                          refine hp_pure (i := 14) rfl (wanted_y rfl rfl rfl hg102) rfl (.bool (r_1 == x_1)) (fun _ => hv_arith rfl rfl rfl) ?_
                          refine hp_pure (i := 15) rfl (wanted_0 rfl) rfl (.bool (r_1 == x_1)) (fun _ => hv_pick_t rfl hg102 rfl) ?_
                          refine hp_pure (i := 16) rfl (wanted_0 rfl) rfl (.bool (r_1 == x_1)) (fun _ => hv_assign rfl) ?_
                          refine hp_nil ?_
                          refine seqQ_n ?_
                          obtain rfl := H
                          exact ⟨rfl, (has_cons rfl has_nil)⟩
                        · replace H := H.2 hg102
                          refine hp_no (i := 8) rfl (wanted_n rfl rfl rfl hg102) ?_
                          refine hp_no (i := 9) rfl (wanted_n rfl rfl rfl hg102) ?_
                          refine hp_no (i := 10) rfl (wanted_n rfl rfl rfl hg102) ?_
                          refine hp_no (i := 11) rfl (wanted_n rfl rfl rfl hg102) ?_
                          refine hp_no (i := 12) rfl (wanted_n rfl rfl rfl hg102) ?_
                          refine hp_no (i := 13) rfl (wanted_n rfl rfl rfl hg102) ?_
                          refine hp_no (i := 14) rfl (wanted_n rfl rfl rfl hg102) ?_
                          refine hp_pure (i := 15) rfl (wanted_0 rfl) rfl (.bool false) (fun _ => hv_pick_f rfl hg102 rfl) ?_
                          refine hp_pure (i := 16) rfl (wanted_0 rfl) rfl (.bool false) (fun _ => hv_assign rfl) ?_
                          refine hp_nil ?_
                          refine seqQ_n ?_
                          obtain rfl := H
                          exact ⟨rfl, (has_cons rfl has_nil)⟩
                      · have H := Hy99; clear Hx98 Hy99
                        rintro ρ _ ⟨rfl, hH⟩
                        refine hx_has _ hH ?_
                        refine hx_ret ?_
                        replace H := H h1 xx3
                        exact endQ_ret _ (res_one Try.results18 (rv_tmp rfl)) H

/-- cellar/cellarlaw09.looks -/
theorem f19_sh (m_b : Nat) (m_o : Nat) (x_b : Nat) (x_o : Nat) (h : Heap) (R : Value → Heap → Prop)
    (H : (∃ (I1 : Int → Heap → Prop) (mu2 : Int → Heap → Nat), I1 (-1) h ∧ (∀ (i : Int) (h1 : Heap), I1 i h1 → (∃ x : Option Addr, ∃ x_n x_c : Nat, hcell h1 x_b x_o = some (.slice x x_n x_c) ∧ (((decide (i ≤ (x_n : Int))) = true → HC Try.prog 18 #[(ptr m_b m_o), (ptr x_b x_o), (.agg #[(.int .i64 8), (.int .i64 i), (.int .i64 0)])] h1 (fun vv h2 => ∃ r : Bool, vv = (.bool r) ∧ (((!r) = true → R (.bool false) h2) ∧ ((!r) = false → (I1 (IntKind.i64.wrap (i + 1)) h2 ∧ mu2 (IntKind.i64.wrap (i + 1)) h2 < mu2 i h1))))) ∧ ((decide (i ≤ (x_n : Int))) = false → (∃ A11 : Bool → Heap → Prop, HC Try.prog 18 #[(ptr m_b m_o), (ptr x_b x_o), (.agg #[(.int .i64 9), (.int .i64 0), (.int .i64 0)])] h1 (fun vv h4 => ∃ r : Bool, vv = (.bool r) ∧ ((r = true → HC Try.prog 18 #[(ptr m_b m_o), (ptr x_b x_o), (.agg #[(.int .i64 10), (.int .i64 0), (.int .i64 0)])] h4 (fun vv h5 => ∃ r_1 : Bool, vv = (.bool r_1) ∧ ((r_1 = true → HC Try.prog 18 #[(ptr m_b m_o), (ptr x_b x_o), (.agg #[(.int .i64 11), (.int .i64 0), (.int .i64 0)])] h5 (fun vv h6 => ∃ r_2 : Bool, vv = (.bool r_2) ∧ (A11 r_2 h6))) ∧ (r_1 = false → (A11 false h5))))) ∧ (r = false → (A11 false h4)))) ∧ (∀ (j : Bool) (h3 : Heap), A11 j h3 → R (.bool j) h3)))))))) :
    HC Try.prog 19 #[(ptr m_b m_o), (ptr x_b x_o)] h R := by
  refine hc_of (args := [(ptr m_b m_o), (ptr x_b x_o)]) Try.func19 rfl Try.ntmps19 (Nat.le_of_ble_eq_true rfl) ?_
  refine hx_seq ?_
  refine hx_region ?_
  refine hl_val rfl rfl (v := (.bool false)) (hv_assign rfl) ?_
  refine hl_nil ?_
  refine seqQ_n ?_
  refine hx_seq ?_
  refine hx_seq ?_
  refine hx_region ?_
  refine hl_val rfl rfl (v := (.int .i64 (-1))) (hv_assign rfl) ?_
  refine hl_nil ?_
  refine seqQ_n ?_
  refine hx_block ?_
  obtain ⟨I1, mu2, Ha3, Hr4⟩ := H
  refine hx_loopT (σ := Int) (fun s => [(0, (ptr m_b m_o)), (1, (ptr x_b x_o)), (5, (.int .i64 s))]) (fun s h' => I1 s h' ∧ True) (fun s h' => mu2 s h') (-1) ⟨Ha3, trivial⟩ (has_cons rfl (has_cons rfl (has_cons rfl has_nil))) ?_
  rintro i ρ h1 ⟨Hi5, -⟩
  have H := Hr4 i h1 Hi5
  refine hx_seq ?_
  refine hx_seq ?_
  refine hx_region ?_
  refine hl_val rfl rfl (v := (.int .i64 i)) (hv_move rfl) ?_
  refine hl_val rfl rfl (v := (ptr x_b x_o)) (hv_move rfl) ?_
  refine hl_val rfl rfl (v := (ptr x_b x_o)) (hv_nil rfl) ?_
  refine hl_val rfl rfl (v := (ptr x_b x_o)) (hv_field TyQC.fld78_0 (b := x_b) (o := x_o) rfl) ?_
  obtain ⟨x, x_n, x_c, hc6, H⟩ := H
  refine hl_val rfl rfl (v := (.slice x x_n x_c)) (hv_load TyQC.agg28 rfl hc6) ?_
  refine hl_val rfl rfl (v := (.int .i64 (x_n : Int))) (hv_len (n := x_n) TyQC.u28 rfl) ?_
  refine hl_val rfl rfl (v := (.bool (decide (i ≤ (x_n : Int))))) (hv_arith rfl rfl rfl) ?_
  refine hl_nil ?_
  refine seqQ_n ?_
  refine hx_cond (b := decide (i ≤ (x_n : Int))) rfl (fun hb7 => ?_) (fun hb7 => ?_)
  · replace H := H.1 hb7
    refine hx_skip ?_
    refine seqQ_n ?_
    refine hx_seq ?_
    refine hx_block ?_
    refine hx_seq ?_
    refine hx_region ?_
    refine hl_val rfl rfl (v := (ptr m_b m_o)) (hv_move rfl) ?_
    refine hl_val rfl rfl (v := (ptr x_b x_o)) (hv_move rfl) ?_
    refine hl_val rfl rfl (v := (.int .i64 i)) (hv_move rfl) ?_
    refine hl_val rfl rfl (v := (.agg #[(.int .i64 8), (.int .i64 i), (.int .i64 0)])) (hv_build (vs := [(0, (.int .i64 8)), (1, (.int .i64 i))]) (cs := #[(.int .i64 8), (.int .i64 i), (.int .i64 0)]) TyQC.z36 TyQC.pl36 rfl (by kernel_rfl)) ?_
    refine hl_step rfl rfl (hs_call TyQC.cb18 (vs := [(ptr m_b m_o), (ptr x_b x_o), (.agg #[(.int .i64 8), (.int .i64 i), (.int .i64 0)])]) rfl (HC.mono H ?_))
    rintro _ h2 ⟨r, rfl, H⟩
    refine hl_val rfl rfl (v := (.bool (!r))) (hv_not (b := r) rfl) ?_
    refine hl_nil ?_
    refine seqQ_n ?_
    refine hx_cond (b := !r) rfl (fun hb8 => ?_) (fun hb8 => ?_)
    · replace H := H.1 hb8
      refine hx_seq ?_
      refine hx_region ?_
      refine hl_val rfl rfl (v := (.bool false)) (hv_assign rfl) ?_
      refine hl_nil ?_
      refine seqQ_n ?_
      refine hx_ret ?_
      refine blockQ_ret ?_
      refine seqQ_ret ?_
      refine seqQ_ret ?_
      refine blockQ_ret ?_
      refine seqQ_ret ?_
      exact endQ_ret _ (res_one Try.results19 (rv_tmp rfl)) H
    · replace H := H.2 hb8
      refine hx_skip ?_
      refine blockQ_n ?_
      refine seqQ_n ?_
      refine hx_region ?_
      refine hl_val rfl rfl (v := (.int .i64 i)) (hv_move rfl) ?_
      refine hl_val rfl rfl (v := (.int .i64 (IntKind.i64.wrap (i + 1)))) (hv_arith rfl rfl rfl) ?_
      refine hl_val rfl rfl (v := (.int .i64 (IntKind.i64.wrap (i + 1)))) (hv_assign rfl) ?_
      refine hl_nil ?_
      refine seqQ_n ?_
      exact ⟨IntKind.i64.wrap (i + 1), ⟨⟨H.1, trivial⟩, H.2⟩, (has_cons rfl (has_cons rfl (has_cons rfl has_nil)))⟩
  · replace H := H.2 hb7
    refine hx_exit ?_
    refine seqQ_exit ?_
    refine seqQ_exit ?_
    refine blockQ_here ?_
    refine seqQ_n ?_
    obtain ⟨A11, Hx9, Hy10⟩ := H
    refine hx_cut (fun ρ h' => ∃ j : Bool, (A11 j h' ∧ True) ∧ Has ρ [(4, (.bool j))]) ?_ ?_
    · have H := Hx9; clear Hx9 Hy10
      refine hx_region ?_
      refine hl_val rfl rfl (v := (ptr m_b m_o)) (hv_move rfl) ?_
      refine hl_val rfl rfl (v := (ptr x_b x_o)) (hv_move rfl) ?_
      refine hl_val rfl rfl (v := (.agg #[(.int .i64 9), (.int .i64 0), (.int .i64 0)])) (hv_build (vs := [(0, (.int .i64 9))]) (cs := #[(.int .i64 9), (.int .i64 0), (.int .i64 0)]) TyQC.z36 TyQC.pl36 rfl (by kernel_rfl)) ?_
      refine hl_step rfl rfl (hs_call TyQC.cb18 (vs := [(ptr m_b m_o), (ptr x_b x_o), (.agg #[(.int .i64 9), (.int .i64 0), (.int .i64 0)])]) rfl (HC.mono H ?_))
      rintro _ h4 ⟨r, rfl, H⟩
      refine hl_val rfl rfl (v := (.bool r)) (hv_move rfl) ?_
      rcases bool_or (r) with hg13 | hg13
      · replace H := H.1 hg13
        refine hl_yes (wanted_y rfl rfl rfl hg13) rfl (HStep.of_val (v := (ptr m_b m_o)) (hv_move rfl) ?_)
        refine hl_yes (wanted_y rfl rfl rfl hg13) rfl (HStep.of_val (v := (ptr x_b x_o)) (hv_move rfl) ?_)
        refine hl_yes (wanted_y rfl rfl rfl hg13) rfl (HStep.of_val (v := (.agg #[(.int .i64 10), (.int .i64 0), (.int .i64 0)])) (hv_build (vs := [(0, (.int .i64 10))]) (cs := #[(.int .i64 10), (.int .i64 0), (.int .i64 0)]) TyQC.z36 TyQC.pl36 rfl (by kernel_rfl)) ?_)
        refine hl_yes (wanted_y rfl rfl rfl hg13) rfl (hs_call TyQC.cb18 (vs := [(ptr m_b m_o), (ptr x_b x_o), (.agg #[(.int .i64 10), (.int .i64 0), (.int .i64 0)])]) rfl (HC.mono H ?_))
        rintro _ h5 ⟨r_1, rfl, H⟩
        refine hl_val rfl rfl (v := (.bool r_1)) (hv_pick_t rfl hg13 rfl) ?_
        refine hl_val rfl rfl (v := (.bool r_1)) (hv_move rfl) ?_
        rcases bool_or (r_1) with hg14 | hg14
        · replace H := H.1 hg14
          refine hl_yes (wanted_y rfl rfl rfl hg14) rfl (HStep.of_val (v := (ptr m_b m_o)) (hv_move rfl) ?_)
          refine hl_yes (wanted_y rfl rfl rfl hg14) rfl (HStep.of_val (v := (ptr x_b x_o)) (hv_move rfl) ?_)
          refine hl_yes (wanted_y rfl rfl rfl hg14) rfl (HStep.of_val (v := (.agg #[(.int .i64 11), (.int .i64 0), (.int .i64 0)])) (hv_build (vs := [(0, (.int .i64 11))]) (cs := #[(.int .i64 11), (.int .i64 0), (.int .i64 0)]) TyQC.z36 TyQC.pl36 rfl (by kernel_rfl)) ?_)
          refine hl_yes (wanted_y rfl rfl rfl hg14) rfl (hs_call TyQC.cb18 (vs := [(ptr m_b m_o), (ptr x_b x_o), (.agg #[(.int .i64 11), (.int .i64 0), (.int .i64 0)])]) rfl (HC.mono H ?_))
          rintro _ h6 ⟨r_2, rfl, H⟩
          refine hl_val rfl rfl (v := (.bool r_2)) (hv_pick_t rfl hg14 rfl) ?_
          refine hl_val rfl rfl (v := (.bool r_2)) (hv_assign rfl) ?_
          refine hl_nil ?_
          refine seqQ_n ?_
          exact ⟨_, ⟨H, trivial⟩, (has_cons rfl has_nil)⟩
        · replace H := H.2 hg14
          refine hl_no (wanted_n rfl rfl rfl hg14) rfl ?_
          refine hl_no (wanted_n rfl rfl rfl hg14) rfl ?_
          refine hl_no (wanted_n rfl rfl rfl hg14) rfl ?_
          refine hl_no (wanted_n rfl rfl rfl hg14) rfl ?_
          refine hl_val rfl rfl (v := (.bool false)) (hv_pick_f rfl hg14 rfl) ?_
          refine hl_val rfl rfl (v := (.bool false)) (hv_assign rfl) ?_
          refine hl_nil ?_
          refine seqQ_n ?_
          exact ⟨_, ⟨H, trivial⟩, (has_cons rfl has_nil)⟩
      · replace H := H.2 hg13
        refine hl_no (wanted_n rfl rfl rfl hg13) rfl ?_
        refine hl_no (wanted_n rfl rfl rfl hg13) rfl ?_
        refine hl_no (wanted_n rfl rfl rfl hg13) rfl ?_
        refine hl_no (wanted_n rfl rfl rfl hg13) rfl ?_
        refine hl_val rfl rfl (v := (.bool false)) (hv_pick_f rfl hg13 rfl) ?_
        refine hl_val rfl rfl (v := (.bool false)) (hv_move rfl) ?_
        refine hl_no (wanted_n rfl rfl (c := false) rfl rfl) rfl ?_
        refine hl_no (wanted_n rfl rfl (c := false) rfl rfl) rfl ?_
        refine hl_no (wanted_n rfl rfl (c := false) rfl rfl) rfl ?_
        refine hl_no (wanted_n rfl rfl (c := false) rfl rfl) rfl ?_
        refine hl_val rfl rfl (v := (.bool false)) (hv_pick (t := false) rfl rfl) ?_
        refine hl_val rfl rfl (v := (.bool false)) (hv_assign rfl) ?_
        refine hl_nil ?_
        refine seqQ_n ?_
        exact ⟨_, ⟨H, trivial⟩, (has_cons rfl has_nil)⟩
    · rintro ρ h3 ⟨j, ⟨HA12, -⟩, hH⟩
      have H := Hy10 j h3 HA12; clear Hx9 Hy10
      refine hx_has _ hH ?_
      refine hx_ret ?_
      exact endQ_ret _ (res_one Try.results19 (rv_tmp rfl)) H

/-- cellar/cellarlaw09.sealed -/
theorem f28_sh (m_b : Nat) (m_o : Nat) (h : Heap) (R : Value → Heap → Prop)
    (H : (∀ l h1, l = Array.size h → h1 = Array.push h (.cells #[(.slice none 0 0)] 50) → HC Try.prog 16 #[(ptr m_b m_o)] h1 (fun vv h2 => ∃ r : Value, vv = r ∧ (∀ (Lp4 : LoopState → Option Code → Heap → Prop) (l_1 : Nat) (h3 : Heap) (y : Value), (∀ s p h h', Lp4 s p h → h'[l_1]? = h[l_1]? → Lp4 s p h') → l_1 = Array.size h2 + 1 → Ext h2 h3 → Array.size h3 = Array.size h2 + 2 → Lp4 .ready none h3 → (∀ (it : Int) (h4 : Heap) (K12 : Value → Heap → Prop), Lp4 .ready none h4 → (Lp4 .ready none h4 ∧ ∀ h7, Only l_1 h4 h7 → Lp4 .busy none h7 → (∃ x : Option Addr, ∃ x_n x_c : Nat, hcell h7 l 0 = some (.slice x x_n x_c) ∧ (∀ nb h8, nb = Array.size h7 → h8 = Array.push h7 (.cells #[(.int .i64 it)] 3) → HAppend Try.prog 50 50 (.slice x x_n x_c) (.slice (some ⟨nb, 0, none⟩) 1 1) h8 (fun vv h9 => ∃ ap : Option Addr, ∃ ap_n ap_c : Nat, vv = (.slice ap ap_n ap_c) ∧ (HW h9 l 0 ∧ ∀ h10, h10 = hset h9 l 0 (.slice ap ap_n ap_c) → (Lp4 .busy none h10 ∧ ∀ h11, Only l_1 h10 h11 → Lp4 .ready none h11 → K12 (.bool true) h11)))))) → HCV Try.prog y [(.int .i64 it)] h4 K12) → HCF Try.prog r [y] h3 (fun _ h5 => ∃ (st : LoopState) (pend : Option Code), Lp4 st pend h5 ∧ st ≠ .busy ∧ ∀ h6, Only l_1 h5 h6 → Lp4 .exhausted pend h6 → ((pend = none ∧ (∃ x_1 : Option Addr, ∃ x_n_1 x_c_1 : Nat, hcell h6 l 0 = some (.slice x_1 x_n_1 x_c_1) ∧ (∀ h12, Shut' (Array.size h) h6 h12 → R (.slice x_1 x_n_1 x_c_1) h12))))))))) :
    HC Try.prog 28 #[(ptr m_b m_o)] h R := by
  refine hc_ofM (args := [(ptr m_b m_o)]) Try.func28 rfl Try.ntmps28 (Nat.le_of_ble_eq_true rfl) ?_
  refine hx_seq ?_
  refine hx_region ?_
  refine hl_val rfl rfl (v := (.slice none 0 0)) (hv_assign rfl) ?_
  refine hl_nil ?_
  refine seqQ_n ?_
  refine hx_seq ?_
  refine hx_region ?_
  refine hl_step rfl rfl (hn_alloc TyQC.z50 ?_)
  intro l h1 eb1 eh2
  replace H := H l h1 eb1 eh2
  have xx3 : Ext h h1 := by rw [eh2]; exact Ext.push _ _
  refine hl_nil ?_
  refine seqQ_n ?_
  refine hx_seq ?_
  refine hx_seq ?_
  refine hx_region ?_
  refine hl_val rfl rfl (v := (ptr m_b m_o)) (hv_move rfl) ?_
  refine hl_step rfl rfl (hs_call TyQC.cb16 (vs := [(ptr m_b m_o)]) rfl (HC.mono H ?_))
  rintro r h2 ⟨_, rfl, H⟩
  refine hl_nil ?_
  refine seqQ_n ?_
  refine hx_block ?_
  refine hx_range rfl rfl rfl (fun h3 l_1 le5 lx6 lz7 La8 => ?_)
  refine HCF.mono (H (fun st p h => LoopAt h l_1 _ _ _ _ _ st p) l_1 h3 _ (fun s p h h' k e => k.same e) le5 lx6 lz7 La8 ?_) ?_
  · intro it h4 K12 Lb9 H
    refine hcv_yield Lb9 rfl rfl ?_
    refine hx_region ?_
    refine hl_val rfl rfl (v := (.int .i64 it)) (hv_assign rfl) ?_
    refine hl_nil ?_
    obtain ⟨Lf17, H⟩ := H
    refine ⟨rfl, Lf17, ?_⟩
    intro h7 lo15 Le16
    replace H := H h7 lo15 Le16
    refine hx_block ?_
    refine hx_region ?_
    obtain ⟨x, x_n, x_c, hc18, H⟩ := H
    refine hl_val rfl rfl (v := (.slice x x_n x_c)) (hv_load TyQC.agg50 rfl hc18) ?_
    refine hl_val rfl rfl (v := (.int .i64 it)) (hv_move rfl) ?_
    refine hl_step rfl rfl (hn_buildSlice (n := 1) (vs := [(0, (.int .i64 it))]) (cs := #[(.int .i64 it)]) TyQC.u50 TyQC.sz3 TyQC.z3 rfl rfl (by kernel_rfl) ?_)
    intro nb h8 eb19 eh20
    replace H := H nb h8 eb19 eh20
    have xx21 : Ext h7 h8 := by rw [eh20]; exact Ext.push _ _
    refine hl_step rfl rfl (hs_append rfl rfl (HAppend.mono H ?_))
    rintro _ h9 ⟨ap, ap_n, ap_c, rfl, H⟩
    obtain ⟨hw23, H⟩ := H
    refine hl_step rfl rfl (hn_store (v := (.slice ap ap_n ap_c)) rfl rfl TyQC.sz50 rfl hw23 ?_)
    intro h10 eh22
    replace H := H h10 eh22
    refine hl_nil ?_
    refine blockQ_n ?_
    exact H
  · rintro _ h5 ⟨st, pend, Lc10, hst14, H⟩
    refine ⟨st, pend, Lc10, hst14, ?_⟩
    intro h6 lo13 Ld11
    replace H := H h6 lo13 Ld11
    obtain ⟨rfl, H⟩ := H
    refine jumpQ_n ?_
    refine blockQ_n ?_
    refine seqQ_n ?_
    refine hx_seq ?_
    refine hx_region ?_
    obtain ⟨x_1, x_n_1, x_c_1, hc24, H⟩ := H
    refine hl_val rfl rfl (v := (.slice x_1 x_n_1 x_c_1)) (hv_load TyQC.agg50 rfl hc24) ?_
    refine hl_val rfl rfl (v := (.slice x_1 x_n_1 x_c_1)) (hv_assign rfl) ?_
    refine hl_nil ?_
    refine seqQ_n ?_
    refine hx_ret ?_
    exact endQM_ret _ (fun h' hs => ⟨res_one Try.results28 (rv_tmp rfl), H h' hs⟩)

/-- (*cellar/region.Manager).Sealed$1 -/
theorem f34_sh (yield : Value) (cap0_b : Nat) (cap0_o : Nat) (h : Heap) (R : Value → Heap → Prop)
    (H : (∃ x : Option Addr, hcell h cap0_b cap0_o = some (.pointer x) ∧ (∃ r : Bool, HC Try.prog 32 #[(.pointer x)] h (fun vv h' => vv = (.bool r) ∧ h' = h) ∧ (((!r) = true → R (.tuple #[]) h) ∧ ((!r) = false → (∃ x_b x_o : Nat, x = some ⟨x_b, x_o, none⟩ ∧ (∃ x_1 : Option Addr, ∃ x_n x_c : Nat, hcell h x_b x_o = some (.slice x_1 x_n x_c) ∧ (∃ (I5 : Option Addr → Nat → Nat → Int → Heap → Prop) (mu6 : Option Addr → Nat → Nat → Int → Heap → Nat), I5 none 0 0 0 h ∧ (∀ (all : Option Addr) (all_n : Nat) (all_c : Nat) (v : Int) (h1 : Heap), I5 all all_n all_c v h1 → (((decide (v < (x_n : Int))) = true → (∃ A13 : Option Addr → Nat → Nat → Heap → Prop, (∃ x_1_b x_1_o : Nat, x_1 = some ⟨x_1_b, x_1_o, none⟩ ∧ (0 : Int) ≤ v ∧ v < (x_n : Int) ∧ (∃ x_State x_Sequence x_Pins x_Erases : Int, hcell h1 x_1_b (x_1_o + (Int.toNat v) * 4) = some (.int .i64 x_State) ∧ hcell h1 x_1_b ((x_1_o + (Int.toNat v) * 4) + 1) = some (.int .u64 x_Sequence) ∧ hcell h1 x_1_b ((x_1_o + (Int.toNat v) * 4) + 2) = some (.int .i64 x_Pins) ∧ hcell h1 x_1_b ((x_1_o + (Int.toNat v) * 4) + 3) = some (.int .i64 x_Erases) ∧ (((x_State == 3) = true → (∀ (h4 : Heap), Ext h1 h4 → (∀ nb h5, nb = Array.size h4 → h5 = Array.push h4 (.cells #[(.int .i64 v)] 3) → HAppend Try.prog 50 50 (.slice all all_n all_c) (.slice (some ⟨nb, 0, none⟩) 1 1) h5 (fun vv h6 => ∃ ap : Option Addr, ∃ ap_n ap_c : Nat, vv = (.slice ap ap_n ap_c) ∧ (A13 ap ap_n ap_c h6))))) ∧ ((x_State == 3) = false → (∀ (h4 : Heap), Ext h1 h4 → (A13 all all_n all_c h4)))))) ∧ (∀ (all_1 : Option Addr) (all_n_1 : Nat) (all_c_1 : Nat) (h2 : Heap), A13 all_1 all_n_1 all_c_1 h2 → (I5 all_1 all_n_1 all_c_1 (IntKind.i64.wrap (v + 1)) h2 ∧ mu6 all_1 all_n_1 all_c_1 (IntKind.i64.wrap (v + 1)) h2 < mu6 all all_n all_c v h1)))) ∧ ((decide (v < (x_n : Int))) = false → HC Try.prog 35 #[(.slice all all_n all_c), (.func (.func 36) #[] #[(ptr cap0_b cap0_o)])] h1 (fun vv h7 => vv = (.tuple #[]) ∧ (∃ (I32 : Int → Heap → Prop) (mu33 : Int → Heap → Nat), I32 0 h7 ∧ (∀ (v_1 : Int) (h8 : Heap), I32 v_1 h8 → (((decide (v_1 < (all_n : Int))) = true → (∃ all_b all_o : Nat, all = some ⟨all_b, all_o, none⟩ ∧ (0 : Int) ≤ v_1 ∧ v_1 < (all_n : Int) ∧ (∃ x_2 : Int, hcell h8 all_b (all_o + (Int.toNat v_1) * 1) = some (.int .i64 x_2) ∧ HCV Try.prog yield [(.int .i64 x_2)] h8 (fun vv h9 => ∃ r_1 : Bool, vv = (.bool r_1) ∧ (((!r_1) = true → R (.tuple #[]) h9) ∧ ((!r_1) = false → (I32 (IntKind.i64.wrap (v_1 + 1)) h9 ∧ mu33 (IntKind.i64.wrap (v_1 + 1)) h9 < mu33 v_1 h8))))))) ∧ ((decide (v_1 < (all_n : Int))) = false → R (.tuple #[]) h8)))))))))))))))) :
    HC Try.prog 34 #[yield, (ptr cap0_b cap0_o)] h R := by
  refine hc_of (args := [yield, (ptr cap0_b cap0_o)]) Try.func34 rfl Try.ntmps34 (Nat.le_of_ble_eq_true rfl) ?_
  refine hx_seq ?_
  refine hx_seq ?_
  refine hx_region ?_
  obtain ⟨x, hc1, H⟩ := H
  refine hl_val rfl rfl (v := (.pointer x)) (hv_load TyQC.agg24 rfl hc1) ?_
  obtain ⟨r, hr2, H⟩ := H
  refine hl_val rfl rfl (v := (.bool r)) (hv_call TyQC.cb32 (vs := [(.pointer x)]) rfl hr2) ?_
  refine hl_val rfl rfl (v := (.bool (!r))) (hv_not (b := r) rfl) ?_
  refine hl_nil ?_
  refine seqQ_n ?_
  refine hx_cond (b := !r) rfl (fun hb3 => ?_) (fun hb3 => ?_)
  · replace H := H.1 hb3
    refine hx_ret ?_
    refine seqQ_ret ?_
    exact endQ_ret _ (res_none Try.results34 ) H
  · replace H := H.2 hb3
    refine hx_skip ?_
    refine seqQ_n ?_
    refine hx_seq ?_
    refine hx_region ?_
    refine hl_val rfl rfl (v := (.slice none 0 0)) (hv_assign rfl) ?_
    refine hl_nil ?_
    refine seqQ_n ?_
    refine hx_seq ?_
    refine hx_seq ?_
    refine hx_region ?_
    refine hl_val rfl rfl (v := (.pointer x)) (hv_load TyQC.agg24 rfl hc1) ?_
    obtain ⟨x_b, x_o, hqe, Hq⟩ := H
    subst hqe
    have H := Hq; clear Hq
    refine hl_val rfl rfl (v := (ptr x_b x_o)) (hv_nil rfl) ?_
    refine hl_val rfl rfl (v := (ptr x_b x_o)) (hv_field TyQC.fld67_0 (b := x_b) (o := x_o) rfl) ?_
    obtain ⟨x_1, x_n, x_c, hc4, H⟩ := H
    refine hl_val rfl rfl (v := (.slice x_1 x_n x_c)) (hv_load TyQC.agg28 rfl hc4) ?_
    refine hl_val rfl rfl (v := (.int .i64 (x_n : Int))) (hv_len (n := x_n) TyQC.u28 rfl) ?_
    refine hl_val rfl rfl (v := (.int .i64 0)) (hv_move rfl) ?_
    refine hl_nil ?_
    refine seqQ_n ?_
    refine hx_block ?_
    obtain ⟨I5, mu6, Ha7, Hr8⟩ := H
    refine hx_loopT (σ := Option Addr × Nat × Nat × Int) (fun s => [(0, yield), (1, (ptr cap0_b cap0_o)), (3, (.slice s.1 s.2.1 s.2.2.1)), (14, (.slice x_1 x_n x_c)), (15, (.int .i64 (x_n : Int))), (16, (.int .i64 s.2.2.2))]) (fun s h' => I5 s.1 s.2.1 s.2.2.1 s.2.2.2 h' ∧ True) (fun s h' => mu6 s.1 s.2.1 s.2.2.1 s.2.2.2 h') (none, 0, 0, 0) ⟨Ha7, trivial⟩ (has_cons rfl (has_cons rfl (has_cons rfl (has_cons rfl (has_cons rfl (has_cons rfl has_nil)))))) ?_
    rintro ⟨all, all_n, all_c, v⟩ ρ h1 ⟨Hi9, -⟩
    have H := Hr8 all all_n all_c v h1 Hi9
    refine hx_seq ?_
    refine hx_region ?_
    refine hl_val rfl rfl (v := (.bool (decide (v < (x_n : Int))))) (hv_arith rfl rfl rfl) ?_
    refine hl_nil ?_
    refine seqQ_n ?_
    refine hx_seq ?_
    refine hx_cond (b := decide (v < (x_n : Int))) rfl (fun hb10 => ?_) (fun hb10 => ?_)
    · replace H := H.1 hb10
      refine hx_skip ?_
      refine seqQ_n ?_
      obtain ⟨A13, Hx11, Hy12⟩ := H
      refine hx_cut (fun ρ h' => ∃ all_1 : Option Addr, ∃ all_n_1 all_c_1 : Nat, (A13 all_1 all_n_1 all_c_1 h' ∧ True) ∧ Has ρ [(0, yield), (1, (ptr cap0_b cap0_o)), (3, (.slice all_1 all_n_1 all_c_1)), (14, (.slice x_1 x_n x_c)), (15, (.int .i64 (x_n : Int))), (16, (.int .i64 v))]) ?_ ?_
      · have H := Hx11; clear Hx11 Hy12
        refine hx_block ?_
        refine hx_seq ?_
        refine hx_region ?_
        refine hl_val rfl rfl (v := (.int .i64 v)) (hv_move rfl) ?_
        obtain ⟨x_1_b, x_1_o, hqe, hi15, hi16, Hq⟩ := H
        subst hqe
        have H := Hq; clear Hq
        refine hl_val rfl rfl (v := (ptr x_1_b (x_1_o + (Int.toNat v) * 4))) (hv_index TyQC.el28 rfl rfl hi15 hi16) ?_
        obtain ⟨x_State, x_Sequence, x_Pins, x_Erases, hc17, hc18, hc19, hc20, H⟩ := H
        refine hl_val rfl rfl (v := (.agg #[(.int .i64 x_State), (.int .u64 x_Sequence), (.int .i64 x_Pins), (.int .i64 x_Erases)])) (hv_loads (vs := [(.int .i64 x_State), (.int .u64 x_Sequence), (.int .i64 x_Pins), (.int .i64 x_Erases)]) TyQC.agg31 TyQC.sz31 rfl (hcells_cons hc17 (hcells_cons hc18 (hcells_cons hc19 (hcells_cons hc20 hcells_nil))))) ?_
        refine hl_step rfl rfl (hn_alloc TyQC.z31 ?_)
        intro r_1 h3 eb21 eh22
        have xx23 : Ext h1 h3 := by rw [eh22]; exact Ext.push _ _
        have lo25 : Array.size h1 ≤ r_1 := Nat.le_of_eq (Eq.symm eb21)
        have hr24 : h3[r_1]? = some (.cells #[(.int .i64 0), (.int .u64 0), (.int .i64 0), (.int .i64 0)] 31 (0, 0)) := by rw [eh22]; exact push_new eb21
        refine hl_val rfl rfl (v := (.int .i64 v)) (hv_assign rfl) ?_
        refine hl_step rfl rfl (hn_stores (vs := [(.int .i64 x_State), (.int .u64 x_Sequence), (.int .i64 x_Pins), (.int .i64 x_Erases)]) rfl rfl TyQC.sz31 rfl (HWs_row hr24 (by simp)) ?_)
        intro h4 eh26
        have hr24' : h4[r_1]? = some (.cells #[(.int .i64 x_State), (.int .u64 x_Sequence), (.int .i64 x_Pins), (.int .i64 x_Erases)] 31 (0, 0)) := row_hsets_eq eh26 hr24 rfl
        have xv27 := ext_hsets eh26 xx23 lo25
        refine hl_nil ?_
        refine seqQ_n ?_
        refine hx_seq ?_
        refine hx_region ?_
        refine hl_val rfl rfl (v := (ptr r_1 0)) (hv_field TyQC.fld31_0 (b := r_1) (o := 0) rfl) ?_
        refine hl_val rfl rfl (v := (.int .i64 x_State)) (hv_load TyQC.agg3 rfl (rowcell hr24' rfl)) ?_
        refine hl_val rfl rfl (v := (.bool (x_State == 3))) (hv_arith rfl rfl rfl) ?_
        refine hl_nil ?_
        refine seqQ_n ?_
        refine hx_cond (b := x_State == 3) rfl (fun hb28 => ?_) (fun hb28 => ?_)
        · replace H := H.1 hb28
          refine hx_region ?_
          refine hl_val rfl rfl (v := (.slice all all_n all_c)) (hv_move rfl) ?_
          refine hl_val rfl rfl (v := (.int .i64 v)) (hv_move rfl) ?_
          replace H := H h4 xv27
          refine hl_step rfl rfl (hn_buildSlice (n := 1) (vs := [(0, (.int .i64 v))]) (cs := #[(.int .i64 v)]) TyQC.u50 TyQC.sz3 TyQC.z3 rfl rfl (by kernel_rfl) ?_)
          intro nb h5 eb29 eh30
          replace H := H nb h5 eb29 eh30
          have xx31 : Ext h4 h5 := by rw [eh30]; exact Ext.push _ _
          refine hl_step rfl rfl (hs_append rfl rfl (HAppend.mono H ?_))
          rintro _ h6 ⟨ap, ap_n, ap_c, rfl, H⟩
          refine hl_val rfl rfl (v := (.slice ap ap_n ap_c)) (hv_assign rfl) ?_
          refine hl_nil ?_
          refine blockQ_n ?_
          refine seqQ_n ?_
          exact ⟨_, _, _, ⟨H, trivial⟩, (has_cons rfl (has_cons rfl (has_cons rfl (has_cons rfl (has_cons rfl (has_cons rfl has_nil))))))⟩
        · replace H := H.2 hb28
          refine hx_skip ?_
          refine blockQ_n ?_
          replace H := H h4 xv27
          refine seqQ_n ?_
          exact ⟨_, _, _, ⟨H, trivial⟩, (has_cons rfl (has_cons rfl (has_cons rfl (has_cons rfl (has_cons rfl (has_cons rfl has_nil))))))⟩
      · rintro ρ h2 ⟨all_1, all_n_1, all_c_1, ⟨HA14, -⟩, hH⟩
        have H := Hy12 all_1 all_n_1 all_c_1 h2 HA14; clear Hx11 Hy12
        refine hx_has _ hH ?_
        refine hx_region ?_
        refine hl_val rfl rfl (v := (.int .i64 (IntKind.i64.wrap (v + 1)))) (hv_arith rfl rfl rfl) ?_
        refine hl_val rfl rfl (v := (.int .i64 (IntKind.i64.wrap (v + 1)))) (hv_move rfl) ?_
        refine hl_nil ?_
        refine seqQ_n ?_
        exact ⟨(all_1, all_n_1, all_c_1, IntKind.i64.wrap (v + 1)), ⟨⟨H.1, trivial⟩, H.2⟩, (has_cons rfl (has_cons rfl (has_cons rfl (has_cons rfl (has_cons rfl (has_cons rfl has_nil))))))⟩
    · replace H := H.2 hb10
      refine hx_exit ?_
      refine seqQ_exit ?_
      refine seqQ_exit ?_
      refine blockQ_here ?_
      refine seqQ_n ?_
      refine hx_seq ?_
      refine hx_region ?_
      refine hl_val rfl rfl (v := (.slice all all_n all_c)) (hv_move rfl) ?_
      refine hl_val rfl rfl (v := (.func (.func 36) #[] #[(ptr cap0_b cap0_o)])) (hv_makeFunc (fv := []) (cv := [(ptr cap0_b cap0_o)]) rfl rfl) ?_
      refine hl_step rfl rfl (hs_call TyQC.cb35 (vs := [(.slice all all_n all_c), (.func (.func 36) #[] #[(ptr cap0_b cap0_o)])]) rfl (HC.mono H ?_))
      rintro _ h7 ⟨rfl, H⟩
      refine hl_nil ?_
      refine seqQ_n ?_
      refine hx_seq ?_
      refine hx_region ?_
      refine hl_val rfl rfl (v := (.slice all all_n all_c)) (hv_move rfl) ?_
      refine hl_val rfl rfl (v := (.int .i64 (all_n : Int))) (hv_len (n := all_n) TyQC.u50 rfl) ?_
      refine hl_val rfl rfl (v := (.int .i64 0)) (hv_move rfl) ?_
      refine hl_nil ?_
      refine seqQ_n ?_
      refine hx_block ?_
      obtain ⟨I32, mu33, Ha34, Hr35⟩ := H
      refine hx_loopT (σ := Int) (fun s => [(0, yield), (32, (.slice all all_n all_c)), (33, (.int .i64 (all_n : Int))), (34, (.int .i64 s))]) (fun s h' => I32 s h' ∧ True) (fun s h' => mu33 s h') 0 ⟨Ha34, trivial⟩ (has_cons rfl (has_cons rfl (has_cons rfl (has_cons rfl has_nil)))) ?_
      rintro v_1 ρ h8 ⟨Hi36, -⟩
      have H := Hr35 v_1 h8 Hi36
      refine hx_seq ?_
      refine hx_region ?_
      refine hl_val rfl rfl (v := (.bool (decide (v_1 < (all_n : Int))))) (hv_arith rfl rfl rfl) ?_
      refine hl_nil ?_
      refine seqQ_n ?_
      refine hx_seq ?_
      refine hx_cond (b := decide (v_1 < (all_n : Int))) rfl (fun hb37 => ?_) (fun hb37 => ?_)
      · replace H := H.1 hb37
        refine hx_skip ?_
        refine seqQ_n ?_
        refine hx_seq ?_
        refine hx_block ?_
        refine hx_seq ?_
        refine hx_region ?_
        obtain ⟨all_b, all_o, hqe, hi38, hi39, Hq⟩ := H
        subst hqe
        have H := Hq; clear Hq
        refine hl_val rfl rfl (v := (ptr all_b (all_o + (Int.toNat v_1) * 1))) (hv_index TyQC.el50 rfl rfl hi38 hi39) ?_
        obtain ⟨x_2, hc40, H⟩ := H
        refine hl_val rfl rfl (v := (.int .i64 x_2)) (hv_load TyQC.agg3 rfl hc40) ?_
        refine hl_val rfl rfl (v := (.int .i64 x_2)) (hv_assign rfl) ?_
        refine hl_nil ?_
        refine seqQ_n ?_
        refine hx_seq ?_
        refine hx_region ?_
        refine hl_val rfl rfl (v := yield) (hv_move rfl) ?_
        refine hl_val rfl rfl (v := (.int .i64 x_2)) (hv_move rfl) ?_
        refine hl_step rfl rfl (hs_callF (vs := [(.int .i64 x_2)]) rfl rfl (HCV.mono H ?_))
        rintro _ h9 ⟨r_1, rfl, H⟩
        refine hl_val rfl rfl (v := (.bool (!r_1))) (hv_not (b := r_1) rfl) ?_
        refine hl_nil ?_
        refine seqQ_n ?_
        refine hx_cond (b := !r_1) rfl (fun hb41 => ?_) (fun hb41 => ?_)
        · replace H := H.1 hb41
          refine hx_ret ?_
          refine blockQ_ret ?_
          refine seqQ_ret ?_
          refine seqQ_ret ?_
          refine blockQ_ret ?_
          exact endQ_ret _ (res_none Try.results34 ) H
        · replace H := H.2 hb41
          refine hx_skip ?_
          refine blockQ_n ?_
          refine seqQ_n ?_
          refine hx_region ?_
          refine hl_val rfl rfl (v := (.int .i64 (IntKind.i64.wrap (v_1 + 1)))) (hv_arith rfl rfl rfl) ?_
          refine hl_val rfl rfl (v := (.int .i64 (IntKind.i64.wrap (v_1 + 1)))) (hv_move rfl) ?_
          refine hl_nil ?_
          refine seqQ_n ?_
          exact ⟨IntKind.i64.wrap (v_1 + 1), ⟨⟨H.1, trivial⟩, H.2⟩, (has_cons rfl (has_cons rfl (has_cons rfl (has_cons rfl has_nil))))⟩
      · replace H := H.2 hb37
        refine hx_exit ?_
        refine seqQ_exit ?_
        refine seqQ_exit ?_
        refine blockQ_here ?_
        exact endQ_n _ (res_none Try.results34 ) H

/-- (*cellar/region.Manager).Sealed$1$1 -/
theorem f36_sh (a : Int) (b : Int) (cap0_b : Nat) (cap0_o : Nat) (h : Heap) (R : Value → Heap → Prop)
    (H : (∃ x : Option Addr, hcell h cap0_b cap0_o = some (.pointer x) ∧ (∃ x_b x_o : Nat, x = some ⟨x_b, x_o, none⟩ ∧ (∃ x_1 : Option Addr, ∃ x_n x_c : Nat, hcell h x_b x_o = some (.slice x_1 x_n x_c) ∧ (∃ x_1_b x_1_o : Nat, x_1 = some ⟨x_1_b, x_1_o, none⟩ ∧ (0 : Int) ≤ a ∧ a < (x_n : Int) ∧ (∃ x_2 : Int, hcell h x_1_b ((x_1_o + (Int.toNat a) * 4) + 1) = some (.int .u64 x_2) ∧ ((0 : Int) ≤ b ∧ b < (x_n : Int) ∧ (∃ x_3 : Int, hcell h x_1_b ((x_1_o + (Int.toNat b) * 4) + 1) = some (.int .u64 x_3) ∧ HC Try.prog 37 #[(.int .u64 x_2), (.int .u64 x_3)] h (fun vv h1 => ∃ r : Int, vv = (.int .i64 r) ∧ R (.int .i64 r) h1))))))))) :
    HC Try.prog 36 #[(.int .i64 a), (.int .i64 b), (ptr cap0_b cap0_o)] h R := by
  refine hc_of (args := [(.int .i64 a), (.int .i64 b), (ptr cap0_b cap0_o)]) Try.func36 rfl Try.ntmps36 (Nat.le_of_ble_eq_true rfl) ?_
  refine hx_seq ?_
  refine hx_region ?_
  refine hl_val rfl rfl (v := (.int .i64 0)) (hv_assign rfl) ?_
  refine hl_nil ?_
  refine seqQ_n ?_
  refine hx_seq ?_
  refine hx_draw TyQC.mixed [.read, .pure, .pure, .read, .pure, .pure, .pure, .read, .read, .pure, .pure, .read, .pure, .pure, .pure, .read, .wild, .pure] [0, 1, 2, 3, 4, 5, 6, 7, 8, 9, 10, 11, 12, 13, 14, 15, 16, 17] (by kernel_rfl) ?_
  obtain ⟨x, hc1, H⟩ := H
  refine hp_read (i := 0) rfl (wanted_0 rfl) rfl (.pointer x) (fun _ he => hv_load TyQC.agg24 rfl (Ext.cell he hc1)) ?_
  obtain ⟨x_b, x_o, hqe, Hq⟩ := H
  subst hqe
  have H := Hq; clear Hq
  refine hp_pure (i := 1) rfl (wanted_0 rfl) rfl (ptr x_b x_o) (fun _ => hv_nil rfl) ?_
  refine hp_pure (i := 2) rfl (wanted_0 rfl) rfl (ptr x_b x_o) (fun _ => hv_field TyQC.fld67_0 (b := x_b) (o := x_o) rfl) ?_
  obtain ⟨x_1, x_n, x_c, hc2, H⟩ := H
  refine hp_read (i := 3) rfl (wanted_0 rfl) rfl (.slice x_1 x_n x_c) (fun _ he => hv_load TyQC.agg28 rfl (Ext.cell he hc2)) ?_
  refine hp_pure (i := 4) rfl (wanted_0 rfl) rfl (.int .i64 a) (fun _ => hv_move rfl) ?_
  obtain ⟨x_1_b, x_1_o, hqe, hi3, hi4, Hq⟩ := H
  subst hqe
  have H := Hq; clear Hq
  refine hp_pure (i := 5) rfl (wanted_0 rfl) rfl (ptr x_1_b (x_1_o + (Int.toNat a) * 4)) (fun _ => hv_index TyQC.el28 rfl rfl hi3 hi4) ?_
  refine hp_pure (i := 6) rfl (wanted_0 rfl) rfl (ptr x_1_b ((x_1_o + (Int.toNat a) * 4) + 1)) (fun _ => hv_field TyQC.fld31_1 (b := x_1_b) (o := x_1_o + (Int.toNat a) * 4) rfl) ?_
  obtain ⟨x_2, hc5, H⟩ := H
  refine hp_read (i := 7) rfl (wanted_0 rfl) rfl (.int .u64 x_2) (fun _ he => hv_load TyQC.agg29 rfl (Ext.cell he hc5)) ?_
  refine hp_read (i := 8) rfl (wanted_0 rfl) rfl (ptr x_b x_o) (fun _ he => hv_load TyQC.agg24 rfl (Ext.cell he hc1)) ?_
  refine hp_pure (i := 9) rfl (wanted_0 rfl) rfl (ptr x_b x_o) (fun _ => hv_nil rfl) ?_
  refine hp_pure (i := 10) rfl (wanted_0 rfl) rfl (ptr x_b x_o) (fun _ => hv_field TyQC.fld67_0 (b := x_b) (o := x_o) rfl) ?_
  refine hp_read (i := 11) rfl (wanted_0 rfl) rfl (.slice (some ⟨x_1_b, x_1_o, none⟩) x_n x_c) (fun _ he => hv_load TyQC.agg28 rfl (Ext.cell he hc2)) ?_
  refine hp_pure (i := 12) rfl (wanted_0 rfl) rfl (.int .i64 b) (fun _ => hv_move rfl) ?_
  obtain ⟨hi6, hi7, H⟩ := H
  refine hp_pure (i := 13) rfl (wanted_0 rfl) rfl (ptr x_1_b (x_1_o + (Int.toNat b) * 4)) (fun _ => hv_index TyQC.el28 rfl rfl hi6 hi7) ?_
  refine hp_pure (i := 14) rfl (wanted_0 rfl) rfl (ptr x_1_b ((x_1_o + (Int.toNat b) * 4) + 1)) (fun _ => hv_field TyQC.fld31_1 (b := x_1_b) (o := x_1_o + (Int.toNat b) * 4) rfl) ?_
  obtain ⟨x_3, hc8, H⟩ := H
  refine hp_read (i := 15) rfl (wanted_0 rfl) rfl (.int .u64 x_3) (fun _ he => hv_load TyQC.agg29 rfl (Ext.cell he hc8)) ?_
  refine hp_wild (i := 16) rfl (wanted_0 rfl) rfl (hs_call TyQC.cb37 (vs := [(.int .u64 x_2), (.int .u64 x_3)]) rfl (HC.mono H ?_))
  rintro _ h1 ⟨r, rfl, H⟩
  refine hp_pure (i := 17) rfl (wanted_0 rfl) rfl (.int .i64 r) (fun _ => hv_assign rfl) ?_
  refine hp_nil ?_
  refine seqQ_n ?_
  refine hx_ret ?_
  exact endQ_ret _ (res_one Try.results36 (rv_tmp rfl)) H

/-- cmp.Compare[uint64] -/
theorem f37_sh (x : Int) (y : Int) (h : Heap) (R : Value → Heap → Prop)
    (H : HC Try.prog 55 #[(.int .u64 x)] h (fun vv h1 => ∃ r : Bool, vv = (.bool r) ∧ HC Try.prog 55 #[(.int .u64 y)] h1 (fun vv h2 => ∃ r_1 : Bool, vv = (.bool r_1) ∧ ((r = true → ((r_1 = true → R (.int .i64 0) h2) ∧ (r_1 = false → R (.int .i64 (-1)) h2))) ∧ (r = false → ((r_1 = true → R (.int .i64 1) h2) ∧ (r_1 = false → (((decide (x < y)) = true → R (.int .i64 (-1)) h2) ∧ ((decide (x < y)) = false → (((decide (x > y)) = true → R (.int .i64 1) h2) ∧ ((decide (x > y)) = false → R (.int .i64 0) h2))))))))))) :
    HC Try.prog 37 #[(.int .u64 x), (.int .u64 y)] h R := by
  refine hc_of (args := [(.int .u64 x), (.int .u64 y)]) Try.func37 rfl Try.ntmps37 (Nat.le_of_ble_eq_true rfl) ?_
  refine hx_seq ?_
  refine hx_region ?_
  refine hl_val rfl rfl (v := (.int .i64 0)) (hv_assign rfl) ?_
  refine hl_nil ?_
  refine seqQ_n ?_
  refine hx_seq ?_
  refine hx_region ?_
  refine hl_val rfl rfl (v := (.int .u64 x)) (hv_move rfl) ?_
  refine hl_step rfl rfl (hs_call TyQC.cb55 (vs := [(.int .u64 x)]) rfl (HC.mono H ?_))
  rintro _ h1 ⟨r, rfl, H⟩
  refine hl_val rfl rfl (v := (.bool r)) (hv_assign rfl) ?_
  refine hl_nil ?_
  refine seqQ_n ?_
  refine hx_seq ?_
  refine hx_region ?_
  refine hl_val rfl rfl (v := (.int .u64 y)) (hv_move rfl) ?_
  refine hl_step rfl rfl (hs_call TyQC.cb55 (vs := [(.int .u64 y)]) rfl (HC.mono H ?_))
  rintro _ h2 ⟨r_1, rfl, H⟩
  refine hl_val rfl rfl (v := (.bool r_1)) (hv_assign rfl) ?_
  refine hl_nil ?_
  refine seqQ_n ?_
  refine hx_seq ?_
  refine hx_seq ?_
  refine hx_region ?_
  refine hl_val rfl rfl (v := (.bool r)) (hv_move rfl) ?_
  refine hl_nil ?_
  refine seqQ_n ?_
  refine hx_cond (b := r) rfl (fun hb1 => ?_) (fun hb1 => ?_)
  · replace H := H.1 hb1
    refine hx_seq ?_
    refine hx_seq ?_
    refine hx_region ?_
    refine hl_val rfl rfl (v := (.bool r_1)) (hv_move rfl) ?_
    refine hl_nil ?_
    refine seqQ_n ?_
    refine hx_cond (b := r_1) rfl (fun hb2 => ?_) (fun hb2 => ?_)
    · replace H := H.1 hb2
      refine hx_seq ?_
      refine hx_region ?_
      refine hl_val rfl rfl (v := (.int .i64 0)) (hv_assign rfl) ?_
      refine hl_nil ?_
      refine seqQ_n ?_
      refine hx_ret ?_
      refine seqQ_ret ?_
      refine seqQ_ret ?_
      exact endQ_ret _ (res_one Try.results37 (rv_tmp rfl)) H
    · replace H := H.2 hb2
      refine hx_skip ?_
      refine seqQ_n ?_
      refine hx_seq ?_
      refine hx_region ?_
      refine hl_val rfl rfl (v := (.int .i64 (-1))) (hv_assign rfl) ?_
      refine hl_nil ?_
      refine seqQ_n ?_
      refine hx_ret ?_
      refine seqQ_ret ?_
      exact endQ_ret _ (res_one Try.results37 (rv_tmp rfl)) H
  · replace H := H.2 hb1
    refine hx_skip ?_
    refine seqQ_n ?_
    refine hx_seq ?_
    refine hx_seq ?_
    refine hx_region ?_
    refine hl_val rfl rfl (v := (.bool r_1)) (hv_move rfl) ?_
    refine hl_nil ?_
    refine seqQ_n ?_
    refine hx_cond (b := r_1) rfl (fun hb3 => ?_) (fun hb3 => ?_)
    · replace H := H.1 hb3
      refine hx_seq ?_
      refine hx_region ?_
      refine hl_val rfl rfl (v := (.int .i64 1)) (hv_assign rfl) ?_
      refine hl_nil ?_
      refine seqQ_n ?_
      refine hx_ret ?_
      refine seqQ_ret ?_
      exact endQ_ret _ (res_one Try.results37 (rv_tmp rfl)) H
    · replace H := H.2 hb3
      refine hx_skip ?_
      refine seqQ_n ?_
      refine hx_seq ?_
      refine hx_seq ?_
      refine hx_region ?_
      refine hl_val rfl rfl (v := (.int .u64 x)) (hv_move rfl) ?_
      refine hl_val rfl rfl (v := (.int .u64 y)) (hv_move rfl) ?_
      refine hl_val rfl rfl (v := (.bool (decide (x < y)))) (hv_arith rfl rfl rfl) ?_
      refine hl_nil ?_
      refine seqQ_n ?_
      refine hx_cond (b := decide (x < y)) rfl (fun hb4 => ?_) (fun hb4 => ?_)
      · replace H := H.1 hb4
        refine hx_seq ?_
        refine hx_region ?_
        refine hl_val rfl rfl (v := (.int .i64 (-1))) (hv_assign rfl) ?_
        refine hl_nil ?_
        refine seqQ_n ?_
        refine hx_ret ?_
        refine seqQ_ret ?_
        exact endQ_ret _ (res_one Try.results37 (rv_tmp rfl)) H
      · replace H := H.2 hb4
        refine hx_skip ?_
        refine seqQ_n ?_
        refine hx_seq ?_
        refine hx_seq ?_
        refine hx_region ?_
        refine hl_val rfl rfl (v := (.int .u64 x)) (hv_move rfl) ?_
        refine hl_val rfl rfl (v := (.int .u64 y)) (hv_move rfl) ?_
        refine hl_val rfl rfl (v := (.bool (decide (x > y)))) (hv_arith rfl rfl rfl) ?_
        refine hl_nil ?_
        refine seqQ_n ?_
        refine hx_cond (b := decide (x > y)) rfl (fun hb5 => ?_) (fun hb5 => ?_)
        · replace H := H.1 hb5
          refine hx_seq ?_
          refine hx_region ?_
          refine hl_val rfl rfl (v := (.int .i64 1)) (hv_assign rfl) ?_
          refine hl_nil ?_
          refine seqQ_n ?_
          refine hx_ret ?_
          refine seqQ_ret ?_
          exact endQ_ret _ (res_one Try.results37 (rv_tmp rfl)) H
        · replace H := H.2 hb5
          refine hx_skip ?_
          refine seqQ_n ?_
          refine hx_seq ?_
          refine hx_region ?_
          refine hl_val rfl rfl (v := (.int .i64 0)) (hv_assign rfl) ?_
          refine hl_nil ?_
          refine seqQ_n ?_
          refine hx_ret ?_
          exact endQ_ret _ (res_one Try.results37 (rv_tmp rfl)) H

/-- cmp.isNaN[uint64] -/
theorem f55_sh (x : Int) (h : Heap) (R : Value → Heap → Prop)
    (H : R (.bool (x != x)) h) :
    HC Try.prog 55 #[(.int .u64 x)] h R := by
  refine hc_of (args := [(.int .u64 x)]) Try.func55 rfl Try.ntmps55 (Nat.le_of_ble_eq_true rfl) ?_
  refine hx_seq ?_
  refine hx_region ?_
  refine hl_val rfl rfl (v := (.bool false)) (hv_assign rfl) ?_
  refine hl_nil ?_
  refine seqQ_n ?_
  refine hx_seq ?_
  refine hx_region ?_
  refine hl_val rfl rfl (v := (.int .u64 x)) (hv_move rfl) ?_
  refine hl_val rfl rfl (v := (.int .u64 x)) (hv_move rfl) ?_
  refine hl_val rfl rfl (v := (.bool (x != x))) (hv_arith rfl rfl rfl) ?_
  refine hl_val rfl rfl (v := (.bool (x != x))) (hv_assign rfl) ?_
  refine hl_nil ?_
  refine seqQ_n ?_
  refine hx_ret ?_
  exact endQ_ret _ (res_one Try.results55 (rv_tmp rfl)) H

/-- cellar/cellarlaw09.does -/
theorem f12_sh (m_b : Nat) (m_o : Nat) (o_Kind : Int) (o_N : Int) (o_Task : Int) (h : Heap) (R : Value → Heap → Prop)
    (H : (∃ A8 : Int → Heap → Prop, (((o_Kind == 1) = true → (∀ (o : Nat) (h1 : Heap), Array.size h ≤ o → o < Array.size h1 → Ext h h1 → HC Try.prog 13 #[(ptr m_b m_o)] h1 (fun vv h3 => Kp [o] h1 h3 ∧ ∃ r0 r1 r2 : Int, vv = (.tuple #[(.int .i64 r0), (.int .u64 r1), (.int .i64 r2)]) ∧ (A8 r2 h3)))) ∧ ((o_Kind == 1) = false → (((o_Kind == 2) = true → (∀ (o : Nat) (h1 : Heap), Array.size h ≤ o → o < Array.size h1 → Ext h h1 → HC Try.prog 23 #[(ptr m_b m_o)] h1 (fun vv h4 => Kp [o] h1 h4 ∧ ∃ r : Int, vv = (.int .i64 r) ∧ (A8 r h4)))) ∧ ((o_Kind == 2) = false → (((o_Kind == 3) = true → (∀ (o : Nat) (h1 : Heap), Array.size h ≤ o → o < Array.size h1 → Ext h h1 → HC Try.prog 24 #[(ptr m_b m_o), (.int .i64 o_N)] h1 (fun vv h5 => Kp [o] h1 h5 ∧ ∃ r : Int, vv = (.int .i64 r) ∧ (A8 r h5)))) ∧ ((o_Kind == 3) = false → (((o_Kind == 4) = true → (∀ (o : Nat) (h1 : Heap), Array.size h ≤ o → o < Array.size h1 → Ext h h1 → HC Try.prog 21 #[(ptr m_b m_o), (.int .i64 o_Task), (.int .i64 o_N)] h1 (fun vv h6 => Kp [o] h1 h6 ∧ ∃ r0 : Bool, ∃ r1 : Int, vv = (.tuple #[(.bool r0), (.int .i64 r1)]) ∧ (A8 r1 h6)))) ∧ ((o_Kind == 4) = false → (((o_Kind == 5) = true → (∀ (o : Nat) (h1 : Heap), Array.size h ≤ o → o < Array.size h1 → Ext h h1 → HC Try.prog 25 #[(ptr m_b m_o), (.int .i64 o_N)] h1 (fun vv h7 => Kp [o] h1 h7 ∧ ∃ r : Int, vv = (.int .i64 r) ∧ (A8 r h7)))) ∧ ((o_Kind == 5) = false → (((o_Kind == 6) = true → (∀ (o : Nat) (h1 : Heap), Array.size h ≤ o → o < Array.size h1 → Ext h h1 → HC Try.prog 26 #[(ptr m_b m_o), (.int .i64 o_N)] h1 (fun vv h8 => Kp [o] h1 h8 ∧ ∃ r : Bool, vv = (.bool r) ∧ (((!r) = true → (A8 91 h8)) ∧ ((!r) = false → (A8 0 h8)))))) ∧ ((o_Kind == 6) = false → (((o_Kind == 7) = true → (∀ (h1 : Heap), Ext h h1 → HC Try.prog 22 #[(ptr m_b m_o), (.int .i64 o_N)] h1 (fun vv h9 => ∃ r0 : Option Addr, ∃ r0_n r0_c : Nat, ∃ r1 : Int, vv = (.tuple #[(.slice r0 r0_n r0_c), (.int .i64 r1)]) ∧ (A8 r1 h9)))) ∧ ((o_Kind == 7) = false → (∀ (h1 : Heap), Ext h h1 → (A8 0 h1)))))))))))))))) ∧ (∀ (e : Int) (h2 : Heap), A8 e h2 → R (.int .i64 e) h2))) :
    HC Try.prog 12 #[(ptr m_b m_o), (.agg #[(.int .i64 o_Kind), (.int .i64 o_N), (.int .i64 o_Task)])] h R := by
  refine hc_of (args := [(ptr m_b m_o), (.agg #[(.int .i64 o_Kind), (.int .i64 o_N), (.int .i64 o_Task)])]) Try.func12 rfl Try.ntmps12 (Nat.le_of_ble_eq_true rfl) ?_
  refine hx_seq ?_
  refine hx_region ?_
  refine hl_step rfl rfl (hn_box (v := (.agg #[(.int .i64 o_Kind), (.int .i64 o_N), (.int .i64 o_Task)])) rfl ?_)
  intro o h1 eb1 eh2
  have xx3 : Ext h h1 := by rw [eh2]; exact Ext.push _ _
  have lo5 : Array.size h ≤ o := Nat.le_of_eq (Eq.symm eb1)
  have hr4 : h1[o]? = some (.cells #[(.int .i64 o_Kind), (.int .i64 o_N), (.int .i64 o_Task)] 36 (0, 0)) := by rw [eh2]; exact push_new eb1
  refine hl_val rfl rfl (v := (.int .i64 0)) (hv_assign rfl) ?_
  refine hl_nil ?_
  refine seqQ_n ?_
  refine hx_seq ?_
  refine hx_region ?_
  refine hl_val rfl rfl (v := (.int .i64 0)) (hv_assign rfl) ?_
  refine hl_nil ?_
  refine seqQ_n ?_
  obtain ⟨A8, Hx6, Hy7⟩ := H
  refine hx_cut (fun ρ h' => ∃ e : Int, (A8 e h' ∧ True) ∧ Has ρ [(5, (.int .i64 e))]) ?_ ?_
  · have H := Hx6; clear Hx6 Hy7
    refine hx_seq ?_
    refine hx_region ?_
    refine hl_val rfl rfl (v := (ptr o 0)) (hv_field TyQC.fld36_0 (b := o) (o := 0) rfl) ?_
    refine hl_val rfl rfl (v := (.int .i64 o_Kind)) (hv_load TyQC.agg3 rfl (rowcell hr4 rfl)) ?_
    refine hl_nil ?_
    refine seqQ_n ?_
    refine hx_block ?_
    refine hx_seq ?_
    refine hx_region ?_
    refine hl_val rfl rfl (v := (.bool (o_Kind == 1))) (hv_arith rfl rfl rfl) ?_
    refine hl_val rfl rfl (v := (.bool (o_Kind == 1))) (hv_assign rfl) ?_
    refine hl_nil ?_
    refine seqQ_n ?_
    refine hx_cond (b := o_Kind == 1) rfl (fun hb10 => ?_) (fun hb10 => ?_)
    · replace H := H.1 hb10
      refine hx_region ?_
      refine hl_val rfl rfl (v := (ptr m_b m_o)) (hv_move rfl) ?_
      replace H := H o h1 lo5 (row_lt hr4) xx3
      refine hl_step rfl rfl (hs_call TyQC.cb13 (vs := [(ptr m_b m_o)]) rfl (HC.mono H ?_))
      rintro _ h3 ⟨kp11, r0, r1, r2, rfl, H⟩
      replace hr4 := Kp.row kp11 (by simp) hr4
      refine hl_val rfl rfl (v := (.tuple #[(.int .i64 r0), (.int .u64 r1), (.int .i64 r2)])) (hv_move rfl) ?_
      refine hl_val rfl rfl (v := (.int .i64 r0)) (hv_extract (vs := #[(.int .i64 r0), (.int .u64 r1), (.int .i64 r2)]) rfl rfl) ?_
      refine hl_val rfl rfl (v := (.int .u64 r1)) (hv_extract (vs := #[(.int .i64 r0), (.int .u64 r1), (.int .i64 r2)]) rfl rfl) ?_
      refine hl_val rfl rfl (v := (.int .i64 r2)) (hv_extract (vs := #[(.int .i64 r0), (.int .u64 r1), (.int .i64 r2)]) rfl rfl) ?_
      refine hl_val rfl rfl (v := (.int .i64 r2)) (hv_assign rfl) ?_
      refine hl_nil ?_
      refine blockQ_n ?_
      refine seqQ_n ?_
      exact ⟨_, ⟨H, trivial⟩, (has_cons rfl has_nil)⟩
    · replace H := H.2 hb10
      refine hx_seq ?_
      refine hx_region ?_
      refine hl_val rfl rfl (v := (.bool (o_Kind == 2))) (hv_arith rfl rfl rfl) ?_
      refine hl_val rfl rfl (v := (.bool (o_Kind == 2))) (hv_assign rfl) ?_
      refine hl_nil ?_
      refine seqQ_n ?_
      refine hx_cond (b := o_Kind == 2) rfl (fun hb12 => ?_) (fun hb12 => ?_)
      · replace H := H.1 hb12
        refine hx_region ?_
        refine hl_val rfl rfl (v := (ptr m_b m_o)) (hv_move rfl) ?_
        replace H := H o h1 lo5 (row_lt hr4) xx3
        refine hl_step rfl rfl (hs_call TyQC.cb23 (vs := [(ptr m_b m_o)]) rfl (HC.mono H ?_))
        rintro _ h4 ⟨kp13, r, rfl, H⟩
        replace hr4 := Kp.row kp13 (by simp) hr4
        refine hl_val rfl rfl (v := (.int .i64 r)) (hv_assign rfl) ?_
        refine hl_nil ?_
        refine blockQ_n ?_
        refine seqQ_n ?_
        exact ⟨_, ⟨H, trivial⟩, (has_cons rfl has_nil)⟩
      · replace H := H.2 hb12
        refine hx_seq ?_
        refine hx_region ?_
        refine hl_val rfl rfl (v := (.bool (o_Kind == 3))) (hv_arith rfl rfl rfl) ?_
        refine hl_val rfl rfl (v := (.bool (o_Kind == 3))) (hv_assign rfl) ?_
        refine hl_nil ?_
        refine seqQ_n ?_
        refine hx_cond (b := o_Kind == 3) rfl (fun hb14 => ?_) (fun hb14 => ?_)
        · replace H := H.1 hb14
          refine hx_region ?_
          refine hl_val rfl rfl (v := (ptr m_b m_o)) (hv_move rfl) ?_
          refine hl_val rfl rfl (v := (ptr o 1)) (hv_field TyQC.fld36_1 (b := o) (o := 0) rfl) ?_
          refine hl_val rfl rfl (v := (.int .i64 o_N)) (hv_load TyQC.agg3 rfl (rowcell hr4 rfl)) ?_
          replace H := H o h1 lo5 (row_lt hr4) xx3
          refine hl_step rfl rfl (hs_call TyQC.cb24 (vs := [(ptr m_b m_o), (.int .i64 o_N)]) rfl (HC.mono H ?_))
          rintro _ h5 ⟨kp15, r, rfl, H⟩
          replace hr4 := Kp.row kp15 (by simp) hr4
          refine hl_val rfl rfl (v := (.int .i64 r)) (hv_assign rfl) ?_
          refine hl_nil ?_
          refine blockQ_n ?_
          refine seqQ_n ?_
          exact ⟨_, ⟨H, trivial⟩, (has_cons rfl has_nil)⟩
        · replace H := H.2 hb14
          refine hx_seq ?_
          refine hx_region ?_
          refine hl_val rfl rfl (v := (.bool (o_Kind == 4))) (hv_arith rfl rfl rfl) ?_
          refine hl_val rfl rfl (v := (.bool (o_Kind == 4))) (hv_assign rfl) ?_
          refine hl_nil ?_
          refine seqQ_n ?_
          refine hx_cond (b := o_Kind == 4) rfl (fun hb16 => ?_) (fun hb16 => ?_)
          · replace H := H.1 hb16
            refine hx_region ?_
            refine hl_val rfl rfl (v := (ptr m_b m_o)) (hv_move rfl) ?_
            refine hl_val rfl rfl (v := (ptr o 2)) (hv_field TyQC.fld36_2 (b := o) (o := 0) rfl) ?_
            refine hl_val rfl rfl (v := (.int .i64 o_Task)) (hv_load TyQC.agg3 rfl (rowcell hr4 rfl)) ?_
            refine hl_val rfl rfl (v := (ptr o 1)) (hv_field TyQC.fld36_1 (b := o) (o := 0) rfl) ?_
            refine hl_val rfl rfl (v := (.int .i64 o_N)) (hv_load TyQC.agg3 rfl (rowcell hr4 rfl)) ?_
            replace H := H o h1 lo5 (row_lt hr4) xx3
            refine hl_step rfl rfl (hs_call TyQC.cb21 (vs := [(ptr m_b m_o), (.int .i64 o_Task), (.int .i64 o_N)]) rfl (HC.mono H ?_))
            rintro _ h6 ⟨kp17, r0, r1, rfl, H⟩
            replace hr4 := Kp.row kp17 (by simp) hr4
            refine hl_val rfl rfl (v := (.tuple #[(.bool r0), (.int .i64 r1)])) (hv_move rfl) ?_
            refine hl_val rfl rfl (v := (.bool r0)) (hv_extract (vs := #[(.bool r0), (.int .i64 r1)]) rfl rfl) ?_
            refine hl_val rfl rfl (v := (.int .i64 r1)) (hv_extract (vs := #[(.bool r0), (.int .i64 r1)]) rfl rfl) ?_
            refine hl_val rfl rfl (v := (.int .i64 r1)) (hv_assign rfl) ?_
            refine hl_nil ?_
            refine blockQ_n ?_
            refine seqQ_n ?_
            exact ⟨_, ⟨H, trivial⟩, (has_cons rfl has_nil)⟩
          · replace H := H.2 hb16
            refine hx_seq ?_
            refine hx_region ?_
            refine hl_val rfl rfl (v := (.bool (o_Kind == 5))) (hv_arith rfl rfl rfl) ?_
            refine hl_val rfl rfl (v := (.bool (o_Kind == 5))) (hv_assign rfl) ?_
            refine hl_nil ?_
            refine seqQ_n ?_
            refine hx_cond (b := o_Kind == 5) rfl (fun hb18 => ?_) (fun hb18 => ?_)
            · replace H := H.1 hb18
              refine hx_region ?_
              refine hl_val rfl rfl (v := (ptr m_b m_o)) (hv_move rfl) ?_
              refine hl_val rfl rfl (v := (ptr o 1)) (hv_field TyQC.fld36_1 (b := o) (o := 0) rfl) ?_
              refine hl_val rfl rfl (v := (.int .i64 o_N)) (hv_load TyQC.agg3 rfl (rowcell hr4 rfl)) ?_
              replace H := H o h1 lo5 (row_lt hr4) xx3
              refine hl_step rfl rfl (hs_call TyQC.cb25 (vs := [(ptr m_b m_o), (.int .i64 o_N)]) rfl (HC.mono H ?_))
              rintro _ h7 ⟨kp19, r, rfl, H⟩
              replace hr4 := Kp.row kp19 (by simp) hr4
              refine hl_val rfl rfl (v := (.int .i64 r)) (hv_assign rfl) ?_
              refine hl_nil ?_
              refine blockQ_n ?_
              refine seqQ_n ?_
              exact ⟨_, ⟨H, trivial⟩, (has_cons rfl has_nil)⟩
            · replace H := H.2 hb18
              refine hx_seq ?_
              refine hx_region ?_
              refine hl_val rfl rfl (v := (.bool (o_Kind == 6))) (hv_arith rfl rfl rfl) ?_
              refine hl_val rfl rfl (v := (.bool (o_Kind == 6))) (hv_assign rfl) ?_
              refine hl_nil ?_
              refine seqQ_n ?_
              refine hx_cond (b := o_Kind == 6) rfl (fun hb20 => ?_) (fun hb20 => ?_)
              · replace H := H.1 hb20
                refine hx_seq ?_
                refine hx_region ?_
                refine hl_val rfl rfl (v := (ptr m_b m_o)) (hv_move rfl) ?_
                refine hl_val rfl rfl (v := (ptr o 1)) (hv_field TyQC.fld36_1 (b := o) (o := 0) rfl) ?_
                refine hl_val rfl rfl (v := (.int .i64 o_N)) (hv_load TyQC.agg3 rfl (rowcell hr4 rfl)) ?_
                replace H := H o h1 lo5 (row_lt hr4) xx3
                refine hl_step rfl rfl (hs_call TyQC.cb26 (vs := [(ptr m_b m_o), (.int .i64 o_N)]) rfl (HC.mono H ?_))
                rintro _ h8 ⟨kp21, r, rfl, H⟩
                replace hr4 := Kp.row kp21 (by simp) hr4
                refine hl_val rfl rfl (v := (.bool (!r))) (hv_not (b := r) rfl) ?_
                refine hl_nil ?_
                refine seqQ_n ?_
                refine hx_cond (b := !r) rfl (fun hb22 => ?_) (fun hb22 => ?_)
                · replace H := H.1 hb22
                  refine hx_region ?_
                  refine hl_val rfl rfl (v := (.int .i64 91)) (hv_assign rfl) ?_
                  refine hl_nil ?_
                  refine blockQ_n ?_
                  refine seqQ_n ?_
                  exact ⟨_, ⟨H, trivial⟩, (has_cons rfl has_nil)⟩
                · replace H := H.2 hb22
                  refine hx_skip ?_
                  refine blockQ_n ?_
                  refine seqQ_n ?_
                  exact ⟨_, ⟨H, trivial⟩, (has_cons rfl has_nil)⟩
              · replace H := H.2 hb20
                refine hx_seq ?_
                refine hx_region ?_
                refine hl_val rfl rfl (v := (.bool (o_Kind == 7))) (hv_arith rfl rfl rfl) ?_
                refine hl_val rfl rfl (v := (.bool (o_Kind == 7))) (hv_assign rfl) ?_
                refine hl_nil ?_
                refine seqQ_n ?_
                refine hx_cond (b := o_Kind == 7) rfl (fun hb23 => ?_) (fun hb23 => ?_)
                · replace H := H.1 hb23
                  refine hx_region ?_
                  refine hl_val rfl rfl (v := (ptr m_b m_o)) (hv_move rfl) ?_
                  refine hl_val rfl rfl (v := (ptr o 1)) (hv_field TyQC.fld36_1 (b := o) (o := 0) rfl) ?_
                  refine hl_val rfl rfl (v := (.int .i64 o_N)) (hv_load TyQC.agg3 rfl (rowcell hr4 rfl)) ?_
                  replace H := H h1 xx3
                  refine hl_step rfl rfl (hs_call TyQC.cb22 (vs := [(ptr m_b m_o), (.int .i64 o_N)]) rfl (HC.mono H ?_))
                  rintro _ h9 ⟨r0, r0_n, r0_c, r1, rfl, H⟩
                  refine hl_val rfl rfl (v := (.tuple #[(.slice r0 r0_n r0_c), (.int .i64 r1)])) (hv_move rfl) ?_
                  refine hl_val rfl rfl (v := (.slice r0 r0_n r0_c)) (hv_extract (vs := #[(.slice r0 r0_n r0_c), (.int .i64 r1)]) rfl rfl) ?_
                  refine hl_val rfl rfl (v := (.int .i64 r1)) (hv_extract (vs := #[(.slice r0 r0_n r0_c), (.int .i64 r1)]) rfl rfl) ?_
                  refine hl_val rfl rfl (v := (.int .i64 r1)) (hv_assign rfl) ?_
                  refine hl_nil ?_
                  refine blockQ_n ?_
                  refine seqQ_n ?_
                  exact ⟨_, ⟨H, trivial⟩, (has_cons rfl has_nil)⟩
                · replace H := H.2 hb23
                  refine hx_skip ?_
                  refine blockQ_n ?_
                  replace H := H h1 xx3
                  refine seqQ_n ?_
                  exact ⟨_, ⟨H, trivial⟩, (has_cons rfl has_nil)⟩
  · rintro ρ h2 ⟨e, ⟨HA9, -⟩, hH⟩
    have H := Hy7 e h2 HA9; clear Hx6 Hy7
    refine hx_has _ hH ?_
    refine hx_seq ?_
    refine hx_region ?_
    refine hl_val rfl rfl (v := (.int .i64 e)) (hv_move rfl) ?_
    refine hl_val rfl rfl (v := (.int .i64 e)) (hv_assign rfl) ?_
    refine hl_nil ?_
    refine seqQ_n ?_
    refine hx_ret ?_
    exact endQ_ret _ (res_one Try.results12 (rv_tmp rfl)) H

end Go.Proofs.Ytfdgjgjcppfmiaa
