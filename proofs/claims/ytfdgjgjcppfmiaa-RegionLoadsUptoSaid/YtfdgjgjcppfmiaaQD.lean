/-
Shallow forms, written by gen2.py (a program of ours) out of the print of the program.
-/
import Derived.Test.YtfdgjgjcppfmiaaPrv
import Derived.Test.YtfdgjgjcppfmiaaSrt
import Derived.Test.YtfdgjgjcppfmiaaRng
import Derived.Test.YtfdgjgjcppfmiaaMor
import Derived.Test.YtfdgjgjcppfmiaaProg
namespace Go.Proofs.Ytfdgjgjcppfmiaa
open Go
set_option maxRecDepth 100000
set_option maxHeartbeats 4000000

theorem TyQD.agg24 : aggB Try.prog 24 = some false := by kernel_rfl
theorem TyQD.agg29 : aggB Try.prog 29 = some false := by kernel_rfl
theorem TyQD.agg3 : aggB Try.prog 3 = some false := by kernel_rfl
theorem TyQD.agg36 : aggB Try.prog 36 = some true := by kernel_rfl
theorem TyQD.agg4 : aggB Try.prog 4 = some false := by kernel_rfl
theorem TyQD.agg50 : aggB Try.prog 50 = some false := by kernel_rfl
theorem TyQD.cb10 : CallB Try.prog 10 := fun _ _ => Try.call10 _ _
theorem TyQD.cb11 : CallB Try.prog 11 := fun _ _ => Try.call11 _ _
theorem TyQD.cb12 : CallB Try.prog 12 := fun _ _ => Try.call12 _ _
theorem TyQD.cb13 : CallB Try.prog 13 := fun _ _ => Try.call13 _ _
theorem TyQD.cb14 : CallB Try.prog 14 := fun _ _ => Try.call14 _ _
theorem TyQD.cb15 : CallB Try.prog 15 := fun _ _ => Try.call15 _ _
theorem TyQD.cb16 : CallB Try.prog 16 := fun _ _ => Try.call16 _ _
theorem TyQD.cb17 : CallB Try.prog 17 := fun _ _ => Try.call17 _ _
theorem TyQD.cb18 : CallB Try.prog 18 := fun _ _ => Try.call18 _ _
theorem TyQD.cb19 : CallB Try.prog 19 := fun _ _ => Try.call19 _ _
theorem TyQD.cb20 : CallB Try.prog 20 := fun _ _ => Try.call20 _ _
theorem TyQD.cb9 : CallB Try.prog 9 := fun _ _ => Try.call9 _ _
theorem TyQD.el22 : elB Try.prog 22 = some 3 := by kernel_rfl
theorem TyQD.el50 : elB Try.prog 50 = some 1 := by kernel_rfl
theorem TyQD.fld31_0 : fldB Try.prog 31 0 = some 0 := by kernel_rfl
theorem TyQD.fld31_1 : fldB Try.prog 31 1 = some 1 := by kernel_rfl
theorem TyQD.fld36_0 : fldB Try.prog 36 0 = some 0 := by kernel_rfl
theorem TyQD.mixed : Try.prog.follows .mixedOrders = true := by kernel_rfl
theorem TyQD.sz24 : szB Try.prog 24 = some 1 := by kernel_rfl
theorem TyQD.sz29 : szB Try.prog 29 = some 1 := by kernel_rfl
theorem TyQD.sz3 : szB Try.prog 3 = some 1 := by kernel_rfl
theorem TyQD.sz31 : szB Try.prog 31 = some 4 := by kernel_rfl
theorem TyQD.sz36 : szB Try.prog 36 = some 3 := by kernel_rfl
theorem TyQD.sz4 : szB Try.prog 4 = some 1 := by kernel_rfl
theorem TyQD.sz50 : szB Try.prog 50 = some 1 := by kernel_rfl
theorem TyQD.u22 : Try.prog.underlying 22 = some (.slice 36) := by kernel_rfl
theorem TyQD.u4 : Try.prog.underlying 4 = some (.bool) := by kernel_rfl
theorem TyQD.u50 : Try.prog.underlying 50 = some (.slice 3) := by kernel_rfl
theorem TyQD.up24 : Try.prog.underlying 24 = some (.pointer 67) := by kernel_rfl
theorem TyQD.up45 : Try.prog.underlying 45 = some (.pointer 78) := by kernel_rfl
theorem TyQD.z24 : zeroB Try.prog 24 (.pointer none) := by unfold zeroB; kernel_rfl
theorem TyQD.z29 : zeroB Try.prog 29 (.int .u64 0) := by unfold zeroB; kernel_rfl
theorem TyQD.z3 : zeroB Try.prog 3 (.int .i64 0) := by unfold zeroB; kernel_rfl
theorem TyQD.z31 : zeroB Try.prog 31 (.agg #[(.int .i64 0), (.int .u64 0), (.int .i64 0), (.int .i64 0)]) := by unfold zeroB; kernel_rfl
theorem TyQD.z4 : zeroB Try.prog 4 (.bool false) := by unfold zeroB; kernel_rfl
theorem TyQD.z50 : zeroB Try.prog 50 (.slice none 0 0) := by unfold zeroB; kernel_rfl

/-- cellar/cellarlaw09.RegionPlays -/
theorem f5_sh (regions : Int) (l : Option Addr) (l_n : Nat) (l_c : Nat) (h : Heap) (R : Value → Heap → Prop)
    (H : HC Try.prog 9 #[] h (fun vv h1 => ∃ r : Bool, vv = (.bool r) ∧ (((!r) = true → R (.bool false) h1) ∧ ((!r) = false → HC Try.prog 10 #[(.int .i64 regions)] h1 (fun vv h2 => ∃ r0 : Option Addr, ∃ r1 : Int, vv = (.tuple #[(.pointer r0), (.int .i64 r1)]) ∧ HC Try.prog 17 #[(.int .i64 regions)] h2 (fun vv h3 => ∃ r0_1 : Option Addr, ∃ r1_1 : Int, vv = (.tuple #[(.pointer r0_1), (.int .i64 r1_1)]) ∧ ((((r1 != r1_1) || (r0.isNone != r0_1.isNone)) = true → R (.bool false) h3) ∧ (((r1 != r1_1) || (r0.isNone != r0_1.isNone)) = false → ((r0_1.isNone = true → R (.bool true) h3) ∧ (r0_1.isNone = false → (∃ (I7 : Int → Heap → Prop) (mu8 : Int → Heap → Nat), I7 0 h3 ∧ (∀ (i : Int) (h4 : Heap), I7 i h4 → (((decide (i < (l_n : Int))) = true → (∃ l_b l_o : Nat, l = some ⟨l_b, l_o, none⟩ ∧ (0 : Int) ≤ i ∧ i < (l_n : Int) ∧ (∃ x_Kind x_N x_Task : Int, hcell h4 l_b (l_o + (Int.toNat i) * 3) = some (.int .i64 x_Kind) ∧ hcell h4 l_b ((l_o + (Int.toNat i) * 3) + 1) = some (.int .i64 x_N) ∧ hcell h4 l_b ((l_o + (Int.toNat i) * 3) + 2) = some (.int .i64 x_Task) ∧ HC Try.prog 18 #[(.pointer r0), (.pointer r0_1), (.agg #[(.int .i64 x_Kind), (.int .i64 x_N), (.int .i64 x_Task)])] h4 (fun vv h5 => ∃ r_1 : Bool, vv = (.bool r_1) ∧ (((!r_1) = true → R (.bool false) h5) ∧ ((!r_1) = false → (I7 (IntKind.i64.wrap (i + 1)) h5 ∧ mu8 (IntKind.i64.wrap (i + 1)) h5 < mu8 i h4))))))) ∧ ((decide (i < (l_n : Int))) = false → HC Try.prog 19 #[(.pointer r0), (.pointer r0_1)] h4 (fun vv h6 => ∃ r_1 : Bool, vv = (.bool r_1) ∧ R (.bool r_1) h6))))))))))))))) :
    HC Try.prog 5 #[(.int .i64 regions), (.slice l l_n l_c)] h R := by
  refine hc_of (args := [(.int .i64 regions), (.slice l l_n l_c)]) Try.func5 rfl Try.ntmps5 (Nat.le_of_ble_eq_true rfl) ?_
  refine hx_seq ?_
  refine hx_region ?_
  refine hl_val rfl rfl (v := (.bool false)) (hv_assign rfl) ?_
  refine hl_nil ?_
  refine seqQ_n ?_
  refine hx_seq ?_
  refine hx_seq ?_
  refine hx_region ?_
  refine hl_step rfl rfl (hs_call TyQD.cb9 (vs := []) rfl (HC.mono H ?_))
  rintro _ h1 ⟨r, rfl, H⟩
  refine hl_val rfl rfl (v := (.bool (!r))) (hv_not (b := r) rfl) ?_
  refine hl_nil ?_
  refine seqQ_n ?_
  refine hx_cond (b := !r) rfl (fun hb1 => ?_) (fun hb1 => ?_)
  · replace H := H.1 hb1
    refine hx_seq ?_
    refine hx_region ?_
    refine hl_val rfl rfl (v := (.bool false)) (hv_assign rfl) ?_
    refine hl_nil ?_
    refine seqQ_n ?_
    refine hx_ret ?_
    refine seqQ_ret ?_
    exact endQ_ret _ (res_one Try.results5 (rv_tmp rfl)) H
  · replace H := H.2 hb1
    refine hx_skip ?_
    refine seqQ_n ?_
    refine hx_seq ?_
    refine hx_region ?_
    refine hl_val rfl rfl (v := (.int .i64 regions)) (hv_move rfl) ?_
    refine hl_step rfl rfl (hs_call TyQD.cb10 (vs := [(.int .i64 regions)]) rfl (HC.mono H ?_))
    rintro _ h2 ⟨r0, r1, rfl, H⟩
    refine hl_val rfl rfl (v := (.tuple #[(.pointer r0), (.int .i64 r1)])) (hv_move rfl) ?_
    refine hl_val rfl rfl (v := (.pointer r0)) (hv_extract (vs := #[(.pointer r0), (.int .i64 r1)]) rfl rfl) ?_
    refine hl_val rfl rfl (v := (.int .i64 r1)) (hv_extract (vs := #[(.pointer r0), (.int .i64 r1)]) rfl rfl) ?_
    refine hl_val rfl rfl (v := (.pointer r0)) (hv_assign rfl) ?_
    refine hl_val rfl rfl (v := (.int .i64 r1)) (hv_assign rfl) ?_
    refine hl_nil ?_
    refine seqQ_n ?_
    refine hx_seq ?_
    refine hx_region ?_
    refine hl_val rfl rfl (v := (.int .i64 regions)) (hv_move rfl) ?_
    refine hl_step rfl rfl (hs_call TyQD.cb17 (vs := [(.int .i64 regions)]) rfl (HC.mono H ?_))
    rintro _ h3 ⟨r0_1, r1_1, rfl, H⟩
    refine hl_val rfl rfl (v := (.tuple #[(.pointer r0_1), (.int .i64 r1_1)])) (hv_move rfl) ?_
    refine hl_val rfl rfl (v := (.pointer r0_1)) (hv_extract (vs := #[(.pointer r0_1), (.int .i64 r1_1)]) rfl rfl) ?_
    refine hl_val rfl rfl (v := (.int .i64 r1_1)) (hv_extract (vs := #[(.pointer r0_1), (.int .i64 r1_1)]) rfl rfl) ?_
    refine hl_val rfl rfl (v := (.pointer r0_1)) (hv_assign rfl) ?_
    refine hl_val rfl rfl (v := (.int .i64 r1_1)) (hv_assign rfl) ?_
    refine hl_nil ?_
    refine seqQ_n ?_
    refine hx_seq ?_
    refine hx_cut (fun ρ h' => h3 = h' ∧ Has ρ [(1, (.slice l l_n l_c)), (5, (.pointer r0)), (7, (.pointer r0_1)), (31, (.bool ((r1 != r1_1) || (r0.isNone != r0_1.isNone))))]) ?_ ?_
    · refine hx_region ?_
      refine hl_val rfl rfl (v := (.int .i64 r1)) (hv_move rfl) ?_
      refine hl_val rfl rfl (v := (.int .i64 r1_1)) (hv_move rfl) ?_
      refine hl_val rfl rfl (v := (.bool (r1 != r1_1))) (hv_arith rfl rfl rfl) ?_
      refine hl_val rfl rfl (v := (.bool (r1 != r1_1))) (hv_move rfl) ?_
      rcases bool_or (r1 != r1_1) with hg4 | hg4
      · refine hl_no (wanted_n rfl rfl rfl hg4) rfl ?_
        refine hl_no (wanted_n rfl rfl rfl hg4) rfl ?_
        refine hl_no (wanted_n rfl rfl rfl hg4) rfl ?_
        refine hl_no (wanted_n rfl rfl rfl hg4) rfl ?_
        refine hl_no (wanted_n rfl rfl rfl hg4) rfl ?_
        refine hl_val rfl rfl (v := (.bool true)) (hv_pick_t rfl hg4 rfl) ?_
        refine hl_nil ?_
        refine seqQ_n ?_
        exact ⟨rfl, (has_cons rfl (has_cons rfl (has_cons rfl (has_cons (show ((.bool true) : Value) = (.bool ((r1 != r1_1) || (r0.isNone != r0_1.isNone))) from (by first | rfl | ((try rw [hg4]); all_goals first | rfl | (simp only [Bool.true_or, Bool.or_true, Bool.false_or, Bool.or_false, Bool.true_and, Bool.and_true, Bool.false_and, Bool.and_false, Bool.not_true, Bool.not_false, Bool.cond_true, Bool.cond_false]; done)) | simp [hg4])) has_nil))))⟩
      · refine hl_yes (wanted_y rfl rfl rfl hg4) rfl (HStep.of_val (v := (.pointer r0)) (hv_move rfl) ?_)
        refine hl_yes (wanted_y rfl rfl rfl hg4) rfl (HStep.of_val (v := (.bool r0.isNone)) (hv_ptrNil TyQD.up24 rfl rfl) ?_)
        refine hl_yes (wanted_y rfl rfl rfl hg4) rfl (HStep.of_val (v := (.pointer r0_1)) (hv_move rfl) ?_)
        refine hl_yes (wanted_y rfl rfl rfl hg4) rfl (HStep.of_val (v := (.bool r0_1.isNone)) (hv_ptrNil TyQD.up45 rfl rfl) ?_)
        refine hl_yes (wanted_y rfl rfl rfl hg4) rfl (HStep.of_val (v := (.bool (r0.isNone != r0_1.isNone))) (hv_eqBool TyQD.u4 rfl rfl rfl) ?_)
        refine hl_val rfl rfl (v := (.bool (r0.isNone != r0_1.isNone))) (hv_pick_f rfl hg4 rfl) ?_
        refine hl_nil ?_
        refine seqQ_n ?_
        exact ⟨rfl, (has_cons rfl (has_cons rfl (has_cons rfl (has_cons (show ((.bool (r0.isNone != r0_1.isNone)) : Value) = (.bool ((r1 != r1_1) || (r0.isNone != r0_1.isNone))) from (by first | rfl | ((try rw [hg4]); all_goals first | rfl | (simp only [Bool.true_or, Bool.or_true, Bool.false_or, Bool.or_false, Bool.true_and, Bool.and_true, Bool.false_and, Bool.and_false, Bool.not_true, Bool.not_false, Bool.cond_true, Bool.cond_false]; done)) | simp [hg4])) has_nil))))⟩
    · rintro ρ _ ⟨rfl, hH⟩
      refine hx_has _ hH ?_
      refine hx_cond (b := ((r1 != r1_1) || (r0.isNone != r0_1.isNone))) rfl (fun hb5 => ?_) (fun hb5 => ?_)
      · replace H := H.1 hb5
        refine hx_seq ?_
        refine hx_region ?_
        refine hl_val rfl rfl (v := (.bool false)) (hv_assign rfl) ?_
        refine hl_nil ?_
        refine seqQ_n ?_
        refine hx_ret ?_
        refine seqQ_ret ?_
        exact endQ_ret _ (res_one Try.results5 (rv_tmp rfl)) H
      · replace H := H.2 hb5
        refine hx_skip ?_
        refine seqQ_n ?_
        refine hx_seq ?_
        refine hx_seq ?_
        refine hx_region ?_
        refine hl_val rfl rfl (v := (.pointer r0_1)) (hv_move rfl) ?_
        refine hl_val rfl rfl (v := (.bool r0_1.isNone)) (hv_ptrNil TyQD.up45 rfl rfl) ?_
        refine hl_nil ?_
        refine seqQ_n ?_
        refine hx_cond (b := r0_1.isNone) rfl (fun hb6 => ?_) (fun hb6 => ?_)
        · replace H := H.1 hb6
          refine hx_seq ?_
          refine hx_region ?_
          refine hl_val rfl rfl (v := (.bool true)) (hv_assign rfl) ?_
          refine hl_nil ?_
          refine seqQ_n ?_
          refine hx_ret ?_
          refine seqQ_ret ?_
          exact endQ_ret _ (res_one Try.results5 (rv_tmp rfl)) H
        · replace H := H.2 hb6
          refine hx_skip ?_
          refine seqQ_n ?_
          refine hx_seq ?_
          refine hx_seq ?_
          refine hx_region ?_
          refine hl_val rfl rfl (v := (.int .i64 0)) (hv_assign rfl) ?_
          refine hl_nil ?_
          refine seqQ_n ?_
          refine hx_block ?_
          obtain ⟨I7, mu8, Ha9, Hr10⟩ := H
          refine hx_loopT (σ := Int) (fun s => [(1, (.slice l l_n l_c)), (5, (.pointer r0)), (7, (.pointer r0_1)), (9, (.int .i64 s))]) (fun s h' => I7 s h' ∧ True) (fun s h' => mu8 s h') 0 ⟨Ha9, trivial⟩ (has_cons rfl (has_cons rfl (has_cons rfl (has_cons rfl has_nil)))) ?_
          rintro i ρ h4 ⟨Hi11, -⟩
          have H := Hr10 i h4 Hi11
          refine hx_seq ?_
          refine hx_seq ?_
          refine hx_region ?_
          refine hl_val rfl rfl (v := (.int .i64 i)) (hv_move rfl) ?_
          refine hl_val rfl rfl (v := (.slice l l_n l_c)) (hv_move rfl) ?_
          refine hl_val rfl rfl (v := (.int .i64 (l_n : Int))) (hv_len (n := l_n) TyQD.u22 rfl) ?_
          refine hl_val rfl rfl (v := (.bool (decide (i < (l_n : Int))))) (hv_arith rfl rfl rfl) ?_
          refine hl_nil ?_
          refine seqQ_n ?_
          refine hx_cond (b := decide (i < (l_n : Int))) rfl (fun hb12 => ?_) (fun hb12 => ?_)
          · replace H := H.1 hb12
            refine hx_skip ?_
            refine seqQ_n ?_
            refine hx_seq ?_
            refine hx_block ?_
            refine hx_seq ?_
            refine hx_region ?_
            refine hl_val rfl rfl (v := (.pointer r0)) (hv_move rfl) ?_
            refine hl_val rfl rfl (v := (.pointer r0_1)) (hv_move rfl) ?_
            refine hl_val rfl rfl (v := (.slice l l_n l_c)) (hv_move rfl) ?_
            refine hl_val rfl rfl (v := (.int .i64 i)) (hv_move rfl) ?_
            obtain ⟨l_b, l_o, hqe, hi13, hi14, Hq⟩ := H
            subst hqe
            have H := Hq; clear Hq
            refine hl_val rfl rfl (v := (ptr l_b (l_o + (Int.toNat i) * 3))) (hv_index TyQD.el22 rfl rfl hi13 hi14) ?_
            obtain ⟨x_Kind, x_N, x_Task, hc15, hc16, hc17, H⟩ := H
            refine hl_val rfl rfl (v := (.agg #[(.int .i64 x_Kind), (.int .i64 x_N), (.int .i64 x_Task)])) (hv_loads (vs := [(.int .i64 x_Kind), (.int .i64 x_N), (.int .i64 x_Task)]) TyQD.agg36 TyQD.sz36 rfl (hcells_cons hc15 (hcells_cons hc16 (hcells_cons hc17 hcells_nil)))) ?_
            refine hl_step rfl rfl (hs_call TyQD.cb18 (vs := [(.pointer r0), (.pointer r0_1), (.agg #[(.int .i64 x_Kind), (.int .i64 x_N), (.int .i64 x_Task)])]) rfl (HC.mono H ?_))
            rintro _ h5 ⟨r_1, rfl, H⟩
            refine hl_val rfl rfl (v := (.bool (!r_1))) (hv_not (b := r_1) rfl) ?_
            refine hl_nil ?_
            refine seqQ_n ?_
            refine hx_cond (b := !r_1) rfl (fun hb18 => ?_) (fun hb18 => ?_)
            · replace H := H.1 hb18
              refine hx_seq ?_
              refine hx_region ?_
              refine hl_val rfl rfl (v := (.bool false)) (hv_assign rfl) ?_
              refine hl_nil ?_
              refine seqQ_n ?_
              refine hx_ret ?_
              refine blockQ_ret ?_
              refine seqQ_ret ?_
              refine seqQ_ret ?_
              refine blockQ_ret ?_
              refine seqQ_ret ?_
              exact endQ_ret _ (res_one Try.results5 (rv_tmp rfl)) H
            · replace H := H.2 hb18
              refine hx_skip ?_
              refine blockQ_n ?_
              refine seqQ_n ?_
              refine hx_region ?_
              refine hl_val rfl rfl (v := (.int .i64 i)) (hv_move rfl) ?_
              refine hl_val rfl rfl (v := (.int .i64 (IntKind.i64.wrap (i + 1)))) (hv_arith rfl rfl rfl) ?_
              refine hl_val rfl rfl (v := (.int .i64 (IntKind.i64.wrap (i + 1)))) (hv_assign rfl) ?_
              refine hl_nil ?_
              refine seqQ_n ?_
              exact ⟨IntKind.i64.wrap (i + 1), ⟨⟨H.1, trivial⟩, H.2⟩, (has_cons rfl (has_cons rfl (has_cons rfl (has_cons rfl has_nil))))⟩
          · replace H := H.2 hb12
            refine hx_exit ?_
            refine seqQ_exit ?_
            refine seqQ_exit ?_
            refine blockQ_here ?_
            refine seqQ_n ?_
            refine hx_seq ?_
            refine hx_region ?_
            refine hl_val rfl rfl (v := (.pointer r0)) (hv_move rfl) ?_
            refine hl_val rfl rfl (v := (.pointer r0_1)) (hv_move rfl) ?_
            refine hl_step rfl rfl (hs_call TyQD.cb19 (vs := [(.pointer r0), (.pointer r0_1)]) rfl (HC.mono H ?_))
            rintro _ h6 ⟨r_1, rfl, H⟩
            refine hl_val rfl rfl (v := (.bool r_1)) (hv_assign rfl) ?_
            refine hl_nil ?_
            refine seqQ_n ?_
            refine hx_ret ?_
            exact endQ_ret _ (res_one Try.results5 (rv_tmp rfl)) H

/-- cellar/cellarlaw09.RegionStops -/
theorem f6_sh (regions : Int) (l : Option Addr) (l_n : Nat) (l_c : Nat) (most : Int) (h : Heap) (R : Value → Heap → Prop)
    (H : (∀ most_1 h1, most_1 = Array.size h → h1 = Array.push h (.cells #[(.int .i64 most)] 3) → HC Try.prog 9 #[] h1 (fun vv h2 => ∃ r : Bool, vv = (.bool r) ∧ (((!r) = true → (∀ h3, Shut' (Array.size h) h2 h3 → R (.bool false) h3)) ∧ ((!r) = false → HC Try.prog 10 #[(.int .i64 regions)] h2 (fun vv h4 => ∃ r0 : Option Addr, ∃ r1 : Int, vv = (.tuple #[(.pointer r0), (.int .i64 r1)]) ∧ HC Try.prog 17 #[(.int .i64 regions)] h4 (fun vv h5 => ∃ r0_1 : Option Addr, ∃ r1_1 : Int, vv = (.tuple #[(.pointer r0_1), (.int .i64 r1_1)]) ∧ ((((r1 != 0) || r0_1.isNone) = true → (∀ h6, Shut' (Array.size h) h5 h6 → R (.bool (r0.isNone && r0_1.isNone)) h6)) ∧ (((r1 != 0) || r0_1.isNone) = false → (∃ (I12 : Bool → Int → Heap → Prop) (mu13 : Bool → Int → Heap → Nat), I12 false 0 h5 ∧ (∀ (v : Bool) (i : Int) (h7 : Heap), I12 v i h7 → (((decide (i < (l_n : Int))) = true → (∃ l_b l_o : Nat, l = some ⟨l_b, l_o, none⟩ ∧ (0 : Int) ≤ i ∧ i < (l_n : Int) ∧ (∃ x_Kind x_N x_Task : Int, hcell h7 l_b (l_o + (Int.toNat i) * 3) = some (.int .i64 x_Kind) ∧ hcell h7 l_b ((l_o + (Int.toNat i) * 3) + 1) = some (.int .i64 x_N) ∧ hcell h7 l_b ((l_o + (Int.toNat i) * 3) + 2) = some (.int .i64 x_Task) ∧ HC Try.prog 18 #[(.pointer r0), (.pointer r0_1), (.agg #[(.int .i64 x_Kind), (.int .i64 x_N), (.int .i64 x_Task)])] h7 (fun vv h8 => ∃ r_1 : Bool, vv = (.bool r_1) ∧ (((!r_1) = true → (∀ h9, Shut' (Array.size h) h8 h9 → R (.bool false) h9)) ∧ ((!r_1) = false → (I12 v (IntKind.i64.wrap (i + 1)) h8 ∧ mu13 v (IntKind.i64.wrap (i + 1)) h8 < mu13 v i h7))))))) ∧ ((decide (i < (l_n : Int))) = false → HC Try.prog 20 #[(.pointer r0_1)] h7 (fun vv h10 => ∃ r_1 : Option Addr, ∃ r_n r_c : Nat, vv = (.slice r_1 r_n r_c) ∧ (∀ want h11, want = Array.size h10 → h11 = Array.push h10 (.cells #[(.slice none 0 0)] 50) → (HW h11 want 0 ∧ ∀ h12, h12 = hset h11 want 0 (.slice r_1 r_n r_c) → (∀ n h13, n = Array.size h12 → h13 = Array.push h12 (.cells #[(.int .i64 0)] 3) → (HW h13 n 0 ∧ ∀ h14, h14 = hset h13 n 0 (.int .i64 0) → (∃ A36 : Heap → Prop, HC Try.prog 16 #[(.pointer r0)] h14 (fun vv h16 => ∃ r_2 : Value, vv = r_2 ∧ (∀ (Lp38 : LoopState → Option Code → Heap → Prop) (l_1 : Nat) (h17 : Heap) (y : Value), (∀ s p h h', Lp38 s p h → h'[l_1]? = h[l_1]? → Lp38 s p h') → l_1 = Array.size h16 + 1 → Ext h16 h17 → Array.size h17 = Array.size h16 + 2 → Lp38 .ready none h17 → (∀ (it : Int) (h18 : Heap) (K46 : Value → Heap → Prop), Lp38 .ready none h18 → (Lp38 .ready none h18 ∧ ∀ h21, Only l_1 h18 h21 → Lp38 .busy none h21 → (∃ j_1 : Bool, (∃ x : Int, hcell h21 n 0 = some (.int .i64 x) ∧ (∃ x_1 : Int, hcell h21 most_1 0 = some (.int .i64 x_1) ∧ (((decide (x ≥ x_1)) = true → (j_1 = true)) ∧ ((decide (x ≥ x_1)) = false → (∃ x_2 : Option Addr, ∃ x_n x_c : Nat, hcell h21 want 0 = some (.slice x_2 x_n x_c) ∧ (((decide (x ≥ (x_n : Int))) = true → (j_1 = true)) ∧ ((decide (x ≥ (x_n : Int))) = false → (∃ x_2_b x_2_o : Nat, x_2 = some ⟨x_2_b, x_2_o, none⟩ ∧ (0 : Int) ≤ x ∧ x < (x_n : Int) ∧ (∃ x_3 : Int, hcell h21 x_2_b (x_2_o + (Int.toNat x) * 1) = some (.int .i64 x_3) ∧ (j_1 = (it != x_3))))))))))) ∧ ((j_1 = true → (Lp38 .busy none h21 ∧ ∀ h22, Only l_1 h21 h22 → Lp38 .done (some (.exit 2)) h22 → K46 (.bool false) h22)) ∧ (j_1 = false → (∃ x_4 : Int, hcell h21 n 0 = some (.int .i64 x_4) ∧ (HW h21 n 0 ∧ ∀ h23, h23 = hset h21 n 0 (.int .i64 (IntKind.i64.wrap (x_4 + 1))) → (Lp38 .busy none h23 ∧ ∀ h24, Only l_1 h23 h24 → Lp38 .ready none h24 → K46 (.bool true) h24))))))) → HCV Try.prog y [(.int .i64 it)] h18 K46) → HCF Try.prog r_2 [y] h17 (fun _ h19 => ∃ (st : LoopState) (pend : Option Code), Lp38 st pend h19 ∧ st ≠ .busy ∧ ∀ h20, Only l_1 h19 h20 → Lp38 .exhausted pend h20 → ((pend = none ∧ (A36 h20)) ∨ (pend = some (.exit 2) ∧ (A36 h20)))))) ∧ (∀ (h15 : Heap), A36 h15 → (∃ j_2 : Bool, (∃ x_5 : Int, hcell h15 n 0 = some (.int .i64 x_5) ∧ (∃ x_6 : Int, hcell h15 most_1 0 = some (.int .i64 x_6) ∧ (((decide (x_5 < x_6)) = true → (∃ x_7 : Option Addr, ∃ x_n_1 x_c_1 : Nat, hcell h15 want 0 = some (.slice x_7 x_n_1 x_c_1) ∧ (j_2 = (decide (x_5 < (x_n_1 : Int)))))) ∧ ((decide (x_5 < x_6)) = false → (j_2 = false))))) ∧ ((j_2 = true → (∀ h25, Shut' (Array.size h) h15 h25 → R (.bool false) h25)) ∧ (j_2 = false → HC Try.prog 19 #[(.pointer r0), (.pointer r0_1)] h15 (fun vv h26 => ∃ r_3 : Bool, vv = (.bool r_3) ∧ (∀ h27, Shut' (Array.size h) h26 h27 → R (.bool r_3) h27))))))))))))))))))))))))) :
    HC Try.prog 6 #[(.int .i64 regions), (.slice l l_n l_c), (.int .i64 most)] h R := by
  refine hc_ofM (args := [(.int .i64 regions), (.slice l l_n l_c), (.int .i64 most)]) Try.func6 rfl Try.ntmps6 (Nat.le_of_ble_eq_true rfl) ?_
  refine hx_seq ?_
  refine hx_region ?_
  refine hl_step rfl rfl (hn_box (v := (.int .i64 most)) rfl ?_)
  intro most_1 h1 eb1 eh2
  replace H := H most_1 h1 eb1 eh2
  have xx3 : Ext h h1 := by rw [eh2]; exact Ext.push _ _
  refine hl_val rfl rfl (v := (.bool false)) (hv_assign rfl) ?_
  refine hl_nil ?_
  refine seqQ_n ?_
  refine hx_seq ?_
  refine hx_seq ?_
  refine hx_region ?_
  refine hl_step rfl rfl (hs_call TyQD.cb9 (vs := []) rfl (HC.mono H ?_))
  rintro _ h2 ⟨r, rfl, H⟩
  refine hl_val rfl rfl (v := (.bool (!r))) (hv_not (b := r) rfl) ?_
  refine hl_nil ?_
  refine seqQ_n ?_
  refine hx_cond (b := !r) rfl (fun hb4 => ?_) (fun hb4 => ?_)
  · replace H := H.1 hb4
    refine hx_seq ?_
    refine hx_region ?_
    refine hl_val rfl rfl (v := (.bool false)) (hv_assign rfl) ?_
    refine hl_nil ?_
    refine seqQ_n ?_
    refine hx_ret ?_
    refine seqQ_ret ?_
    exact endQM_ret _ (fun h' hs => ⟨res_one Try.results6 (rv_tmp rfl), H h' hs⟩)
  · replace H := H.2 hb4
    refine hx_skip ?_
    refine seqQ_n ?_
    refine hx_seq ?_
    refine hx_region ?_
    refine hl_val rfl rfl (v := (.int .i64 regions)) (hv_move rfl) ?_
    refine hl_step rfl rfl (hs_call TyQD.cb10 (vs := [(.int .i64 regions)]) rfl (HC.mono H ?_))
    rintro _ h4 ⟨r0, r1, rfl, H⟩
    refine hl_val rfl rfl (v := (.tuple #[(.pointer r0), (.int .i64 r1)])) (hv_move rfl) ?_
    refine hl_val rfl rfl (v := (.pointer r0)) (hv_extract (vs := #[(.pointer r0), (.int .i64 r1)]) rfl rfl) ?_
    refine hl_val rfl rfl (v := (.int .i64 r1)) (hv_extract (vs := #[(.pointer r0), (.int .i64 r1)]) rfl rfl) ?_
    refine hl_val rfl rfl (v := (.pointer r0)) (hv_assign rfl) ?_
    refine hl_val rfl rfl (v := (.int .i64 r1)) (hv_assign rfl) ?_
    refine hl_nil ?_
    refine seqQ_n ?_
    refine hx_seq ?_
    refine hx_region ?_
    refine hl_val rfl rfl (v := (.int .i64 regions)) (hv_move rfl) ?_
    refine hl_step rfl rfl (hs_call TyQD.cb17 (vs := [(.int .i64 regions)]) rfl (HC.mono H ?_))
    rintro _ h5 ⟨r0_1, r1_1, rfl, H⟩
    refine hl_val rfl rfl (v := (.tuple #[(.pointer r0_1), (.int .i64 r1_1)])) (hv_move rfl) ?_
    refine hl_val rfl rfl (v := (.pointer r0_1)) (hv_extract (vs := #[(.pointer r0_1), (.int .i64 r1_1)]) rfl rfl) ?_
    refine hl_val rfl rfl (v := (.int .i64 r1_1)) (hv_extract (vs := #[(.pointer r0_1), (.int .i64 r1_1)]) rfl rfl) ?_
    refine hl_val rfl rfl (v := (.pointer r0_1)) (hv_assign rfl) ?_
    refine hl_val rfl rfl (v := (.int .i64 r1_1)) (hv_assign rfl) ?_
    refine hl_nil ?_
    refine seqQ_n ?_
    refine hx_seq ?_
    refine hx_cut (fun ρ h' => h5 = h' ∧ Has ρ [(1, (.slice l l_n l_c)), (5, (ptr most_1 0)), (6, (.bool false)), (7, (.pointer r0)), (9, (.pointer r0_1)), (32, (.bool ((r1 != 0) || r0_1.isNone)))]) ?_ ?_
    · refine hx_region ?_
      refine hl_val rfl rfl (v := (.int .i64 r1)) (hv_move rfl) ?_
      refine hl_val rfl rfl (v := (.bool (r1 != 0))) (hv_arith rfl rfl rfl) ?_
      refine hl_val rfl rfl (v := (.bool (r1 != 0))) (hv_move rfl) ?_
      rcases bool_or (r1 != 0) with hg7 | hg7
      · refine hl_no (wanted_n rfl rfl rfl hg7) rfl ?_
        refine hl_no (wanted_n rfl rfl rfl hg7) rfl ?_
        refine hl_val rfl rfl (v := (.bool true)) (hv_pick_t rfl hg7 rfl) ?_
        refine hl_nil ?_
        refine seqQ_n ?_
        exact ⟨rfl, (has_cons rfl (has_cons rfl (has_cons rfl (has_cons rfl (has_cons rfl (has_cons (show ((.bool true) : Value) = (.bool ((r1 != 0) || r0_1.isNone)) from (by first | rfl | ((try rw [hg7]); all_goals first | rfl | (simp only [Bool.true_or, Bool.or_true, Bool.false_or, Bool.or_false, Bool.true_and, Bool.and_true, Bool.false_and, Bool.and_false, Bool.not_true, Bool.not_false, Bool.cond_true, Bool.cond_false]; done)) | simp [hg7])) has_nil))))))⟩
      · refine hl_yes (wanted_y rfl rfl rfl hg7) rfl (HStep.of_val (v := (.pointer r0_1)) (hv_move rfl) ?_)
        refine hl_yes (wanted_y rfl rfl rfl hg7) rfl (HStep.of_val (v := (.bool r0_1.isNone)) (hv_ptrNil TyQD.up45 rfl rfl) ?_)
        refine hl_val rfl rfl (v := (.bool r0_1.isNone)) (hv_pick_f rfl hg7 rfl) ?_
        refine hl_nil ?_
        refine seqQ_n ?_
        exact ⟨rfl, (has_cons rfl (has_cons rfl (has_cons rfl (has_cons rfl (has_cons rfl (has_cons (show ((.bool r0_1.isNone) : Value) = (.bool ((r1 != 0) || r0_1.isNone)) from (by first | rfl | ((try rw [hg7]); all_goals first | rfl | (simp only [Bool.true_or, Bool.or_true, Bool.false_or, Bool.or_false, Bool.true_and, Bool.and_true, Bool.false_and, Bool.and_false, Bool.not_true, Bool.not_false, Bool.cond_true, Bool.cond_false]; done)) | simp [hg7])) has_nil))))))⟩
    · rintro ρ _ ⟨rfl, hH⟩
      refine hx_has _ hH ?_
      refine hx_cond (b := ((r1 != 0) || r0_1.isNone)) rfl (fun hb8 => ?_) (fun hb8 => ?_)
      · replace H := H.1 hb8
        refine hx_cut (fun ρ h' => h5 = h' ∧ Has ρ [(6, (.bool (r0.isNone && r0_1.isNone)))]) ?_ ?_
        · refine hx_region ?_
          refine hl_val rfl rfl (v := (.pointer r0)) (hv_move rfl) ?_
          refine hl_val rfl rfl (v := (.bool r0.isNone)) (hv_ptrNil TyQD.up24 rfl rfl) ?_
          refine hl_val rfl rfl (v := (.bool r0.isNone)) (hv_move rfl) ?_
          rcases bool_or (r0.isNone) with hg11 | hg11
          · refine hl_yes (wanted_y rfl rfl rfl hg11) rfl (HStep.of_val (v := (.pointer r0_1)) (hv_move rfl) ?_)
            refine hl_yes (wanted_y rfl rfl rfl hg11) rfl (HStep.of_val (v := (.bool r0_1.isNone)) (hv_ptrNil TyQD.up45 rfl rfl) ?_)
            refine hl_val rfl rfl (v := (.bool r0_1.isNone)) (hv_pick_t rfl hg11 rfl) ?_
            refine hl_val rfl rfl (v := (.bool r0_1.isNone)) (hv_assign rfl) ?_
            refine hl_nil ?_
            refine seqQ_n ?_
            exact ⟨rfl, (has_cons (show ((.bool r0_1.isNone) : Value) = (.bool (r0.isNone && r0_1.isNone)) from (by first | rfl | ((try rw [hg11]); all_goals first | rfl | (simp only [Bool.true_or, Bool.or_true, Bool.false_or, Bool.or_false, Bool.true_and, Bool.and_true, Bool.false_and, Bool.and_false, Bool.not_true, Bool.not_false, Bool.cond_true, Bool.cond_false]; done)) | simp [hg11])) has_nil)⟩
          · refine hl_no (wanted_n rfl rfl rfl hg11) rfl ?_
            refine hl_no (wanted_n rfl rfl rfl hg11) rfl ?_
            refine hl_val rfl rfl (v := (.bool false)) (hv_pick_f rfl hg11 rfl) ?_
            refine hl_val rfl rfl (v := (.bool false)) (hv_assign rfl) ?_
            refine hl_nil ?_
            refine seqQ_n ?_
            exact ⟨rfl, (has_cons (show ((.bool false) : Value) = (.bool (r0.isNone && r0_1.isNone)) from (by first | rfl | ((try rw [hg11]); all_goals first | rfl | (simp only [Bool.true_or, Bool.or_true, Bool.false_or, Bool.or_false, Bool.true_and, Bool.and_true, Bool.false_and, Bool.and_false, Bool.not_true, Bool.not_false, Bool.cond_true, Bool.cond_false]; done)) | simp [hg11])) has_nil)⟩
        · rintro ρ _ ⟨rfl, hH⟩
          refine hx_has _ hH ?_
          refine hx_ret ?_
          refine seqQ_ret ?_
          exact endQM_ret _ (fun h' hs => ⟨res_one Try.results6 (rv_tmp rfl), H h' hs⟩)
      · replace H := H.2 hb8
        refine hx_skip ?_
        refine seqQ_n ?_
        refine hx_seq ?_
        refine hx_seq ?_
        refine hx_region ?_
        refine hl_val rfl rfl (v := (.int .i64 0)) (hv_assign rfl) ?_
        refine hl_nil ?_
        refine seqQ_n ?_
        refine hx_block ?_
        obtain ⟨I12, mu13, Ha14, Hr15⟩ := H
        refine hx_loopT (σ := Bool × Int) (fun s => [(1, (.slice l l_n l_c)), (5, (ptr most_1 0)), (6, (.bool s.1)), (7, (.pointer r0)), (9, (.pointer r0_1)), (11, (.int .i64 s.2))]) (fun s h' => I12 s.1 s.2 h' ∧ True) (fun s h' => mu13 s.1 s.2 h') (false, 0) ⟨Ha14, trivial⟩ (has_cons rfl (has_cons rfl (has_cons rfl (has_cons rfl (has_cons rfl (has_cons rfl has_nil)))))) ?_
        rintro ⟨v, i⟩ ρ h7 ⟨Hi16, -⟩
        have H := Hr15 v i h7 Hi16
        refine hx_seq ?_
        refine hx_seq ?_
        refine hx_region ?_
        refine hl_val rfl rfl (v := (.int .i64 i)) (hv_move rfl) ?_
        refine hl_val rfl rfl (v := (.slice l l_n l_c)) (hv_move rfl) ?_
        refine hl_val rfl rfl (v := (.int .i64 (l_n : Int))) (hv_len (n := l_n) TyQD.u22 rfl) ?_
        refine hl_val rfl rfl (v := (.bool (decide (i < (l_n : Int))))) (hv_arith rfl rfl rfl) ?_
        refine hl_nil ?_
        refine seqQ_n ?_
        refine hx_cond (b := decide (i < (l_n : Int))) rfl (fun hb17 => ?_) (fun hb17 => ?_)
        · replace H := H.1 hb17
          refine hx_skip ?_
          refine seqQ_n ?_
          refine hx_seq ?_
          refine hx_block ?_
          refine hx_seq ?_
          refine hx_region ?_
          refine hl_val rfl rfl (v := (.pointer r0)) (hv_move rfl) ?_
          refine hl_val rfl rfl (v := (.pointer r0_1)) (hv_move rfl) ?_
          refine hl_val rfl rfl (v := (.slice l l_n l_c)) (hv_move rfl) ?_
          refine hl_val rfl rfl (v := (.int .i64 i)) (hv_move rfl) ?_
          obtain ⟨l_b, l_o, hqe, hi18, hi19, Hq⟩ := H
          subst hqe
          have H := Hq; clear Hq
          refine hl_val rfl rfl (v := (ptr l_b (l_o + (Int.toNat i) * 3))) (hv_index TyQD.el22 rfl rfl hi18 hi19) ?_
          obtain ⟨x_Kind, x_N, x_Task, hc20, hc21, hc22, H⟩ := H
          refine hl_val rfl rfl (v := (.agg #[(.int .i64 x_Kind), (.int .i64 x_N), (.int .i64 x_Task)])) (hv_loads (vs := [(.int .i64 x_Kind), (.int .i64 x_N), (.int .i64 x_Task)]) TyQD.agg36 TyQD.sz36 rfl (hcells_cons hc20 (hcells_cons hc21 (hcells_cons hc22 hcells_nil)))) ?_
          refine hl_step rfl rfl (hs_call TyQD.cb18 (vs := [(.pointer r0), (.pointer r0_1), (.agg #[(.int .i64 x_Kind), (.int .i64 x_N), (.int .i64 x_Task)])]) rfl (HC.mono H ?_))
          rintro _ h8 ⟨r_1, rfl, H⟩
          refine hl_val rfl rfl (v := (.bool (!r_1))) (hv_not (b := r_1) rfl) ?_
          refine hl_nil ?_
          refine seqQ_n ?_
          refine hx_cond (b := !r_1) rfl (fun hb23 => ?_) (fun hb23 => ?_)
          · replace H := H.1 hb23
            refine hx_seq ?_
            refine hx_region ?_
            refine hl_val rfl rfl (v := (.bool false)) (hv_assign rfl) ?_
            refine hl_nil ?_
            refine seqQ_n ?_
            refine hx_ret ?_
            refine blockQ_ret ?_
            refine seqQ_ret ?_
            refine seqQ_ret ?_
            refine blockQ_ret ?_
            refine seqQ_ret ?_
            exact endQM_ret _ (fun h' hs => ⟨res_one Try.results6 (rv_tmp rfl), H h' hs⟩)
          · replace H := H.2 hb23
            refine hx_skip ?_
            refine blockQ_n ?_
            refine seqQ_n ?_
            refine hx_region ?_
            refine hl_val rfl rfl (v := (.int .i64 i)) (hv_move rfl) ?_
            refine hl_val rfl rfl (v := (.int .i64 (IntKind.i64.wrap (i + 1)))) (hv_arith rfl rfl rfl) ?_
            refine hl_val rfl rfl (v := (.int .i64 (IntKind.i64.wrap (i + 1)))) (hv_assign rfl) ?_
            refine hl_nil ?_
            refine seqQ_n ?_
            exact ⟨(v, IntKind.i64.wrap (i + 1)), ⟨⟨H.1, trivial⟩, H.2⟩, (has_cons rfl (has_cons rfl (has_cons rfl (has_cons rfl (has_cons rfl (has_cons rfl has_nil))))))⟩
        · replace H := H.2 hb17
          refine hx_exit ?_
          refine seqQ_exit ?_
          refine seqQ_exit ?_
          refine blockQ_here ?_
          refine seqQ_n ?_
          refine hx_seq ?_
          refine hx_region ?_
          refine hl_val rfl rfl (v := (.pointer r0_1)) (hv_move rfl) ?_
          refine hl_step rfl rfl (hs_call TyQD.cb20 (vs := [(.pointer r0_1)]) rfl (HC.mono H ?_))
          rintro _ h10 ⟨r_1, r_n, r_c, rfl, H⟩
          refine hl_step rfl rfl (hn_alloc TyQD.z50 ?_)
          intro want h11 eb24 eh25
          replace H := H want h11 eb24 eh25
          have xx26 : Ext h10 h11 := by rw [eh25]; exact Ext.push _ _
          obtain ⟨hw28, H⟩ := H
          refine hl_step rfl rfl (hn_store (v := (.slice r_1 r_n r_c)) rfl rfl TyQD.sz50 rfl hw28 ?_)
          intro h12 eh27
          replace H := H h12 eh27
          refine hl_nil ?_
          refine seqQ_n ?_
          refine hx_seq ?_
          refine hx_region ?_
          refine hl_step rfl rfl (hn_alloc TyQD.z3 ?_)
          intro n h13 eb29 eh30
          replace H := H n h13 eb29 eh30
          have xx31 : Ext h12 h13 := by rw [eh30]; exact Ext.push _ _
          obtain ⟨hw33, H⟩ := H
          refine hl_step rfl rfl (hn_store (v := (.int .i64 0)) rfl rfl TyQD.sz3 rfl hw33 ?_)
          intro h14 eh32
          replace H := H h14 eh32
          refine hl_nil ?_
          refine seqQ_n ?_
          obtain ⟨A36, Hx34, Hy35⟩ := H
          refine hx_cut (fun ρ h' => (A36 h' ∧ True) ∧ Has ρ [(5, (ptr most_1 0)), (7, (.pointer r0)), (9, (.pointer r0_1)), (12, (ptr want 0)), (13, (ptr n 0))]) ?_ ?_
          · have H := Hx34; clear Hx34 Hy35
            refine hx_seq ?_
            refine hx_region ?_
            refine hl_val rfl rfl (v := (.pointer r0)) (hv_move rfl) ?_
            refine hl_step rfl rfl (hs_call TyQD.cb16 (vs := [(.pointer r0)]) rfl (HC.mono H ?_))
            rintro r_2 h16 ⟨_, rfl, H⟩
            refine hl_nil ?_
            refine seqQ_n ?_
            refine hx_block ?_
            refine hx_range rfl rfl rfl (fun h17 l_1 le39 lx40 lz41 La42 => ?_)
            refine HCF.mono (H (fun st p h => LoopAt h l_1 _ _ _ _ _ st p) l_1 h17 _ (fun s p h h' k e => k.same e) le39 lx40 lz41 La42 ?_) ?_
            · intro it h18 K46 Lb43 H
              refine hcv_yield Lb43 rfl rfl ?_
              refine hx_region ?_
              refine hl_val rfl rfl (v := (.int .i64 it)) (hv_assign rfl) ?_
              refine hl_nil ?_
              obtain ⟨Lf51, H⟩ := H
              refine ⟨rfl, Lf51, ?_⟩
              intro h21 lo49 Le50
              replace H := H h21 lo49 Le50
              refine hx_block ?_
              refine hx_seq ?_
              obtain ⟨j_1, Hx52, Hy53⟩ := H
              refine hx_cut (fun ρ h' => h21 = h' ∧ Has ρ [(13, (ptr n 0)), (74, (.bool j_1))]) ?_ ?_
              · have H := Hx52; clear Hx52 Hy53
                refine hx_region ?_
                obtain ⟨x, hc54, H⟩ := H
                refine hl_val rfl rfl (v := (.int .i64 x)) (hv_load TyQD.agg3 rfl hc54) ?_
                obtain ⟨x_1, hc55, H⟩ := H
                refine hl_val rfl rfl (v := (.int .i64 x_1)) (hv_load TyQD.agg3 rfl hc55) ?_
                refine hl_val rfl rfl (v := (.bool (decide (x ≥ x_1)))) (hv_arith rfl rfl rfl) ?_
                refine hl_val rfl rfl (v := (.bool (decide (x ≥ x_1)))) (hv_move rfl) ?_
                rcases bool_or (decide (x ≥ x_1)) with hg56 | hg56
                · replace H := H.1 hg56
                  refine hl_no (wanted_n rfl rfl rfl hg56) rfl ?_
                  refine hl_no (wanted_n rfl rfl rfl hg56) rfl ?_
                  refine hl_no (wanted_n rfl rfl rfl hg56) rfl ?_
                  refine hl_no (wanted_n rfl rfl rfl hg56) rfl ?_
                  refine hl_val rfl rfl (v := (.bool true)) (hv_pick_t rfl hg56 rfl) ?_
                  refine hl_val rfl rfl (v := (.bool true)) (hv_move rfl) ?_
                  refine hl_no (wanted_n rfl rfl (c := true) rfl rfl) rfl ?_
                  refine hl_no (wanted_n rfl rfl (c := true) rfl rfl) rfl ?_
                  refine hl_no (wanted_n rfl rfl (c := true) rfl rfl) rfl ?_
                  refine hl_no (wanted_n rfl rfl (c := true) rfl rfl) rfl ?_
                  refine hl_no (wanted_n rfl rfl (c := true) rfl rfl) rfl ?_
                  refine hl_no (wanted_n rfl rfl (c := true) rfl rfl) rfl ?_
                  refine hl_val rfl rfl (v := (.bool true)) (hv_pick (t := true) rfl rfl) ?_
                  refine hl_nil ?_
                  refine seqQ_n ?_
                  obtain rfl := H
                  exact ⟨rfl, (has_cons rfl (has_cons rfl has_nil))⟩
                · replace H := H.2 hg56
                  refine hl_yes (wanted_y rfl rfl rfl hg56) rfl (HStep.of_val (v := (.int .i64 x)) (hv_load TyQD.agg3 rfl hc54) ?_)
                  obtain ⟨x_2, x_n, x_c, hc57, H⟩ := H
                  refine hl_yes (wanted_y rfl rfl rfl hg56) rfl (HStep.of_val (v := (.slice x_2 x_n x_c)) (hv_load TyQD.agg50 rfl hc57) ?_)
                  refine hl_yes (wanted_y rfl rfl rfl hg56) rfl (HStep.of_val (v := (.int .i64 (x_n : Int))) (hv_len (n := x_n) TyQD.u50 rfl) ?_)
                  refine hl_yes (wanted_y rfl rfl rfl hg56) rfl (HStep.of_val (v := (.bool (decide (x ≥ (x_n : Int))))) (hv_arith rfl rfl rfl) ?_)
                  refine hl_val rfl rfl (v := (.bool (decide (x ≥ (x_n : Int))))) (hv_pick_f rfl hg56 rfl) ?_
                  refine hl_val rfl rfl (v := (.bool (decide (x ≥ (x_n : Int))))) (hv_move rfl) ?_
                  rcases bool_or (decide (x ≥ (x_n : Int))) with hg58 | hg58
                  · replace H := H.1 hg58
                    refine hl_no (wanted_n rfl rfl rfl hg58) rfl ?_
                    refine hl_no (wanted_n rfl rfl rfl hg58) rfl ?_
                    refine hl_no (wanted_n rfl rfl rfl hg58) rfl ?_
                    refine hl_no (wanted_n rfl rfl rfl hg58) rfl ?_
                    refine hl_no (wanted_n rfl rfl rfl hg58) rfl ?_
                    refine hl_no (wanted_n rfl rfl rfl hg58) rfl ?_
                    refine hl_val rfl rfl (v := (.bool true)) (hv_pick_t rfl hg58 rfl) ?_
                    refine hl_nil ?_
                    refine seqQ_n ?_
                    obtain rfl := H
                    exact ⟨rfl, (has_cons rfl (has_cons rfl has_nil))⟩
                  · replace H := H.2 hg58
                    refine hl_yes (wanted_y rfl rfl rfl hg58) rfl (HStep.of_val (v := (.int .i64 it)) (hv_move rfl) ?_)
                    refine hl_yes (wanted_y rfl rfl rfl hg58) rfl (HStep.of_val (v := (.slice x_2 x_n x_c)) (hv_load TyQD.agg50 rfl hc57) ?_)
                    refine hl_yes (wanted_y rfl rfl rfl hg58) rfl (HStep.of_val (v := (.int .i64 x)) (hv_load TyQD.agg3 rfl hc54) ?_)
                    obtain ⟨x_2_b, x_2_o, hqe, hi59, hi60, Hq⟩ := H
                    subst hqe
                    have H := Hq; clear Hq
                    refine hl_yes (wanted_y rfl rfl rfl hg58) rfl (HStep.of_val (v := (ptr x_2_b (x_2_o + (Int.toNat x) * 1))) (hv_index TyQD.el50 rfl rfl hi59 hi60) ?_)
                    obtain ⟨x_3, hc61, H⟩ := H
                    refine hl_yes (wanted_y rfl rfl rfl hg58) rfl (HStep.of_val (v := (.int .i64 x_3)) (hv_load TyQD.agg3 rfl hc61) ?_)
                    refine hl_yes (wanted_y rfl rfl rfl hg58) rfl (HStep.of_val (v := (.bool (it != x_3))) (hv_arith rfl rfl rfl) ?_)
                    refine hl_val rfl rfl (v := (.bool (it != x_3))) (hv_pick_f rfl hg58 rfl) ?_
                    refine hl_nil ?_
                    refine seqQ_n ?_
                    obtain rfl := H
                    exact ⟨rfl, (has_cons rfl (has_cons rfl has_nil))⟩
              · have H := Hy53; clear Hx52 Hy53
                rintro ρ _ ⟨rfl, hH⟩
                refine hx_has _ hH ?_
                refine hx_cond (b := j_1) rfl (fun hb62 => ?_) (fun hb62 => ?_)
                · replace H := H.1 hb62
                  refine hx_exit ?_
                  refine seqQ_exit ?_
                  refine blockQ_past rfl ?_
                  exact H
                · replace H := H.2 hb62
                  refine hx_skip ?_
                  refine seqQ_n ?_
                  refine hx_region ?_
                  obtain ⟨x_4, hc63, H⟩ := H
                  refine hl_val rfl rfl (v := (.int .i64 x_4)) (hv_load TyQD.agg3 rfl hc63) ?_
                  refine hl_val rfl rfl (v := (.int .i64 (IntKind.i64.wrap (x_4 + 1)))) (hv_arith rfl rfl rfl) ?_
                  obtain ⟨hw65, H⟩ := H
                  refine hl_step rfl rfl (hn_store (v := (.int .i64 (IntKind.i64.wrap (x_4 + 1)))) rfl rfl TyQD.sz3 rfl hw65 ?_)
                  intro h23 eh64
                  replace H := H h23 eh64
                  refine hl_nil ?_
                  refine blockQ_n ?_
                  exact H
            · rintro _ h19 ⟨st, pend, Lc44, hst48, H⟩
              refine ⟨st, pend, Lc44, hst48, ?_⟩
              intro h20 lo47 Ld45
              replace H := H h20 lo47 Ld45
              rcases H with ⟨rfl, H⟩ | ⟨rfl, H⟩
              · refine jumpQ_n ?_
                refine blockQ_n ?_
                refine seqQ_n ?_
                exact ⟨⟨H, trivial⟩, (has_cons rfl (has_cons rfl (has_cons rfl (has_cons rfl (has_cons rfl has_nil)))))⟩
              · refine jumpQ_exit ?_
                refine blockQ_here ?_
                refine seqQ_n ?_
                exact ⟨⟨H, trivial⟩, (has_cons rfl (has_cons rfl (has_cons rfl (has_cons rfl (has_cons rfl has_nil)))))⟩
          · rintro ρ h15 ⟨⟨HA37, -⟩, hH⟩
            have H := Hy35 h15 HA37; clear Hx34 Hy35
            refine hx_has _ hH ?_
            refine hx_seq ?_
            obtain ⟨j_2, Hx66, Hy67⟩ := H
            refine hx_cut (fun ρ h' => h15 = h' ∧ Has ρ [(7, (.pointer r0)), (9, (.pointer r0_1)), (85, (.bool j_2))]) ?_ ?_
            · have H := Hx66; clear Hx66 Hy67
              refine hx_region ?_
              obtain ⟨x_5, hc68, H⟩ := H
              refine hl_val rfl rfl (v := (.int .i64 x_5)) (hv_load TyQD.agg3 rfl hc68) ?_
              obtain ⟨x_6, hc69, H⟩ := H
              refine hl_val rfl rfl (v := (.int .i64 x_6)) (hv_load TyQD.agg3 rfl hc69) ?_
              refine hl_val rfl rfl (v := (.bool (decide (x_5 < x_6)))) (hv_arith rfl rfl rfl) ?_
              refine hl_val rfl rfl (v := (.bool (decide (x_5 < x_6)))) (hv_move rfl) ?_
              rcases bool_or (decide (x_5 < x_6)) with hg70 | hg70
              · replace H := H.1 hg70
                refine hl_yes (wanted_y rfl rfl rfl hg70) rfl (HStep.of_val (v := (.int .i64 x_5)) (hv_load TyQD.agg3 rfl hc68) ?_)
                obtain ⟨x_7, x_n_1, x_c_1, hc71, H⟩ := H
                refine hl_yes (wanted_y rfl rfl rfl hg70) rfl (HStep.of_val (v := (.slice x_7 x_n_1 x_c_1)) (hv_load TyQD.agg50 rfl hc71) ?_)
                refine hl_yes (wanted_y rfl rfl rfl hg70) rfl (HStep.of_val (v := (.int .i64 (x_n_1 : Int))) (hv_len (n := x_n_1) TyQD.u50 rfl) ?_)
                refine hl_yes (wanted_y rfl rfl rfl hg70) rfl (HStep.of_val (v := (.bool (decide (x_5 < (x_n_1 : Int))))) (hv_arith rfl rfl rfl) ?_)
                refine hl_val rfl rfl (v := (.bool (decide (x_5 < (x_n_1 : Int))))) (hv_pick_t rfl hg70 rfl) ?_
                refine hl_nil ?_
                refine seqQ_n ?_
                obtain rfl := H
                exact ⟨rfl, (has_cons rfl (has_cons rfl (has_cons rfl has_nil)))⟩
              · replace H := H.2 hg70
                refine hl_no (wanted_n rfl rfl rfl hg70) rfl ?_
                refine hl_no (wanted_n rfl rfl rfl hg70) rfl ?_
                refine hl_no (wanted_n rfl rfl rfl hg70) rfl ?_
                refine hl_no (wanted_n rfl rfl rfl hg70) rfl ?_
                refine hl_val rfl rfl (v := (.bool false)) (hv_pick_f rfl hg70 rfl) ?_
                refine hl_nil ?_
                refine seqQ_n ?_
                obtain rfl := H
                exact ⟨rfl, (has_cons rfl (has_cons rfl (has_cons rfl has_nil)))⟩
            · have H := Hy67; clear Hx66 Hy67
              rintro ρ _ ⟨rfl, hH⟩
              refine hx_has _ hH ?_
              refine hx_cond (b := j_2) rfl (fun hb72 => ?_) (fun hb72 => ?_)
              · replace H := H.1 hb72
                refine hx_seq ?_
                refine hx_region ?_
                refine hl_val rfl rfl (v := (.bool false)) (hv_assign rfl) ?_
                refine hl_nil ?_
                refine seqQ_n ?_
                refine hx_ret ?_
                refine seqQ_ret ?_
                exact endQM_ret _ (fun h' hs => ⟨res_one Try.results6 (rv_tmp rfl), H h' hs⟩)
              · replace H := H.2 hb72
                refine hx_skip ?_
                refine seqQ_n ?_
                refine hx_seq ?_
                refine hx_region ?_
                refine hl_val rfl rfl (v := (.pointer r0)) (hv_move rfl) ?_
                refine hl_val rfl rfl (v := (.pointer r0_1)) (hv_move rfl) ?_
                refine hl_step rfl rfl (hs_call TyQD.cb19 (vs := [(.pointer r0), (.pointer r0_1)]) rfl (HC.mono H ?_))
                rintro _ h26 ⟨r_3, rfl, H⟩
                refine hl_val rfl rfl (v := (.bool r_3)) (hv_assign rfl) ?_
                refine hl_nil ?_
                refine seqQ_n ?_
                refine hx_ret ?_
                exact endQM_ret _ (fun h' hs => ⟨res_one Try.results6 (rv_tmp rfl), H h' hs⟩)

/-- cellar/cellarlaw09.RegionRises -/
theorem f4_sh (regions : Int) (l : Option Addr) (l_n : Nat) (l_c : Nat) (h : Heap) (R : Value → Heap → Prop)
    (H : (∀ nb h1, nb = Array.size h → h1 = Array.push h (.cells #[(.bool false)] 4) → HC Try.prog 9 #[] h1 (fun vv h2 => ∃ r : Bool, vv = (.bool r) ∧ (((!r) = true → (HW h2 nb 0 ∧ ∀ h3, h3 = hset h2 nb 0 (.bool false) → (∃ res : Bool, hcell h3 nb 0 = some (.bool res) ∧ (∀ h4, Shut' (Array.size h) h3 h4 → R (.bool res) h4)))) ∧ ((!r) = false → HC Try.prog 10 #[(.int .i64 regions)] h2 (fun vv h5 => ∃ r0 : Option Addr, ∃ r1 : Int, vv = (.tuple #[(.pointer r0), (.int .i64 r1)]) ∧ (∀ m h6, m = Array.size h5 → h6 = Array.push h5 (.cells #[(.pointer none)] 24) → (HW h6 m 0 ∧ ∀ h7, h7 = hset h6 m 0 (.pointer r0) → (((r1 != 0) = true → (∃ x : Option Addr, hcell h7 m 0 = some (.pointer x) ∧ (HW h7 nb 0 ∧ ∀ h8, h8 = hset h7 nb 0 (.bool x.isNone) → (∃ res : Bool, hcell h8 nb 0 = some (.bool res) ∧ (∀ h9, Shut' (Array.size h) h8 h9 → R (.bool res) h9))))) ∧ ((r1 != 0) = false → (∃ (I18 : Int → Int → Heap → Prop) (mu19 : Int → Int → Heap → Nat), I18 0 0 h7 ∧ (∀ (last : Int) (i : Int) (h10 : Heap), I18 last i h10 → (((decide (i < (l_n : Int))) = true → (∃ A26 : Int → Heap → Prop, (∃ l_b l_o : Nat, l = some ⟨l_b, l_o, none⟩ ∧ (0 : Int) ≤ i ∧ i < (l_n : Int) ∧ (∃ x : Int, hcell h10 l_b (l_o + (Int.toNat i) * 3) = some (.int .i64 x) ∧ (((x != 1) = true → (∃ x_1 : Option Addr, hcell h10 m 0 = some (.pointer x_1) ∧ (∃ x_Kind x_N x_Task : Int, hcell h10 l_b (l_o + (Int.toNat i) * 3) = some (.int .i64 x_Kind) ∧ hcell h10 l_b ((l_o + (Int.toNat i) * 3) + 1) = some (.int .i64 x_N) ∧ hcell h10 l_b ((l_o + (Int.toNat i) * 3) + 2) = some (.int .i64 x_Task) ∧ HC Try.prog 12 #[(.pointer x_1), (.agg #[(.int .i64 x_Kind), (.int .i64 x_N), (.int .i64 x_Task)])] h10 (fun vv h12 => ∃ r_1 : Int, vv = (.int .i64 r_1) ∧ (A26 last h12))))) ∧ ((x != 1) = false → (∃ x_1 : Option Addr, hcell h10 m 0 = some (.pointer x_1) ∧ HC Try.prog 13 #[(.pointer x_1)] h10 (fun vv h13 => ∃ r0_1 r1_1 r2 : Int, vv = (.tuple #[(.int .i64 r0_1), (.int .u64 r1_1), (.int .i64 r2)]) ∧ (((r2 != 0) = true → (A26 last h13)) ∧ ((r2 != 0) = false → (∃ j : Bool, (((r1_1 != (IntKind.u64.wrap (last + 1))) = true → (j = true)) ∧ ((r1_1 != (IntKind.u64.wrap (last + 1))) = false → (∃ x_2 : Option Addr, hcell h13 m 0 = some (.pointer x_2) ∧ (∃ r_1 : Int, HC Try.prog 14 #[(.pointer x_2)] h13 (fun vv h' => vv = (.int .i64 r_1) ∧ h' = h13) ∧ (((r_1 != r0_1) = true → (j = true)) ∧ ((r_1 != r0_1) = false → (∃ r_2 : Int, HC Try.prog 15 #[(.pointer x_2)] h13 (fun vv h' => vv = (.int .u64 r_2) ∧ h' = h13) ∧ (j = (r_2 != r1_1))))))))) ∧ ((j = true → (HW h13 nb 0 ∧ ∀ h14, h14 = hset h13 nb 0 (.bool false) → (∃ res : Bool, hcell h14 nb 0 = some (.bool res) ∧ (∀ h15, Shut' (Array.size h) h14 h15 → R (.bool res) h15)))) ∧ (j = false → (∃ (I51 : Int → Heap → Prop) (mu52 : Int → Heap → Nat), I51 0 h13 ∧ (∀ (k : Int) (h16 : Heap), I51 k h16 → (((decide (k < regions)) = true → (∃ x_3 : Option Addr, hcell h16 m 0 = some (.pointer x_3) ∧ HC Try.prog 11 #[(.pointer x_3), (.int .i64 k)] h16 (fun vv h17 => ∃ r0_State r0_Sequence r0_Pins r0_Erases : Int, ∃ r1_2 : Bool, vv = (.tuple #[(.agg #[(.int .i64 r0_State), (.int .u64 r0_Sequence), (.int .i64 r0_Pins), (.int .i64 r0_Erases)]), (.bool r1_2)]) ∧ (∀ x_4 h18, x_4 = Array.size h17 → h18 = Array.push h17 (.cells #[(.int .i64 0), (.int .u64 0), (.int .i64 0), (.int .i64 0)] 31) → (HWs h18 x_4 0 4 ∧ ∀ h19, h19 = hsets h18 x_4 0 [(.int .i64 r0_State), (.int .u64 r0_Sequence), (.int .i64 r0_Pins), (.int .i64 r0_Erases)] → (∃ j_1 : Bool, (∃ x_5 : Int, hcell h19 x_4 1 = some (.int .u64 x_5) ∧ (((decide (x_5 > r1_1)) = true → (j_1 = true)) ∧ ((decide (x_5 > r1_1)) = false → (((k != r0_1) = true → (j_1 = (x_5 == r1_1))) ∧ ((k != r0_1) = false → (j_1 = false)))))) ∧ ((j_1 = true → (HW h19 nb 0 ∧ ∀ h20, h20 = hset h19 nb 0 (.bool false) → (∃ res : Bool, hcell h20 nb 0 = some (.bool res) ∧ (∀ h21, Shut' (Array.size h) h20 h21 → R (.bool res) h21)))) ∧ (j_1 = false → (I51 (IntKind.i64.wrap (k + 1)) h19 ∧ mu52 (IntKind.i64.wrap (k + 1)) h19 < mu52 k h16))))))))) ∧ ((decide (k < regions)) = false → (A26 r1_1 h16)))))))))))))))) ∧ (∀ (last_1 : Int) (h11 : Heap), A26 last_1 h11 → (I18 last_1 (IntKind.i64.wrap (i + 1)) h11 ∧ mu19 last_1 (IntKind.i64.wrap (i + 1)) h11 < mu19 last i h10)))) ∧ ((decide (i < (l_n : Int))) = false → (∀ ahead h22, ahead = Array.size h10 → h22 = Array.push h10 (.cells #[(.int .u64 0)] 29) → (HW h22 ahead 0 ∧ ∀ h23, h23 = hset h22 ahead 0 (.int .u64 0) → (∃ x : Option Addr, hcell h23 m 0 = some (.pointer x) ∧ HC Try.prog 16 #[(.pointer x)] h23 (fun vv h24 => ∃ r_1 : Value, vv = r_1 ∧ (∀ (Lp78 : LoopState → Option Code → Heap → Prop) (l_1 : Nat) (h25 : Heap) (y : Value), (∀ s p h h', Lp78 s p h → h'[l_1]? = h[l_1]? → Lp78 s p h') → l_1 = Array.size h24 + 1 → Ext h24 h25 → Array.size h25 = Array.size h24 + 2 → Lp78 .ready none h25 → (∀ (it : Int) (h26 : Heap) (K86 : Value → Heap → Prop), Lp78 .ready none h26 → (Lp78 .ready none h26 ∧ ∀ h29, Only l_1 h26 h29 → Lp78 .busy none h29 → (∃ x_1 : Option Addr, hcell h29 m 0 = some (.pointer x_1) ∧ HC Try.prog 11 #[(.pointer x_1), (.int .i64 it)] h29 (fun vv h30 => ∃ r0_State r0_Sequence r0_Pins r0_Erases : Int, ∃ r1_1 : Bool, vv = (.tuple #[(.agg #[(.int .i64 r0_State), (.int .u64 r0_Sequence), (.int .i64 r0_Pins), (.int .i64 r0_Erases)]), (.bool r1_1)]) ∧ (∀ x_2 h31, x_2 = Array.size h30 → h31 = Array.push h30 (.cells #[(.int .i64 0), (.int .u64 0), (.int .i64 0), (.int .i64 0)] 31) → (HWs h31 x_2 0 4 ∧ ∀ h32, h32 = hsets h31 x_2 0 [(.int .i64 r0_State), (.int .u64 r0_Sequence), (.int .i64 r0_Pins), (.int .i64 r0_Erases)] → (∃ j : Bool, (∃ x_3 : Int, hcell h32 x_2 0 = some (.int .i64 x_3) ∧ (((x_3 != 3) = true → (j = true)) ∧ ((x_3 != 3) = false → (∃ x_4 : Int, hcell h32 x_2 1 = some (.int .u64 x_4) ∧ (∃ x_5 : Int, hcell h32 ahead 0 = some (.int .u64 x_5) ∧ (j = (decide (x_4 ≤ x_5)))))))) ∧ ((j = true → (HW h32 nb 0 ∧ ∀ h33, h33 = hset h32 nb 0 (.bool false) → (Lp78 .busy none h33 ∧ ∀ h34, Only l_1 h33 h34 → Lp78 .done (some .ret) h34 → K86 (.bool false) h34))) ∧ (j = false → (∃ x_6 : Int, hcell h32 x_2 1 = some (.int .u64 x_6) ∧ (HW h32 ahead 0 ∧ ∀ h35, h35 = hset h32 ahead 0 (.int .u64 x_6) → (Lp78 .busy none h35 ∧ ∀ h36, Only l_1 h35 h36 → Lp78 .ready none h36 → K86 (.bool true) h36))))))))))) → HCV Try.prog y [(.int .i64 it)] h26 K86) → HCF Try.prog r_1 [y] h25 (fun _ h27 => ∃ (st : LoopState) (pend : Option Code), Lp78 st pend h27 ∧ st ≠ .busy ∧ ∀ h28, Only l_1 h27 h28 → Lp78 .exhausted pend h28 → ((pend = none ∧ (HW h28 nb 0 ∧ ∀ h37, h37 = hset h28 nb 0 (.bool true) → (∃ res : Bool, hcell h37 nb 0 = some (.bool res) ∧ (∀ h38, Shut' (Array.size h) h37 h38 → R (.bool res) h38)))) ∨ (pend = some .ret ∧ (∃ res_1 : Bool, hcell h28 nb 0 = some (.bool res_1) ∧ (∀ h39, Shut' (Array.size h) h28 h39 → R (.bool res_1) h39)))))))))))))))))))))))) :
    HC Try.prog 4 #[(.int .i64 regions), (.slice l l_n l_c)] h R := by
  refine hc_ofM (args := [(.int .i64 regions), (.slice l l_n l_c)]) Try.func4 rfl Try.ntmps4 (Nat.le_of_ble_eq_true rfl) ?_
  refine hx_seq ?_
  refine hx_region ?_
  refine hl_step rfl rfl (hn_alloc TyQD.z4 ?_)
  intro nb h1 eb1 eh2
  replace H := H nb h1 eb1 eh2
  have xx3 : Ext h h1 := by rw [eh2]; exact Ext.push _ _
  refine hl_nil ?_
  refine seqQ_n ?_
  refine hx_seq ?_
  refine hx_seq ?_
  refine hx_region ?_
  refine hl_step rfl rfl (hs_call TyQD.cb9 (vs := []) rfl (HC.mono H ?_))
  rintro _ h2 ⟨r, rfl, H⟩
  refine hl_val rfl rfl (v := (.bool (!r))) (hv_not (b := r) rfl) ?_
  refine hl_nil ?_
  refine seqQ_n ?_
  refine hx_cond (b := !r) rfl (fun hb4 => ?_) (fun hb4 => ?_)
  · replace H := H.1 hb4
    refine hx_seq ?_
    refine hx_region ?_
    obtain ⟨hw6, H⟩ := H
    refine hl_step rfl rfl (hn_store (v := (.bool false)) rfl rfl TyQD.sz4 rfl hw6 ?_)
    intro h3 eh5
    replace H := H h3 eh5
    refine hl_nil ?_
    refine seqQ_n ?_
    refine hx_ret ?_
    refine seqQ_ret ?_
    obtain ⟨res, hc7, H⟩ := H
    exact endQM_ret _ (fun h' hs => ⟨res_one Try.results4 (rv_cell1 TyQD.agg4 rfl (shut_cell hs hc7)), H h' hs⟩)
  · replace H := H.2 hb4
    refine hx_skip ?_
    refine seqQ_n ?_
    refine hx_seq ?_
    refine hx_region ?_
    refine hl_val rfl rfl (v := (.int .i64 regions)) (hv_move rfl) ?_
    refine hl_step rfl rfl (hs_call TyQD.cb10 (vs := [(.int .i64 regions)]) rfl (HC.mono H ?_))
    rintro _ h5 ⟨r0, r1, rfl, H⟩
    refine hl_val rfl rfl (v := (.tuple #[(.pointer r0), (.int .i64 r1)])) (hv_move rfl) ?_
    refine hl_val rfl rfl (v := (.pointer r0)) (hv_extract (vs := #[(.pointer r0), (.int .i64 r1)]) rfl rfl) ?_
    refine hl_val rfl rfl (v := (.int .i64 r1)) (hv_extract (vs := #[(.pointer r0), (.int .i64 r1)]) rfl rfl) ?_
    refine hl_step rfl rfl (hn_alloc TyQD.z24 ?_)
    intro m h6 eb8 eh9
    replace H := H m h6 eb8 eh9
    have xx10 : Ext h5 h6 := by rw [eh9]; exact Ext.push _ _
    obtain ⟨hw12, H⟩ := H
    refine hl_step rfl rfl (hn_store (v := (.pointer r0)) rfl rfl TyQD.sz24 rfl hw12 ?_)
    intro h7 eh11
    replace H := H h7 eh11
    refine hl_val rfl rfl (v := (.int .i64 r1)) (hv_assign rfl) ?_
    refine hl_nil ?_
    refine seqQ_n ?_
    refine hx_seq ?_
    refine hx_seq ?_
    refine hx_region ?_
    refine hl_val rfl rfl (v := (.int .i64 r1)) (hv_move rfl) ?_
    refine hl_val rfl rfl (v := (.bool (r1 != 0))) (hv_arith rfl rfl rfl) ?_
    refine hl_nil ?_
    refine seqQ_n ?_
    refine hx_cond (b := r1 != 0) rfl (fun hb13 => ?_) (fun hb13 => ?_)
    · replace H := H.1 hb13
      refine hx_seq ?_
      refine hx_region ?_
      obtain ⟨x, hc14, H⟩ := H
      refine hl_val rfl rfl (v := (.pointer x)) (hv_load TyQD.agg24 rfl hc14) ?_
      refine hl_val rfl rfl (v := (.bool x.isNone)) (hv_ptrNil TyQD.up24 rfl rfl) ?_
      obtain ⟨hw16, H⟩ := H
      refine hl_step rfl rfl (hn_store (v := (.bool x.isNone)) rfl rfl TyQD.sz4 rfl hw16 ?_)
      intro h8 eh15
      replace H := H h8 eh15
      refine hl_nil ?_
      refine seqQ_n ?_
      refine hx_ret ?_
      refine seqQ_ret ?_
      obtain ⟨res, hc17, H⟩ := H
      exact endQM_ret _ (fun h' hs => ⟨res_one Try.results4 (rv_cell1 TyQD.agg4 rfl (shut_cell hs hc17)), H h' hs⟩)
    · replace H := H.2 hb13
      refine hx_skip ?_
      refine seqQ_n ?_
      refine hx_seq ?_
      refine hx_region ?_
      refine hl_val rfl rfl (v := (.int .u64 0)) (hv_assign rfl) ?_
      refine hl_nil ?_
      refine seqQ_n ?_
      refine hx_seq ?_
      refine hx_seq ?_
      refine hx_region ?_
      refine hl_val rfl rfl (v := (.int .i64 0)) (hv_assign rfl) ?_
      refine hl_nil ?_
      refine seqQ_n ?_
      refine hx_block ?_
      obtain ⟨I18, mu19, Ha20, Hr21⟩ := H
      refine hx_loopT (σ := Int × Int) (fun s => [(0, (.int .i64 regions)), (1, (.slice l l_n l_c)), (4, (ptr nb 0)), (5, (ptr m 0)), (7, (.int .u64 s.1)), (8, (.int .i64 s.2))]) (fun s h' => I18 s.1 s.2 h' ∧ True) (fun s h' => mu19 s.1 s.2 h') (0, 0) ⟨Ha20, trivial⟩ (has_cons rfl (has_cons rfl (has_cons rfl (has_cons rfl (has_cons rfl (has_cons rfl has_nil)))))) ?_
      rintro ⟨last, i⟩ ρ h10 ⟨Hi22, -⟩
      have H := Hr21 last i h10 Hi22
      refine hx_seq ?_
      refine hx_seq ?_
      refine hx_region ?_
      refine hl_val rfl rfl (v := (.int .i64 i)) (hv_move rfl) ?_
      refine hl_val rfl rfl (v := (.slice l l_n l_c)) (hv_move rfl) ?_
      refine hl_val rfl rfl (v := (.int .i64 (l_n : Int))) (hv_len (n := l_n) TyQD.u22 rfl) ?_
      refine hl_val rfl rfl (v := (.bool (decide (i < (l_n : Int))))) (hv_arith rfl rfl rfl) ?_
      refine hl_nil ?_
      refine seqQ_n ?_
      refine hx_cond (b := decide (i < (l_n : Int))) rfl (fun hb23 => ?_) (fun hb23 => ?_)
      · replace H := H.1 hb23
        refine hx_skip ?_
        refine seqQ_n ?_
        obtain ⟨A26, Hx24, Hy25⟩ := H
        refine hx_cut (fun ρ h' => ∃ last_1 : Int, (A26 last_1 h' ∧ True) ∧ Has ρ [(0, (.int .i64 regions)), (1, (.slice l l_n l_c)), (4, (ptr nb 0)), (5, (ptr m 0)), (7, (.int .u64 last_1)), (8, (.int .i64 i))]) ?_ ?_
        · have H := Hx24; clear Hx24 Hy25
          refine hx_block ?_
          refine hx_seq ?_
          refine hx_seq ?_
          refine hx_region ?_
          refine hl_val rfl rfl (v := (.slice l l_n l_c)) (hv_move rfl) ?_
          refine hl_val rfl rfl (v := (.int .i64 i)) (hv_move rfl) ?_
          obtain ⟨l_b, l_o, hqe, hi28, hi29, Hq⟩ := H
          subst hqe
          have H := Hq; clear Hq
          refine hl_val rfl rfl (v := (ptr l_b (l_o + (Int.toNat i) * 3))) (hv_index TyQD.el22 rfl rfl hi28 hi29) ?_
          refine hl_val rfl rfl (v := (ptr l_b (l_o + (Int.toNat i) * 3))) (hv_field TyQD.fld36_0 (b := l_b) (o := l_o + (Int.toNat i) * 3) rfl) ?_
          obtain ⟨x, hc30, H⟩ := H
          refine hl_val rfl rfl (v := (.int .i64 x)) (hv_load TyQD.agg3 rfl hc30) ?_
          refine hl_val rfl rfl (v := (.bool (x != 1))) (hv_arith rfl rfl rfl) ?_
          refine hl_nil ?_
          refine seqQ_n ?_
          refine hx_cond (b := x != 1) rfl (fun hb31 => ?_) (fun hb31 => ?_)
          · replace H := H.1 hb31
            refine hx_seq ?_
            refine hx_draw TyQD.mixed [.read, .pure, .pure, .pure, .read, .wild] [0, 1, 2, 3, 4, 5] (by kernel_rfl) ?_
            obtain ⟨x_1, hc32, H⟩ := H
            refine hp_read (i := 0) rfl (wanted_0 rfl) rfl (.pointer x_1) (fun _ he => hv_load TyQD.agg24 rfl (Ext.cell he hc32)) ?_
            refine hp_pure (i := 1) rfl (wanted_0 rfl) rfl (.slice (some ⟨l_b, l_o, none⟩) l_n l_c) (fun _ => hv_move rfl) ?_
            refine hp_pure (i := 2) rfl (wanted_0 rfl) rfl (.int .i64 i) (fun _ => hv_move rfl) ?_
            refine hp_pure (i := 3) rfl (wanted_0 rfl) rfl (ptr l_b (l_o + (Int.toNat i) * 3)) (fun _ => hv_index TyQD.el22 rfl rfl hi28 hi29) ?_
            obtain ⟨x_Kind, x_N, x_Task, hc35, hc36, hc37, H⟩ := H
            refine hp_read (i := 4) rfl (wanted_0 rfl) rfl (.agg #[(.int .i64 x_Kind), (.int .i64 x_N), (.int .i64 x_Task)]) (fun _ he => hv_loads (vs := [(.int .i64 x_Kind), (.int .i64 x_N), (.int .i64 x_Task)]) TyQD.agg36 TyQD.sz36 rfl (hcells_cons (Ext.cell he hc35) (hcells_cons (Ext.cell he hc36) (hcells_cons (Ext.cell he hc37) hcells_nil)))) ?_
            refine hp_wild (i := 5) rfl (wanted_0 rfl) rfl (hs_call TyQD.cb12 (vs := [(.pointer x_1), (.agg #[(.int .i64 x_Kind), (.int .i64 x_N), (.int .i64 x_Task)])]) rfl (HC.mono H ?_))
            rintro _ h12 ⟨r_1, rfl, H⟩
            refine hp_nil ?_
            refine seqQ_n ?_
            refine hx_exit ?_
            refine seqQ_exit ?_
            refine blockQ_here ?_
            refine seqQ_n ?_
            exact ⟨_, ⟨H, trivial⟩, (has_cons rfl (has_cons rfl (has_cons rfl (has_cons rfl (has_cons rfl (has_cons rfl has_nil))))))⟩
          · replace H := H.2 hb31
            refine hx_skip ?_
            refine seqQ_n ?_
            refine hx_seq ?_
            refine hx_region ?_
            obtain ⟨x_1, hc38, H⟩ := H
            refine hl_val rfl rfl (v := (.pointer x_1)) (hv_load TyQD.agg24 rfl hc38) ?_
            refine hl_step rfl rfl (hs_call TyQD.cb13 (vs := [(.pointer x_1)]) rfl (HC.mono H ?_))
            rintro _ h13 ⟨r0_1, r1_1, r2, rfl, H⟩
            refine hl_val rfl rfl (v := (.tuple #[(.int .i64 r0_1), (.int .u64 r1_1), (.int .i64 r2)])) (hv_move rfl) ?_
            refine hl_val rfl rfl (v := (.int .i64 r0_1)) (hv_extract (vs := #[(.int .i64 r0_1), (.int .u64 r1_1), (.int .i64 r2)]) rfl rfl) ?_
            refine hl_val rfl rfl (v := (.int .u64 r1_1)) (hv_extract (vs := #[(.int .i64 r0_1), (.int .u64 r1_1), (.int .i64 r2)]) rfl rfl) ?_
            refine hl_val rfl rfl (v := (.int .i64 r2)) (hv_extract (vs := #[(.int .i64 r0_1), (.int .u64 r1_1), (.int .i64 r2)]) rfl rfl) ?_
            refine hl_val rfl rfl (v := (.int .i64 r0_1)) (hv_assign rfl) ?_
            refine hl_val rfl rfl (v := (.int .u64 r1_1)) (hv_assign rfl) ?_
            refine hl_val rfl rfl (v := (.int .i64 r2)) (hv_assign rfl) ?_
            refine hl_nil ?_
            refine seqQ_n ?_
            refine hx_seq ?_
            refine hx_seq ?_
            refine hx_region ?_
            refine hl_val rfl rfl (v := (.int .i64 r2)) (hv_move rfl) ?_
            refine hl_val rfl rfl (v := (.bool (r2 != 0))) (hv_arith rfl rfl rfl) ?_
            refine hl_nil ?_
            refine seqQ_n ?_
            refine hx_cond (b := r2 != 0) rfl (fun hb39 => ?_) (fun hb39 => ?_)
            · replace H := H.1 hb39
              refine hx_exit ?_
              refine seqQ_exit ?_
              refine blockQ_here ?_
              refine seqQ_n ?_
              exact ⟨_, ⟨H, trivial⟩, (has_cons rfl (has_cons rfl (has_cons rfl (has_cons rfl (has_cons rfl (has_cons rfl has_nil))))))⟩
            · replace H := H.2 hb39
              refine hx_skip ?_
              refine seqQ_n ?_
              refine hx_seq ?_
              obtain ⟨j, Hx40, Hy41⟩ := H
              refine hx_cut (fun ρ h' => h13 = h' ∧ Has ρ [(0, (.int .i64 regions)), (1, (.slice (some ⟨l_b, l_o, none⟩) l_n l_c)), (4, (ptr nb 0)), (5, (ptr m 0)), (8, (.int .i64 i)), (9, (.int .i64 r0_1)), (10, (.int .u64 r1_1)), (71, (.bool j))]) ?_ ?_
              · have H := Hx40; clear Hx40 Hy41
                refine hx_region ?_
                refine hl_val rfl rfl (v := (.int .u64 r1_1)) (hv_move rfl) ?_
                refine hl_val rfl rfl (v := (.int .u64 last)) (hv_move rfl) ?_
                refine hl_val rfl rfl (v := (.int .u64 (IntKind.u64.wrap (last + 1)))) (hv_arith rfl rfl rfl) ?_
                refine hl_val rfl rfl (v := (.bool (r1_1 != (IntKind.u64.wrap (last + 1))))) (hv_arith rfl rfl rfl) ?_
                refine hl_val rfl rfl (v := (.bool (r1_1 != (IntKind.u64.wrap (last + 1))))) (hv_move rfl) ?_
                rcases bool_or (r1_1 != (IntKind.u64.wrap (last + 1))) with hg42 | hg42
                · replace H := H.1 hg42
                  refine hl_no (wanted_n rfl rfl rfl hg42) rfl ?_
                  refine hl_no (wanted_n rfl rfl rfl hg42) rfl ?_
                  refine hl_no (wanted_n rfl rfl rfl hg42) rfl ?_
                  refine hl_no (wanted_n rfl rfl rfl hg42) rfl ?_
                  refine hl_val rfl rfl (v := (.bool true)) (hv_pick_t rfl hg42 rfl) ?_
                  refine hl_val rfl rfl (v := (.bool true)) (hv_move rfl) ?_
                  refine hl_no (wanted_n rfl rfl (c := true) rfl rfl) rfl ?_
                  refine hl_no (wanted_n rfl rfl (c := true) rfl rfl) rfl ?_
                  refine hl_no (wanted_n rfl rfl (c := true) rfl rfl) rfl ?_
                  refine hl_no (wanted_n rfl rfl (c := true) rfl rfl) rfl ?_
                  refine hl_val rfl rfl (v := (.bool true)) (hv_pick (t := true) rfl rfl) ?_
                  refine hl_nil ?_
                  refine seqQ_n ?_
                  obtain rfl := H
                  exact ⟨rfl, (has_cons rfl (has_cons rfl (has_cons rfl (has_cons rfl (has_cons rfl (has_cons rfl (has_cons rfl (has_cons rfl has_nil))))))))⟩
                · replace H := H.2 hg42
                  obtain ⟨x_2, hc43, H⟩ := H
                  refine hl_yes (wanted_y rfl rfl rfl hg42) rfl (HStep.of_val (v := (.pointer x_2)) (hv_load TyQD.agg24 rfl hc43) ?_)
                  obtain ⟨r_1, hr44, H⟩ := H
                  refine hl_yes (wanted_y rfl rfl rfl hg42) rfl (HStep.of_val (v := (.int .i64 r_1)) (hv_call TyQD.cb14 (vs := [(.pointer x_2)]) rfl hr44) ?_)
                  refine hl_yes (wanted_y rfl rfl rfl hg42) rfl (HStep.of_val (v := (.int .i64 r0_1)) (hv_move rfl) ?_)
                  refine hl_yes (wanted_y rfl rfl rfl hg42) rfl (HStep.of_val (v := (.bool (r_1 != r0_1))) (hv_arith rfl rfl rfl) ?_)
                  refine hl_val rfl rfl (v := (.bool (r_1 != r0_1))) (hv_pick_f rfl hg42 rfl) ?_
                  refine hl_val rfl rfl (v := (.bool (r_1 != r0_1))) (hv_move rfl) ?_
                  rcases bool_or (r_1 != r0_1) with hg45 | hg45
                  · replace H := H.1 hg45
                    refine hl_no (wanted_n rfl rfl rfl hg45) rfl ?_
                    refine hl_no (wanted_n rfl rfl rfl hg45) rfl ?_
                    refine hl_no (wanted_n rfl rfl rfl hg45) rfl ?_
                    refine hl_no (wanted_n rfl rfl rfl hg45) rfl ?_
                    refine hl_val rfl rfl (v := (.bool true)) (hv_pick_t rfl hg45 rfl) ?_
                    refine hl_nil ?_
                    refine seqQ_n ?_
                    obtain rfl := H
                    exact ⟨rfl, (has_cons rfl (has_cons rfl (has_cons rfl (has_cons rfl (has_cons rfl (has_cons rfl (has_cons rfl (has_cons rfl has_nil))))))))⟩
                  · replace H := H.2 hg45
                    refine hl_yes (wanted_y rfl rfl rfl hg45) rfl (HStep.of_val (v := (.pointer x_2)) (hv_load TyQD.agg24 rfl hc43) ?_)
                    obtain ⟨r_2, hr46, H⟩ := H
                    refine hl_yes (wanted_y rfl rfl rfl hg45) rfl (HStep.of_val (v := (.int .u64 r_2)) (hv_call TyQD.cb15 (vs := [(.pointer x_2)]) rfl hr46) ?_)
                    refine hl_yes (wanted_y rfl rfl rfl hg45) rfl (HStep.of_val (v := (.int .u64 r1_1)) (hv_move rfl) ?_)
                    refine hl_yes (wanted_y rfl rfl rfl hg45) rfl (HStep.of_val (v := (.bool (r_2 != r1_1))) (hv_arith rfl rfl rfl) ?_)
                    refine hl_val rfl rfl (v := (.bool (r_2 != r1_1))) (hv_pick_f rfl hg45 rfl) ?_
                    refine hl_nil ?_
                    refine seqQ_n ?_
                    obtain rfl := H
                    exact ⟨rfl, (has_cons rfl (has_cons rfl (has_cons rfl (has_cons rfl (has_cons rfl (has_cons rfl (has_cons rfl (has_cons rfl has_nil))))))))⟩
              · have H := Hy41; clear Hx40 Hy41
                rintro ρ _ ⟨rfl, hH⟩
                refine hx_has _ hH ?_
                refine hx_cond (b := j) rfl (fun hb47 => ?_) (fun hb47 => ?_)
                · replace H := H.1 hb47
                  refine hx_seq ?_
                  refine hx_region ?_
                  obtain ⟨hw49, H⟩ := H
                  refine hl_step rfl rfl (hn_store (v := (.bool false)) rfl rfl TyQD.sz4 rfl hw49 ?_)
                  intro h14 eh48
                  replace H := H h14 eh48
                  refine hl_nil ?_
                  refine seqQ_n ?_
                  refine hx_ret ?_
                  refine seqQ_ret ?_
                  refine blockQ_ret ?_
                  refine seqQ_ret ?_
                  refine seqQ_ret ?_
                  refine blockQ_ret ?_
                  refine seqQ_ret ?_
                  obtain ⟨res, hc50, H⟩ := H
                  exact endQM_ret _ (fun h' hs => ⟨res_one Try.results4 (rv_cell1 TyQD.agg4 rfl (shut_cell hs hc50)), H h' hs⟩)
                · replace H := H.2 hb47
                  refine hx_skip ?_
                  refine seqQ_n ?_
                  refine hx_seq ?_
                  refine hx_region ?_
                  refine hl_val rfl rfl (v := (.int .u64 r1_1)) (hv_move rfl) ?_
                  refine hl_val rfl rfl (v := (.int .u64 r1_1)) (hv_assign rfl) ?_
                  refine hl_nil ?_
                  refine seqQ_n ?_
                  refine hx_seq ?_
                  refine hx_region ?_
                  refine hl_val rfl rfl (v := (.int .i64 0)) (hv_assign rfl) ?_
                  refine hl_nil ?_
                  refine seqQ_n ?_
                  refine hx_block ?_
                  obtain ⟨I51, mu52, Ha53, Hr54⟩ := H
                  refine hx_loopT (σ := Int) (fun s => [(0, (.int .i64 regions)), (1, (.slice (some ⟨l_b, l_o, none⟩) l_n l_c)), (4, (ptr nb 0)), (5, (ptr m 0)), (7, (.int .u64 r1_1)), (8, (.int .i64 i)), (9, (.int .i64 r0_1)), (10, (.int .u64 r1_1)), (12, (.int .i64 s))]) (fun s h' => I51 s h' ∧ True) (fun s h' => mu52 s h') 0 ⟨Ha53, trivial⟩ (has_cons rfl (has_cons rfl (has_cons rfl (has_cons rfl (has_cons rfl (has_cons rfl (has_cons rfl (has_cons rfl (has_cons rfl has_nil))))))))) ?_
                  rintro k ρ h16 ⟨Hi55, -⟩
                  have H := Hr54 k h16 Hi55
                  refine hx_seq ?_
                  refine hx_seq ?_
                  refine hx_region ?_
                  refine hl_val rfl rfl (v := (.int .i64 k)) (hv_move rfl) ?_
                  refine hl_val rfl rfl (v := (.int .i64 regions)) (hv_move rfl) ?_
                  refine hl_val rfl rfl (v := (.bool (decide (k < regions)))) (hv_arith rfl rfl rfl) ?_
                  refine hl_nil ?_
                  refine seqQ_n ?_
                  refine hx_cond (b := decide (k < regions)) rfl (fun hb56 => ?_) (fun hb56 => ?_)
                  · replace H := H.1 hb56
                    refine hx_skip ?_
                    refine seqQ_n ?_
                    refine hx_seq ?_
                    refine hx_block ?_
                    refine hx_seq ?_
                    refine hx_region ?_
                    obtain ⟨x_3, hc57, H⟩ := H
                    refine hl_val rfl rfl (v := (.pointer x_3)) (hv_load TyQD.agg24 rfl hc57) ?_
                    refine hl_val rfl rfl (v := (.int .i64 k)) (hv_move rfl) ?_
                    refine hl_step rfl rfl (hs_call TyQD.cb11 (vs := [(.pointer x_3), (.int .i64 k)]) rfl (HC.mono H ?_))
                    rintro _ h17 ⟨r0_State, r0_Sequence, r0_Pins, r0_Erases, r1_2, rfl, H⟩
                    refine hl_val rfl rfl (v := (.tuple #[(.agg #[(.int .i64 r0_State), (.int .u64 r0_Sequence), (.int .i64 r0_Pins), (.int .i64 r0_Erases)]), (.bool r1_2)])) (hv_move rfl) ?_
                    refine hl_val rfl rfl (v := (.agg #[(.int .i64 r0_State), (.int .u64 r0_Sequence), (.int .i64 r0_Pins), (.int .i64 r0_Erases)])) (hv_extract (vs := #[(.agg #[(.int .i64 r0_State), (.int .u64 r0_Sequence), (.int .i64 r0_Pins), (.int .i64 r0_Erases)]), (.bool r1_2)]) rfl rfl) ?_
                    refine hl_val rfl rfl (v := (.bool r1_2)) (hv_extract (vs := #[(.agg #[(.int .i64 r0_State), (.int .u64 r0_Sequence), (.int .i64 r0_Pins), (.int .i64 r0_Erases)]), (.bool r1_2)]) rfl rfl) ?_
                    refine hl_step rfl rfl (hn_alloc TyQD.z31 ?_)
                    intro x_4 h18 eb58 eh59
                    replace H := H x_4 h18 eb58 eh59
                    have xx60 : Ext h17 h18 := by rw [eh59]; exact Ext.push _ _
                    obtain ⟨hw62, H⟩ := H
                    refine hl_step rfl rfl (hn_stores (vs := [(.int .i64 r0_State), (.int .u64 r0_Sequence), (.int .i64 r0_Pins), (.int .i64 r0_Erases)]) rfl rfl TyQD.sz31 rfl hw62 ?_)
                    intro h19 eh61
                    replace H := H h19 eh61
                    refine hl_val rfl rfl (v := (.bool r1_2)) (hv_assign rfl) ?_
                    refine hl_nil ?_
                    refine seqQ_n ?_
                    obtain ⟨j_1, Hx63, Hy64⟩ := H
                    refine hx_cut (fun ρ h' => h19 = h' ∧ Has ρ [(0, (.int .i64 regions)), (1, (.slice (some ⟨l_b, l_o, none⟩) l_n l_c)), (4, (ptr nb 0)), (5, (ptr m 0)), (7, (.int .u64 r1_1)), (8, (.int .i64 i)), (9, (.int .i64 r0_1)), (10, (.int .u64 r1_1)), (12, (.int .i64 k)), (98, (.bool j_1))]) ?_ ?_
                    · have H := Hx63; clear Hx63 Hy64
                      refine hx_region ?_
                      refine hl_val rfl rfl (v := (ptr x_4 1)) (hv_field TyQD.fld31_1 (b := x_4) (o := 0) rfl) ?_
                      obtain ⟨x_5, hc65, H⟩ := H
                      refine hl_val rfl rfl (v := (.int .u64 x_5)) (hv_load TyQD.agg29 rfl hc65) ?_
                      refine hl_val rfl rfl (v := (.int .u64 r1_1)) (hv_move rfl) ?_
                      refine hl_val rfl rfl (v := (.bool (decide (x_5 > r1_1)))) (hv_arith rfl rfl rfl) ?_
                      refine hl_val rfl rfl (v := (.bool (decide (x_5 > r1_1)))) (hv_move rfl) ?_
                      rcases bool_or (decide (x_5 > r1_1)) with hg66 | hg66
                      · replace H := H.1 hg66
                        refine hl_no (wanted_n rfl rfl rfl hg66) rfl ?_
                        refine hl_no (wanted_n rfl rfl rfl hg66) rfl ?_
                        refine hl_no (wanted_n rfl rfl rfl hg66) rfl ?_
                        refine hl_no (wanted_n rfl rfl rfl hg66) rfl ?_
                        refine hl_no (wanted_u rfl rfl rfl) rfl ?_
                        refine hl_no (wanted_u rfl rfl rfl) rfl ?_
                        refine hl_no (wanted_u rfl rfl rfl) rfl ?_
                        refine hl_no (wanted_u rfl rfl rfl) rfl ?_
                        refine hl_no (wanted_n rfl rfl rfl hg66) rfl ?_
                        refine hl_val rfl rfl (v := (.bool true)) (hv_pick_t rfl hg66 rfl) ?_
                        refine hl_nil ?_
                        refine seqQ_n ?_
                        obtain rfl := H
                        exact ⟨rfl, (has_cons rfl (has_cons rfl (has_cons rfl (has_cons rfl (has_cons rfl (has_cons rfl (has_cons rfl (has_cons rfl (has_cons rfl (has_cons rfl has_nil))))))))))⟩
                      · replace H := H.2 hg66
                        refine hl_yes (wanted_y rfl rfl rfl hg66) rfl (HStep.of_val (v := (.int .i64 k)) (hv_move rfl) ?_)
                        refine hl_yes (wanted_y rfl rfl rfl hg66) rfl (HStep.of_val (v := (.int .i64 r0_1)) (hv_move rfl) ?_)
                        refine hl_yes (wanted_y rfl rfl rfl hg66) rfl (HStep.of_val (v := (.bool (k != r0_1))) (hv_arith rfl rfl rfl) ?_)
                        refine hl_yes (wanted_y rfl rfl rfl hg66) rfl (HStep.of_val (v := (.bool (k != r0_1))) (hv_move rfl) ?_)
                        rcases bool_or (k != r0_1) with hg67 | hg67
                        · replace H := H.1 hg67
                          refine hl_yes (wanted_y rfl rfl rfl hg67) rfl (HStep.of_val (v := (ptr x_4 1)) (hv_field TyQD.fld31_1 (b := x_4) (o := 0) rfl) ?_)
                          refine hl_yes (wanted_y rfl rfl rfl hg67) rfl (HStep.of_val (v := (.int .u64 x_5)) (hv_load TyQD.agg29 rfl hc65) ?_)
                          refine hl_yes (wanted_y rfl rfl rfl hg67) rfl (HStep.of_val (v := (.int .u64 r1_1)) (hv_move rfl) ?_)
                          refine hl_yes (wanted_y rfl rfl rfl hg67) rfl (HStep.of_val (v := (.bool (x_5 == r1_1))) (hv_arith rfl rfl rfl) ?_)
                          refine hl_yes (wanted_y rfl rfl rfl hg66) rfl (HStep.of_val (v := (.bool (x_5 == r1_1))) (hv_pick_t rfl hg67 rfl) ?_)
                          refine hl_val rfl rfl (v := (.bool (x_5 == r1_1))) (hv_pick_f rfl hg66 rfl) ?_
                          refine hl_nil ?_
                          refine seqQ_n ?_
                          obtain rfl := H
                          exact ⟨rfl, (has_cons rfl (has_cons rfl (has_cons rfl (has_cons rfl (has_cons rfl (has_cons rfl (has_cons rfl (has_cons rfl (has_cons rfl (has_cons rfl has_nil))))))))))⟩
                        · replace H := H.2 hg67
                          refine hl_no (wanted_n rfl rfl rfl hg67) rfl ?_
                          refine hl_no (wanted_n rfl rfl rfl hg67) rfl ?_
                          refine hl_no (wanted_n rfl rfl rfl hg67) rfl ?_
                          refine hl_no (wanted_n rfl rfl rfl hg67) rfl ?_
                          refine hl_yes (wanted_y rfl rfl rfl hg66) rfl (HStep.of_val (v := (.bool false)) (hv_pick_f rfl hg67 rfl) ?_)
                          refine hl_val rfl rfl (v := (.bool false)) (hv_pick_f rfl hg66 rfl) ?_
                          refine hl_nil ?_
                          refine seqQ_n ?_
                          obtain rfl := H
                          exact ⟨rfl, (has_cons rfl (has_cons rfl (has_cons rfl (has_cons rfl (has_cons rfl (has_cons rfl (has_cons rfl (has_cons rfl (has_cons rfl (has_cons rfl has_nil))))))))))⟩
                    · have H := Hy64; clear Hx63 Hy64
                      rintro ρ _ ⟨rfl, hH⟩
                      refine hx_has _ hH ?_
                      refine hx_cond (b := j_1) rfl (fun hb68 => ?_) (fun hb68 => ?_)
                      · replace H := H.1 hb68
                        refine hx_seq ?_
                        refine hx_region ?_
                        obtain ⟨hw70, H⟩ := H
                        refine hl_step rfl rfl (hn_store (v := (.bool false)) rfl rfl TyQD.sz4 rfl hw70 ?_)
                        intro h20 eh69
                        replace H := H h20 eh69
                        refine hl_nil ?_
                        refine seqQ_n ?_
                        refine hx_ret ?_
                        refine blockQ_ret ?_
                        refine seqQ_ret ?_
                        refine seqQ_ret ?_
                        refine blockQ_ret ?_
                        refine blockQ_ret ?_
                        refine seqQ_ret ?_
                        refine seqQ_ret ?_
                        refine blockQ_ret ?_
                        refine seqQ_ret ?_
                        obtain ⟨res, hc71, H⟩ := H
                        exact endQM_ret _ (fun h' hs => ⟨res_one Try.results4 (rv_cell1 TyQD.agg4 rfl (shut_cell hs hc71)), H h' hs⟩)
                      · replace H := H.2 hb68
                        refine hx_skip ?_
                        refine blockQ_n ?_
                        refine seqQ_n ?_
                        refine hx_region ?_
                        refine hl_val rfl rfl (v := (.int .i64 k)) (hv_move rfl) ?_
                        refine hl_val rfl rfl (v := (.int .i64 (IntKind.i64.wrap (k + 1)))) (hv_arith rfl rfl rfl) ?_
                        refine hl_val rfl rfl (v := (.int .i64 (IntKind.i64.wrap (k + 1)))) (hv_assign rfl) ?_
                        refine hl_nil ?_
                        refine seqQ_n ?_
                        exact ⟨IntKind.i64.wrap (k + 1), ⟨⟨H.1, trivial⟩, H.2⟩, (has_cons rfl (has_cons rfl (has_cons rfl (has_cons rfl (has_cons rfl (has_cons rfl (has_cons rfl (has_cons rfl (has_cons rfl has_nil)))))))))⟩
                  · replace H := H.2 hb56
                    refine hx_exit ?_
                    refine seqQ_exit ?_
                    refine seqQ_exit ?_
                    refine blockQ_here ?_
                    refine blockQ_n ?_
                    refine seqQ_n ?_
                    exact ⟨_, ⟨H, trivial⟩, (has_cons rfl (has_cons rfl (has_cons rfl (has_cons rfl (has_cons rfl (has_cons rfl has_nil))))))⟩
        · rintro ρ h11 ⟨last_1, ⟨HA27, -⟩, hH⟩
          have H := Hy25 last_1 h11 HA27; clear Hx24 Hy25
          refine hx_has _ hH ?_
          refine hx_region ?_
          refine hl_val rfl rfl (v := (.int .i64 i)) (hv_move rfl) ?_
          refine hl_val rfl rfl (v := (.int .i64 (IntKind.i64.wrap (i + 1)))) (hv_arith rfl rfl rfl) ?_
          refine hl_val rfl rfl (v := (.int .i64 (IntKind.i64.wrap (i + 1)))) (hv_assign rfl) ?_
          refine hl_nil ?_
          refine seqQ_n ?_
          exact ⟨(last_1, IntKind.i64.wrap (i + 1)), ⟨⟨H.1, trivial⟩, H.2⟩, (has_cons rfl (has_cons rfl (has_cons rfl (has_cons rfl (has_cons rfl (has_cons rfl has_nil))))))⟩
      · replace H := H.2 hb23
        refine hx_exit ?_
        refine seqQ_exit ?_
        refine seqQ_exit ?_
        refine blockQ_here ?_
        refine seqQ_n ?_
        refine hx_seq ?_
        refine hx_region ?_
        refine hl_step rfl rfl (hn_alloc TyQD.z29 ?_)
        intro ahead h22 eb72 eh73
        replace H := H ahead h22 eb72 eh73
        have xx74 : Ext h10 h22 := by rw [eh73]; exact Ext.push _ _
        obtain ⟨hw76, H⟩ := H
        refine hl_step rfl rfl (hn_store (v := (.int .u64 0)) rfl rfl TyQD.sz29 rfl hw76 ?_)
        intro h23 eh75
        replace H := H h23 eh75
        refine hl_nil ?_
        refine seqQ_n ?_
        refine hx_seq ?_
        refine hx_seq ?_
        refine hx_region ?_
        obtain ⟨x, hc77, H⟩ := H
        refine hl_val rfl rfl (v := (.pointer x)) (hv_load TyQD.agg24 rfl hc77) ?_
        refine hl_step rfl rfl (hs_call TyQD.cb16 (vs := [(.pointer x)]) rfl (HC.mono H ?_))
        rintro r_1 h24 ⟨_, rfl, H⟩
        refine hl_nil ?_
        refine seqQ_n ?_
        refine hx_block ?_
        refine hx_range rfl rfl rfl (fun h25 l_1 le79 lx80 lz81 La82 => ?_)
        refine HCF.mono (H (fun st p h => LoopAt h l_1 _ _ _ _ _ st p) l_1 h25 _ (fun s p h h' k e => k.same e) le79 lx80 lz81 La82 ?_) ?_
        · intro it h26 K86 Lb83 H
          refine hcv_yield Lb83 rfl rfl ?_
          refine hx_region ?_
          refine hl_val rfl rfl (v := (.int .i64 it)) (hv_assign rfl) ?_
          refine hl_nil ?_
          obtain ⟨Lf91, H⟩ := H
          refine ⟨rfl, Lf91, ?_⟩
          intro h29 lo89 Le90
          replace H := H h29 lo89 Le90
          refine hx_block ?_
          refine hx_seq ?_
          refine hx_region ?_
          obtain ⟨x_1, hc92, H⟩ := H
          refine hl_val rfl rfl (v := (.pointer x_1)) (hv_load TyQD.agg24 rfl hc92) ?_
          refine hl_val rfl rfl (v := (.int .i64 it)) (hv_move rfl) ?_
          refine hl_step rfl rfl (hs_call TyQD.cb11 (vs := [(.pointer x_1), (.int .i64 it)]) rfl (HC.mono H ?_))
          rintro _ h30 ⟨r0_State, r0_Sequence, r0_Pins, r0_Erases, r1_1, rfl, H⟩
          refine hl_val rfl rfl (v := (.tuple #[(.agg #[(.int .i64 r0_State), (.int .u64 r0_Sequence), (.int .i64 r0_Pins), (.int .i64 r0_Erases)]), (.bool r1_1)])) (hv_move rfl) ?_
          refine hl_val rfl rfl (v := (.agg #[(.int .i64 r0_State), (.int .u64 r0_Sequence), (.int .i64 r0_Pins), (.int .i64 r0_Erases)])) (hv_extract (vs := #[(.agg #[(.int .i64 r0_State), (.int .u64 r0_Sequence), (.int .i64 r0_Pins), (.int .i64 r0_Erases)]), (.bool r1_1)]) rfl rfl) ?_
          refine hl_val rfl rfl (v := (.bool r1_1)) (hv_extract (vs := #[(.agg #[(.int .i64 r0_State), (.int .u64 r0_Sequence), (.int .i64 r0_Pins), (.int .i64 r0_Erases)]), (.bool r1_1)]) rfl rfl) ?_
          refine hl_step rfl rfl (hn_alloc TyQD.z31 ?_)
          intro x_2 h31 eb93 eh94
          replace H := H x_2 h31 eb93 eh94
          have xx95 : Ext h30 h31 := by rw [eh94]; exact Ext.push _ _
          obtain ⟨hw97, H⟩ := H
          refine hl_step rfl rfl (hn_stores (vs := [(.int .i64 r0_State), (.int .u64 r0_Sequence), (.int .i64 r0_Pins), (.int .i64 r0_Erases)]) rfl rfl TyQD.sz31 rfl hw97 ?_)
          intro h32 eh96
          replace H := H h32 eh96
          refine hl_val rfl rfl (v := (.bool r1_1)) (hv_assign rfl) ?_
          refine hl_nil ?_
          refine seqQ_n ?_
          refine hx_seq ?_
          obtain ⟨j, Hx98, Hy99⟩ := H
          refine hx_cut (fun ρ h' => h32 = h' ∧ Has ρ [(4, (ptr nb 0)), (15, (ptr ahead 0)), (17, (ptr x_2 0)), (116, (.bool j))]) ?_ ?_
          · have H := Hx98; clear Hx98 Hy99
            refine hx_region ?_
            refine hl_val rfl rfl (v := (ptr x_2 0)) (hv_field TyQD.fld31_0 (b := x_2) (o := 0) rfl) ?_
            obtain ⟨x_3, hc100, H⟩ := H
            refine hl_val rfl rfl (v := (.int .i64 x_3)) (hv_load TyQD.agg3 rfl hc100) ?_
            refine hl_val rfl rfl (v := (.bool (x_3 != 3))) (hv_arith rfl rfl rfl) ?_
            refine hl_val rfl rfl (v := (.bool (x_3 != 3))) (hv_move rfl) ?_
            rcases bool_or (x_3 != 3) with hg101 | hg101
            · replace H := H.1 hg101
              refine hl_no (wanted_n rfl rfl rfl hg101) rfl ?_
              refine hl_no (wanted_n rfl rfl rfl hg101) rfl ?_
              refine hl_no (wanted_n rfl rfl rfl hg101) rfl ?_
              refine hl_no (wanted_n rfl rfl rfl hg101) rfl ?_
              refine hl_val rfl rfl (v := (.bool true)) (hv_pick_t rfl hg101 rfl) ?_
              refine hl_nil ?_
              refine seqQ_n ?_
              obtain rfl := H
              exact ⟨rfl, (has_cons rfl (has_cons rfl (has_cons rfl (has_cons rfl has_nil))))⟩
            · replace H := H.2 hg101
              refine hl_yes (wanted_y rfl rfl rfl hg101) rfl (HStep.of_val (v := (ptr x_2 1)) (hv_field TyQD.fld31_1 (b := x_2) (o := 0) rfl) ?_)
              obtain ⟨x_4, hc102, H⟩ := H
              refine hl_yes (wanted_y rfl rfl rfl hg101) rfl (HStep.of_val (v := (.int .u64 x_4)) (hv_load TyQD.agg29 rfl hc102) ?_)
              obtain ⟨x_5, hc103, H⟩ := H
              refine hl_yes (wanted_y rfl rfl rfl hg101) rfl (HStep.of_val (v := (.int .u64 x_5)) (hv_load TyQD.agg29 rfl hc103) ?_)
              refine hl_yes (wanted_y rfl rfl rfl hg101) rfl (HStep.of_val (v := (.bool (decide (x_4 ≤ x_5)))) (hv_arith rfl rfl rfl) ?_)
              refine hl_val rfl rfl (v := (.bool (decide (x_4 ≤ x_5)))) (hv_pick_f rfl hg101 rfl) ?_
              refine hl_nil ?_
              refine seqQ_n ?_
              obtain rfl := H
              exact ⟨rfl, (has_cons rfl (has_cons rfl (has_cons rfl (has_cons rfl has_nil))))⟩
          · have H := Hy99; clear Hx98 Hy99
            rintro ρ _ ⟨rfl, hH⟩
            refine hx_has _ hH ?_
            refine hx_cond (b := j) rfl (fun hb104 => ?_) (fun hb104 => ?_)
            · replace H := H.1 hb104
              refine hx_seq ?_
              refine hx_region ?_
              obtain ⟨hw106, H⟩ := H
              refine hl_step rfl rfl (hn_store (v := (.bool false)) rfl rfl TyQD.sz4 rfl hw106 ?_)
              intro h33 eh105
              replace H := H h33 eh105
              refine hl_nil ?_
              refine seqQ_n ?_
              refine hx_ret ?_
              refine seqQ_ret ?_
              refine blockQ_ret ?_
              exact H
            · replace H := H.2 hb104
              refine hx_skip ?_
              refine seqQ_n ?_
              refine hx_region ?_
              refine hl_val rfl rfl (v := (ptr x_2 1)) (hv_field TyQD.fld31_1 (b := x_2) (o := 0) rfl) ?_
              obtain ⟨x_6, hc107, H⟩ := H
              refine hl_val rfl rfl (v := (.int .u64 x_6)) (hv_load TyQD.agg29 rfl hc107) ?_
              obtain ⟨hw109, H⟩ := H
              refine hl_step rfl rfl (hn_store (v := (.int .u64 x_6)) rfl rfl TyQD.sz29 rfl hw109 ?_)
              intro h35 eh108
              replace H := H h35 eh108
              refine hl_nil ?_
              refine blockQ_n ?_
              exact H
        · rintro _ h27 ⟨st, pend, Lc84, hst88, H⟩
          refine ⟨st, pend, Lc84, hst88, ?_⟩
          intro h28 lo87 Ld85
          replace H := H h28 lo87 Ld85
          rcases H with ⟨rfl, H⟩ | ⟨rfl, H⟩
          · refine jumpQ_n ?_
            refine blockQ_n ?_
            refine seqQ_n ?_
            refine hx_seq ?_
            refine hx_region ?_
            obtain ⟨hw111, H⟩ := H
            refine hl_step rfl rfl (hn_store (v := (.bool true)) rfl rfl TyQD.sz4 rfl hw111 ?_)
            intro h37 eh110
            replace H := H h37 eh110
            refine hl_nil ?_
            refine seqQ_n ?_
            refine hx_ret ?_
            obtain ⟨res, hc112, H⟩ := H
            exact endQM_ret _ (fun h' hs => ⟨res_one Try.results4 (rv_cell1 TyQD.agg4 rfl (shut_cell hs hc112)), H h' hs⟩)
          · refine jumpQ_ret ?_
            refine blockQ_ret ?_
            refine seqQ_ret ?_
            obtain ⟨res_1, hc113, H⟩ := H
            exact endQM_ret _ (fun h' hs => ⟨res_one Try.results4 (rv_cell1 TyQD.agg4 rfl (shut_cell hs hc113)), H h' hs⟩)

end Go.Proofs.Ytfdgjgjcppfmiaa
