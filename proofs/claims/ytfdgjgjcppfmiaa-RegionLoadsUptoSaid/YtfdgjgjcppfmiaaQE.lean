/-
Shallow forms, written by gen2.py (a program of ours) out of the print of the program.
-/
import Derived.Test.YtfdgjgjcppfmiaaPrv
import Derived.Test.YtfdgjgjcppfmiaaSrt
import Derived.Test.YtfdgjgjcppfmiaaRng
import Derived.Test.YtfdgjgjcppfmiaaMor
import Derived.Test.YtfdgjgjcppfmiaaProg
namespace Go.Proofs.Ytfdgjgjcppfmiaa
open Go
set_option maxRecDepth 100000
set_option maxHeartbeats 4000000

theorem TyQE.agg28 : aggB Try.prog 28 = some false := by kernel_rfl
theorem TyQE.agg29 : aggB Try.prog 29 = some false := by kernel_rfl
theorem TyQE.agg3 : aggB Try.prog 3 = some false := by kernel_rfl
theorem TyQE.agg31 : aggB Try.prog 31 = some true := by kernel_rfl
theorem TyQE.agg36 : aggB Try.prog 36 = some true := by kernel_rfl
theorem TyQE.agg50 : aggB Try.prog 50 = some false := by kernel_rfl
theorem TyQE.cb10 : CallB Try.prog 10 := fun _ _ => Try.call10 _ _
theorem TyQE.cb18 : CallB Try.prog 18 := fun _ _ => Try.call18 _ _
theorem TyQE.cb19 : CallB Try.prog 19 := fun _ _ => Try.call19 _ _
theorem TyQE.cb29 : CallB Try.prog 29 := fun _ _ => Try.call29 _ _
theorem TyQE.cb30 : CallB Try.prog 30 := fun _ _ => Try.call30 _ _
theorem TyQE.cb38 : CallB Try.prog 38 := fun _ _ => Try.call38 _ _
theorem TyQE.cb49 : CallB Try.prog 49 := fun _ _ => Try.call49 _ _
theorem TyQE.cb50 : CallB Try.prog 50 := fun _ _ => Try.call50 _ _
theorem TyQE.cb51 : CallB Try.prog 51 := fun _ _ => Try.call51 _ _
theorem TyQE.cb58 : CallB Try.prog 58 := fun _ _ => Try.call58 _ _
theorem TyQE.cb9 : CallB Try.prog 9 := fun _ _ => Try.call9 _ _
theorem TyQE.el22 : elB Try.prog 22 = some 3 := by kernel_rfl
theorem TyQE.el28 : elB Try.prog 28 = some 4 := by kernel_rfl
theorem TyQE.el50 : elB Try.prog 50 = some 1 := by kernel_rfl
theorem TyQE.fld31_0 : fldB Try.prog 31 0 = some 0 := by kernel_rfl
theorem TyQE.fld31_1 : fldB Try.prog 31 1 = some 1 := by kernel_rfl
theorem TyQE.fld31_2 : fldB Try.prog 31 2 = some 2 := by kernel_rfl
theorem TyQE.fld31_3 : fldB Try.prog 31 3 = some 3 := by kernel_rfl
theorem TyQE.fld67_0 : fldB Try.prog 67 0 = some 0 := by kernel_rfl
theorem TyQE.fld67_1 : fldB Try.prog 67 1 = some 1 := by kernel_rfl
theorem TyQE.fld67_2 : fldB Try.prog 67 2 = some 2 := by kernel_rfl
theorem TyQE.fld78_0 : fldB Try.prog 78 0 = some 0 := by kernel_rfl
theorem TyQE.fld78_1 : fldB Try.prog 78 1 = some 1 := by kernel_rfl
theorem TyQE.fld78_2 : fldB Try.prog 78 2 = some 2 := by kernel_rfl
theorem TyQE.mixed : Try.prog.follows .mixedOrders = true := by kernel_rfl
theorem TyQE.pl31 : plB Try.prog 31 = some [(0, 1), (1, 1), (2, 1), (3, 1)] := by kernel_rfl
theorem TyQE.sz28 : szB Try.prog 28 = some 1 := by kernel_rfl
theorem TyQE.sz29 : szB Try.prog 29 = some 1 := by kernel_rfl
theorem TyQE.sz3 : szB Try.prog 3 = some 1 := by kernel_rfl
theorem TyQE.sz31 : szB Try.prog 31 = some 4 := by kernel_rfl
theorem TyQE.sz36 : szB Try.prog 36 = some 3 := by kernel_rfl
theorem TyQE.sz50 : szB Try.prog 50 = some 1 := by kernel_rfl
theorem TyQE.u22 : Try.prog.underlying 22 = some (.slice 36) := by kernel_rfl
theorem TyQE.u28 : Try.prog.underlying 28 = some (.slice 31) := by kernel_rfl
theorem TyQE.u29 : Try.prog.underlying 29 = some (.int .u64) := by kernel_rfl
theorem TyQE.u4 : Try.prog.underlying 4 = some (.bool) := by kernel_rfl
theorem TyQE.u50 : Try.prog.underlying 50 = some (.slice 3) := by kernel_rfl
theorem TyQE.u90 : Try.prog.underlying 90 = some (.map 29 3) := by kernel_rfl
theorem TyQE.up24 : Try.prog.underlying 24 = some (.pointer 67) := by kernel_rfl
theorem TyQE.up45 : Try.prog.underlying 45 = some (.pointer 78) := by kernel_rfl
theorem TyQE.z3 : zeroB Try.prog 3 (.int .i64 0) := by unfold zeroB; kernel_rfl
theorem TyQE.z31 : zeroB Try.prog 31 (.agg #[(.int .i64 0), (.int .u64 0), (.int .i64 0), (.int .i64 0)]) := by unfold zeroB; kernel_rfl

/-- cellar/cellarlaw09.RegionLoads -/
theorem f8_sh (given : Option Addr) (given_n : Nat) (given_c : Nat) (last : Int) (l : Option Addr) (l_n : Nat) (l_c : Nat) (h : Heap) (R : Value → Heap → Prop)
    (H : HC Try.prog 9 #[] h (fun vv h1 => ∃ r : Bool, vv = (.bool r) ∧ (((!r) = true → R (.bool false) h1) ∧ ((!r) = false → (∀ nb h2, nb = Array.size h1 → h2 = Array.push h1 (.cells #[] 31) → HAppend Try.prog 28 28 (.slice (some ⟨nb, 0, none⟩) 0 0) (.slice given given_n given_c) h2 (fun vv h3 => ∃ ap : Option Addr, ∃ ap_n ap_c : Nat, vv = (.slice ap ap_n ap_c) ∧ HC Try.prog 29 #[(.slice ap ap_n ap_c), (.int .u64 last)] h3 (fun vv h4 => ∃ r0 : Option Addr, ∃ r1 : Int, vv = (.tuple #[(.pointer r0), (.int .i64 r1)]) ∧ HC Try.prog 30 #[(.slice given given_n given_c), (.int .u64 last)] h4 (fun vv h5 => ∃ r0_1 : Option Addr, ∃ r1_1 : Int, vv = (.tuple #[(.pointer r0_1), (.int .i64 r1_1)]) ∧ ((((r1 != r1_1) || (r0.isNone != r0_1.isNone)) = true → R (.bool false) h5) ∧ (((r1 != r1_1) || (r0.isNone != r0_1.isNone)) = false → ((r0_1.isNone = true → R (.bool true) h5) ∧ (r0_1.isNone = false → (∃ (I10 : Int → Heap → Prop) (mu11 : Int → Heap → Nat), I10 0 h5 ∧ (∀ (i : Int) (h6 : Heap), I10 i h6 → (((decide (i < (ap_n : Int))) = true → (∃ ap_b ap_o : Nat, ap = some ⟨ap_b, ap_o, none⟩ ∧ (0 : Int) ≤ i ∧ i < (ap_n : Int) ∧ (HWs h6 ap_b (ap_o + (Int.toNat i) * 4) 4 ∧ ∀ h7, h7 = hsets h6 ap_b (ap_o + (Int.toNat i) * 4) [(.int .i64 9), (.int .u64 1), (.int .i64 0), (.int .i64 0)] → (I10 (IntKind.i64.wrap (i + 1)) h7 ∧ mu11 (IntKind.i64.wrap (i + 1)) h7 < mu11 i h6)))) ∧ ((decide (i < (ap_n : Int))) = false → HC Try.prog 19 #[(.pointer r0), (.pointer r0_1)] h6 (fun vv h8 => ∃ r_1 : Bool, vv = (.bool r_1) ∧ (((!r_1) = true → R (.bool false) h8) ∧ ((!r_1) = false → (∃ (I21 : Int → Heap → Prop) (mu22 : Int → Heap → Nat), I21 0 h8 ∧ (∀ (i_1 : Int) (h9 : Heap), I21 i_1 h9 → (((decide (i_1 < (l_n : Int))) = true → (∃ l_b l_o : Nat, l = some ⟨l_b, l_o, none⟩ ∧ (0 : Int) ≤ i_1 ∧ i_1 < (l_n : Int) ∧ (∃ x_Kind x_N x_Task : Int, hcell h9 l_b (l_o + (Int.toNat i_1) * 3) = some (.int .i64 x_Kind) ∧ hcell h9 l_b ((l_o + (Int.toNat i_1) * 3) + 1) = some (.int .i64 x_N) ∧ hcell h9 l_b ((l_o + (Int.toNat i_1) * 3) + 2) = some (.int .i64 x_Task) ∧ HC Try.prog 18 #[(.pointer r0), (.pointer r0_1), (.agg #[(.int .i64 x_Kind), (.int .i64 x_N), (.int .i64 x_Task)])] h9 (fun vv h10 => ∃ r_2 : Bool, vv = (.bool r_2) ∧ (((!r_2) = true → R (.bool false) h10) ∧ ((!r_2) = false → (I21 (IntKind.i64.wrap (i_1 + 1)) h10 ∧ mu22 (IntKind.i64.wrap (i_1 + 1)) h10 < mu22 i_1 h9))))))) ∧ ((decide (i_1 < (l_n : Int))) = false → HC Try.prog 19 #[(.pointer r0), (.pointer r0_1)] h9 (fun vv h11 => ∃ r_2 : Bool, vv = (.bool r_2) ∧ R (.bool r_2) h11)))))))))))))))))))))))) :
    HC Try.prog 8 #[(.slice given given_n given_c), (.int .u64 last), (.slice l l_n l_c)] h R := by
  refine hc_of (args := [(.slice given given_n given_c), (.int .u64 last), (.slice l l_n l_c)]) Try.func8 rfl Try.ntmps8 (Nat.le_of_ble_eq_true rfl) ?_
  refine hx_seq ?_
  refine hx_region ?_
  refine hl_val rfl rfl (v := (.bool false)) (hv_assign rfl) ?_
  refine hl_nil ?_
  refine seqQ_n ?_
  refine hx_seq ?_
  refine hx_seq ?_
  refine hx_region ?_
  refine hl_step rfl rfl (hs_call TyQE.cb9 (vs := []) rfl (HC.mono H ?_))
  rintro _ h1 ⟨r, rfl, H⟩
  refine hl_val rfl rfl (v := (.bool (!r))) (hv_not (b := r) rfl) ?_
  refine hl_nil ?_
  refine seqQ_n ?_
  refine hx_cond (b := !r) rfl (fun hb1 => ?_) (fun hb1 => ?_)
  · replace H := H.1 hb1
    refine hx_seq ?_
    refine hx_region ?_
    refine hl_val rfl rfl (v := (.bool false)) (hv_assign rfl) ?_
    refine hl_nil ?_
    refine seqQ_n ?_
    refine hx_ret ?_
    refine seqQ_ret ?_
    exact endQ_ret _ (res_one Try.results8 (rv_tmp rfl)) H
  · replace H := H.2 hb1
    refine hx_skip ?_
    refine seqQ_n ?_
    refine hx_seq ?_
    refine hx_region ?_
    refine hl_step rfl rfl (hn_buildSlice (n := 0) (vs := []) (cs := #[]) TyQE.u28 TyQE.sz31 TyQE.z31 rfl rfl (by kernel_rfl) ?_)
    intro nb h2 eb2 eh3
    replace H := H nb h2 eb2 eh3
    have xx4 : Ext h1 h2 := by rw [eh3]; exact Ext.push _ _
    refine hl_val rfl rfl (v := (.slice given given_n given_c)) (hv_move rfl) ?_
    refine hl_step rfl rfl (hs_append rfl rfl (HAppend.mono H ?_))
    rintro _ h3 ⟨ap, ap_n, ap_c, rfl, H⟩
    refine hl_val rfl rfl (v := (.slice ap ap_n ap_c)) (hv_assign rfl) ?_
    refine hl_nil ?_
    refine seqQ_n ?_
    refine hx_seq ?_
    refine hx_region ?_
    refine hl_val rfl rfl (v := (.slice ap ap_n ap_c)) (hv_move rfl) ?_
    refine hl_val rfl rfl (v := (.int .u64 last)) (hv_move rfl) ?_
    refine hl_step rfl rfl (hs_call TyQE.cb29 (vs := [(.slice ap ap_n ap_c), (.int .u64 last)]) rfl (HC.mono H ?_))
    rintro _ h4 ⟨r0, r1, rfl, H⟩
    refine hl_val rfl rfl (v := (.tuple #[(.pointer r0), (.int .i64 r1)])) (hv_move rfl) ?_
    refine hl_val rfl rfl (v := (.pointer r0)) (hv_extract (vs := #[(.pointer r0), (.int .i64 r1)]) rfl rfl) ?_
    refine hl_val rfl rfl (v := (.int .i64 r1)) (hv_extract (vs := #[(.pointer r0), (.int .i64 r1)]) rfl rfl) ?_
    refine hl_val rfl rfl (v := (.pointer r0)) (hv_assign rfl) ?_
    refine hl_val rfl rfl (v := (.int .i64 r1)) (hv_assign rfl) ?_
    refine hl_nil ?_
    refine seqQ_n ?_
    refine hx_seq ?_
    refine hx_region ?_
    refine hl_val rfl rfl (v := (.slice given given_n given_c)) (hv_move rfl) ?_
    refine hl_val rfl rfl (v := (.int .u64 last)) (hv_move rfl) ?_
    refine hl_step rfl rfl (hs_call TyQE.cb30 (vs := [(.slice given given_n given_c), (.int .u64 last)]) rfl (HC.mono H ?_))
    rintro _ h5 ⟨r0_1, r1_1, rfl, H⟩
    refine hl_val rfl rfl (v := (.tuple #[(.pointer r0_1), (.int .i64 r1_1)])) (hv_move rfl) ?_
    refine hl_val rfl rfl (v := (.pointer r0_1)) (hv_extract (vs := #[(.pointer r0_1), (.int .i64 r1_1)]) rfl rfl) ?_
    refine hl_val rfl rfl (v := (.int .i64 r1_1)) (hv_extract (vs := #[(.pointer r0_1), (.int .i64 r1_1)]) rfl rfl) ?_
    refine hl_val rfl rfl (v := (.pointer r0_1)) (hv_assign rfl) ?_
    refine hl_val rfl rfl (v := (.int .i64 r1_1)) (hv_assign rfl) ?_
    refine hl_nil ?_
    refine seqQ_n ?_
    refine hx_seq ?_
    refine hx_cut (fun ρ h' => h5 = h' ∧ Has ρ [(2, (.slice l l_n l_c)), (7, (.slice ap ap_n ap_c)), (8, (.pointer r0)), (10, (.pointer r0_1)), (40, (.bool ((r1 != r1_1) || (r0.isNone != r0_1.isNone))))]) ?_ ?_
    · refine hx_region ?_
      refine hl_val rfl rfl (v := (.int .i64 r1)) (hv_move rfl) ?_
      refine hl_val rfl rfl (v := (.int .i64 r1_1)) (hv_move rfl) ?_
      refine hl_val rfl rfl (v := (.bool (r1 != r1_1))) (hv_arith rfl rfl rfl) ?_
      refine hl_val rfl rfl (v := (.bool (r1 != r1_1))) (hv_move rfl) ?_
      rcases bool_or (r1 != r1_1) with hg7 | hg7
      · refine hl_no (wanted_n rfl rfl rfl hg7) rfl ?_
        refine hl_no (wanted_n rfl rfl rfl hg7) rfl ?_
        refine hl_no (wanted_n rfl rfl rfl hg7) rfl ?_
        refine hl_no (wanted_n rfl rfl rfl hg7) rfl ?_
        refine hl_no (wanted_n rfl rfl rfl hg7) rfl ?_
        refine hl_val rfl rfl (v := (.bool true)) (hv_pick_t rfl hg7 rfl) ?_
        refine hl_nil ?_
        refine seqQ_n ?_
        exact ⟨rfl, (has_cons rfl (has_cons rfl (has_cons rfl (has_cons rfl (has_cons (show ((.bool true) : Value) = (.bool ((r1 != r1_1) || (r0.isNone != r0_1.isNone))) from (by first | rfl | ((try rw [hg7]); all_goals first | rfl | (simp only [Bool.true_or, Bool.or_true, Bool.false_or, Bool.or_false, Bool.true_and, Bool.and_true, Bool.false_and, Bool.and_false, Bool.not_true, Bool.not_false, Bool.cond_true, Bool.cond_false]; done)) | simp [hg7])) has_nil)))))⟩
      · refine hl_yes (wanted_y rfl rfl rfl hg7) rfl (HStep.of_val (v := (.pointer r0)) (hv_move rfl) ?_)
        refine hl_yes (wanted_y rfl rfl rfl hg7) rfl (HStep.of_val (v := (.bool r0.isNone)) (hv_ptrNil TyQE.up24 rfl rfl) ?_)
        refine hl_yes (wanted_y rfl rfl rfl hg7) rfl (HStep.of_val (v := (.pointer r0_1)) (hv_move rfl) ?_)
        refine hl_yes (wanted_y rfl rfl rfl hg7) rfl (HStep.of_val (v := (.bool r0_1.isNone)) (hv_ptrNil TyQE.up45 rfl rfl) ?_)
        refine hl_yes (wanted_y rfl rfl rfl hg7) rfl (HStep.of_val (v := (.bool (r0.isNone != r0_1.isNone))) (hv_eqBool TyQE.u4 rfl rfl rfl) ?_)
        refine hl_val rfl rfl (v := (.bool (r0.isNone != r0_1.isNone))) (hv_pick_f rfl hg7 rfl) ?_
        refine hl_nil ?_
        refine seqQ_n ?_
        exact ⟨rfl, (has_cons rfl (has_cons rfl (has_cons rfl (has_cons rfl (has_cons (show ((.bool (r0.isNone != r0_1.isNone)) : Value) = (.bool ((r1 != r1_1) || (r0.isNone != r0_1.isNone))) from (by first | rfl | ((try rw [hg7]); all_goals first | rfl | (simp only [Bool.true_or, Bool.or_true, Bool.false_or, Bool.or_false, Bool.true_and, Bool.and_true, Bool.false_and, Bool.and_false, Bool.not_true, Bool.not_false, Bool.cond_true, Bool.cond_false]; done)) | simp [hg7])) has_nil)))))⟩
    · rintro ρ _ ⟨rfl, hH⟩
      refine hx_has _ hH ?_
      refine hx_cond (b := ((r1 != r1_1) || (r0.isNone != r0_1.isNone))) rfl (fun hb8 => ?_) (fun hb8 => ?_)
      · replace H := H.1 hb8
        refine hx_seq ?_
        refine hx_region ?_
        refine hl_val rfl rfl (v := (.bool false)) (hv_assign rfl) ?_
        refine hl_nil ?_
        refine seqQ_n ?_
        refine hx_ret ?_
        refine seqQ_ret ?_
        exact endQ_ret _ (res_one Try.results8 (rv_tmp rfl)) H
      · replace H := H.2 hb8
        refine hx_skip ?_
        refine seqQ_n ?_
        refine hx_seq ?_
        refine hx_seq ?_
        refine hx_region ?_
        refine hl_val rfl rfl (v := (.pointer r0_1)) (hv_move rfl) ?_
        refine hl_val rfl rfl (v := (.bool r0_1.isNone)) (hv_ptrNil TyQE.up45 rfl rfl) ?_
        refine hl_nil ?_
        refine seqQ_n ?_
        refine hx_cond (b := r0_1.isNone) rfl (fun hb9 => ?_) (fun hb9 => ?_)
        · replace H := H.1 hb9
          refine hx_seq ?_
          refine hx_region ?_
          refine hl_val rfl rfl (v := (.bool true)) (hv_assign rfl) ?_
          refine hl_nil ?_
          refine seqQ_n ?_
          refine hx_ret ?_
          refine seqQ_ret ?_
          exact endQ_ret _ (res_one Try.results8 (rv_tmp rfl)) H
        · replace H := H.2 hb9
          refine hx_skip ?_
          refine seqQ_n ?_
          refine hx_seq ?_
          refine hx_seq ?_
          refine hx_region ?_
          refine hl_val rfl rfl (v := (.int .i64 0)) (hv_assign rfl) ?_
          refine hl_nil ?_
          refine seqQ_n ?_
          refine hx_block ?_
          obtain ⟨I10, mu11, Ha12, Hr13⟩ := H
          refine hx_loopT (σ := Int) (fun s => [(2, (.slice l l_n l_c)), (7, (.slice ap ap_n ap_c)), (8, (.pointer r0)), (10, (.pointer r0_1)), (12, (.int .i64 s))]) (fun s h' => I10 s h' ∧ True) (fun s h' => mu11 s h') 0 ⟨Ha12, trivial⟩ (has_cons rfl (has_cons rfl (has_cons rfl (has_cons rfl (has_cons rfl has_nil))))) ?_
          rintro i ρ h6 ⟨Hi14, -⟩
          have H := Hr13 i h6 Hi14
          refine hx_seq ?_
          refine hx_seq ?_
          refine hx_region ?_
          refine hl_val rfl rfl (v := (.int .i64 i)) (hv_move rfl) ?_
          refine hl_val rfl rfl (v := (.slice ap ap_n ap_c)) (hv_move rfl) ?_
          refine hl_val rfl rfl (v := (.int .i64 (ap_n : Int))) (hv_len (n := ap_n) TyQE.u28 rfl) ?_
          refine hl_val rfl rfl (v := (.bool (decide (i < (ap_n : Int))))) (hv_arith rfl rfl rfl) ?_
          refine hl_nil ?_
          refine seqQ_n ?_
          refine hx_cond (b := decide (i < (ap_n : Int))) rfl (fun hb15 => ?_) (fun hb15 => ?_)
          · replace H := H.1 hb15
            refine hx_skip ?_
            refine seqQ_n ?_
            refine hx_seq ?_
            refine hx_block ?_
            refine hx_region ?_
            refine hl_val rfl rfl (v := (.slice ap ap_n ap_c)) (hv_move rfl) ?_
            refine hl_val rfl rfl (v := (.int .i64 i)) (hv_move rfl) ?_
            refine hl_val rfl rfl (v := (.agg #[(.int .i64 9), (.int .u64 1), (.int .i64 0), (.int .i64 0)])) (hv_build (vs := [(0, (.int .i64 9)), (1, (.int .u64 1))]) (cs := #[(.int .i64 9), (.int .u64 1), (.int .i64 0), (.int .i64 0)]) TyQE.z31 TyQE.pl31 rfl (by kernel_rfl)) ?_
            obtain ⟨ap_b, ap_o, hqe, hi16, hi17, Hq⟩ := H
            subst hqe
            have H := Hq; clear Hq
            refine hl_val rfl rfl (v := (ptr ap_b (ap_o + (Int.toNat i) * 4))) (hv_index TyQE.el28 rfl rfl hi16 hi17) ?_
            obtain ⟨hw19, H⟩ := H
            refine hl_step rfl rfl (hn_stores (vs := [(.int .i64 9), (.int .u64 1), (.int .i64 0), (.int .i64 0)]) rfl rfl TyQE.sz31 rfl hw19 ?_)
            intro h7 eh18
            replace H := H h7 eh18
            refine hl_nil ?_
            refine blockQ_n ?_
            refine seqQ_n ?_
            refine hx_region ?_
            refine hl_val rfl rfl (v := (.int .i64 i)) (hv_move rfl) ?_
            refine hl_val rfl rfl (v := (.int .i64 (IntKind.i64.wrap (i + 1)))) (hv_arith rfl rfl rfl) ?_
            refine hl_val rfl rfl (v := (.int .i64 (IntKind.i64.wrap (i + 1)))) (hv_assign rfl) ?_
            refine hl_nil ?_
            refine seqQ_n ?_
            exact ⟨IntKind.i64.wrap (i + 1), ⟨⟨H.1, trivial⟩, H.2⟩, (has_cons rfl (has_cons rfl (has_cons rfl (has_cons rfl (has_cons rfl has_nil)))))⟩
          · replace H := H.2 hb15
            refine hx_exit ?_
            refine seqQ_exit ?_
            refine seqQ_exit ?_
            refine blockQ_here ?_
            refine seqQ_n ?_
            refine hx_seq ?_
            refine hx_seq ?_
            refine hx_region ?_
            refine hl_val rfl rfl (v := (.pointer r0)) (hv_move rfl) ?_
            refine hl_val rfl rfl (v := (.pointer r0_1)) (hv_move rfl) ?_
            refine hl_step rfl rfl (hs_call TyQE.cb19 (vs := [(.pointer r0), (.pointer r0_1)]) rfl (HC.mono H ?_))
            rintro _ h8 ⟨r_1, rfl, H⟩
            refine hl_val rfl rfl (v := (.bool (!r_1))) (hv_not (b := r_1) rfl) ?_
            refine hl_nil ?_
            refine seqQ_n ?_
            refine hx_cond (b := !r_1) rfl (fun hb20 => ?_) (fun hb20 => ?_)
            · replace H := H.1 hb20
              refine hx_seq ?_
              refine hx_region ?_
              refine hl_val rfl rfl (v := (.bool false)) (hv_assign rfl) ?_
              refine hl_nil ?_
              refine seqQ_n ?_
              refine hx_ret ?_
              refine seqQ_ret ?_
              exact endQ_ret _ (res_one Try.results8 (rv_tmp rfl)) H
            · replace H := H.2 hb20
              refine hx_skip ?_
              refine seqQ_n ?_
              refine hx_seq ?_
              refine hx_seq ?_
              refine hx_region ?_
              refine hl_val rfl rfl (v := (.int .i64 0)) (hv_assign rfl) ?_
              refine hl_nil ?_
              refine seqQ_n ?_
              refine hx_block ?_
              obtain ⟨I21, mu22, Ha23, Hr24⟩ := H
              refine hx_loopT (σ := Int) (fun s => [(2, (.slice l l_n l_c)), (8, (.pointer r0)), (10, (.pointer r0_1)), (13, (.int .i64 s))]) (fun s h' => I21 s h' ∧ True) (fun s h' => mu22 s h') 0 ⟨Ha23, trivial⟩ (has_cons rfl (has_cons rfl (has_cons rfl (has_cons rfl has_nil)))) ?_
              rintro i_1 ρ h9 ⟨Hi25, -⟩
              have H := Hr24 i_1 h9 Hi25
              refine hx_seq ?_
              refine hx_seq ?_
              refine hx_region ?_
              refine hl_val rfl rfl (v := (.int .i64 i_1)) (hv_move rfl) ?_
              refine hl_val rfl rfl (v := (.slice l l_n l_c)) (hv_move rfl) ?_
              refine hl_val rfl rfl (v := (.int .i64 (l_n : Int))) (hv_len (n := l_n) TyQE.u22 rfl) ?_
              refine hl_val rfl rfl (v := (.bool (decide (i_1 < (l_n : Int))))) (hv_arith rfl rfl rfl) ?_
              refine hl_nil ?_
              refine seqQ_n ?_
              refine hx_cond (b := decide (i_1 < (l_n : Int))) rfl (fun hb26 => ?_) (fun hb26 => ?_)
              · replace H := H.1 hb26
                refine hx_skip ?_
                refine seqQ_n ?_
                refine hx_seq ?_
                refine hx_block ?_
                refine hx_seq ?_
                refine hx_region ?_
                refine hl_val rfl rfl (v := (.pointer r0)) (hv_move rfl) ?_
                refine hl_val rfl rfl (v := (.pointer r0_1)) (hv_move rfl) ?_
                refine hl_val rfl rfl (v := (.slice l l_n l_c)) (hv_move rfl) ?_
                refine hl_val rfl rfl (v := (.int .i64 i_1)) (hv_move rfl) ?_
                obtain ⟨l_b, l_o, hqe, hi27, hi28, Hq⟩ := H
                subst hqe
                have H := Hq; clear Hq
                refine hl_val rfl rfl (v := (ptr l_b (l_o + (Int.toNat i_1) * 3))) (hv_index TyQE.el22 rfl rfl hi27 hi28) ?_
                obtain ⟨x_Kind, x_N, x_Task, hc29, hc30, hc31, H⟩ := H
                refine hl_val rfl rfl (v := (.agg #[(.int .i64 x_Kind), (.int .i64 x_N), (.int .i64 x_Task)])) (hv_loads (vs := [(.int .i64 x_Kind), (.int .i64 x_N), (.int .i64 x_Task)]) TyQE.agg36 TyQE.sz36 rfl (hcells_cons hc29 (hcells_cons hc30 (hcells_cons hc31 hcells_nil)))) ?_
                refine hl_step rfl rfl (hs_call TyQE.cb18 (vs := [(.pointer r0), (.pointer r0_1), (.agg #[(.int .i64 x_Kind), (.int .i64 x_N), (.int .i64 x_Task)])]) rfl (HC.mono H ?_))
                rintro _ h10 ⟨r_2, rfl, H⟩
                refine hl_val rfl rfl (v := (.bool (!r_2))) (hv_not (b := r_2) rfl) ?_
                refine hl_nil ?_
                refine seqQ_n ?_
                refine hx_cond (b := !r_2) rfl (fun hb32 => ?_) (fun hb32 => ?_)
                · replace H := H.1 hb32
                  refine hx_seq ?_
                  refine hx_region ?_
                  refine hl_val rfl rfl (v := (.bool false)) (hv_assign rfl) ?_
                  refine hl_nil ?_
                  refine seqQ_n ?_
                  refine hx_ret ?_
                  refine blockQ_ret ?_
                  refine seqQ_ret ?_
                  refine seqQ_ret ?_
                  refine blockQ_ret ?_
                  refine seqQ_ret ?_
                  exact endQ_ret _ (res_one Try.results8 (rv_tmp rfl)) H
                · replace H := H.2 hb32
                  refine hx_skip ?_
                  refine blockQ_n ?_
                  refine seqQ_n ?_
                  refine hx_region ?_
                  refine hl_val rfl rfl (v := (.int .i64 i_1)) (hv_move rfl) ?_
                  refine hl_val rfl rfl (v := (.int .i64 (IntKind.i64.wrap (i_1 + 1)))) (hv_arith rfl rfl rfl) ?_
                  refine hl_val rfl rfl (v := (.int .i64 (IntKind.i64.wrap (i_1 + 1)))) (hv_assign rfl) ?_
                  refine hl_nil ?_
                  refine seqQ_n ?_
                  exact ⟨IntKind.i64.wrap (i_1 + 1), ⟨⟨H.1, trivial⟩, H.2⟩, (has_cons rfl (has_cons rfl (has_cons rfl (has_cons rfl has_nil))))⟩
              · replace H := H.2 hb26
                refine hx_exit ?_
                refine seqQ_exit ?_
                refine seqQ_exit ?_
                refine blockQ_here ?_
                refine seqQ_n ?_
                refine hx_seq ?_
                refine hx_region ?_
                refine hl_val rfl rfl (v := (.pointer r0)) (hv_move rfl) ?_
                refine hl_val rfl rfl (v := (.pointer r0_1)) (hv_move rfl) ?_
                refine hl_step rfl rfl (hs_call TyQE.cb19 (vs := [(.pointer r0), (.pointer r0_1)]) rfl (HC.mono H ?_))
                rintro _ h11 ⟨r_2, rfl, H⟩
                refine hl_val rfl rfl (v := (.bool r_2)) (hv_assign rfl) ?_
                refine hl_nil ?_
                refine seqQ_n ?_
                refine hx_ret ?_
                exact endQ_ret _ (res_one Try.results8 (rv_tmp rfl)) H

/-- cellar/region.Load -/
theorem f29_sh (l : Option Addr) (l_n : Nat) (l_c : Nat) (last : Int) (h : Heap) (R : Value → Heap → Prop)
    (H : (∀ l_1 h1, l_1 = Array.size h → h1 = Array.push h (.cells #[(.slice l l_n l_c)] 28) → (∃ x : Option Addr, ∃ x_n x_c : Nat, hcell h1 l_1 0 = some (.slice x x_n x_c) ∧ HC Try.prog 10 #[(.int .i64 (x_n : Int))] h1 (fun vv h2 => ∃ r0 : Option Addr, ∃ r1 : Int, vv = (.tuple #[(.pointer r0), (.int .i64 r1)]) ∧ (∃ A7 : Bool → Heap → Prop, (((r1 != 0) = true → (A7 true h2)) ∧ ((r1 != 0) = false → (∃ x_1 : Option Addr, ∃ x_n_1 x_c_1 : Nat, hcell h2 l_1 0 = some (.slice x_1 x_n_1 x_c_1) ∧ HC Try.prog 49 #[(.slice x_1 x_n_1 x_c_1), (.int .u64 last)] h2 (fun vv h4 => ∃ r : Bool, vv = (.bool r) ∧ (A7 (!r) h4))))) ∧ (∀ (j : Bool) (h3 : Heap), A7 j h3 → ((j = true → R (.tuple #[(.pointer none), (.int .i64 1)]) h3) ∧ (j = false → (∃ x_2 : Option Addr, ∃ x_n_2 x_c_2 : Nat, hcell h3 l_1 0 = some (.slice x_2 x_n_2 x_c_2) ∧ HC Try.prog 50 #[(.slice x_2 x_n_2 x_c_2)] h3 (fun vv h5 => ∃ r_1 : Option Addr, ∃ r_n r_c : Nat, vv = (.slice r_1 r_n r_c) ∧ (∃ r0_b r0_o : Nat, r0 = some ⟨r0_b, r0_o, none⟩ ∧ (HW h5 r0_b r0_o ∧ ∀ h6, h6 = hset h5 r0_b r0_o (.slice r_1 r_n r_c) → (HW h6 r0_b (r0_o + 2) ∧ ∀ h7, h7 = hset h6 r0_b (r0_o + 2) (.int .u64 last) → (∃ x_3 : Option Addr, ∃ x_n_3 x_c_3 : Nat, hcell h7 r0_b (r0_o + 1) = some (.slice x_3 x_n_3 x_c_3) ∧ HC Try.prog 51 #[(.slice x_3 x_n_3 x_c_3), (.func (.func 52) #[] #[(ptr l_1 0)])] h7 (fun vv h8 => ∃ r_2 : Option Addr, ∃ r_n_1 r_c_1 : Nat, vv = (.slice r_2 r_n_1 r_c_1) ∧ (HW h8 r0_b (r0_o + 1) ∧ ∀ h9, h9 = hset h8 r0_b (r0_o + 1) (.slice r_2 r_n_1 r_c_1) → R (.tuple #[(ptr r0_b r0_o), (.int .i64 0)]) h9)))))))))))))))) :
    HC Try.prog 29 #[(.slice l l_n l_c), (.int .u64 last)] h R := by
  refine hc_of (args := [(.slice l l_n l_c), (.int .u64 last)]) Try.func29 rfl Try.ntmps29 (Nat.le_of_ble_eq_true rfl) ?_
  refine hx_seq ?_
  refine hx_region ?_
  refine hl_step rfl rfl (hn_box (v := (.slice l l_n l_c)) rfl ?_)
  intro l_1 h1 eb1 eh2
  replace H := H l_1 h1 eb1 eh2
  have xx3 : Ext h h1 := by rw [eh2]; exact Ext.push _ _
  refine hl_val rfl rfl (v := (.pointer none)) (hv_assign rfl) ?_
  refine hl_val rfl rfl (v := (.int .i64 0)) (hv_assign rfl) ?_
  refine hl_nil ?_
  refine seqQ_n ?_
  refine hx_seq ?_
  refine hx_region ?_
  obtain ⟨x, x_n, x_c, hc4, H⟩ := H
  refine hl_val rfl rfl (v := (.slice x x_n x_c)) (hv_load TyQE.agg28 rfl hc4) ?_
  refine hl_val rfl rfl (v := (.int .i64 (x_n : Int))) (hv_len (n := x_n) TyQE.u28 rfl) ?_
  refine hl_step rfl rfl (hs_call TyQE.cb10 (vs := [(.int .i64 (x_n : Int))]) rfl (HC.mono H ?_))
  rintro _ h2 ⟨r0, r1, rfl, H⟩
  refine hl_val rfl rfl (v := (.tuple #[(.pointer r0), (.int .i64 r1)])) (hv_move rfl) ?_
  refine hl_val rfl rfl (v := (.pointer r0)) (hv_extract (vs := #[(.pointer r0), (.int .i64 r1)]) rfl rfl) ?_
  refine hl_val rfl rfl (v := (.int .i64 r1)) (hv_extract (vs := #[(.pointer r0), (.int .i64 r1)]) rfl rfl) ?_
  refine hl_val rfl rfl (v := (.pointer r0)) (hv_assign rfl) ?_
  refine hl_val rfl rfl (v := (.int .i64 r1)) (hv_assign rfl) ?_
  refine hl_nil ?_
  refine seqQ_n ?_
  refine hx_seq ?_
  obtain ⟨A7, Hx5, Hy6⟩ := H
  refine hx_cut (fun ρ h' => ∃ j : Bool, (A7 j h' ∧ True) ∧ Has ρ [(1, (.int .u64 last)), (2, (ptr l_1 0)), (6, (.pointer r0)), (21, (.bool j))]) ?_ ?_
  · have H := Hx5; clear Hx5 Hy6
    refine hx_region ?_
    refine hl_val rfl rfl (v := (.int .i64 r1)) (hv_move rfl) ?_
    refine hl_val rfl rfl (v := (.bool (r1 != 0))) (hv_arith rfl rfl rfl) ?_
    refine hl_val rfl rfl (v := (.bool (r1 != 0))) (hv_move rfl) ?_
    rcases bool_or (r1 != 0) with hg9 | hg9
    · replace H := H.1 hg9
      refine hl_no (wanted_n rfl rfl rfl hg9) rfl ?_
      refine hl_no (wanted_n rfl rfl rfl hg9) rfl ?_
      refine hl_no (wanted_n rfl rfl rfl hg9) rfl ?_
      refine hl_no (wanted_n rfl rfl rfl hg9) rfl ?_
      refine hl_val rfl rfl (v := (.bool true)) (hv_pick_t rfl hg9 rfl) ?_
      refine hl_nil ?_
      refine seqQ_n ?_
      exact ⟨_, ⟨H, trivial⟩, (has_cons rfl (has_cons rfl (has_cons rfl (has_cons rfl has_nil))))⟩
    · replace H := H.2 hg9
      obtain ⟨x_1, x_n_1, x_c_1, hc10, H⟩ := H
      refine hl_yes (wanted_y rfl rfl rfl hg9) rfl (HStep.of_val (v := (.slice x_1 x_n_1 x_c_1)) (hv_load TyQE.agg28 rfl hc10) ?_)
      refine hl_yes (wanted_y rfl rfl rfl hg9) rfl (HStep.of_val (v := (.int .u64 last)) (hv_move rfl) ?_)
      refine hl_yes (wanted_y rfl rfl rfl hg9) rfl (hs_call TyQE.cb49 (vs := [(.slice x_1 x_n_1 x_c_1), (.int .u64 last)]) rfl (HC.mono H ?_))
      rintro _ h4 ⟨r, rfl, H⟩
      refine hl_yes (wanted_y rfl rfl rfl hg9) rfl (HStep.of_val (v := (.bool (!r))) (hv_not (b := r) rfl) ?_)
      refine hl_val rfl rfl (v := (.bool (!r))) (hv_pick_f rfl hg9 rfl) ?_
      refine hl_nil ?_
      refine seqQ_n ?_
      exact ⟨_, ⟨H, trivial⟩, (has_cons rfl (has_cons rfl (has_cons rfl (has_cons rfl has_nil))))⟩
  · rintro ρ h3 ⟨j, ⟨HA8, -⟩, hH⟩
    have H := Hy6 j h3 HA8; clear Hx5 Hy6
    refine hx_has _ hH ?_
    refine hx_cond (b := j) rfl (fun hb11 => ?_) (fun hb11 => ?_)
    · replace H := H.1 hb11
      refine hx_seq ?_
      refine hx_region ?_
      refine hl_val rfl rfl (v := (.pointer none)) (hv_assign rfl) ?_
      refine hl_val rfl rfl (v := (.int .i64 1)) (hv_assign rfl) ?_
      refine hl_nil ?_
      refine seqQ_n ?_
      refine hx_ret ?_
      refine seqQ_ret ?_
      exact endQ_ret _ (res_two Try.results29 (rv_tmp rfl) (rv_tmp rfl)) H
    · replace H := H.2 hb11
      refine hx_skip ?_
      refine seqQ_n ?_
      refine hx_seq ?_
      refine hx_region ?_
      refine hl_val rfl rfl (v := (.pointer r0)) (hv_move rfl) ?_
      refine hl_val rfl rfl (v := (.pointer r0)) (hv_move rfl) ?_
      obtain ⟨x_2, x_n_2, x_c_2, hc12, H⟩ := H
      refine hl_val rfl rfl (v := (.slice x_2 x_n_2 x_c_2)) (hv_load TyQE.agg28 rfl hc12) ?_
      refine hl_step rfl rfl (hs_call TyQE.cb50 (vs := [(.slice x_2 x_n_2 x_c_2)]) rfl (HC.mono H ?_))
      rintro _ h5 ⟨r_1, r_n, r_c, rfl, H⟩
      refine hl_val rfl rfl (v := (.int .u64 last)) (hv_move rfl) ?_
      obtain ⟨r0_b, r0_o, hqe, Hq⟩ := H
      subst hqe
      have H := Hq; clear Hq
      refine hl_val rfl rfl (v := (ptr r0_b r0_o)) (hv_nil rfl) ?_
      refine hl_val rfl rfl (v := (ptr r0_b r0_o)) (hv_field TyQE.fld67_0 (b := r0_b) (o := r0_o) rfl) ?_
      obtain ⟨hw14, H⟩ := H
      refine hl_step rfl rfl (hn_store (v := (.slice r_1 r_n r_c)) rfl rfl TyQE.sz28 rfl hw14 ?_)
      intro h6 eh13
      replace H := H h6 eh13
      refine hl_val rfl rfl (v := (ptr r0_b r0_o)) (hv_nil rfl) ?_
      refine hl_val rfl rfl (v := (ptr r0_b (r0_o + 2))) (hv_field TyQE.fld67_2 (b := r0_b) (o := r0_o) rfl) ?_
      obtain ⟨hw16, H⟩ := H
      refine hl_step rfl rfl (hn_store (v := (.int .u64 last)) rfl rfl TyQE.sz29 rfl hw16 ?_)
      intro h7 eh15
      replace H := H h7 eh15
      refine hl_nil ?_
      refine seqQ_n ?_
      refine hx_seq ?_
      refine hx_region ?_
      refine hl_val rfl rfl (v := (ptr r0_b r0_o)) (hv_move rfl) ?_
      refine hl_val rfl rfl (v := (ptr r0_b r0_o)) (hv_move rfl) ?_
      refine hl_val rfl rfl (v := (ptr r0_b r0_o)) (hv_nil rfl) ?_
      refine hl_val rfl rfl (v := (ptr r0_b (r0_o + 1))) (hv_field TyQE.fld67_1 (b := r0_b) (o := r0_o) rfl) ?_
      obtain ⟨x_3, x_n_3, x_c_3, hc17, H⟩ := H
      refine hl_val rfl rfl (v := (.slice x_3 x_n_3 x_c_3)) (hv_load TyQE.agg50 rfl hc17) ?_
      refine hl_val rfl rfl (v := (.func (.func 52) #[] #[(ptr l_1 0)])) (hv_makeFunc (fv := []) (cv := [(ptr l_1 0)]) rfl rfl) ?_
      refine hl_step rfl rfl (hs_call TyQE.cb51 (vs := [(.slice x_3 x_n_3 x_c_3), (.func (.func 52) #[] #[(ptr l_1 0)])]) rfl (HC.mono H ?_))
      rintro _ h8 ⟨r_2, r_n_1, r_c_1, rfl, H⟩
      refine hl_val rfl rfl (v := (ptr r0_b r0_o)) (hv_nil rfl) ?_
      refine hl_val rfl rfl (v := (ptr r0_b (r0_o + 1))) (hv_field TyQE.fld67_1 (b := r0_b) (o := r0_o) rfl) ?_
      obtain ⟨hw19, H⟩ := H
      refine hl_step rfl rfl (hn_store (v := (.slice r_2 r_n_1 r_c_1)) rfl rfl TyQE.sz50 rfl hw19 ?_)
      intro h9 eh18
      replace H := H h9 eh18
      refine hl_nil ?_
      refine seqQ_n ?_
      refine hx_seq ?_
      refine hx_region ?_
      refine hl_val rfl rfl (v := (ptr r0_b r0_o)) (hv_move rfl) ?_
      refine hl_val rfl rfl (v := (ptr r0_b r0_o)) (hv_assign rfl) ?_
      refine hl_val rfl rfl (v := (.int .i64 0)) (hv_assign rfl) ?_
      refine hl_nil ?_
      refine seqQ_n ?_
      refine hx_ret ?_
      exact endQ_ret _ (res_two Try.results29 (rv_tmp rfl) (rv_tmp rfl)) H

/-- cellar/cellarref09.Load -/
theorem f30_sh (l : Option Addr) (l_n : Nat) (l_c : Nat) (last : Int) (h : Heap) (R : Value → Heap → Prop)
    (H : ((((decide ((l_n : Int) < 2)) || ((decide ((l_n : Int) > 256)) || (decide (last > 9223372036854775807)))) = true → R (.tuple #[(.pointer none), (.int .i64 1)]) h) ∧ (((decide ((l_n : Int) < 2)) || ((decide ((l_n : Int) > 256)) || (decide (last > 9223372036854775807)))) = false → HC Try.prog 38 #[(.int .i64 (l_n : Int))] h (fun vv h1 => ∃ r : Option Addr, vv = (.pointer r) ∧ (∃ (I6 : Int → Heap → Prop) (mu7 : Int → Heap → Nat), I6 0 h1 ∧ (∀ (i : Int) (h2 : Heap), I6 i h2 → (((decide (i < (l_n : Int))) = true → (∃ l_b l_o : Nat, l = some ⟨l_b, l_o, none⟩ ∧ (0 : Int) ≤ i ∧ i < (l_n : Int) ∧ (∃ x_State x_Sequence x_Pins x_Erases : Int, hcell h2 l_b (l_o + (Int.toNat i) * 4) = some (.int .i64 x_State) ∧ hcell h2 l_b ((l_o + (Int.toNat i) * 4) + 1) = some (.int .u64 x_Sequence) ∧ hcell h2 l_b ((l_o + (Int.toNat i) * 4) + 2) = some (.int .i64 x_Pins) ∧ hcell h2 l_b ((l_o + (Int.toNat i) * 4) + 3) = some (.int .i64 x_Erases) ∧ (((bif !(x_State == 1) then (!(x_State == 3)) || ((x_Pins != 0) || ((decide (x_Erases < 0)) || ((decide (x_Erases > 2147483647)) || (bif x_State == 1 then (x_Sequence != 0) || ((x_State == 3) && ((x_Sequence == 0) || (decide (x_Sequence > last)))) else (x_State == 3) && ((x_Sequence == 0) || (decide (x_Sequence > last))))))) else (x_Pins != 0) || ((decide (x_Erases < 0)) || ((decide (x_Erases > 2147483647)) || (bif x_State == 1 then (x_Sequence != 0) || ((x_State == 3) && ((x_Sequence == 0) || (decide (x_Sequence > last)))) else (x_State == 3) && ((x_Sequence == 0) || (decide (x_Sequence > last))))))) = true → (∀ (h4 : Heap), Ext h2 h4 → R (.tuple #[(.pointer none), (.int .i64 1)]) h4)) ∧ ((bif !(x_State == 1) then (!(x_State == 3)) || ((x_Pins != 0) || ((decide (x_Erases < 0)) || ((decide (x_Erases > 2147483647)) || (bif x_State == 1 then (x_Sequence != 0) || ((x_State == 3) && ((x_Sequence == 0) || (decide (x_Sequence > last)))) else (x_State == 3) && ((x_Sequence == 0) || (decide (x_Sequence > last))))))) else (x_Pins != 0) || ((decide (x_Erases < 0)) || ((decide (x_Erases > 2147483647)) || (bif x_State == 1 then (x_Sequence != 0) || ((x_State == 3) && ((x_Sequence == 0) || (decide (x_Sequence > last)))) else (x_State == 3) && ((x_Sequence == 0) || (decide (x_Sequence > last))))))) = false → (∃ (I48 : Int → Prop) (mu49 : Int → Nat), I48 0 ∧ (∀ (k : Int), I48 k → (((decide (k < i)) = true → (∃ j_2 : Bool, (((x_State == 3) = true → ((0 : Int) ≤ k ∧ k < (l_n : Int) ∧ (∃ x_1 : Int, hcell h2 l_b ((l_o + (Int.toNat k) * 4) + 1) = some (.int .u64 x_1) ∧ (j_2 = (x_1 == x_Sequence))))) ∧ ((x_State == 3) = false → (j_2 = false))) ∧ ((j_2 = true → (∀ (h4 : Heap), Ext h2 h4 → R (.tuple #[(.pointer none), (.int .i64 1)]) h4)) ∧ (j_2 = false → (I48 (IntKind.i64.wrap (k + 1)) ∧ mu49 (IntKind.i64.wrap (k + 1)) < mu49 k))))) ∧ ((decide (k < i)) = false → (∃ A64 : Heap → Prop, (((x_State == 1) = true → (∃ r_b r_o : Nat, r = some ⟨r_b, r_o, none⟩ ∧ (∃ x_1 : Option Addr, ∃ x_n x_c : Nat, hcell h2 r_b (r_o + 1) = some (.slice x_1 x_n x_c) ∧ (∀ (x : Nat) (h4 : Heap), Array.size h2 ≤ x → x < Array.size h4 → Ext h2 h4 → (∀ nb h6, nb = Array.size h4 → h6 = Array.push h4 (.cells #[(.int .i64 i)] 3) → HAppend Try.prog 50 50 (.slice x_1 x_n x_c) (.slice (some ⟨nb, 0, none⟩) 1 1) h6 (fun vv h7 => Kp [x] h6 h7 ∧ ∃ ap : Option Addr, ∃ ap_n ap_c : Nat, vv = (.slice ap ap_n ap_c) ∧ (HW h7 r_b (r_o + 1) ∧ Off r_b [x] ∧ ∀ h8, h8 = hset h7 r_b (r_o + 1) (.slice ap ap_n ap_c) → (A64 h8)))))))) ∧ ((x_State == 1) = false → (∀ (h4 : Heap), Ext h2 h4 → (A64 h4)))) ∧ (∀ (h5 : Heap), A64 h5 → ∀ (x : Nat), Array.size h2 ≤ x → x < Array.size h5 → (∃ r_b_1 r_o_1 : Nat, r = some ⟨r_b_1, r_o_1, none⟩ ∧ (∃ x_2 : Option Addr, ∃ x_n_1 x_c_1 : Nat, hcell h5 r_b_1 r_o_1 = some (.slice x_2 x_n_1 x_c_1) ∧ (∃ x_2_b x_2_o : Nat, x_2 = some ⟨x_2_b, x_2_o, none⟩ ∧ (0 : Int) ≤ i ∧ i < (x_n_1 : Int) ∧ (HWs h5 x_2_b (x_2_o + (Int.toNat i) * 4) 4 ∧ ∀ h9, h9 = hsets h5 x_2_b (x_2_o + (Int.toNat i) * 4) [(.int .i64 x_State), (.int .u64 x_Sequence), (.int .i64 x_Pins), (.int .i64 x_Erases)] → (I6 (IntKind.i64.wrap (i + 1)) h9 ∧ mu7 (IntKind.i64.wrap (i + 1)) h9 < mu7 i h2)))))))))))))))) ∧ ((decide (i < (l_n : Int))) = false → (∃ r_b r_o : Nat, r = some ⟨r_b, r_o, none⟩ ∧ (HW h2 r_b (r_o + 2) ∧ ∀ h10, h10 = hset h2 r_b (r_o + 2) (.int .u64 last) → R (.tuple #[(ptr r_b r_o), (.int .i64 0)]) h10)))))))))) :
    HC Try.prog 30 #[(.slice l l_n l_c), (.int .u64 last)] h R := by
  refine hc_of (args := [(.slice l l_n l_c), (.int .u64 last)]) Try.func30 rfl Try.ntmps30 (Nat.le_of_ble_eq_true rfl) ?_
  refine hx_seq ?_
  refine hx_region ?_
  refine hl_val rfl rfl (v := (.pointer none)) (hv_assign rfl) ?_
  refine hl_val rfl rfl (v := (.int .i64 0)) (hv_assign rfl) ?_
  refine hl_nil ?_
  refine seqQ_n ?_
  refine hx_seq ?_
  refine hx_cut (fun ρ h' => h = h' ∧ Has ρ [(0, (.slice l l_n l_c)), (1, (.int .u64 last)), (23, (.bool ((decide ((l_n : Int) < 2)) || ((decide ((l_n : Int) > 256)) || (decide (last > 9223372036854775807))))))]) ?_ ?_
  · refine hx_region ?_
    refine hl_val rfl rfl (v := (.slice l l_n l_c)) (hv_move rfl) ?_
    refine hl_val rfl rfl (v := (.int .i64 (l_n : Int))) (hv_len (n := l_n) TyQE.u28 rfl) ?_
    refine hl_val rfl rfl (v := (.bool (decide ((l_n : Int) < 2)))) (hv_arith rfl rfl rfl) ?_
    refine hl_val rfl rfl (v := (.bool (decide ((l_n : Int) < 2)))) (hv_move rfl) ?_
    rcases bool_or (decide ((l_n : Int) < 2)) with hg3 | hg3
    · refine hl_no (wanted_n rfl rfl rfl hg3) rfl ?_
      refine hl_no (wanted_n rfl rfl rfl hg3) rfl ?_
      refine hl_no (wanted_n rfl rfl rfl hg3) rfl ?_
      refine hl_val rfl rfl (v := (.bool true)) (hv_pick_t rfl hg3 rfl) ?_
      refine hl_val rfl rfl (v := (.bool true)) (hv_move rfl) ?_
      refine hl_no (wanted_n rfl rfl (c := true) rfl rfl) rfl ?_
      refine hl_no (wanted_n rfl rfl (c := true) rfl rfl) rfl ?_
      refine hl_val rfl rfl (v := (.bool true)) (hv_pick (t := true) rfl rfl) ?_
      refine hl_nil ?_
      refine seqQ_n ?_
      exact ⟨rfl, (has_cons rfl (has_cons rfl (has_cons (show ((.bool true) : Value) = (.bool ((decide ((l_n : Int) < 2)) || ((decide ((l_n : Int) > 256)) || (decide (last > 9223372036854775807))))) from (by first | rfl | ((try rw [hg3]); all_goals first | rfl | (simp only [Bool.true_or, Bool.or_true, Bool.false_or, Bool.or_false, Bool.true_and, Bool.and_true, Bool.false_and, Bool.and_false, Bool.not_true, Bool.not_false, Bool.cond_true, Bool.cond_false]; done)) | simp [hg3])) has_nil)))⟩
    · refine hl_yes (wanted_y rfl rfl rfl hg3) rfl (HStep.of_val (v := (.slice l l_n l_c)) (hv_move rfl) ?_)
      refine hl_yes (wanted_y rfl rfl rfl hg3) rfl (HStep.of_val (v := (.int .i64 (l_n : Int))) (hv_len (n := l_n) TyQE.u28 rfl) ?_)
      refine hl_yes (wanted_y rfl rfl rfl hg3) rfl (HStep.of_val (v := (.bool (decide ((l_n : Int) > 256)))) (hv_arith rfl rfl rfl) ?_)
      refine hl_val rfl rfl (v := (.bool (decide ((l_n : Int) > 256)))) (hv_pick_f rfl hg3 rfl) ?_
      refine hl_val rfl rfl (v := (.bool (decide ((l_n : Int) > 256)))) (hv_move rfl) ?_
      rcases bool_or (decide ((l_n : Int) > 256)) with hg4 | hg4
      · refine hl_no (wanted_n rfl rfl rfl hg4) rfl ?_
        refine hl_no (wanted_n rfl rfl rfl hg4) rfl ?_
        refine hl_val rfl rfl (v := (.bool true)) (hv_pick_t rfl hg4 rfl) ?_
        refine hl_nil ?_
        refine seqQ_n ?_
        exact ⟨rfl, (has_cons rfl (has_cons rfl (has_cons (show ((.bool true) : Value) = (.bool ((decide ((l_n : Int) < 2)) || ((decide ((l_n : Int) > 256)) || (decide (last > 9223372036854775807))))) from (by first | rfl | ((try rw [hg3]); (try rw [hg4]); all_goals first | rfl | (simp only [Bool.true_or, Bool.or_true, Bool.false_or, Bool.or_false, Bool.true_and, Bool.and_true, Bool.false_and, Bool.and_false, Bool.not_true, Bool.not_false, Bool.cond_true, Bool.cond_false]; done)) | simp [hg3, hg4])) has_nil)))⟩
      · refine hl_yes (wanted_y rfl rfl rfl hg4) rfl (HStep.of_val (v := (.int .u64 last)) (hv_move rfl) ?_)
        refine hl_yes (wanted_y rfl rfl rfl hg4) rfl (HStep.of_val (v := (.bool (decide (last > 9223372036854775807)))) (hv_arith rfl rfl rfl) ?_)
        refine hl_val rfl rfl (v := (.bool (decide (last > 9223372036854775807)))) (hv_pick_f rfl hg4 rfl) ?_
        refine hl_nil ?_
        refine seqQ_n ?_
        exact ⟨rfl, (has_cons rfl (has_cons rfl (has_cons (show ((.bool (decide (last > 9223372036854775807))) : Value) = (.bool ((decide ((l_n : Int) < 2)) || ((decide ((l_n : Int) > 256)) || (decide (last > 9223372036854775807))))) from (by first | rfl | ((try rw [hg3]); (try rw [hg4]); all_goals first | rfl | (simp only [Bool.true_or, Bool.or_true, Bool.false_or, Bool.or_false, Bool.true_and, Bool.and_true, Bool.false_and, Bool.and_false, Bool.not_true, Bool.not_false, Bool.cond_true, Bool.cond_false]; done)) | simp [hg3, hg4])) has_nil)))⟩
  · rintro ρ _ ⟨rfl, hH⟩
    refine hx_has _ hH ?_
    refine hx_cond (b := ((decide ((l_n : Int) < 2)) || ((decide ((l_n : Int) > 256)) || (decide (last > 9223372036854775807))))) rfl (fun hb5 => ?_) (fun hb5 => ?_)
    · replace H := H.1 hb5
      refine hx_seq ?_
      refine hx_region ?_
      refine hl_val rfl rfl (v := (.pointer none)) (hv_assign rfl) ?_
      refine hl_val rfl rfl (v := (.int .i64 1)) (hv_assign rfl) ?_
      refine hl_nil ?_
      refine seqQ_n ?_
      refine hx_ret ?_
      refine seqQ_ret ?_
      exact endQ_ret _ (res_two Try.results30 (rv_tmp rfl) (rv_tmp rfl)) H
    · replace H := H.2 hb5
      refine hx_skip ?_
      refine seqQ_n ?_
      refine hx_seq ?_
      refine hx_region ?_
      refine hl_val rfl rfl (v := (.slice l l_n l_c)) (hv_move rfl) ?_
      refine hl_val rfl rfl (v := (.int .i64 (l_n : Int))) (hv_len (n := l_n) TyQE.u28 rfl) ?_
      refine hl_step rfl rfl (hs_call TyQE.cb38 (vs := [(.int .i64 (l_n : Int))]) rfl (HC.mono H ?_))
      rintro _ h1 ⟨r, rfl, H⟩
      refine hl_val rfl rfl (v := (.pointer r)) (hv_assign rfl) ?_
      refine hl_nil ?_
      refine seqQ_n ?_
      refine hx_seq ?_
      refine hx_seq ?_
      refine hx_region ?_
      refine hl_val rfl rfl (v := (.int .i64 0)) (hv_assign rfl) ?_
      refine hl_nil ?_
      refine seqQ_n ?_
      refine hx_block ?_
      obtain ⟨I6, mu7, Ha8, Hr9⟩ := H
      refine hx_loopT (σ := Int) (fun s => [(0, (.slice l l_n l_c)), (1, (.int .u64 last)), (6, (.pointer r)), (7, (.int .i64 s))]) (fun s h' => I6 s h' ∧ True) (fun s h' => mu7 s h') 0 ⟨Ha8, trivial⟩ (has_cons rfl (has_cons rfl (has_cons rfl (has_cons rfl has_nil)))) ?_
      rintro i ρ h2 ⟨Hi10, -⟩
      have H := Hr9 i h2 Hi10
      refine hx_seq ?_
      refine hx_seq ?_
      refine hx_region ?_
      refine hl_val rfl rfl (v := (.int .i64 i)) (hv_move rfl) ?_
      refine hl_val rfl rfl (v := (.slice l l_n l_c)) (hv_move rfl) ?_
      refine hl_val rfl rfl (v := (.int .i64 (l_n : Int))) (hv_len (n := l_n) TyQE.u28 rfl) ?_
      refine hl_val rfl rfl (v := (.bool (decide (i < (l_n : Int))))) (hv_arith rfl rfl rfl) ?_
      refine hl_nil ?_
      refine seqQ_n ?_
      refine hx_cond (b := decide (i < (l_n : Int))) rfl (fun hb11 => ?_) (fun hb11 => ?_)
      · replace H := H.1 hb11
        refine hx_skip ?_
        refine seqQ_n ?_
        refine hx_seq ?_
        refine hx_block ?_
        refine hx_seq ?_
        refine hx_region ?_
        refine hl_val rfl rfl (v := (.slice l l_n l_c)) (hv_move rfl) ?_
        refine hl_val rfl rfl (v := (.int .i64 i)) (hv_move rfl) ?_
        obtain ⟨l_b, l_o, hqe, hi12, hi13, Hq⟩ := H
        subst hqe
        have H := Hq; clear Hq
        refine hl_val rfl rfl (v := (ptr l_b (l_o + (Int.toNat i) * 4))) (hv_index TyQE.el28 rfl rfl hi12 hi13) ?_
        obtain ⟨x_State, x_Sequence, x_Pins, x_Erases, hc14, hc15, hc16, hc17, H⟩ := H
        refine hl_val rfl rfl (v := (.agg #[(.int .i64 x_State), (.int .u64 x_Sequence), (.int .i64 x_Pins), (.int .i64 x_Erases)])) (hv_loads (vs := [(.int .i64 x_State), (.int .u64 x_Sequence), (.int .i64 x_Pins), (.int .i64 x_Erases)]) TyQE.agg31 TyQE.sz31 rfl (hcells_cons hc14 (hcells_cons hc15 (hcells_cons hc16 (hcells_cons hc17 hcells_nil))))) ?_
        refine hl_step rfl rfl (hn_alloc TyQE.z31 ?_)
        intro x h3 eb18 eh19
        have xx20 : Ext h2 h3 := by rw [eh19]; exact Ext.push _ _
        have lo22 : Array.size h2 ≤ x := Nat.le_of_eq (Eq.symm eb18)
        have hr21 : h3[x]? = some (.cells #[(.int .i64 0), (.int .u64 0), (.int .i64 0), (.int .i64 0)] 31 (0, 0)) := by rw [eh19]; exact push_new eb18
        refine hl_step rfl rfl (hn_stores (vs := [(.int .i64 x_State), (.int .u64 x_Sequence), (.int .i64 x_Pins), (.int .i64 x_Erases)]) rfl rfl TyQE.sz31 rfl (HWs_row hr21 (by simp)) ?_)
        intro h4 eh23
        have hr21' : h4[x]? = some (.cells #[(.int .i64 x_State), (.int .u64 x_Sequence), (.int .i64 x_Pins), (.int .i64 x_Erases)] 31 (0, 0)) := row_hsets_eq eh23 hr21 rfl
        have xv24 := ext_hsets eh23 xx20 lo22
        refine hl_nil ?_
        refine seqQ_n ?_
        refine hx_seq ?_
        refine hx_draw TyQE.mixed [.pure, .read, .pure, .pure, .read, .pure, .pure, .pure] [0, 1, 2, 3, 4, 5, 6, 7] (by kernel_rfl) ?_
        refine hp_pure (i := 0) rfl (wanted_0 rfl) rfl (ptr x 0) (fun _ => hv_field TyQE.fld31_0 (b := x) (o := 0) rfl) ?_
        refine hp_read (i := 1) rfl (wanted_0 rfl) rfl (.int .i64 x_State) (fun _ he => hv_load TyQE.agg3 rfl (Ext.cell he (rowcell hr21' rfl))) ?_
        refine hp_pure (i := 2) rfl (wanted_0 rfl) rfl (.bool (x_State == 1)) (fun _ => hv_arith rfl rfl rfl) ?_
        refine hp_pure (i := 3) rfl (wanted_0 rfl) rfl (ptr x 0) (fun _ => hv_field TyQE.fld31_0 (b := x) (o := 0) rfl) ?_
        refine hp_read (i := 4) rfl (wanted_0 rfl) rfl (.int .i64 x_State) (fun _ he => hv_load TyQE.agg3 rfl (Ext.cell he (rowcell hr21' rfl))) ?_
        refine hp_pure (i := 5) rfl (wanted_0 rfl) rfl (.bool (x_State == 3)) (fun _ => hv_arith rfl rfl rfl) ?_
        refine hp_pure (i := 6) rfl (wanted_0 rfl) rfl (.bool (x_State == 1)) (fun _ => hv_assign rfl) ?_
        refine hp_pure (i := 7) rfl (wanted_0 rfl) rfl (.bool (x_State == 3)) (fun _ => hv_assign rfl) ?_
        refine hp_nil ?_
        refine seqQ_n ?_
        refine hx_seq ?_
        refine hx_cut (fun ρ h' => h4 = h' ∧ Has ρ [(0, (.slice (some ⟨l_b, l_o, none⟩) l_n l_c)), (1, (.int .u64 last)), (6, (.pointer r)), (7, (.int .i64 i)), (8, (ptr x 0)), (9, (.bool (x_State == 1))), (10, (.bool (x_State == 3))), (85, (.bool (bif !(x_State == 1) then (!(x_State == 3)) || ((x_Pins != 0) || ((decide (x_Erases < 0)) || ((decide (x_Erases > 2147483647)) || (bif x_State == 1 then (x_Sequence != 0) || ((x_State == 3) && ((x_Sequence == 0) || (decide (x_Sequence > last)))) else (x_State == 3) && ((x_Sequence == 0) || (decide (x_Sequence > last))))))) else (x_Pins != 0) || ((decide (x_Erases < 0)) || ((decide (x_Erases > 2147483647)) || (bif x_State == 1 then (x_Sequence != 0) || ((x_State == 3) && ((x_Sequence == 0) || (decide (x_Sequence > last)))) else (x_State == 3) && ((x_Sequence == 0) || (decide (x_Sequence > last)))))))))]) ?_ ?_
        · refine hx_region ?_
          refine hl_val rfl rfl (v := (.bool (x_State == 1))) (hv_move rfl) ?_
          refine hl_val rfl rfl (v := (.bool (!(x_State == 1)))) (hv_not (b := x_State == 1) rfl) ?_
          refine hl_val rfl rfl (v := (.bool (!(x_State == 1)))) (hv_move rfl) ?_
          rcases bool_or (!(x_State == 1)) with hg27 | hg27
          · refine hl_yes (wanted_y rfl rfl rfl hg27) rfl (HStep.of_val (v := (.bool (x_State == 3))) (hv_move rfl) ?_)
            refine hl_yes (wanted_y rfl rfl rfl hg27) rfl (HStep.of_val (v := (.bool (!(x_State == 3)))) (hv_not (b := x_State == 3) rfl) ?_)
            refine hl_val rfl rfl (v := (.bool (!(x_State == 3)))) (hv_pick_t rfl hg27 rfl) ?_
            refine hl_val rfl rfl (v := (.bool (!(x_State == 3)))) (hv_move rfl) ?_
            rcases bool_or (!(x_State == 3)) with hg28 | hg28
            · refine hl_no (wanted_n rfl rfl rfl hg28) rfl ?_
              refine hl_no (wanted_n rfl rfl rfl hg28) rfl ?_
              refine hl_no (wanted_n rfl rfl rfl hg28) rfl ?_
              refine hl_val rfl rfl (v := (.bool true)) (hv_pick_t rfl hg28 rfl) ?_
              refine hl_val rfl rfl (v := (.bool true)) (hv_move rfl) ?_
              refine hl_no (wanted_n rfl rfl (c := true) rfl rfl) rfl ?_
              refine hl_no (wanted_n rfl rfl (c := true) rfl rfl) rfl ?_
              refine hl_no (wanted_n rfl rfl (c := true) rfl rfl) rfl ?_
              refine hl_val rfl rfl (v := (.bool true)) (hv_pick (t := true) rfl rfl) ?_
              refine hl_val rfl rfl (v := (.bool true)) (hv_move rfl) ?_
              refine hl_no (wanted_n rfl rfl (c := true) rfl rfl) rfl ?_
              refine hl_no (wanted_n rfl rfl (c := true) rfl rfl) rfl ?_
              refine hl_no (wanted_n rfl rfl (c := true) rfl rfl) rfl ?_
              refine hl_val rfl rfl (v := (.bool true)) (hv_pick (t := true) rfl rfl) ?_
              refine hl_val rfl rfl (v := (.bool true)) (hv_move rfl) ?_
              refine hl_no (wanted_n rfl rfl (c := true) rfl rfl) rfl ?_
              refine hl_no (wanted_n rfl rfl (c := true) rfl rfl) rfl ?_
              refine hl_no (wanted_u rfl rfl rfl) rfl ?_
              refine hl_no (wanted_u rfl rfl rfl) rfl ?_
              refine hl_no (wanted_u rfl rfl rfl) rfl ?_
              refine hl_no (wanted_n rfl rfl (c := true) rfl rfl) rfl ?_
              refine hl_val rfl rfl (v := (.bool true)) (hv_pick (t := true) rfl rfl) ?_
              refine hl_val rfl rfl (v := (.bool true)) (hv_move rfl) ?_
              refine hl_no (wanted_n rfl rfl (c := true) rfl rfl) rfl ?_
              refine hl_no (wanted_n rfl rfl (c := true) rfl rfl) rfl ?_
              refine hl_no (wanted_u rfl rfl rfl) rfl ?_
              refine hl_no (wanted_u rfl rfl rfl) rfl ?_
              refine hl_no (wanted_u rfl rfl rfl) rfl ?_
              refine hl_no (wanted_u rfl rfl rfl) rfl ?_
              refine hl_no (wanted_u rfl rfl rfl) rfl ?_
              refine hl_no (wanted_u rfl rfl rfl) rfl ?_
              refine hl_no (wanted_u rfl rfl rfl) rfl ?_
              refine hl_no (wanted_u rfl rfl rfl) rfl ?_
              refine hl_no (wanted_u rfl rfl rfl) rfl ?_
              refine hl_no (wanted_n rfl rfl (c := true) rfl rfl) rfl ?_
              refine hl_val rfl rfl (v := (.bool true)) (hv_pick (t := true) rfl rfl) ?_
              refine hl_nil ?_
              refine seqQ_n ?_
              exact ⟨rfl, (has_cons rfl (has_cons rfl (has_cons rfl (has_cons rfl (has_cons rfl (has_cons rfl (has_cons rfl (has_cons (show ((.bool true) : Value) = (.bool (bif !(x_State == 1) then (!(x_State == 3)) || ((x_Pins != 0) || ((decide (x_Erases < 0)) || ((decide (x_Erases > 2147483647)) || (bif x_State == 1 then (x_Sequence != 0) || ((x_State == 3) && ((x_Sequence == 0) || (decide (x_Sequence > last)))) else (x_State == 3) && ((x_Sequence == 0) || (decide (x_Sequence > last))))))) else (x_Pins != 0) || ((decide (x_Erases < 0)) || ((decide (x_Erases > 2147483647)) || (bif x_State == 1 then (x_Sequence != 0) || ((x_State == 3) && ((x_Sequence == 0) || (decide (x_Sequence > last)))) else (x_State == 3) && ((x_Sequence == 0) || (decide (x_Sequence > last)))))))) from (by first | rfl | ((try rw [hg27]); (try rw [hg28]); all_goals first | rfl | (simp only [Bool.true_or, Bool.or_true, Bool.false_or, Bool.or_false, Bool.true_and, Bool.and_true, Bool.false_and, Bool.and_false, Bool.not_true, Bool.not_false, Bool.cond_true, Bool.cond_false]; done)) | simp [hg27, hg28])) has_nil))))))))⟩
            · refine hl_yes (wanted_y rfl rfl rfl hg28) rfl (HStep.of_val (v := (ptr x 2)) (hv_field TyQE.fld31_2 (b := x) (o := 0) rfl) ?_)
              refine hl_yes (wanted_y rfl rfl rfl hg28) rfl (HStep.of_val (v := (.int .i64 x_Pins)) (hv_load TyQE.agg3 rfl (rowcell hr21' rfl)) ?_)
              refine hl_yes (wanted_y rfl rfl rfl hg28) rfl (HStep.of_val (v := (.bool (x_Pins != 0))) (hv_arith rfl rfl rfl) ?_)
              refine hl_val rfl rfl (v := (.bool (x_Pins != 0))) (hv_pick_f rfl hg28 rfl) ?_
              refine hl_val rfl rfl (v := (.bool (x_Pins != 0))) (hv_move rfl) ?_
              rcases bool_or (x_Pins != 0) with hg29 | hg29
              · refine hl_no (wanted_n rfl rfl rfl hg29) rfl ?_
                refine hl_no (wanted_n rfl rfl rfl hg29) rfl ?_
                refine hl_no (wanted_n rfl rfl rfl hg29) rfl ?_
                refine hl_val rfl rfl (v := (.bool true)) (hv_pick_t rfl hg29 rfl) ?_
                refine hl_val rfl rfl (v := (.bool true)) (hv_move rfl) ?_
                refine hl_no (wanted_n rfl rfl (c := true) rfl rfl) rfl ?_
                refine hl_no (wanted_n rfl rfl (c := true) rfl rfl) rfl ?_
                refine hl_no (wanted_n rfl rfl (c := true) rfl rfl) rfl ?_
                refine hl_val rfl rfl (v := (.bool true)) (hv_pick (t := true) rfl rfl) ?_
                refine hl_val rfl rfl (v := (.bool true)) (hv_move rfl) ?_
                refine hl_no (wanted_n rfl rfl (c := true) rfl rfl) rfl ?_
                refine hl_no (wanted_n rfl rfl (c := true) rfl rfl) rfl ?_
                refine hl_no (wanted_u rfl rfl rfl) rfl ?_
                refine hl_no (wanted_u rfl rfl rfl) rfl ?_
                refine hl_no (wanted_u rfl rfl rfl) rfl ?_
                refine hl_no (wanted_n rfl rfl (c := true) rfl rfl) rfl ?_
                refine hl_val rfl rfl (v := (.bool true)) (hv_pick (t := true) rfl rfl) ?_
                refine hl_val rfl rfl (v := (.bool true)) (hv_move rfl) ?_
                refine hl_no (wanted_n rfl rfl (c := true) rfl rfl) rfl ?_
                refine hl_no (wanted_n rfl rfl (c := true) rfl rfl) rfl ?_
                refine hl_no (wanted_u rfl rfl rfl) rfl ?_
                refine hl_no (wanted_u rfl rfl rfl) rfl ?_
                refine hl_no (wanted_u rfl rfl rfl) rfl ?_
                refine hl_no (wanted_u rfl rfl rfl) rfl ?_
                refine hl_no (wanted_u rfl rfl rfl) rfl ?_
                refine hl_no (wanted_u rfl rfl rfl) rfl ?_
                refine hl_no (wanted_u rfl rfl rfl) rfl ?_
                refine hl_no (wanted_u rfl rfl rfl) rfl ?_
                refine hl_no (wanted_u rfl rfl rfl) rfl ?_
                refine hl_no (wanted_n rfl rfl (c := true) rfl rfl) rfl ?_
                refine hl_val rfl rfl (v := (.bool true)) (hv_pick (t := true) rfl rfl) ?_
                refine hl_nil ?_
                refine seqQ_n ?_
                exact ⟨rfl, (has_cons rfl (has_cons rfl (has_cons rfl (has_cons rfl (has_cons rfl (has_cons rfl (has_cons rfl (has_cons (show ((.bool true) : Value) = (.bool (bif !(x_State == 1) then (!(x_State == 3)) || ((x_Pins != 0) || ((decide (x_Erases < 0)) || ((decide (x_Erases > 2147483647)) || (bif x_State == 1 then (x_Sequence != 0) || ((x_State == 3) && ((x_Sequence == 0) || (decide (x_Sequence > last)))) else (x_State == 3) && ((x_Sequence == 0) || (decide (x_Sequence > last))))))) else (x_Pins != 0) || ((decide (x_Erases < 0)) || ((decide (x_Erases > 2147483647)) || (bif x_State == 1 then (x_Sequence != 0) || ((x_State == 3) && ((x_Sequence == 0) || (decide (x_Sequence > last)))) else (x_State == 3) && ((x_Sequence == 0) || (decide (x_Sequence > last)))))))) from (by first | rfl | ((try rw [hg27]); (try rw [hg28]); (try rw [hg29]); all_goals first | rfl | (simp only [Bool.true_or, Bool.or_true, Bool.false_or, Bool.or_false, Bool.true_and, Bool.and_true, Bool.false_and, Bool.and_false, Bool.not_true, Bool.not_false, Bool.cond_true, Bool.cond_false]; done)) | simp [hg27, hg28, hg29])) has_nil))))))))⟩
              · refine hl_yes (wanted_y rfl rfl rfl hg29) rfl (HStep.of_val (v := (ptr x 3)) (hv_field TyQE.fld31_3 (b := x) (o := 0) rfl) ?_)
                refine hl_yes (wanted_y rfl rfl rfl hg29) rfl (HStep.of_val (v := (.int .i64 x_Erases)) (hv_load TyQE.agg3 rfl (rowcell hr21' rfl)) ?_)
                refine hl_yes (wanted_y rfl rfl rfl hg29) rfl (HStep.of_val (v := (.bool (decide (x_Erases < 0)))) (hv_arith rfl rfl rfl) ?_)
                refine hl_val rfl rfl (v := (.bool (decide (x_Erases < 0)))) (hv_pick_f rfl hg29 rfl) ?_
                refine hl_val rfl rfl (v := (.bool (decide (x_Erases < 0)))) (hv_move rfl) ?_
                rcases bool_or (decide (x_Erases < 0)) with hg30 | hg30
                · refine hl_no (wanted_n rfl rfl rfl hg30) rfl ?_
                  refine hl_no (wanted_n rfl rfl rfl hg30) rfl ?_
                  refine hl_no (wanted_n rfl rfl rfl hg30) rfl ?_
                  refine hl_val rfl rfl (v := (.bool true)) (hv_pick_t rfl hg30 rfl) ?_
                  refine hl_val rfl rfl (v := (.bool true)) (hv_move rfl) ?_
                  refine hl_no (wanted_n rfl rfl (c := true) rfl rfl) rfl ?_
                  refine hl_no (wanted_n rfl rfl (c := true) rfl rfl) rfl ?_
                  refine hl_no (wanted_u rfl rfl rfl) rfl ?_
                  refine hl_no (wanted_u rfl rfl rfl) rfl ?_
                  refine hl_no (wanted_u rfl rfl rfl) rfl ?_
                  refine hl_no (wanted_n rfl rfl (c := true) rfl rfl) rfl ?_
                  refine hl_val rfl rfl (v := (.bool true)) (hv_pick (t := true) rfl rfl) ?_
                  refine hl_val rfl rfl (v := (.bool true)) (hv_move rfl) ?_
                  refine hl_no (wanted_n rfl rfl (c := true) rfl rfl) rfl ?_
                  refine hl_no (wanted_n rfl rfl (c := true) rfl rfl) rfl ?_
                  refine hl_no (wanted_u rfl rfl rfl) rfl ?_
                  refine hl_no (wanted_u rfl rfl rfl) rfl ?_
                  refine hl_no (wanted_u rfl rfl rfl) rfl ?_
                  refine hl_no (wanted_u rfl rfl rfl) rfl ?_
                  refine hl_no (wanted_u rfl rfl rfl) rfl ?_
                  refine hl_no (wanted_u rfl rfl rfl) rfl ?_
                  refine hl_no (wanted_u rfl rfl rfl) rfl ?_
                  refine hl_no (wanted_u rfl rfl rfl) rfl ?_
                  refine hl_no (wanted_u rfl rfl rfl) rfl ?_
                  refine hl_no (wanted_n rfl rfl (c := true) rfl rfl) rfl ?_
                  refine hl_val rfl rfl (v := (.bool true)) (hv_pick (t := true) rfl rfl) ?_
                  refine hl_nil ?_
                  refine seqQ_n ?_
                  exact ⟨rfl, (has_cons rfl (has_cons rfl (has_cons rfl (has_cons rfl (has_cons rfl (has_cons rfl (has_cons rfl (has_cons (show ((.bool true) : Value) = (.bool (bif !(x_State == 1) then (!(x_State == 3)) || ((x_Pins != 0) || ((decide (x_Erases < 0)) || ((decide (x_Erases > 2147483647)) || (bif x_State == 1 then (x_Sequence != 0) || ((x_State == 3) && ((x_Sequence == 0) || (decide (x_Sequence > last)))) else (x_State == 3) && ((x_Sequence == 0) || (decide (x_Sequence > last))))))) else (x_Pins != 0) || ((decide (x_Erases < 0)) || ((decide (x_Erases > 2147483647)) || (bif x_State == 1 then (x_Sequence != 0) || ((x_State == 3) && ((x_Sequence == 0) || (decide (x_Sequence > last)))) else (x_State == 3) && ((x_Sequence == 0) || (decide (x_Sequence > last)))))))) from (by first | rfl | ((try rw [hg27]); (try rw [hg28]); (try rw [hg29]); (try rw [hg30]); all_goals first | rfl | (simp only [Bool.true_or, Bool.or_true, Bool.false_or, Bool.or_false, Bool.true_and, Bool.and_true, Bool.false_and, Bool.and_false, Bool.not_true, Bool.not_false, Bool.cond_true, Bool.cond_false]; done)) | simp [hg27, hg28, hg29, hg30])) has_nil))))))))⟩
                · refine hl_yes (wanted_y rfl rfl rfl hg30) rfl (HStep.of_val (v := (ptr x 3)) (hv_field TyQE.fld31_3 (b := x) (o := 0) rfl) ?_)
                  refine hl_yes (wanted_y rfl rfl rfl hg30) rfl (HStep.of_val (v := (.int .i64 x_Erases)) (hv_load TyQE.agg3 rfl (rowcell hr21' rfl)) ?_)
                  refine hl_yes (wanted_y rfl rfl rfl hg30) rfl (HStep.of_val (v := (.bool (decide (x_Erases > 2147483647)))) (hv_arith rfl rfl rfl) ?_)
                  refine hl_val rfl rfl (v := (.bool (decide (x_Erases > 2147483647)))) (hv_pick_f rfl hg30 rfl) ?_
                  refine hl_val rfl rfl (v := (.bool (decide (x_Erases > 2147483647)))) (hv_move rfl) ?_
                  rcases bool_or (decide (x_Erases > 2147483647)) with hg31 | hg31
                  · refine hl_no (wanted_n rfl rfl rfl hg31) rfl ?_
                    refine hl_no (wanted_n rfl rfl rfl hg31) rfl ?_
                    refine hl_no (wanted_u rfl rfl rfl) rfl ?_
                    refine hl_no (wanted_u rfl rfl rfl) rfl ?_
                    refine hl_no (wanted_u rfl rfl rfl) rfl ?_
                    refine hl_no (wanted_n rfl rfl rfl hg31) rfl ?_
                    refine hl_val rfl rfl (v := (.bool true)) (hv_pick_t rfl hg31 rfl) ?_
                    refine hl_val rfl rfl (v := (.bool true)) (hv_move rfl) ?_
                    refine hl_no (wanted_n rfl rfl (c := true) rfl rfl) rfl ?_
                    refine hl_no (wanted_n rfl rfl (c := true) rfl rfl) rfl ?_
                    refine hl_no (wanted_u rfl rfl rfl) rfl ?_
                    refine hl_no (wanted_u rfl rfl rfl) rfl ?_
                    refine hl_no (wanted_u rfl rfl rfl) rfl ?_
                    refine hl_no (wanted_u rfl rfl rfl) rfl ?_
                    refine hl_no (wanted_u rfl rfl rfl) rfl ?_
                    refine hl_no (wanted_u rfl rfl rfl) rfl ?_
                    refine hl_no (wanted_u rfl rfl rfl) rfl ?_
                    refine hl_no (wanted_u rfl rfl rfl) rfl ?_
                    refine hl_no (wanted_u rfl rfl rfl) rfl ?_
                    refine hl_no (wanted_n rfl rfl (c := true) rfl rfl) rfl ?_
                    refine hl_val rfl rfl (v := (.bool true)) (hv_pick (t := true) rfl rfl) ?_
                    refine hl_nil ?_
                    refine seqQ_n ?_
                    exact ⟨rfl, (has_cons rfl (has_cons rfl (has_cons rfl (has_cons rfl (has_cons rfl (has_cons rfl (has_cons rfl (has_cons (show ((.bool true) : Value) = (.bool (bif !(x_State == 1) then (!(x_State == 3)) || ((x_Pins != 0) || ((decide (x_Erases < 0)) || ((decide (x_Erases > 2147483647)) || (bif x_State == 1 then (x_Sequence != 0) || ((x_State == 3) && ((x_Sequence == 0) || (decide (x_Sequence > last)))) else (x_State == 3) && ((x_Sequence == 0) || (decide (x_Sequence > last))))))) else (x_Pins != 0) || ((decide (x_Erases < 0)) || ((decide (x_Erases > 2147483647)) || (bif x_State == 1 then (x_Sequence != 0) || ((x_State == 3) && ((x_Sequence == 0) || (decide (x_Sequence > last)))) else (x_State == 3) && ((x_Sequence == 0) || (decide (x_Sequence > last)))))))) from (by first | rfl | ((try rw [hg27]); (try rw [hg28]); (try rw [hg29]); (try rw [hg30]); (try rw [hg31]); all_goals first | rfl | (simp only [Bool.true_or, Bool.or_true, Bool.false_or, Bool.or_false, Bool.true_and, Bool.and_true, Bool.false_and, Bool.and_false, Bool.not_true, Bool.not_false, Bool.cond_true, Bool.cond_false]; done)) | simp [hg27, hg28, hg29, hg30, hg31])) has_nil))))))))⟩
                  · refine hl_yes (wanted_y rfl rfl rfl hg31) rfl (HStep.of_val (v := (.bool (x_State == 1))) (hv_move rfl) ?_)
                    refine hl_yes (wanted_y rfl rfl rfl hg31) rfl (HStep.of_val (v := (.bool (x_State == 1))) (hv_move rfl) ?_)
                    rcases bool_or (x_State == 1) with hg32 | hg32
                    · refine hl_yes (wanted_y rfl rfl rfl hg32) rfl (HStep.of_val (v := (ptr x 1)) (hv_field TyQE.fld31_1 (b := x) (o := 0) rfl) ?_)
                      refine hl_yes (wanted_y rfl rfl rfl hg32) rfl (HStep.of_val (v := (.int .u64 x_Sequence)) (hv_load TyQE.agg29 rfl (rowcell hr21' rfl)) ?_)
                      refine hl_yes (wanted_y rfl rfl rfl hg32) rfl (HStep.of_val (v := (.bool (x_Sequence != 0))) (hv_arith rfl rfl rfl) ?_)
                      refine hl_yes (wanted_y rfl rfl rfl hg31) rfl (HStep.of_val (v := (.bool (x_Sequence != 0))) (hv_pick_t rfl hg32 rfl) ?_)
                      refine hl_val rfl rfl (v := (.bool (x_Sequence != 0))) (hv_pick_f rfl hg31 rfl) ?_
                      refine hl_val rfl rfl (v := (.bool (x_Sequence != 0))) (hv_move rfl) ?_
                      rcases bool_or (x_Sequence != 0) with hg33 | hg33
                      · refine hl_no (wanted_n rfl rfl rfl hg33) rfl ?_
                        refine hl_no (wanted_n rfl rfl rfl hg33) rfl ?_
                        refine hl_no (wanted_u rfl rfl rfl) rfl ?_
                        refine hl_no (wanted_u rfl rfl rfl) rfl ?_
                        refine hl_no (wanted_u rfl rfl rfl) rfl ?_
                        refine hl_no (wanted_u rfl rfl rfl) rfl ?_
                        refine hl_no (wanted_u rfl rfl rfl) rfl ?_
                        refine hl_no (wanted_u rfl rfl rfl) rfl ?_
                        refine hl_no (wanted_u rfl rfl rfl) rfl ?_
                        refine hl_no (wanted_u rfl rfl rfl) rfl ?_
                        refine hl_no (wanted_u rfl rfl rfl) rfl ?_
                        refine hl_no (wanted_n rfl rfl rfl hg33) rfl ?_
                        refine hl_val rfl rfl (v := (.bool true)) (hv_pick_t rfl hg33 rfl) ?_
                        refine hl_nil ?_
                        refine seqQ_n ?_
                        exact ⟨rfl, (has_cons rfl (has_cons rfl (has_cons rfl (has_cons rfl (has_cons rfl (has_cons rfl (has_cons rfl (has_cons (show ((.bool true) : Value) = (.bool (bif !(x_State == 1) then (!(x_State == 3)) || ((x_Pins != 0) || ((decide (x_Erases < 0)) || ((decide (x_Erases > 2147483647)) || (bif x_State == 1 then (x_Sequence != 0) || ((x_State == 3) && ((x_Sequence == 0) || (decide (x_Sequence > last)))) else (x_State == 3) && ((x_Sequence == 0) || (decide (x_Sequence > last))))))) else (x_Pins != 0) || ((decide (x_Erases < 0)) || ((decide (x_Erases > 2147483647)) || (bif x_State == 1 then (x_Sequence != 0) || ((x_State == 3) && ((x_Sequence == 0) || (decide (x_Sequence > last)))) else (x_State == 3) && ((x_Sequence == 0) || (decide (x_Sequence > last)))))))) from (by first | rfl | ((try rw [hg27]); (try rw [hg28]); (try rw [hg29]); (try rw [hg30]); (try rw [hg31]); (try rw [hg32]); (try rw [hg33]); all_goals first | rfl | (simp only [Bool.true_or, Bool.or_true, Bool.false_or, Bool.or_false, Bool.true_and, Bool.and_true, Bool.false_and, Bool.and_false, Bool.not_true, Bool.not_false, Bool.cond_true, Bool.cond_false]; done)) | simp [hg27, hg28, hg29, hg30, hg31, hg32, hg33])) has_nil))))))))⟩
                      · refine hl_yes (wanted_y rfl rfl rfl hg33) rfl (HStep.of_val (v := (.bool (x_State == 3))) (hv_move rfl) ?_)
                        refine hl_yes (wanted_y rfl rfl rfl hg33) rfl (HStep.of_val (v := (.bool (x_State == 3))) (hv_move rfl) ?_)
                        rcases bool_or (x_State == 3) with hg34 | hg34
                        · refine hl_yes (wanted_y rfl rfl rfl hg34) rfl (HStep.of_val (v := (ptr x 1)) (hv_field TyQE.fld31_1 (b := x) (o := 0) rfl) ?_)
                          refine hl_yes (wanted_y rfl rfl rfl hg34) rfl (HStep.of_val (v := (.int .u64 x_Sequence)) (hv_load TyQE.agg29 rfl (rowcell hr21' rfl)) ?_)
                          refine hl_yes (wanted_y rfl rfl rfl hg34) rfl (HStep.of_val (v := (.bool (x_Sequence == 0))) (hv_arith rfl rfl rfl) ?_)
                          refine hl_yes (wanted_y rfl rfl rfl hg34) rfl (HStep.of_val (v := (.bool (x_Sequence == 0))) (hv_move rfl) ?_)
                          rcases bool_or (x_Sequence == 0) with hg35 | hg35
                          · refine hl_no (wanted_n rfl rfl rfl hg35) rfl ?_
                            refine hl_no (wanted_n rfl rfl rfl hg35) rfl ?_
                            refine hl_no (wanted_n rfl rfl rfl hg35) rfl ?_
                            refine hl_no (wanted_n rfl rfl rfl hg35) rfl ?_
                            refine hl_yes (wanted_y rfl rfl rfl hg34) rfl (HStep.of_val (v := (.bool true)) (hv_pick_t rfl hg35 rfl) ?_)
                            refine hl_yes (wanted_y rfl rfl rfl hg33) rfl (HStep.of_val (v := (.bool true)) (hv_pick_t rfl hg34 rfl) ?_)
                            refine hl_val rfl rfl (v := (.bool true)) (hv_pick_f rfl hg33 rfl) ?_
                            refine hl_nil ?_
                            refine seqQ_n ?_
                            exact ⟨rfl, (has_cons rfl (has_cons rfl (has_cons rfl (has_cons rfl (has_cons rfl (has_cons rfl (has_cons rfl (has_cons (show ((.bool true) : Value) = (.bool (bif !(x_State == 1) then (!(x_State == 3)) || ((x_Pins != 0) || ((decide (x_Erases < 0)) || ((decide (x_Erases > 2147483647)) || (bif x_State == 1 then (x_Sequence != 0) || ((x_State == 3) && ((x_Sequence == 0) || (decide (x_Sequence > last)))) else (x_State == 3) && ((x_Sequence == 0) || (decide (x_Sequence > last))))))) else (x_Pins != 0) || ((decide (x_Erases < 0)) || ((decide (x_Erases > 2147483647)) || (bif x_State == 1 then (x_Sequence != 0) || ((x_State == 3) && ((x_Sequence == 0) || (decide (x_Sequence > last)))) else (x_State == 3) && ((x_Sequence == 0) || (decide (x_Sequence > last)))))))) from (by first | rfl | ((try rw [hg27]); (try rw [hg28]); (try rw [hg29]); (try rw [hg30]); (try rw [hg31]); (try rw [hg32]); (try rw [hg33]); (try rw [hg34]); (try rw [hg35]); all_goals first | rfl | (simp only [Bool.true_or, Bool.or_true, Bool.false_or, Bool.or_false, Bool.true_and, Bool.and_true, Bool.false_and, Bool.and_false, Bool.not_true, Bool.not_false, Bool.cond_true, Bool.cond_false]; done)) | simp [hg27, hg28, hg29, hg30, hg31, hg32, hg33, hg34, hg35])) has_nil))))))))⟩
                          · refine hl_yes (wanted_y rfl rfl rfl hg35) rfl (HStep.of_val (v := (ptr x 1)) (hv_field TyQE.fld31_1 (b := x) (o := 0) rfl) ?_)
                            refine hl_yes (wanted_y rfl rfl rfl hg35) rfl (HStep.of_val (v := (.int .u64 x_Sequence)) (hv_load TyQE.agg29 rfl (rowcell hr21' rfl)) ?_)
                            refine hl_yes (wanted_y rfl rfl rfl hg35) rfl (HStep.of_val (v := (.int .u64 last)) (hv_move rfl) ?_)
                            refine hl_yes (wanted_y rfl rfl rfl hg35) rfl (HStep.of_val (v := (.bool (decide (x_Sequence > last)))) (hv_arith rfl rfl rfl) ?_)
                            refine hl_yes (wanted_y rfl rfl rfl hg34) rfl (HStep.of_val (v := (.bool (decide (x_Sequence > last)))) (hv_pick_f rfl hg35 rfl) ?_)
                            refine hl_yes (wanted_y rfl rfl rfl hg33) rfl (HStep.of_val (v := (.bool (decide (x_Sequence > last)))) (hv_pick_t rfl hg34 rfl) ?_)
                            refine hl_val rfl rfl (v := (.bool (decide (x_Sequence > last)))) (hv_pick_f rfl hg33 rfl) ?_
                            refine hl_nil ?_
                            refine seqQ_n ?_
                            exact ⟨rfl, (has_cons rfl (has_cons rfl (has_cons rfl (has_cons rfl (has_cons rfl (has_cons rfl (has_cons rfl (has_cons (show ((.bool (decide (x_Sequence > last))) : Value) = (.bool (bif !(x_State == 1) then (!(x_State == 3)) || ((x_Pins != 0) || ((decide (x_Erases < 0)) || ((decide (x_Erases > 2147483647)) || (bif x_State == 1 then (x_Sequence != 0) || ((x_State == 3) && ((x_Sequence == 0) || (decide (x_Sequence > last)))) else (x_State == 3) && ((x_Sequence == 0) || (decide (x_Sequence > last))))))) else (x_Pins != 0) || ((decide (x_Erases < 0)) || ((decide (x_Erases > 2147483647)) || (bif x_State == 1 then (x_Sequence != 0) || ((x_State == 3) && ((x_Sequence == 0) || (decide (x_Sequence > last)))) else (x_State == 3) && ((x_Sequence == 0) || (decide (x_Sequence > last)))))))) from (by first | rfl | ((try rw [hg27]); (try rw [hg28]); (try rw [hg29]); (try rw [hg30]); (try rw [hg31]); (try rw [hg32]); (try rw [hg33]); (try rw [hg34]); (try rw [hg35]); all_goals first | rfl | (simp only [Bool.true_or, Bool.or_true, Bool.false_or, Bool.or_false, Bool.true_and, Bool.and_true, Bool.false_and, Bool.and_false, Bool.not_true, Bool.not_false, Bool.cond_true, Bool.cond_false]; done)) | simp [hg27, hg28, hg29, hg30, hg31, hg32, hg33, hg34, hg35])) has_nil))))))))⟩
                        · refine hl_no (wanted_n rfl rfl rfl hg34) rfl ?_
                          refine hl_no (wanted_n rfl rfl rfl hg34) rfl ?_
                          refine hl_no (wanted_n rfl rfl rfl hg34) rfl ?_
                          refine hl_no (wanted_n rfl rfl rfl hg34) rfl ?_
                          refine hl_no (wanted_u rfl rfl rfl) rfl ?_
                          refine hl_no (wanted_u rfl rfl rfl) rfl ?_
                          refine hl_no (wanted_u rfl rfl rfl) rfl ?_
                          refine hl_no (wanted_u rfl rfl rfl) rfl ?_
                          refine hl_no (wanted_n rfl rfl rfl hg34) rfl ?_
                          refine hl_yes (wanted_y rfl rfl rfl hg33) rfl (HStep.of_val (v := (.bool false)) (hv_pick_f rfl hg34 rfl) ?_)
                          refine hl_val rfl rfl (v := (.bool false)) (hv_pick_f rfl hg33 rfl) ?_
                          refine hl_nil ?_
                          refine seqQ_n ?_
                          exact ⟨rfl, (has_cons rfl (has_cons rfl (has_cons rfl (has_cons rfl (has_cons rfl (has_cons rfl (has_cons rfl (has_cons (show ((.bool false) : Value) = (.bool (bif !(x_State == 1) then (!(x_State == 3)) || ((x_Pins != 0) || ((decide (x_Erases < 0)) || ((decide (x_Erases > 2147483647)) || (bif x_State == 1 then (x_Sequence != 0) || ((x_State == 3) && ((x_Sequence == 0) || (decide (x_Sequence > last)))) else (x_State == 3) && ((x_Sequence == 0) || (decide (x_Sequence > last))))))) else (x_Pins != 0) || ((decide (x_Erases < 0)) || ((decide (x_Erases > 2147483647)) || (bif x_State == 1 then (x_Sequence != 0) || ((x_State == 3) && ((x_Sequence == 0) || (decide (x_Sequence > last)))) else (x_State == 3) && ((x_Sequence == 0) || (decide (x_Sequence > last)))))))) from (by first | rfl | ((try rw [hg27]); (try rw [hg28]); (try rw [hg29]); (try rw [hg30]); (try rw [hg31]); (try rw [hg32]); (try rw [hg33]); (try rw [hg34]); all_goals first | rfl | (simp only [Bool.true_or, Bool.or_true, Bool.false_or, Bool.or_false, Bool.true_and, Bool.and_true, Bool.false_and, Bool.and_false, Bool.not_true, Bool.not_false, Bool.cond_true, Bool.cond_false]; done)) | simp [hg27, hg28, hg29, hg30, hg31, hg32, hg33, hg34])) has_nil))))))))⟩
                    · refine hl_no (wanted_n rfl rfl rfl hg32) rfl ?_
                      refine hl_no (wanted_n rfl rfl rfl hg32) rfl ?_
                      refine hl_no (wanted_n rfl rfl rfl hg32) rfl ?_
                      refine hl_yes (wanted_y rfl rfl rfl hg31) rfl (HStep.of_val (v := (.bool false)) (hv_pick_f rfl hg32 rfl) ?_)
                      refine hl_val rfl rfl (v := (.bool false)) (hv_pick_f rfl hg31 rfl) ?_
                      refine hl_val rfl rfl (v := (.bool false)) (hv_move rfl) ?_
                      refine hl_yes (wanted_y rfl rfl (c := false) rfl rfl) rfl (HStep.of_val (v := (.bool (x_State == 3))) (hv_move rfl) ?_)
                      refine hl_yes (wanted_y rfl rfl (c := false) rfl rfl) rfl (HStep.of_val (v := (.bool (x_State == 3))) (hv_move rfl) ?_)
                      rcases bool_or (x_State == 3) with hg36 | hg36
                      · refine hl_yes (wanted_y rfl rfl rfl hg36) rfl (HStep.of_val (v := (ptr x 1)) (hv_field TyQE.fld31_1 (b := x) (o := 0) rfl) ?_)
                        refine hl_yes (wanted_y rfl rfl rfl hg36) rfl (HStep.of_val (v := (.int .u64 x_Sequence)) (hv_load TyQE.agg29 rfl (rowcell hr21' rfl)) ?_)
                        refine hl_yes (wanted_y rfl rfl rfl hg36) rfl (HStep.of_val (v := (.bool (x_Sequence == 0))) (hv_arith rfl rfl rfl) ?_)
                        refine hl_yes (wanted_y rfl rfl rfl hg36) rfl (HStep.of_val (v := (.bool (x_Sequence == 0))) (hv_move rfl) ?_)
                        rcases bool_or (x_Sequence == 0) with hg37 | hg37
                        · refine hl_no (wanted_n rfl rfl rfl hg37) rfl ?_
                          refine hl_no (wanted_n rfl rfl rfl hg37) rfl ?_
                          refine hl_no (wanted_n rfl rfl rfl hg37) rfl ?_
                          refine hl_no (wanted_n rfl rfl rfl hg37) rfl ?_
                          refine hl_yes (wanted_y rfl rfl rfl hg36) rfl (HStep.of_val (v := (.bool true)) (hv_pick_t rfl hg37 rfl) ?_)
                          refine hl_yes (wanted_y rfl rfl (c := false) rfl rfl) rfl (HStep.of_val (v := (.bool true)) (hv_pick_t rfl hg36 rfl) ?_)
                          refine hl_val rfl rfl (v := (.bool true)) (hv_pick (t := false) rfl rfl) ?_
                          refine hl_nil ?_
                          refine seqQ_n ?_
                          exact ⟨rfl, (has_cons rfl (has_cons rfl (has_cons rfl (has_cons rfl (has_cons rfl (has_cons rfl (has_cons rfl (has_cons (show ((.bool true) : Value) = (.bool (bif !(x_State == 1) then (!(x_State == 3)) || ((x_Pins != 0) || ((decide (x_Erases < 0)) || ((decide (x_Erases > 2147483647)) || (bif x_State == 1 then (x_Sequence != 0) || ((x_State == 3) && ((x_Sequence == 0) || (decide (x_Sequence > last)))) else (x_State == 3) && ((x_Sequence == 0) || (decide (x_Sequence > last))))))) else (x_Pins != 0) || ((decide (x_Erases < 0)) || ((decide (x_Erases > 2147483647)) || (bif x_State == 1 then (x_Sequence != 0) || ((x_State == 3) && ((x_Sequence == 0) || (decide (x_Sequence > last)))) else (x_State == 3) && ((x_Sequence == 0) || (decide (x_Sequence > last)))))))) from (by first | rfl | ((try rw [hg27]); (try rw [hg28]); (try rw [hg29]); (try rw [hg30]); (try rw [hg31]); (try rw [hg32]); (try rw [hg36]); (try rw [hg37]); all_goals first | rfl | (simp only [Bool.true_or, Bool.or_true, Bool.false_or, Bool.or_false, Bool.true_and, Bool.and_true, Bool.false_and, Bool.and_false, Bool.not_true, Bool.not_false, Bool.cond_true, Bool.cond_false]; done)) | simp [hg27, hg28, hg29, hg30, hg31, hg32, hg36, hg37])) has_nil))))))))⟩
                        · refine hl_yes (wanted_y rfl rfl rfl hg37) rfl (HStep.of_val (v := (ptr x 1)) (hv_field TyQE.fld31_1 (b := x) (o := 0) rfl) ?_)
                          refine hl_yes (wanted_y rfl rfl rfl hg37) rfl (HStep.of_val (v := (.int .u64 x_Sequence)) (hv_load TyQE.agg29 rfl (rowcell hr21' rfl)) ?_)
                          refine hl_yes (wanted_y rfl rfl rfl hg37) rfl (HStep.of_val (v := (.int .u64 last)) (hv_move rfl) ?_)
                          refine hl_yes (wanted_y rfl rfl rfl hg37) rfl (HStep.of_val (v := (.bool (decide (x_Sequence > last)))) (hv_arith rfl rfl rfl) ?_)
                          refine hl_yes (wanted_y rfl rfl rfl hg36) rfl (HStep.of_val (v := (.bool (decide (x_Sequence > last)))) (hv_pick_f rfl hg37 rfl) ?_)
                          refine hl_yes (wanted_y rfl rfl (c := false) rfl rfl) rfl (HStep.of_val (v := (.bool (decide (x_Sequence > last)))) (hv_pick_t rfl hg36 rfl) ?_)
                          refine hl_val rfl rfl (v := (.bool (decide (x_Sequence > last)))) (hv_pick (t := false) rfl rfl) ?_
                          refine hl_nil ?_
                          refine seqQ_n ?_
                          exact ⟨rfl, (has_cons rfl (has_cons rfl (has_cons rfl (has_cons rfl (has_cons rfl (has_cons rfl (has_cons rfl (has_cons (show ((.bool (decide (x_Sequence > last))) : Value) = (.bool (bif !(x_State == 1) then (!(x_State == 3)) || ((x_Pins != 0) || ((decide (x_Erases < 0)) || ((decide (x_Erases > 2147483647)) || (bif x_State == 1 then (x_Sequence != 0) || ((x_State == 3) && ((x_Sequence == 0) || (decide (x_Sequence > last)))) else (x_State == 3) && ((x_Sequence == 0) || (decide (x_Sequence > last))))))) else (x_Pins != 0) || ((decide (x_Erases < 0)) || ((decide (x_Erases > 2147483647)) || (bif x_State == 1 then (x_Sequence != 0) || ((x_State == 3) && ((x_Sequence == 0) || (decide (x_Sequence > last)))) else (x_State == 3) && ((x_Sequence == 0) || (decide (x_Sequence > last)))))))) from (by first | rfl | ((try rw [hg27]); (try rw [hg28]); (try rw [hg29]); (try rw [hg30]); (try rw [hg31]); (try rw [hg32]); (try rw [hg36]); (try rw [hg37]); all_goals first | rfl | (simp only [Bool.true_or, Bool.or_true, Bool.false_or, Bool.or_false, Bool.true_and, Bool.and_true, Bool.false_and, Bool.and_false, Bool.not_true, Bool.not_false, Bool.cond_true, Bool.cond_false]; done)) | simp [hg27, hg28, hg29, hg30, hg31, hg32, hg36, hg37])) has_nil))))))))⟩
                      · refine hl_no (wanted_n rfl rfl rfl hg36) rfl ?_
                        refine hl_no (wanted_n rfl rfl rfl hg36) rfl ?_
                        refine hl_no (wanted_n rfl rfl rfl hg36) rfl ?_
                        refine hl_no (wanted_n rfl rfl rfl hg36) rfl ?_
                        refine hl_no (wanted_u rfl rfl rfl) rfl ?_
                        refine hl_no (wanted_u rfl rfl rfl) rfl ?_
                        refine hl_no (wanted_u rfl rfl rfl) rfl ?_
                        refine hl_no (wanted_u rfl rfl rfl) rfl ?_
                        refine hl_no (wanted_n rfl rfl rfl hg36) rfl ?_
                        refine hl_yes (wanted_y rfl rfl (c := false) rfl rfl) rfl (HStep.of_val (v := (.bool false)) (hv_pick_f rfl hg36 rfl) ?_)
                        refine hl_val rfl rfl (v := (.bool false)) (hv_pick (t := false) rfl rfl) ?_
                        refine hl_nil ?_
                        refine seqQ_n ?_
                        exact ⟨rfl, (has_cons rfl (has_cons rfl (has_cons rfl (has_cons rfl (has_cons rfl (has_cons rfl (has_cons rfl (has_cons (show ((.bool false) : Value) = (.bool (bif !(x_State == 1) then (!(x_State == 3)) || ((x_Pins != 0) || ((decide (x_Erases < 0)) || ((decide (x_Erases > 2147483647)) || (bif x_State == 1 then (x_Sequence != 0) || ((x_State == 3) && ((x_Sequence == 0) || (decide (x_Sequence > last)))) else (x_State == 3) && ((x_Sequence == 0) || (decide (x_Sequence > last))))))) else (x_Pins != 0) || ((decide (x_Erases < 0)) || ((decide (x_Erases > 2147483647)) || (bif x_State == 1 then (x_Sequence != 0) || ((x_State == 3) && ((x_Sequence == 0) || (decide (x_Sequence > last)))) else (x_State == 3) && ((x_Sequence == 0) || (decide (x_Sequence > last)))))))) from (by first | rfl | ((try rw [hg27]); (try rw [hg28]); (try rw [hg29]); (try rw [hg30]); (try rw [hg31]); (try rw [hg32]); (try rw [hg36]); all_goals first | rfl | (simp only [Bool.true_or, Bool.or_true, Bool.false_or, Bool.or_false, Bool.true_and, Bool.and_true, Bool.false_and, Bool.and_false, Bool.not_true, Bool.not_false, Bool.cond_true, Bool.cond_false]; done)) | simp [hg27, hg28, hg29, hg30, hg31, hg32, hg36])) has_nil))))))))⟩
          · refine hl_no (wanted_n rfl rfl rfl hg27) rfl ?_
            refine hl_no (wanted_n rfl rfl rfl hg27) rfl ?_
            refine hl_val rfl rfl (v := (.bool false)) (hv_pick_f rfl hg27 rfl) ?_
            refine hl_val rfl rfl (v := (.bool false)) (hv_move rfl) ?_
            refine hl_yes (wanted_y rfl rfl (c := false) rfl rfl) rfl (HStep.of_val (v := (ptr x 2)) (hv_field TyQE.fld31_2 (b := x) (o := 0) rfl) ?_)
            refine hl_yes (wanted_y rfl rfl (c := false) rfl rfl) rfl (HStep.of_val (v := (.int .i64 x_Pins)) (hv_load TyQE.agg3 rfl (rowcell hr21' rfl)) ?_)
            refine hl_yes (wanted_y rfl rfl (c := false) rfl rfl) rfl (HStep.of_val (v := (.bool (x_Pins != 0))) (hv_arith rfl rfl rfl) ?_)
            refine hl_val rfl rfl (v := (.bool (x_Pins != 0))) (hv_pick (t := false) rfl rfl) ?_
            refine hl_val rfl rfl (v := (.bool (x_Pins != 0))) (hv_move rfl) ?_
            rcases bool_or (x_Pins != 0) with hg38 | hg38
            · refine hl_no (wanted_n rfl rfl rfl hg38) rfl ?_
              refine hl_no (wanted_n rfl rfl rfl hg38) rfl ?_
              refine hl_no (wanted_n rfl rfl rfl hg38) rfl ?_
              refine hl_val rfl rfl (v := (.bool true)) (hv_pick_t rfl hg38 rfl) ?_
              refine hl_val rfl rfl (v := (.bool true)) (hv_move rfl) ?_
              refine hl_no (wanted_n rfl rfl (c := true) rfl rfl) rfl ?_
              refine hl_no (wanted_n rfl rfl (c := true) rfl rfl) rfl ?_
              refine hl_no (wanted_n rfl rfl (c := true) rfl rfl) rfl ?_
              refine hl_val rfl rfl (v := (.bool true)) (hv_pick (t := true) rfl rfl) ?_
              refine hl_val rfl rfl (v := (.bool true)) (hv_move rfl) ?_
              refine hl_no (wanted_n rfl rfl (c := true) rfl rfl) rfl ?_
              refine hl_no (wanted_n rfl rfl (c := true) rfl rfl) rfl ?_
              refine hl_no (wanted_u rfl rfl rfl) rfl ?_
              refine hl_no (wanted_u rfl rfl rfl) rfl ?_
              refine hl_no (wanted_u rfl rfl rfl) rfl ?_
              refine hl_no (wanted_n rfl rfl (c := true) rfl rfl) rfl ?_
              refine hl_val rfl rfl (v := (.bool true)) (hv_pick (t := true) rfl rfl) ?_
              refine hl_val rfl rfl (v := (.bool true)) (hv_move rfl) ?_
              refine hl_no (wanted_n rfl rfl (c := true) rfl rfl) rfl ?_
              refine hl_no (wanted_n rfl rfl (c := true) rfl rfl) rfl ?_
              refine hl_no (wanted_u rfl rfl rfl) rfl ?_
              refine hl_no (wanted_u rfl rfl rfl) rfl ?_
              refine hl_no (wanted_u rfl rfl rfl) rfl ?_
              refine hl_no (wanted_u rfl rfl rfl) rfl ?_
              refine hl_no (wanted_u rfl rfl rfl) rfl ?_
              refine hl_no (wanted_u rfl rfl rfl) rfl ?_
              refine hl_no (wanted_u rfl rfl rfl) rfl ?_
              refine hl_no (wanted_u rfl rfl rfl) rfl ?_
              refine hl_no (wanted_u rfl rfl rfl) rfl ?_
              refine hl_no (wanted_n rfl rfl (c := true) rfl rfl) rfl ?_
              refine hl_val rfl rfl (v := (.bool true)) (hv_pick (t := true) rfl rfl) ?_
              refine hl_nil ?_
              refine seqQ_n ?_
              exact ⟨rfl, (has_cons rfl (has_cons rfl (has_cons rfl (has_cons rfl (has_cons rfl (has_cons rfl (has_cons rfl (has_cons (show ((.bool true) : Value) = (.bool (bif !(x_State == 1) then (!(x_State == 3)) || ((x_Pins != 0) || ((decide (x_Erases < 0)) || ((decide (x_Erases > 2147483647)) || (bif x_State == 1 then (x_Sequence != 0) || ((x_State == 3) && ((x_Sequence == 0) || (decide (x_Sequence > last)))) else (x_State == 3) && ((x_Sequence == 0) || (decide (x_Sequence > last))))))) else (x_Pins != 0) || ((decide (x_Erases < 0)) || ((decide (x_Erases > 2147483647)) || (bif x_State == 1 then (x_Sequence != 0) || ((x_State == 3) && ((x_Sequence == 0) || (decide (x_Sequence > last)))) else (x_State == 3) && ((x_Sequence == 0) || (decide (x_Sequence > last)))))))) from (by first | rfl | ((try rw [hg27]); (try rw [hg38]); all_goals first | rfl | (simp only [Bool.true_or, Bool.or_true, Bool.false_or, Bool.or_false, Bool.true_and, Bool.and_true, Bool.false_and, Bool.and_false, Bool.not_true, Bool.not_false, Bool.cond_true, Bool.cond_false]; done)) | simp [hg27, hg38])) has_nil))))))))⟩
            · refine hl_yes (wanted_y rfl rfl rfl hg38) rfl (HStep.of_val (v := (ptr x 3)) (hv_field TyQE.fld31_3 (b := x) (o := 0) rfl) ?_)
              refine hl_yes (wanted_y rfl rfl rfl hg38) rfl (HStep.of_val (v := (.int .i64 x_Erases)) (hv_load TyQE.agg3 rfl (rowcell hr21' rfl)) ?_)
              refine hl_yes (wanted_y rfl rfl rfl hg38) rfl (HStep.of_val (v := (.bool (decide (x_Erases < 0)))) (hv_arith rfl rfl rfl) ?_)
              refine hl_val rfl rfl (v := (.bool (decide (x_Erases < 0)))) (hv_pick_f rfl hg38 rfl) ?_
              refine hl_val rfl rfl (v := (.bool (decide (x_Erases < 0)))) (hv_move rfl) ?_
              rcases bool_or (decide (x_Erases < 0)) with hg39 | hg39
              · refine hl_no (wanted_n rfl rfl rfl hg39) rfl ?_
                refine hl_no (wanted_n rfl rfl rfl hg39) rfl ?_
                refine hl_no (wanted_n rfl rfl rfl hg39) rfl ?_
                refine hl_val rfl rfl (v := (.bool true)) (hv_pick_t rfl hg39 rfl) ?_
                refine hl_val rfl rfl (v := (.bool true)) (hv_move rfl) ?_
                refine hl_no (wanted_n rfl rfl (c := true) rfl rfl) rfl ?_
                refine hl_no (wanted_n rfl rfl (c := true) rfl rfl) rfl ?_
                refine hl_no (wanted_u rfl rfl rfl) rfl ?_
                refine hl_no (wanted_u rfl rfl rfl) rfl ?_
                refine hl_no (wanted_u rfl rfl rfl) rfl ?_
                refine hl_no (wanted_n rfl rfl (c := true) rfl rfl) rfl ?_
                refine hl_val rfl rfl (v := (.bool true)) (hv_pick (t := true) rfl rfl) ?_
                refine hl_val rfl rfl (v := (.bool true)) (hv_move rfl) ?_
                refine hl_no (wanted_n rfl rfl (c := true) rfl rfl) rfl ?_
                refine hl_no (wanted_n rfl rfl (c := true) rfl rfl) rfl ?_
                refine hl_no (wanted_u rfl rfl rfl) rfl ?_
                refine hl_no (wanted_u rfl rfl rfl) rfl ?_
                refine hl_no (wanted_u rfl rfl rfl) rfl ?_
                refine hl_no (wanted_u rfl rfl rfl) rfl ?_
                refine hl_no (wanted_u rfl rfl rfl) rfl ?_
                refine hl_no (wanted_u rfl rfl rfl) rfl ?_
                refine hl_no (wanted_u rfl rfl rfl) rfl ?_
                refine hl_no (wanted_u rfl rfl rfl) rfl ?_
                refine hl_no (wanted_u rfl rfl rfl) rfl ?_
                refine hl_no (wanted_n rfl rfl (c := true) rfl rfl) rfl ?_
                refine hl_val rfl rfl (v := (.bool true)) (hv_pick (t := true) rfl rfl) ?_
                refine hl_nil ?_
                refine seqQ_n ?_
                exact ⟨rfl, (has_cons rfl (has_cons rfl (has_cons rfl (has_cons rfl (has_cons rfl (has_cons rfl (has_cons rfl (has_cons (show ((.bool true) : Value) = (.bool (bif !(x_State == 1) then (!(x_State == 3)) || ((x_Pins != 0) || ((decide (x_Erases < 0)) || ((decide (x_Erases > 2147483647)) || (bif x_State == 1 then (x_Sequence != 0) || ((x_State == 3) && ((x_Sequence == 0) || (decide (x_Sequence > last)))) else (x_State == 3) && ((x_Sequence == 0) || (decide (x_Sequence > last))))))) else (x_Pins != 0) || ((decide (x_Erases < 0)) || ((decide (x_Erases > 2147483647)) || (bif x_State == 1 then (x_Sequence != 0) || ((x_State == 3) && ((x_Sequence == 0) || (decide (x_Sequence > last)))) else (x_State == 3) && ((x_Sequence == 0) || (decide (x_Sequence > last)))))))) from (by first | rfl | ((try rw [hg27]); (try rw [hg38]); (try rw [hg39]); all_goals first | rfl | (simp only [Bool.true_or, Bool.or_true, Bool.false_or, Bool.or_false, Bool.true_and, Bool.and_true, Bool.false_and, Bool.and_false, Bool.not_true, Bool.not_false, Bool.cond_true, Bool.cond_false]; done)) | simp [hg27, hg38, hg39])) has_nil))))))))⟩
              · refine hl_yes (wanted_y rfl rfl rfl hg39) rfl (HStep.of_val (v := (ptr x 3)) (hv_field TyQE.fld31_3 (b := x) (o := 0) rfl) ?_)
                refine hl_yes (wanted_y rfl rfl rfl hg39) rfl (HStep.of_val (v := (.int .i64 x_Erases)) (hv_load TyQE.agg3 rfl (rowcell hr21' rfl)) ?_)
                refine hl_yes (wanted_y rfl rfl rfl hg39) rfl (HStep.of_val (v := (.bool (decide (x_Erases > 2147483647)))) (hv_arith rfl rfl rfl) ?_)
                refine hl_val rfl rfl (v := (.bool (decide (x_Erases > 2147483647)))) (hv_pick_f rfl hg39 rfl) ?_
                refine hl_val rfl rfl (v := (.bool (decide (x_Erases > 2147483647)))) (hv_move rfl) ?_
                rcases bool_or (decide (x_Erases > 2147483647)) with hg40 | hg40
                · refine hl_no (wanted_n rfl rfl rfl hg40) rfl ?_
                  refine hl_no (wanted_n rfl rfl rfl hg40) rfl ?_
                  refine hl_no (wanted_u rfl rfl rfl) rfl ?_
                  refine hl_no (wanted_u rfl rfl rfl) rfl ?_
                  refine hl_no (wanted_u rfl rfl rfl) rfl ?_
                  refine hl_no (wanted_n rfl rfl rfl hg40) rfl ?_
                  refine hl_val rfl rfl (v := (.bool true)) (hv_pick_t rfl hg40 rfl) ?_
                  refine hl_val rfl rfl (v := (.bool true)) (hv_move rfl) ?_
                  refine hl_no (wanted_n rfl rfl (c := true) rfl rfl) rfl ?_
                  refine hl_no (wanted_n rfl rfl (c := true) rfl rfl) rfl ?_
                  refine hl_no (wanted_u rfl rfl rfl) rfl ?_
                  refine hl_no (wanted_u rfl rfl rfl) rfl ?_
                  refine hl_no (wanted_u rfl rfl rfl) rfl ?_
                  refine hl_no (wanted_u rfl rfl rfl) rfl ?_
                  refine hl_no (wanted_u rfl rfl rfl) rfl ?_
                  refine hl_no (wanted_u rfl rfl rfl) rfl ?_
                  refine hl_no (wanted_u rfl rfl rfl) rfl ?_
                  refine hl_no (wanted_u rfl rfl rfl) rfl ?_
                  refine hl_no (wanted_u rfl rfl rfl) rfl ?_
                  refine hl_no (wanted_n rfl rfl (c := true) rfl rfl) rfl ?_
                  refine hl_val rfl rfl (v := (.bool true)) (hv_pick (t := true) rfl rfl) ?_
                  refine hl_nil ?_
                  refine seqQ_n ?_
                  exact ⟨rfl, (has_cons rfl (has_cons rfl (has_cons rfl (has_cons rfl (has_cons rfl (has_cons rfl (has_cons rfl (has_cons (show ((.bool true) : Value) = (.bool (bif !(x_State == 1) then (!(x_State == 3)) || ((x_Pins != 0) || ((decide (x_Erases < 0)) || ((decide (x_Erases > 2147483647)) || (bif x_State == 1 then (x_Sequence != 0) || ((x_State == 3) && ((x_Sequence == 0) || (decide (x_Sequence > last)))) else (x_State == 3) && ((x_Sequence == 0) || (decide (x_Sequence > last))))))) else (x_Pins != 0) || ((decide (x_Erases < 0)) || ((decide (x_Erases > 2147483647)) || (bif x_State == 1 then (x_Sequence != 0) || ((x_State == 3) && ((x_Sequence == 0) || (decide (x_Sequence > last)))) else (x_State == 3) && ((x_Sequence == 0) || (decide (x_Sequence > last)))))))) from (by first | rfl | ((try rw [hg27]); (try rw [hg38]); (try rw [hg39]); (try rw [hg40]); all_goals first | rfl | (simp only [Bool.true_or, Bool.or_true, Bool.false_or, Bool.or_false, Bool.true_and, Bool.and_true, Bool.false_and, Bool.and_false, Bool.not_true, Bool.not_false, Bool.cond_true, Bool.cond_false]; done)) | simp [hg27, hg38, hg39, hg40])) has_nil))))))))⟩
                · refine hl_yes (wanted_y rfl rfl rfl hg40) rfl (HStep.of_val (v := (.bool (x_State == 1))) (hv_move rfl) ?_)
                  refine hl_yes (wanted_y rfl rfl rfl hg40) rfl (HStep.of_val (v := (.bool (x_State == 1))) (hv_move rfl) ?_)
                  rcases bool_or (x_State == 1) with hg41 | hg41
                  · refine hl_yes (wanted_y rfl rfl rfl hg41) rfl (HStep.of_val (v := (ptr x 1)) (hv_field TyQE.fld31_1 (b := x) (o := 0) rfl) ?_)
                    refine hl_yes (wanted_y rfl rfl rfl hg41) rfl (HStep.of_val (v := (.int .u64 x_Sequence)) (hv_load TyQE.agg29 rfl (rowcell hr21' rfl)) ?_)
                    refine hl_yes (wanted_y rfl rfl rfl hg41) rfl (HStep.of_val (v := (.bool (x_Sequence != 0))) (hv_arith rfl rfl rfl) ?_)
                    refine hl_yes (wanted_y rfl rfl rfl hg40) rfl (HStep.of_val (v := (.bool (x_Sequence != 0))) (hv_pick_t rfl hg41 rfl) ?_)
                    refine hl_val rfl rfl (v := (.bool (x_Sequence != 0))) (hv_pick_f rfl hg40 rfl) ?_
                    refine hl_val rfl rfl (v := (.bool (x_Sequence != 0))) (hv_move rfl) ?_
                    rcases bool_or (x_Sequence != 0) with hg42 | hg42
                    · refine hl_no (wanted_n rfl rfl rfl hg42) rfl ?_
                      refine hl_no (wanted_n rfl rfl rfl hg42) rfl ?_
                      refine hl_no (wanted_u rfl rfl rfl) rfl ?_
                      refine hl_no (wanted_u rfl rfl rfl) rfl ?_
                      refine hl_no (wanted_u rfl rfl rfl) rfl ?_
                      refine hl_no (wanted_u rfl rfl rfl) rfl ?_
                      refine hl_no (wanted_u rfl rfl rfl) rfl ?_
                      refine hl_no (wanted_u rfl rfl rfl) rfl ?_
                      refine hl_no (wanted_u rfl rfl rfl) rfl ?_
                      refine hl_no (wanted_u rfl rfl rfl) rfl ?_
                      refine hl_no (wanted_u rfl rfl rfl) rfl ?_
                      refine hl_no (wanted_n rfl rfl rfl hg42) rfl ?_
                      refine hl_val rfl rfl (v := (.bool true)) (hv_pick_t rfl hg42 rfl) ?_
                      refine hl_nil ?_
                      refine seqQ_n ?_
                      exact ⟨rfl, (has_cons rfl (has_cons rfl (has_cons rfl (has_cons rfl (has_cons rfl (has_cons rfl (has_cons rfl (has_cons (show ((.bool true) : Value) = (.bool (bif !(x_State == 1) then (!(x_State == 3)) || ((x_Pins != 0) || ((decide (x_Erases < 0)) || ((decide (x_Erases > 2147483647)) || (bif x_State == 1 then (x_Sequence != 0) || ((x_State == 3) && ((x_Sequence == 0) || (decide (x_Sequence > last)))) else (x_State == 3) && ((x_Sequence == 0) || (decide (x_Sequence > last))))))) else (x_Pins != 0) || ((decide (x_Erases < 0)) || ((decide (x_Erases > 2147483647)) || (bif x_State == 1 then (x_Sequence != 0) || ((x_State == 3) && ((x_Sequence == 0) || (decide (x_Sequence > last)))) else (x_State == 3) && ((x_Sequence == 0) || (decide (x_Sequence > last)))))))) from (by first | rfl | ((try rw [hg27]); (try rw [hg38]); (try rw [hg39]); (try rw [hg40]); (try rw [hg41]); (try rw [hg42]); all_goals first | rfl | (simp only [Bool.true_or, Bool.or_true, Bool.false_or, Bool.or_false, Bool.true_and, Bool.and_true, Bool.false_and, Bool.and_false, Bool.not_true, Bool.not_false, Bool.cond_true, Bool.cond_false]; done)) | simp [hg27, hg38, hg39, hg40, hg41, hg42])) has_nil))))))))⟩
                    · refine hl_yes (wanted_y rfl rfl rfl hg42) rfl (HStep.of_val (v := (.bool (x_State == 3))) (hv_move rfl) ?_)
                      refine hl_yes (wanted_y rfl rfl rfl hg42) rfl (HStep.of_val (v := (.bool (x_State == 3))) (hv_move rfl) ?_)
                      rcases bool_or (x_State == 3) with hg43 | hg43
                      · refine hl_yes (wanted_y rfl rfl rfl hg43) rfl (HStep.of_val (v := (ptr x 1)) (hv_field TyQE.fld31_1 (b := x) (o := 0) rfl) ?_)
                        refine hl_yes (wanted_y rfl rfl rfl hg43) rfl (HStep.of_val (v := (.int .u64 x_Sequence)) (hv_load TyQE.agg29 rfl (rowcell hr21' rfl)) ?_)
                        refine hl_yes (wanted_y rfl rfl rfl hg43) rfl (HStep.of_val (v := (.bool (x_Sequence == 0))) (hv_arith rfl rfl rfl) ?_)
                        refine hl_yes (wanted_y rfl rfl rfl hg43) rfl (HStep.of_val (v := (.bool (x_Sequence == 0))) (hv_move rfl) ?_)
                        rcases bool_or (x_Sequence == 0) with hg44 | hg44
                        · refine hl_no (wanted_n rfl rfl rfl hg44) rfl ?_
                          refine hl_no (wanted_n rfl rfl rfl hg44) rfl ?_
                          refine hl_no (wanted_n rfl rfl rfl hg44) rfl ?_
                          refine hl_no (wanted_n rfl rfl rfl hg44) rfl ?_
                          refine hl_yes (wanted_y rfl rfl rfl hg43) rfl (HStep.of_val (v := (.bool true)) (hv_pick_t rfl hg44 rfl) ?_)
                          refine hl_yes (wanted_y rfl rfl rfl hg42) rfl (HStep.of_val (v := (.bool true)) (hv_pick_t rfl hg43 rfl) ?_)
                          refine hl_val rfl rfl (v := (.bool true)) (hv_pick_f rfl hg42 rfl) ?_
                          refine hl_nil ?_
                          refine seqQ_n ?_
                          exact ⟨rfl, (has_cons rfl (has_cons rfl (has_cons rfl (has_cons rfl (has_cons rfl (has_cons rfl (has_cons rfl (has_cons (show ((.bool true) : Value) = (.bool (bif !(x_State == 1) then (!(x_State == 3)) || ((x_Pins != 0) || ((decide (x_Erases < 0)) || ((decide (x_Erases > 2147483647)) || (bif x_State == 1 then (x_Sequence != 0) || ((x_State == 3) && ((x_Sequence == 0) || (decide (x_Sequence > last)))) else (x_State == 3) && ((x_Sequence == 0) || (decide (x_Sequence > last))))))) else (x_Pins != 0) || ((decide (x_Erases < 0)) || ((decide (x_Erases > 2147483647)) || (bif x_State == 1 then (x_Sequence != 0) || ((x_State == 3) && ((x_Sequence == 0) || (decide (x_Sequence > last)))) else (x_State == 3) && ((x_Sequence == 0) || (decide (x_Sequence > last)))))))) from (by first | rfl | ((try rw [hg27]); (try rw [hg38]); (try rw [hg39]); (try rw [hg40]); (try rw [hg41]); (try rw [hg42]); (try rw [hg43]); (try rw [hg44]); all_goals first | rfl | (simp only [Bool.true_or, Bool.or_true, Bool.false_or, Bool.or_false, Bool.true_and, Bool.and_true, Bool.false_and, Bool.and_false, Bool.not_true, Bool.not_false, Bool.cond_true, Bool.cond_false]; done)) | simp [hg27, hg38, hg39, hg40, hg41, hg42, hg43, hg44])) has_nil))))))))⟩
                        · refine hl_yes (wanted_y rfl rfl rfl hg44) rfl (HStep.of_val (v := (ptr x 1)) (hv_field TyQE.fld31_1 (b := x) (o := 0) rfl) ?_)
                          refine hl_yes (wanted_y rfl rfl rfl hg44) rfl (HStep.of_val (v := (.int .u64 x_Sequence)) (hv_load TyQE.agg29 rfl (rowcell hr21' rfl)) ?_)
                          refine hl_yes (wanted_y rfl rfl rfl hg44) rfl (HStep.of_val (v := (.int .u64 last)) (hv_move rfl) ?_)
                          refine hl_yes (wanted_y rfl rfl rfl hg44) rfl (HStep.of_val (v := (.bool (decide (x_Sequence > last)))) (hv_arith rfl rfl rfl) ?_)
                          refine hl_yes (wanted_y rfl rfl rfl hg43) rfl (HStep.of_val (v := (.bool (decide (x_Sequence > last)))) (hv_pick_f rfl hg44 rfl) ?_)
                          refine hl_yes (wanted_y rfl rfl rfl hg42) rfl (HStep.of_val (v := (.bool (decide (x_Sequence > last)))) (hv_pick_t rfl hg43 rfl) ?_)
                          refine hl_val rfl rfl (v := (.bool (decide (x_Sequence > last)))) (hv_pick_f rfl hg42 rfl) ?_
                          refine hl_nil ?_
                          refine seqQ_n ?_
                          exact ⟨rfl, (has_cons rfl (has_cons rfl (has_cons rfl (has_cons rfl (has_cons rfl (has_cons rfl (has_cons rfl (has_cons (show ((.bool (decide (x_Sequence > last))) : Value) = (.bool (bif !(x_State == 1) then (!(x_State == 3)) || ((x_Pins != 0) || ((decide (x_Erases < 0)) || ((decide (x_Erases > 2147483647)) || (bif x_State == 1 then (x_Sequence != 0) || ((x_State == 3) && ((x_Sequence == 0) || (decide (x_Sequence > last)))) else (x_State == 3) && ((x_Sequence == 0) || (decide (x_Sequence > last))))))) else (x_Pins != 0) || ((decide (x_Erases < 0)) || ((decide (x_Erases > 2147483647)) || (bif x_State == 1 then (x_Sequence != 0) || ((x_State == 3) && ((x_Sequence == 0) || (decide (x_Sequence > last)))) else (x_State == 3) && ((x_Sequence == 0) || (decide (x_Sequence > last)))))))) from (by first | rfl | ((try rw [hg27]); (try rw [hg38]); (try rw [hg39]); (try rw [hg40]); (try rw [hg41]); (try rw [hg42]); (try rw [hg43]); (try rw [hg44]); all_goals first | rfl | (simp only [Bool.true_or, Bool.or_true, Bool.false_or, Bool.or_false, Bool.true_and, Bool.and_true, Bool.false_and, Bool.and_false, Bool.not_true, Bool.not_false, Bool.cond_true, Bool.cond_false]; done)) | simp [hg27, hg38, hg39, hg40, hg41, hg42, hg43, hg44])) has_nil))))))))⟩
                      · refine hl_no (wanted_n rfl rfl rfl hg43) rfl ?_
                        refine hl_no (wanted_n rfl rfl rfl hg43) rfl ?_
                        refine hl_no (wanted_n rfl rfl rfl hg43) rfl ?_
                        refine hl_no (wanted_n rfl rfl rfl hg43) rfl ?_
                        refine hl_no (wanted_u rfl rfl rfl) rfl ?_
                        refine hl_no (wanted_u rfl rfl rfl) rfl ?_
                        refine hl_no (wanted_u rfl rfl rfl) rfl ?_
                        refine hl_no (wanted_u rfl rfl rfl) rfl ?_
                        refine hl_no (wanted_n rfl rfl rfl hg43) rfl ?_
                        refine hl_yes (wanted_y rfl rfl rfl hg42) rfl (HStep.of_val (v := (.bool false)) (hv_pick_f rfl hg43 rfl) ?_)
                        refine hl_val rfl rfl (v := (.bool false)) (hv_pick_f rfl hg42 rfl) ?_
                        refine hl_nil ?_
                        refine seqQ_n ?_
                        exact ⟨rfl, (has_cons rfl (has_cons rfl (has_cons rfl (has_cons rfl (has_cons rfl (has_cons rfl (has_cons rfl (has_cons (show ((.bool false) : Value) = (.bool (bif !(x_State == 1) then (!(x_State == 3)) || ((x_Pins != 0) || ((decide (x_Erases < 0)) || ((decide (x_Erases > 2147483647)) || (bif x_State == 1 then (x_Sequence != 0) || ((x_State == 3) && ((x_Sequence == 0) || (decide (x_Sequence > last)))) else (x_State == 3) && ((x_Sequence == 0) || (decide (x_Sequence > last))))))) else (x_Pins != 0) || ((decide (x_Erases < 0)) || ((decide (x_Erases > 2147483647)) || (bif x_State == 1 then (x_Sequence != 0) || ((x_State == 3) && ((x_Sequence == 0) || (decide (x_Sequence > last)))) else (x_State == 3) && ((x_Sequence == 0) || (decide (x_Sequence > last)))))))) from (by first | rfl | ((try rw [hg27]); (try rw [hg38]); (try rw [hg39]); (try rw [hg40]); (try rw [hg41]); (try rw [hg42]); (try rw [hg43]); all_goals first | rfl | (simp only [Bool.true_or, Bool.or_true, Bool.false_or, Bool.or_false, Bool.true_and, Bool.and_true, Bool.false_and, Bool.and_false, Bool.not_true, Bool.not_false, Bool.cond_true, Bool.cond_false]; done)) | simp [hg27, hg38, hg39, hg40, hg41, hg42, hg43])) has_nil))))))))⟩
                  · refine hl_no (wanted_n rfl rfl rfl hg41) rfl ?_
                    refine hl_no (wanted_n rfl rfl rfl hg41) rfl ?_
                    refine hl_no (wanted_n rfl rfl rfl hg41) rfl ?_
                    refine hl_yes (wanted_y rfl rfl rfl hg40) rfl (HStep.of_val (v := (.bool false)) (hv_pick_f rfl hg41 rfl) ?_)
                    refine hl_val rfl rfl (v := (.bool false)) (hv_pick_f rfl hg40 rfl) ?_
                    refine hl_val rfl rfl (v := (.bool false)) (hv_move rfl) ?_
                    refine hl_yes (wanted_y rfl rfl (c := false) rfl rfl) rfl (HStep.of_val (v := (.bool (x_State == 3))) (hv_move rfl) ?_)
                    refine hl_yes (wanted_y rfl rfl (c := false) rfl rfl) rfl (HStep.of_val (v := (.bool (x_State == 3))) (hv_move rfl) ?_)
                    rcases bool_or (x_State == 3) with hg45 | hg45
                    · refine hl_yes (wanted_y rfl rfl rfl hg45) rfl (HStep.of_val (v := (ptr x 1)) (hv_field TyQE.fld31_1 (b := x) (o := 0) rfl) ?_)
                      refine hl_yes (wanted_y rfl rfl rfl hg45) rfl (HStep.of_val (v := (.int .u64 x_Sequence)) (hv_load TyQE.agg29 rfl (rowcell hr21' rfl)) ?_)
                      refine hl_yes (wanted_y rfl rfl rfl hg45) rfl (HStep.of_val (v := (.bool (x_Sequence == 0))) (hv_arith rfl rfl rfl) ?_)
                      refine hl_yes (wanted_y rfl rfl rfl hg45) rfl (HStep.of_val (v := (.bool (x_Sequence == 0))) (hv_move rfl) ?_)
                      rcases bool_or (x_Sequence == 0) with hg46 | hg46
                      · refine hl_no (wanted_n rfl rfl rfl hg46) rfl ?_
                        refine hl_no (wanted_n rfl rfl rfl hg46) rfl ?_
                        refine hl_no (wanted_n rfl rfl rfl hg46) rfl ?_
                        refine hl_no (wanted_n rfl rfl rfl hg46) rfl ?_
                        refine hl_yes (wanted_y rfl rfl rfl hg45) rfl (HStep.of_val (v := (.bool true)) (hv_pick_t rfl hg46 rfl) ?_)
                        refine hl_yes (wanted_y rfl rfl (c := false) rfl rfl) rfl (HStep.of_val (v := (.bool true)) (hv_pick_t rfl hg45 rfl) ?_)
                        refine hl_val rfl rfl (v := (.bool true)) (hv_pick (t := false) rfl rfl) ?_
                        refine hl_nil ?_
                        refine seqQ_n ?_
                        exact ⟨rfl, (has_cons rfl (has_cons rfl (has_cons rfl (has_cons rfl (has_cons rfl (has_cons rfl (has_cons rfl (has_cons (show ((.bool true) : Value) = (.bool (bif !(x_State == 1) then (!(x_State == 3)) || ((x_Pins != 0) || ((decide (x_Erases < 0)) || ((decide (x_Erases > 2147483647)) || (bif x_State == 1 then (x_Sequence != 0) || ((x_State == 3) && ((x_Sequence == 0) || (decide (x_Sequence > last)))) else (x_State == 3) && ((x_Sequence == 0) || (decide (x_Sequence > last))))))) else (x_Pins != 0) || ((decide (x_Erases < 0)) || ((decide (x_Erases > 2147483647)) || (bif x_State == 1 then (x_Sequence != 0) || ((x_State == 3) && ((x_Sequence == 0) || (decide (x_Sequence > last)))) else (x_State == 3) && ((x_Sequence == 0) || (decide (x_Sequence > last)))))))) from (by first | rfl | ((try rw [hg27]); (try rw [hg38]); (try rw [hg39]); (try rw [hg40]); (try rw [hg41]); (try rw [hg45]); (try rw [hg46]); all_goals first | rfl | (simp only [Bool.true_or, Bool.or_true, Bool.false_or, Bool.or_false, Bool.true_and, Bool.and_true, Bool.false_and, Bool.and_false, Bool.not_true, Bool.not_false, Bool.cond_true, Bool.cond_false]; done)) | simp [hg27, hg38, hg39, hg40, hg41, hg45, hg46])) has_nil))))))))⟩
                      · refine hl_yes (wanted_y rfl rfl rfl hg46) rfl (HStep.of_val (v := (ptr x 1)) (hv_field TyQE.fld31_1 (b := x) (o := 0) rfl) ?_)
                        refine hl_yes (wanted_y rfl rfl rfl hg46) rfl (HStep.of_val (v := (.int .u64 x_Sequence)) (hv_load TyQE.agg29 rfl (rowcell hr21' rfl)) ?_)
                        refine hl_yes (wanted_y rfl rfl rfl hg46) rfl (HStep.of_val (v := (.int .u64 last)) (hv_move rfl) ?_)
                        refine hl_yes (wanted_y rfl rfl rfl hg46) rfl (HStep.of_val (v := (.bool (decide (x_Sequence > last)))) (hv_arith rfl rfl rfl) ?_)
                        refine hl_yes (wanted_y rfl rfl rfl hg45) rfl (HStep.of_val (v := (.bool (decide (x_Sequence > last)))) (hv_pick_f rfl hg46 rfl) ?_)
                        refine hl_yes (wanted_y rfl rfl (c := false) rfl rfl) rfl (HStep.of_val (v := (.bool (decide (x_Sequence > last)))) (hv_pick_t rfl hg45 rfl) ?_)
                        refine hl_val rfl rfl (v := (.bool (decide (x_Sequence > last)))) (hv_pick (t := false) rfl rfl) ?_
                        refine hl_nil ?_
                        refine seqQ_n ?_
                        exact ⟨rfl, (has_cons rfl (has_cons rfl (has_cons rfl (has_cons rfl (has_cons rfl (has_cons rfl (has_cons rfl (has_cons (show ((.bool (decide (x_Sequence > last))) : Value) = (.bool (bif !(x_State == 1) then (!(x_State == 3)) || ((x_Pins != 0) || ((decide (x_Erases < 0)) || ((decide (x_Erases > 2147483647)) || (bif x_State == 1 then (x_Sequence != 0) || ((x_State == 3) && ((x_Sequence == 0) || (decide (x_Sequence > last)))) else (x_State == 3) && ((x_Sequence == 0) || (decide (x_Sequence > last))))))) else (x_Pins != 0) || ((decide (x_Erases < 0)) || ((decide (x_Erases > 2147483647)) || (bif x_State == 1 then (x_Sequence != 0) || ((x_State == 3) && ((x_Sequence == 0) || (decide (x_Sequence > last)))) else (x_State == 3) && ((x_Sequence == 0) || (decide (x_Sequence > last)))))))) from (by first | rfl | ((try rw [hg27]); (try rw [hg38]); (try rw [hg39]); (try rw [hg40]); (try rw [hg41]); (try rw [hg45]); (try rw [hg46]); all_goals first | rfl | (simp only [Bool.true_or, Bool.or_true, Bool.false_or, Bool.or_false, Bool.true_and, Bool.and_true, Bool.false_and, Bool.and_false, Bool.not_true, Bool.not_false, Bool.cond_true, Bool.cond_false]; done)) | simp [hg27, hg38, hg39, hg40, hg41, hg45, hg46])) has_nil))))))))⟩
                    · refine hl_no (wanted_n rfl rfl rfl hg45) rfl ?_
                      refine hl_no (wanted_n rfl rfl rfl hg45) rfl ?_
                      refine hl_no (wanted_n rfl rfl rfl hg45) rfl ?_
                      refine hl_no (wanted_n rfl rfl rfl hg45) rfl ?_
                      refine hl_no (wanted_u rfl rfl rfl) rfl ?_
                      refine hl_no (wanted_u rfl rfl rfl) rfl ?_
                      refine hl_no (wanted_u rfl rfl rfl) rfl ?_
                      refine hl_no (wanted_u rfl rfl rfl) rfl ?_
                      refine hl_no (wanted_n rfl rfl rfl hg45) rfl ?_
                      refine hl_yes (wanted_y rfl rfl (c := false) rfl rfl) rfl (HStep.of_val (v := (.bool false)) (hv_pick_f rfl hg45 rfl) ?_)
                      refine hl_val rfl rfl (v := (.bool false)) (hv_pick (t := false) rfl rfl) ?_
                      refine hl_nil ?_
                      refine seqQ_n ?_
                      exact ⟨rfl, (has_cons rfl (has_cons rfl (has_cons rfl (has_cons rfl (has_cons rfl (has_cons rfl (has_cons rfl (has_cons (show ((.bool false) : Value) = (.bool (bif !(x_State == 1) then (!(x_State == 3)) || ((x_Pins != 0) || ((decide (x_Erases < 0)) || ((decide (x_Erases > 2147483647)) || (bif x_State == 1 then (x_Sequence != 0) || ((x_State == 3) && ((x_Sequence == 0) || (decide (x_Sequence > last)))) else (x_State == 3) && ((x_Sequence == 0) || (decide (x_Sequence > last))))))) else (x_Pins != 0) || ((decide (x_Erases < 0)) || ((decide (x_Erases > 2147483647)) || (bif x_State == 1 then (x_Sequence != 0) || ((x_State == 3) && ((x_Sequence == 0) || (decide (x_Sequence > last)))) else (x_State == 3) && ((x_Sequence == 0) || (decide (x_Sequence > last)))))))) from (by first | rfl | ((try rw [hg27]); (try rw [hg38]); (try rw [hg39]); (try rw [hg40]); (try rw [hg41]); (try rw [hg45]); all_goals first | rfl | (simp only [Bool.true_or, Bool.or_true, Bool.false_or, Bool.or_false, Bool.true_and, Bool.and_true, Bool.false_and, Bool.and_false, Bool.not_true, Bool.not_false, Bool.cond_true, Bool.cond_false]; done)) | simp [hg27, hg38, hg39, hg40, hg41, hg45])) has_nil))))))))⟩
        · rintro ρ _ ⟨rfl, hH⟩
          refine hx_has _ hH ?_
          refine hx_cond (b := (bif !(x_State == 1) then (!(x_State == 3)) || ((x_Pins != 0) || ((decide (x_Erases < 0)) || ((decide (x_Erases > 2147483647)) || (bif x_State == 1 then (x_Sequence != 0) || ((x_State == 3) && ((x_Sequence == 0) || (decide (x_Sequence > last)))) else (x_State == 3) && ((x_Sequence == 0) || (decide (x_Sequence > last))))))) else (x_Pins != 0) || ((decide (x_Erases < 0)) || ((decide (x_Erases > 2147483647)) || (bif x_State == 1 then (x_Sequence != 0) || ((x_State == 3) && ((x_Sequence == 0) || (decide (x_Sequence > last)))) else (x_State == 3) && ((x_Sequence == 0) || (decide (x_Sequence > last)))))))) rfl (fun hb47 => ?_) (fun hb47 => ?_)
          · replace H := H.1 hb47
            refine hx_seq ?_
            refine hx_region ?_
            refine hl_val rfl rfl (v := (.pointer none)) (hv_assign rfl) ?_
            refine hl_val rfl rfl (v := (.int .i64 1)) (hv_assign rfl) ?_
            refine hl_nil ?_
            refine seqQ_n ?_
            refine hx_ret ?_
            refine seqQ_ret ?_
            refine blockQ_ret ?_
            refine seqQ_ret ?_
            refine seqQ_ret ?_
            refine blockQ_ret ?_
            refine seqQ_ret ?_
            replace H := H h4 xv24
            exact endQ_ret _ (res_two Try.results30 (rv_tmp rfl) (rv_tmp rfl)) H
          · replace H := H.2 hb47
            refine hx_skip ?_
            refine seqQ_n ?_
            refine hx_seq ?_
            refine hx_seq ?_
            refine hx_region ?_
            refine hl_val rfl rfl (v := (.int .i64 0)) (hv_assign rfl) ?_
            refine hl_nil ?_
            refine seqQ_n ?_
            refine hx_block ?_
            obtain ⟨I48, mu49, Ha50, Hr51⟩ := H
            refine hx_loopT (σ := Int) (fun s => [(0, (.slice (some ⟨l_b, l_o, none⟩) l_n l_c)), (1, (.int .u64 last)), (6, (.pointer r)), (7, (.int .i64 i)), (8, (ptr x 0)), (9, (.bool (x_State == 1))), (10, (.bool (x_State == 3))), (11, (.int .i64 s))]) (fun s h' => I48 s ∧ h4 = h') (fun s _ => mu49 s) 0 ⟨Ha50, rfl⟩ (has_cons rfl (has_cons rfl (has_cons rfl (has_cons rfl (has_cons rfl (has_cons rfl (has_cons rfl (has_cons rfl has_nil)))))))) ?_
            rintro k ρ _ ⟨Hi52, rfl⟩
            have H := Hr51 k Hi52
            refine hx_seq ?_
            refine hx_seq ?_
            refine hx_region ?_
            refine hl_val rfl rfl (v := (.int .i64 k)) (hv_move rfl) ?_
            refine hl_val rfl rfl (v := (.int .i64 i)) (hv_move rfl) ?_
            refine hl_val rfl rfl (v := (.bool (decide (k < i)))) (hv_arith rfl rfl rfl) ?_
            refine hl_nil ?_
            refine seqQ_n ?_
            refine hx_cond (b := decide (k < i)) rfl (fun hb53 => ?_) (fun hb53 => ?_)
            · replace H := H.1 hb53
              refine hx_skip ?_
              refine seqQ_n ?_
              refine hx_seq ?_
              refine hx_block ?_
              obtain ⟨j_2, Hx54, Hy55⟩ := H
              refine hx_cut (fun ρ h' => h4 = h' ∧ Has ρ [(0, (.slice (some ⟨l_b, l_o, none⟩) l_n l_c)), (1, (.int .u64 last)), (6, (.pointer r)), (7, (.int .i64 i)), (8, (ptr x 0)), (9, (.bool (x_State == 1))), (10, (.bool (x_State == 3))), (11, (.int .i64 k)), (101, (.bool j_2))]) ?_ ?_
              · have H := Hx54; clear Hx54 Hy55
                refine hx_draw TyQE.mixed [.pure, .pure, .pure, .pure, .pure, .pure, .read, .pure, .read, .pure, .pure] [0, 1, 2, 3, 4, 5, 6, 7, 8, 9, 10] (by kernel_rfl) ?_
                refine hp_pure (i := 0) rfl (wanted_0 rfl) rfl (.bool (x_State == 3)) (fun _ => hv_move rfl) ?_
                refine hp_pure (i := 1) rfl (wanted_0 rfl) rfl (.bool (x_State == 3)) (fun _ => hv_move rfl) ?_
                rcases bool_or (x_State == 3) with hg56 | hg56
                · replace H := H.1 hg56
                  refine hp_pure (i := 2) rfl (wanted_y rfl rfl rfl hg56) rfl (.slice (some ⟨l_b, l_o, none⟩) l_n l_c) (fun _ => hv_move rfl) ?_
                  refine hp_pure (i := 3) rfl (wanted_y rfl rfl rfl hg56) rfl (.int .i64 k) (fun _ => hv_move rfl) ?_
                  obtain ⟨hi57, hi58, H⟩ := H
                  refine hp_pure (i := 4) rfl (wanted_y rfl rfl rfl hg56) rfl (ptr l_b (l_o + (Int.toNat k) * 4)) (fun _ => hv_index TyQE.el28 rfl rfl hi57 hi58) ?_
                  refine hp_pure (i := 5) rfl (wanted_y rfl rfl rfl hg56) rfl (ptr l_b ((l_o + (Int.toNat k) * 4) + 1)) (fun _ => hv_field TyQE.fld31_1 (b := l_b) (o := l_o + (Int.toNat k) * 4) rfl) ?_
                  obtain ⟨x_1, hc59, H⟩ := H
                  refine hp_read (i := 6) rfl (wanted_y rfl rfl rfl hg56) rfl (.int .u64 x_1) (fun _ he => hv_load TyQE.agg29 rfl (Ext.cell he (Ext.cell xv24 hc59))) ?_
                  refine hp_pure (i := 7) rfl (wanted_y rfl rfl rfl hg56) rfl (ptr x 1) (fun _ => hv_field TyQE.fld31_1 (b := x) (o := 0) rfl) ?_
                  refine hp_read (i := 8) rfl (wanted_y rfl rfl rfl hg56) rfl (.int .u64 x_Sequence) (fun _ he => hv_load TyQE.agg29 rfl (Ext.cell he (rowcell hr21' rfl))) ?_
                  refine hp_pure (i := 9) rfl (wanted_y rfl rfl rfl hg56) rfl (.bool (x_1 == x_Sequence)) (fun _ => hv_arith rfl rfl rfl) ?_
                  refine hp_pure (i := 10) rfl (wanted_0 rfl) rfl (.bool (x_1 == x_Sequence)) (fun _ => hv_pick_t rfl hg56 rfl) ?_
                  refine hp_nil ?_
                  refine seqQ_n ?_
                  obtain rfl := H
                  exact ⟨rfl, (has_cons rfl (has_cons rfl (has_cons rfl (has_cons rfl (has_cons rfl (has_cons rfl (has_cons rfl (has_cons rfl (has_cons rfl has_nil)))))))))⟩
                · replace H := H.2 hg56
                  refine hp_no (i := 2) rfl (wanted_n rfl rfl rfl hg56) ?_
                  refine hp_no (i := 3) rfl (wanted_n rfl rfl rfl hg56) ?_
                  refine hp_no (i := 4) rfl (wanted_n rfl rfl rfl hg56) ?_
                  refine hp_no (i := 5) rfl (wanted_n rfl rfl rfl hg56) ?_
                  refine hp_no (i := 6) rfl (wanted_n rfl rfl rfl hg56) ?_
                  refine hp_no (i := 7) rfl (wanted_n rfl rfl rfl hg56) ?_
                  refine hp_no (i := 8) rfl (wanted_n rfl rfl rfl hg56) ?_
                  refine hp_no (i := 9) rfl (wanted_n rfl rfl rfl hg56) ?_
                  refine hp_pure (i := 10) rfl (wanted_0 rfl) rfl (.bool false) (fun _ => hv_pick_f rfl hg56 rfl) ?_
                  refine hp_nil ?_
                  refine seqQ_n ?_
                  obtain rfl := H
                  exact ⟨rfl, (has_cons rfl (has_cons rfl (has_cons rfl (has_cons rfl (has_cons rfl (has_cons rfl (has_cons rfl (has_cons rfl (has_cons rfl has_nil)))))))))⟩
              · have H := Hy55; clear Hx54 Hy55
                rintro ρ _ ⟨rfl, hH⟩
                refine hx_has _ hH ?_
                refine hx_cond (b := j_2) rfl (fun hb60 => ?_) (fun hb60 => ?_)
                · replace H := H.1 hb60
                  refine hx_seq ?_
                  refine hx_region ?_
                  refine hl_val rfl rfl (v := (.pointer none)) (hv_assign rfl) ?_
                  refine hl_val rfl rfl (v := (.int .i64 1)) (hv_assign rfl) ?_
                  refine hl_nil ?_
                  refine seqQ_n ?_
                  refine hx_ret ?_
                  refine blockQ_ret ?_
                  refine seqQ_ret ?_
                  refine seqQ_ret ?_
                  refine blockQ_ret ?_
                  refine seqQ_ret ?_
                  refine blockQ_ret ?_
                  refine seqQ_ret ?_
                  refine seqQ_ret ?_
                  refine blockQ_ret ?_
                  refine seqQ_ret ?_
                  replace H := H h4 xv24
                  exact endQ_ret _ (res_two Try.results30 (rv_tmp rfl) (rv_tmp rfl)) H
                · replace H := H.2 hb60
                  refine hx_skip ?_
                  refine blockQ_n ?_
                  refine seqQ_n ?_
                  refine hx_region ?_
                  refine hl_val rfl rfl (v := (.int .i64 k)) (hv_move rfl) ?_
                  refine hl_val rfl rfl (v := (.int .i64 (IntKind.i64.wrap (k + 1)))) (hv_arith rfl rfl rfl) ?_
                  refine hl_val rfl rfl (v := (.int .i64 (IntKind.i64.wrap (k + 1)))) (hv_assign rfl) ?_
                  refine hl_nil ?_
                  refine seqQ_n ?_
                  exact ⟨IntKind.i64.wrap (k + 1), ⟨⟨H.1, rfl⟩, H.2⟩, (has_cons rfl (has_cons rfl (has_cons rfl (has_cons rfl (has_cons rfl (has_cons rfl (has_cons rfl (has_cons rfl has_nil))))))))⟩
            · replace H := H.2 hb53
              refine hx_exit ?_
              refine seqQ_exit ?_
              refine seqQ_exit ?_
              refine blockQ_here ?_
              refine seqQ_n ?_
              obtain ⟨A64, Hx61, Hy62⟩ := H
              refine hx_cut (fun ρ h' => (A64 h' ∧ h'[x]? = some (.cells #[(.int .i64 x_State), (.int .u64 x_Sequence), (.int .i64 x_Pins), (.int .i64 x_Erases)] 31 (0, 0)) ∧ True) ∧ Has ρ [(0, (.slice (some ⟨l_b, l_o, none⟩) l_n l_c)), (1, (.int .u64 last)), (6, (.pointer r)), (7, (.int .i64 i)), (8, (ptr x 0))]) ?_ ?_
              · have H := Hx61; clear Hx61 Hy62
                refine hx_seq ?_
                refine hx_region ?_
                refine hl_val rfl rfl (v := (.bool (x_State == 1))) (hv_move rfl) ?_
                refine hl_nil ?_
                refine seqQ_n ?_
                refine hx_cond (b := x_State == 1) rfl (fun hb66 => ?_) (fun hb66 => ?_)
                · replace H := H.1 hb66
                  refine hx_region ?_
                  refine hl_val rfl rfl (v := (.pointer r)) (hv_move rfl) ?_
                  refine hl_val rfl rfl (v := (.pointer r)) (hv_move rfl) ?_
                  obtain ⟨r_b, r_o, hqe, Hq⟩ := H
                  subst hqe
                  have H := Hq; clear Hq
                  refine hl_val rfl rfl (v := (ptr r_b r_o)) (hv_nil rfl) ?_
                  refine hl_val rfl rfl (v := (ptr r_b (r_o + 1))) (hv_field TyQE.fld78_1 (b := r_b) (o := r_o) rfl) ?_
                  obtain ⟨x_1, x_n, x_c, hc67, H⟩ := H
                  refine hl_val rfl rfl (v := (.slice x_1 x_n x_c)) (hv_load TyQE.agg50 rfl (Ext.cell xv24 hc67)) ?_
                  refine hl_val rfl rfl (v := (.int .i64 i)) (hv_move rfl) ?_
                  replace H := H x h4 lo22 (row_lt hr21') xv24
                  refine hl_step rfl rfl (hn_buildSlice (n := 1) (vs := [(0, (.int .i64 i))]) (cs := #[(.int .i64 i)]) TyQE.u50 TyQE.sz3 TyQE.z3 rfl rfl (by kernel_rfl) ?_)
                  intro nb h6 eb68 eh69
                  replace H := H nb h6 eb68 eh69
                  have xx70 : Ext h4 h6 := by rw [eh69]; exact Ext.push _ _
                  replace hr21' := Ext.row xx70 hr21'
                  refine hl_step rfl rfl (hs_append rfl rfl (HAppend.mono H ?_))
                  rintro _ h7 ⟨kp71, ap, ap_n, ap_c, rfl, H⟩
                  replace hr21' := Kp.row kp71 (by simp) hr21'
                  refine hl_val rfl rfl (v := (ptr r_b r_o)) (hv_nil rfl) ?_
                  refine hl_val rfl rfl (v := (ptr r_b (r_o + 1))) (hv_field TyQE.fld78_1 (b := r_b) (o := r_o) rfl) ?_
                  obtain ⟨hw73, ho74, H⟩ := H
                  refine hl_step rfl rfl (hn_store (v := (.slice ap ap_n ap_c)) rfl rfl TyQE.sz50 rfl hw73 ?_)
                  intro h8 eh72
                  replace H := H h8 eh72
                  replace hr21' := row_hset_ne eh72 (ho74 _ (by simp)) hr21'
                  refine hl_nil ?_
                  refine seqQ_n ?_
                  exact ⟨⟨H, hr21', trivial⟩, (has_cons rfl (has_cons rfl (has_cons rfl (has_cons rfl (has_cons rfl has_nil)))))⟩
                · replace H := H.2 hb66
                  refine hx_skip ?_
                  replace H := H h4 xv24
                  refine seqQ_n ?_
                  exact ⟨⟨H, hr21', trivial⟩, (has_cons rfl (has_cons rfl (has_cons rfl (has_cons rfl (has_cons rfl has_nil)))))⟩
              · rintro ρ h5 ⟨⟨HA65, hr63, -⟩, hH⟩
                have H := Hy62 h5 HA65; clear Hx61 Hy62
                refine hx_has _ hH ?_
                replace H := H x lo22 (row_lt hr63)
                refine hx_draw TyQE.mixed [.pure, .pure, .pure, .read, .pure, .read, .pure, .wild] [0, 1, 2, 3, 4, 5, 6, 7] (by kernel_rfl) ?_
                refine hp_pure (i := 0) rfl (wanted_0 rfl) rfl (.pointer r) (fun _ => hv_move rfl) ?_
                obtain ⟨r_b_1, r_o_1, hqe, Hq⟩ := H
                subst hqe
                have H := Hq; clear Hq
                refine hp_pure (i := 1) rfl (wanted_0 rfl) rfl (ptr r_b_1 r_o_1) (fun _ => hv_nil rfl) ?_
                refine hp_pure (i := 2) rfl (wanted_0 rfl) rfl (ptr r_b_1 r_o_1) (fun _ => hv_field TyQE.fld78_0 (b := r_b_1) (o := r_o_1) rfl) ?_
                obtain ⟨x_2, x_n_1, x_c_1, hc75, H⟩ := H
                refine hp_read (i := 3) rfl (wanted_0 rfl) rfl (.slice x_2 x_n_1 x_c_1) (fun _ he => hv_load TyQE.agg28 rfl (Ext.cell he hc75)) ?_
                refine hp_pure (i := 4) rfl (wanted_0 rfl) rfl (.int .i64 i) (fun _ => hv_move rfl) ?_
                refine hp_read (i := 5) rfl (wanted_0 rfl) rfl (.agg #[(.int .i64 x_State), (.int .u64 x_Sequence), (.int .i64 x_Pins), (.int .i64 x_Erases)]) (fun _ he => hv_loads (vs := [(.int .i64 x_State), (.int .u64 x_Sequence), (.int .i64 x_Pins), (.int .i64 x_Erases)]) TyQE.agg31 TyQE.sz31 rfl (hcells_cons (Ext.cell he (rowcell hr63 rfl)) (hcells_cons (Ext.cell he (rowcell hr63 rfl)) (hcells_cons (Ext.cell he (rowcell hr63 rfl)) (hcells_cons (Ext.cell he (rowcell hr63 rfl)) hcells_nil))))) ?_
                obtain ⟨x_2_b, x_2_o, hqe, hi76, hi77, Hq⟩ := H
                subst hqe
                have H := Hq; clear Hq
                refine hp_pure (i := 6) rfl (wanted_0 rfl) rfl (ptr x_2_b (x_2_o + (Int.toNat i) * 4)) (fun _ => hv_index TyQE.el28 rfl rfl hi76 hi77) ?_
                obtain ⟨hw79, H⟩ := H
                refine hp_wild (i := 7) rfl (wanted_0 rfl) rfl (hn_stores (vs := [(.int .i64 x_State), (.int .u64 x_Sequence), (.int .i64 x_Pins), (.int .i64 x_Erases)]) rfl rfl TyQE.sz31 rfl hw79 ?_)
                intro h9 eh78
                replace H := H h9 eh78
                refine hp_nil ?_
                refine blockQ_n ?_
                refine seqQ_n ?_
                refine hx_region ?_
                refine hl_val rfl rfl (v := (.int .i64 i)) (hv_move rfl) ?_
                refine hl_val rfl rfl (v := (.int .i64 (IntKind.i64.wrap (i + 1)))) (hv_arith rfl rfl rfl) ?_
                refine hl_val rfl rfl (v := (.int .i64 (IntKind.i64.wrap (i + 1)))) (hv_assign rfl) ?_
                refine hl_nil ?_
                refine seqQ_n ?_
                exact ⟨IntKind.i64.wrap (i + 1), ⟨⟨H.1, trivial⟩, H.2⟩, (has_cons rfl (has_cons rfl (has_cons rfl (has_cons rfl has_nil))))⟩
      · replace H := H.2 hb11
        refine hx_exit ?_
        refine seqQ_exit ?_
        refine seqQ_exit ?_
        refine blockQ_here ?_
        refine seqQ_n ?_
        refine hx_seq ?_
        refine hx_region ?_
        refine hl_val rfl rfl (v := (.pointer r)) (hv_move rfl) ?_
        refine hl_val rfl rfl (v := (.int .u64 last)) (hv_move rfl) ?_
        obtain ⟨r_b, r_o, hqe, Hq⟩ := H
        subst hqe
        have H := Hq; clear Hq
        refine hl_val rfl rfl (v := (ptr r_b r_o)) (hv_nil rfl) ?_
        refine hl_val rfl rfl (v := (ptr r_b (r_o + 2))) (hv_field TyQE.fld78_2 (b := r_b) (o := r_o) rfl) ?_
        obtain ⟨hw81, H⟩ := H
        refine hl_step rfl rfl (hn_store (v := (.int .u64 last)) rfl rfl TyQE.sz29 rfl hw81 ?_)
        intro h10 eh80
        replace H := H h10 eh80
        refine hl_nil ?_
        refine seqQ_n ?_
        refine hx_seq ?_
        refine hx_region ?_
        refine hl_val rfl rfl (v := (ptr r_b r_o)) (hv_move rfl) ?_
        refine hl_val rfl rfl (v := (ptr r_b r_o)) (hv_assign rfl) ?_
        refine hl_val rfl rfl (v := (.int .i64 0)) (hv_assign rfl) ?_
        refine hl_nil ?_
        refine seqQ_n ?_
        refine hx_ret ?_
        exact endQ_ret _ (res_two Try.results30 (rv_tmp rfl) (rv_tmp rfl)) H

/-- cellar/region.loads -/
theorem f49_sh (l : Option Addr) (l_n : Nat) (l_c : Nat) (last : Int) (h : Heap) (R : Value → Heap → Prop)
    (H : (∀ mb h1, mb = Array.size h → Ext h h1 → Array.size h1 = Array.size h + 1 → MapL h1 mb (Value.int .u64) [] → (∃ (I5 : Int → Heap → Prop) (mu6 : Int → Heap → Nat), I5 0 h1 ∧ (∀ (v : Int) (h2 : Heap), I5 v h2 → (((decide (v < (l_n : Int))) = true → (∃ l_b l_o : Nat, l = some ⟨l_b, l_o, none⟩ ∧ (0 : Int) ≤ v ∧ v < (l_n : Int) ∧ (∃ x_State x_Sequence x_Pins x_Erases : Int, hcell h2 l_b (l_o + (Int.toNat v) * 4) = some (.int .i64 x_State) ∧ hcell h2 l_b ((l_o + (Int.toNat v) * 4) + 1) = some (.int .u64 x_Sequence) ∧ hcell h2 l_b ((l_o + (Int.toNat v) * 4) + 2) = some (.int .i64 x_Pins) ∧ hcell h2 l_b ((l_o + (Int.toNat v) * 4) + 3) = some (.int .i64 x_Erases) ∧ (((bif !((x_State == 1) && (x_Sequence == 0)) then (!((x_State == 3) && ((decide (x_Sequence ≥ 1)) && (decide (x_Sequence ≤ last))))) || ((x_Pins != 0) || ((decide (x_Erases < 0)) || (decide (x_Erases > 2147483647)))) else (x_Pins != 0) || ((decide (x_Erases < 0)) || (decide (x_Erases > 2147483647)))) = true → (∀ (h4 : Heap), Ext h2 h4 → R (.bool false) h4)) ∧ ((bif !((x_State == 1) && (x_Sequence == 0)) then (!((x_State == 3) && ((decide (x_Sequence ≥ 1)) && (decide (x_Sequence ≤ last))))) || ((x_Pins != 0) || ((decide (x_Erases < 0)) || (decide (x_Erases > 2147483647)))) else (x_Pins != 0) || ((decide (x_Erases < 0)) || (decide (x_Erases > 2147483647)))) = false → (∃ A43 : Heap → Prop, ((((x_State == 3) && ((decide (x_Sequence ≥ 1)) && (decide (x_Sequence ≤ last)))) = true → (∃ kv : List (Int × Value), MapL h2 mb (Value.int .u64) kv ∧ ∃ x : Int, (lk kv x_Sequence).getD (.int .i64 0) = (.int .i64 x) ∧ (∀ (r : Nat) (h4 : Heap), Array.size h2 ≤ r → r < Array.size h4 → Ext h2 h4 → (∃ kv_1 : List (Int × Value), MapL h4 mb (Value.int .u64) kv_1 ∧ ∀ h6, Only mb h4 h6 → MapL h6 mb (Value.int .u64) (kput kv_1 x_Sequence (.int .i64 (IntKind.i64.wrap (x + 1)))) → (A43 h6))))) ∧ (((x_State == 3) && ((decide (x_Sequence ≥ 1)) && (decide (x_Sequence ≤ last)))) = false → (∀ (h4 : Heap), Ext h2 h4 → (A43 h4)))) ∧ (∀ (h5 : Heap), A43 h5 → ∀ (r : Nat), Array.size h2 ≤ r → r < Array.size h5 → (∃ kv_2 : List (Int × Value), MapL h5 mb (Value.int .u64) kv_2 ∧ ∃ x_1 : Int, (lk kv_2 x_Sequence).getD (.int .i64 0) = (.int .i64 x_1) ∧ (((decide (x_1 > 1)) = true → R (.bool false) h5) ∧ ((decide (x_1 > 1)) = false → (I5 (IntKind.i64.wrap (v + 1)) h5 ∧ mu6 (IntKind.i64.wrap (v + 1)) h5 < mu6 v h2))))))))))) ∧ ((decide (v < (l_n : Int))) = false → R (.bool (decide (last ≤ 9223372036854775807))) h2)))))) :
    HC Try.prog 49 #[(.slice l l_n l_c), (.int .u64 last)] h R := by
  refine hc_of (args := [(.slice l l_n l_c), (.int .u64 last)]) Try.func49 rfl Try.ntmps49 (Nat.le_of_ble_eq_true rfl) ?_
  refine hx_seq ?_
  refine hx_region ?_
  refine hl_val rfl rfl (v := (.bool false)) (hv_assign rfl) ?_
  refine hl_nil ?_
  refine seqQ_n ?_
  refine hx_seq ?_
  refine hx_region ?_
  refine hl_step rfl rfl (hn_makeMap (enc := (Value.int .u64)) ?_)
  intro mb h1 eb1 ex2 ez3 mm4
  replace H := H mb h1 eb1 ex2 ez3 mm4
  refine hl_val rfl rfl (v := (.map (some mb))) (hv_assign rfl) ?_
  refine hl_nil ?_
  refine seqQ_n ?_
  refine hx_seq ?_
  refine hx_seq ?_
  refine hx_region ?_
  refine hl_val rfl rfl (v := (.slice l l_n l_c)) (hv_move rfl) ?_
  refine hl_val rfl rfl (v := (.int .i64 (l_n : Int))) (hv_len (n := l_n) TyQE.u28 rfl) ?_
  refine hl_val rfl rfl (v := (.int .i64 0)) (hv_move rfl) ?_
  refine hl_nil ?_
  refine seqQ_n ?_
  refine hx_block ?_
  obtain ⟨I5, mu6, Ha7, Hr8⟩ := H
  refine hx_loopT (σ := Int) (fun s => [(1, (.int .u64 last)), (5, (.map (some mb))), (11, (.slice l l_n l_c)), (12, (.int .i64 (l_n : Int))), (13, (.int .i64 s))]) (fun s h' => I5 s h' ∧ True) (fun s h' => mu6 s h') 0 ⟨Ha7, trivial⟩ (has_cons rfl (has_cons rfl (has_cons rfl (has_cons rfl (has_cons rfl has_nil))))) ?_
  rintro v ρ h2 ⟨Hi9, -⟩
  have H := Hr8 v h2 Hi9
  refine hx_seq ?_
  refine hx_region ?_
  refine hl_val rfl rfl (v := (.bool (decide (v < (l_n : Int))))) (hv_arith rfl rfl rfl) ?_
  refine hl_nil ?_
  refine seqQ_n ?_
  refine hx_seq ?_
  refine hx_cond (b := decide (v < (l_n : Int))) rfl (fun hb10 => ?_) (fun hb10 => ?_)
  · replace H := H.1 hb10
    refine hx_skip ?_
    refine seqQ_n ?_
    refine hx_seq ?_
    refine hx_block ?_
    refine hx_seq ?_
    refine hx_region ?_
    obtain ⟨l_b, l_o, hqe, hi11, hi12, Hq⟩ := H
    subst hqe
    have H := Hq; clear Hq
    refine hl_val rfl rfl (v := (ptr l_b (l_o + (Int.toNat v) * 4))) (hv_index TyQE.el28 rfl rfl hi11 hi12) ?_
    obtain ⟨x_State, x_Sequence, x_Pins, x_Erases, hc13, hc14, hc15, hc16, H⟩ := H
    refine hl_val rfl rfl (v := (.agg #[(.int .i64 x_State), (.int .u64 x_Sequence), (.int .i64 x_Pins), (.int .i64 x_Erases)])) (hv_loads (vs := [(.int .i64 x_State), (.int .u64 x_Sequence), (.int .i64 x_Pins), (.int .i64 x_Erases)]) TyQE.agg31 TyQE.sz31 rfl (hcells_cons hc13 (hcells_cons hc14 (hcells_cons hc15 (hcells_cons hc16 hcells_nil))))) ?_
    refine hl_step rfl rfl (hn_alloc TyQE.z31 ?_)
    intro r h3 eb17 eh18
    have xx19 : Ext h2 h3 := by rw [eh18]; exact Ext.push _ _
    have lo21 : Array.size h2 ≤ r := Nat.le_of_eq (Eq.symm eb17)
    have hr20 : h3[r]? = some (.cells #[(.int .i64 0), (.int .u64 0), (.int .i64 0), (.int .i64 0)] 31 (0, 0)) := by rw [eh18]; exact push_new eb17
    refine hl_step rfl rfl (hn_stores (vs := [(.int .i64 x_State), (.int .u64 x_Sequence), (.int .i64 x_Pins), (.int .i64 x_Erases)]) rfl rfl TyQE.sz31 rfl (HWs_row hr20 (by simp)) ?_)
    intro h4 eh22
    have hr20' : h4[r]? = some (.cells #[(.int .i64 x_State), (.int .u64 x_Sequence), (.int .i64 x_Pins), (.int .i64 x_Erases)] 31 (0, 0)) := row_hsets_eq eh22 hr20 rfl
    have xv23 := ext_hsets eh22 xx19 lo21
    refine hl_nil ?_
    refine seqQ_n ?_
    refine hx_cut (fun ρ h' => h4 = h' ∧ Has ρ [(1, (.int .u64 last)), (5, (.map (some mb))), (7, (ptr r 0)), (8, (.bool ((x_State == 1) && (x_Sequence == 0)))), (11, (.slice (some ⟨l_b, l_o, none⟩) l_n l_c)), (12, (.int .i64 (l_n : Int))), (13, (.int .i64 v))]) ?_ ?_
    · refine hx_region ?_
      refine hl_val rfl rfl (v := (ptr r 0)) (hv_field TyQE.fld31_0 (b := r) (o := 0) rfl) ?_
      refine hl_val rfl rfl (v := (.int .i64 x_State)) (hv_load TyQE.agg3 rfl (rowcell hr20' rfl)) ?_
      refine hl_val rfl rfl (v := (.bool (x_State == 1))) (hv_arith rfl rfl rfl) ?_
      refine hl_val rfl rfl (v := (.bool (x_State == 1))) (hv_move rfl) ?_
      rcases bool_or (x_State == 1) with hg26 | hg26
      · refine hl_yes (wanted_y rfl rfl rfl hg26) rfl (HStep.of_val (v := (ptr r 1)) (hv_field TyQE.fld31_1 (b := r) (o := 0) rfl) ?_)
        refine hl_yes (wanted_y rfl rfl rfl hg26) rfl (HStep.of_val (v := (.int .u64 x_Sequence)) (hv_load TyQE.agg29 rfl (rowcell hr20' rfl)) ?_)
        refine hl_yes (wanted_y rfl rfl rfl hg26) rfl (HStep.of_val (v := (.bool (x_Sequence == 0))) (hv_arith rfl rfl rfl) ?_)
        refine hl_val rfl rfl (v := (.bool (x_Sequence == 0))) (hv_pick_t rfl hg26 rfl) ?_
        refine hl_val rfl rfl (v := (.bool (x_Sequence == 0))) (hv_assign rfl) ?_
        refine hl_nil ?_
        refine seqQ_n ?_
        exact ⟨rfl, (has_cons rfl (has_cons rfl (has_cons rfl (has_cons (show ((.bool (x_Sequence == 0)) : Value) = (.bool ((x_State == 1) && (x_Sequence == 0))) from (by first | rfl | ((try rw [hg26]); all_goals first | rfl | (simp only [Bool.true_or, Bool.or_true, Bool.false_or, Bool.or_false, Bool.true_and, Bool.and_true, Bool.false_and, Bool.and_false, Bool.not_true, Bool.not_false, Bool.cond_true, Bool.cond_false]; done)) | simp [hg26])) (has_cons rfl (has_cons rfl (has_cons rfl has_nil)))))))⟩
      · refine hl_no (wanted_n rfl rfl rfl hg26) rfl ?_
        refine hl_no (wanted_n rfl rfl rfl hg26) rfl ?_
        refine hl_no (wanted_n rfl rfl rfl hg26) rfl ?_
        refine hl_val rfl rfl (v := (.bool false)) (hv_pick_f rfl hg26 rfl) ?_
        refine hl_val rfl rfl (v := (.bool false)) (hv_assign rfl) ?_
        refine hl_nil ?_
        refine seqQ_n ?_
        exact ⟨rfl, (has_cons rfl (has_cons rfl (has_cons rfl (has_cons (show ((.bool false) : Value) = (.bool ((x_State == 1) && (x_Sequence == 0))) from (by first | rfl | ((try rw [hg26]); all_goals first | rfl | (simp only [Bool.true_or, Bool.or_true, Bool.false_or, Bool.or_false, Bool.true_and, Bool.and_true, Bool.false_and, Bool.and_false, Bool.not_true, Bool.not_false, Bool.cond_true, Bool.cond_false]; done)) | simp [hg26])) (has_cons rfl (has_cons rfl (has_cons rfl has_nil)))))))⟩
    · rintro ρ _ ⟨rfl, hH⟩
      refine hx_has _ hH ?_
      refine hx_cut (fun ρ h' => h4 = h' ∧ Has ρ [(1, (.int .u64 last)), (5, (.map (some mb))), (7, (ptr r 0)), (8, (.bool ((x_State == 1) && (x_Sequence == 0)))), (9, (.bool ((x_State == 3) && ((decide (x_Sequence ≥ 1)) && (decide (x_Sequence ≤ last)))))), (11, (.slice (some ⟨l_b, l_o, none⟩) l_n l_c)), (12, (.int .i64 (l_n : Int))), (13, (.int .i64 v))]) ?_ ?_
      · refine hx_region ?_
        refine hl_val rfl rfl (v := (ptr r 0)) (hv_field TyQE.fld31_0 (b := r) (o := 0) rfl) ?_
        refine hl_val rfl rfl (v := (.int .i64 x_State)) (hv_load TyQE.agg3 rfl (rowcell hr20' rfl)) ?_
        refine hl_val rfl rfl (v := (.bool (x_State == 3))) (hv_arith rfl rfl rfl) ?_
        refine hl_val rfl rfl (v := (.bool (x_State == 3))) (hv_move rfl) ?_
        rcases bool_or (x_State == 3) with hg29 | hg29
        · refine hl_yes (wanted_y rfl rfl rfl hg29) rfl (HStep.of_val (v := (ptr r 1)) (hv_field TyQE.fld31_1 (b := r) (o := 0) rfl) ?_)
          refine hl_yes (wanted_y rfl rfl rfl hg29) rfl (HStep.of_val (v := (.int .u64 x_Sequence)) (hv_load TyQE.agg29 rfl (rowcell hr20' rfl)) ?_)
          refine hl_yes (wanted_y rfl rfl rfl hg29) rfl (HStep.of_val (v := (.bool (decide (x_Sequence ≥ 1)))) (hv_arith rfl rfl rfl) ?_)
          refine hl_val rfl rfl (v := (.bool (decide (x_Sequence ≥ 1)))) (hv_pick_t rfl hg29 rfl) ?_
          refine hl_val rfl rfl (v := (.bool (decide (x_Sequence ≥ 1)))) (hv_move rfl) ?_
          rcases bool_or (decide (x_Sequence ≥ 1)) with hg30 | hg30
          · refine hl_yes (wanted_y rfl rfl rfl hg30) rfl (HStep.of_val (v := (ptr r 1)) (hv_field TyQE.fld31_1 (b := r) (o := 0) rfl) ?_)
            refine hl_yes (wanted_y rfl rfl rfl hg30) rfl (HStep.of_val (v := (.int .u64 x_Sequence)) (hv_load TyQE.agg29 rfl (rowcell hr20' rfl)) ?_)
            refine hl_yes (wanted_y rfl rfl rfl hg30) rfl (HStep.of_val (v := (.int .u64 last)) (hv_move rfl) ?_)
            refine hl_yes (wanted_y rfl rfl rfl hg30) rfl (HStep.of_val (v := (.bool (decide (x_Sequence ≤ last)))) (hv_arith rfl rfl rfl) ?_)
            refine hl_val rfl rfl (v := (.bool (decide (x_Sequence ≤ last)))) (hv_pick_t rfl hg30 rfl) ?_
            refine hl_val rfl rfl (v := (.bool (decide (x_Sequence ≤ last)))) (hv_assign rfl) ?_
            refine hl_nil ?_
            refine seqQ_n ?_
            exact ⟨rfl, (has_cons rfl (has_cons rfl (has_cons rfl (has_cons rfl (has_cons (show ((.bool (decide (x_Sequence ≤ last))) : Value) = (.bool ((x_State == 3) && ((decide (x_Sequence ≥ 1)) && (decide (x_Sequence ≤ last))))) from (by first | rfl | ((try rw [hg29]); (try rw [hg30]); all_goals first | rfl | (simp only [Bool.true_or, Bool.or_true, Bool.false_or, Bool.or_false, Bool.true_and, Bool.and_true, Bool.false_and, Bool.and_false, Bool.not_true, Bool.not_false, Bool.cond_true, Bool.cond_false]; done)) | simp [hg29, hg30])) (has_cons rfl (has_cons rfl (has_cons rfl has_nil))))))))⟩
          · refine hl_no (wanted_n rfl rfl rfl hg30) rfl ?_
            refine hl_no (wanted_n rfl rfl rfl hg30) rfl ?_
            refine hl_no (wanted_n rfl rfl rfl hg30) rfl ?_
            refine hl_no (wanted_n rfl rfl rfl hg30) rfl ?_
            refine hl_val rfl rfl (v := (.bool false)) (hv_pick_f rfl hg30 rfl) ?_
            refine hl_val rfl rfl (v := (.bool false)) (hv_assign rfl) ?_
            refine hl_nil ?_
            refine seqQ_n ?_
            exact ⟨rfl, (has_cons rfl (has_cons rfl (has_cons rfl (has_cons rfl (has_cons (show ((.bool false) : Value) = (.bool ((x_State == 3) && ((decide (x_Sequence ≥ 1)) && (decide (x_Sequence ≤ last))))) from (by first | rfl | ((try rw [hg29]); (try rw [hg30]); all_goals first | rfl | (simp only [Bool.true_or, Bool.or_true, Bool.false_or, Bool.or_false, Bool.true_and, Bool.and_true, Bool.false_and, Bool.and_false, Bool.not_true, Bool.not_false, Bool.cond_true, Bool.cond_false]; done)) | simp [hg29, hg30])) (has_cons rfl (has_cons rfl (has_cons rfl has_nil))))))))⟩
        · refine hl_no (wanted_n rfl rfl rfl hg29) rfl ?_
          refine hl_no (wanted_n rfl rfl rfl hg29) rfl ?_
          refine hl_no (wanted_n rfl rfl rfl hg29) rfl ?_
          refine hl_val rfl rfl (v := (.bool false)) (hv_pick_f rfl hg29 rfl) ?_
          refine hl_val rfl rfl (v := (.bool false)) (hv_move rfl) ?_
          refine hl_no (wanted_n rfl rfl (c := false) rfl rfl) rfl ?_
          refine hl_no (wanted_n rfl rfl (c := false) rfl rfl) rfl ?_
          refine hl_no (wanted_n rfl rfl (c := false) rfl rfl) rfl ?_
          refine hl_no (wanted_n rfl rfl (c := false) rfl rfl) rfl ?_
          refine hl_val rfl rfl (v := (.bool false)) (hv_pick (t := false) rfl rfl) ?_
          refine hl_val rfl rfl (v := (.bool false)) (hv_assign rfl) ?_
          refine hl_nil ?_
          refine seqQ_n ?_
          exact ⟨rfl, (has_cons rfl (has_cons rfl (has_cons rfl (has_cons rfl (has_cons (show ((.bool false) : Value) = (.bool ((x_State == 3) && ((decide (x_Sequence ≥ 1)) && (decide (x_Sequence ≤ last))))) from (by first | rfl | ((try rw [hg29]); all_goals first | rfl | (simp only [Bool.true_or, Bool.or_true, Bool.false_or, Bool.or_false, Bool.true_and, Bool.and_true, Bool.false_and, Bool.and_false, Bool.not_true, Bool.not_false, Bool.cond_true, Bool.cond_false]; done)) | simp [hg29])) (has_cons rfl (has_cons rfl (has_cons rfl has_nil))))))))⟩
      · rintro ρ _ ⟨rfl, hH⟩
        refine hx_has _ hH ?_
        refine hx_seq ?_
        refine hx_cut (fun ρ h' => h4 = h' ∧ Has ρ [(1, (.int .u64 last)), (5, (.map (some mb))), (7, (ptr r 0)), (9, (.bool ((x_State == 3) && ((decide (x_Sequence ≥ 1)) && (decide (x_Sequence ≤ last)))))), (11, (.slice (some ⟨l_b, l_o, none⟩) l_n l_c)), (12, (.int .i64 (l_n : Int))), (13, (.int .i64 v)), (59, (.bool (bif !((x_State == 1) && (x_Sequence == 0)) then (!((x_State == 3) && ((decide (x_Sequence ≥ 1)) && (decide (x_Sequence ≤ last))))) || ((x_Pins != 0) || ((decide (x_Erases < 0)) || (decide (x_Erases > 2147483647)))) else (x_Pins != 0) || ((decide (x_Erases < 0)) || (decide (x_Erases > 2147483647))))))]) ?_ ?_
        · refine hx_region ?_
          refine hl_val rfl rfl (v := (.bool ((x_State == 1) && (x_Sequence == 0)))) (hv_move rfl) ?_
          refine hl_val rfl rfl (v := (.bool (!((x_State == 1) && (x_Sequence == 0))))) (hv_not (b := ((x_State == 1) && (x_Sequence == 0))) rfl) ?_
          refine hl_val rfl rfl (v := (.bool (!((x_State == 1) && (x_Sequence == 0))))) (hv_move rfl) ?_
          rcases bool_or (!((x_State == 1) && (x_Sequence == 0))) with hg33 | hg33
          · refine hl_yes (wanted_y rfl rfl rfl hg33) rfl (HStep.of_val (v := (.bool ((x_State == 3) && ((decide (x_Sequence ≥ 1)) && (decide (x_Sequence ≤ last)))))) (hv_move rfl) ?_)
            refine hl_yes (wanted_y rfl rfl rfl hg33) rfl (HStep.of_val (v := (.bool (!((x_State == 3) && ((decide (x_Sequence ≥ 1)) && (decide (x_Sequence ≤ last))))))) (hv_not (b := ((x_State == 3) && ((decide (x_Sequence ≥ 1)) && (decide (x_Sequence ≤ last))))) rfl) ?_)
            refine hl_val rfl rfl (v := (.bool (!((x_State == 3) && ((decide (x_Sequence ≥ 1)) && (decide (x_Sequence ≤ last))))))) (hv_pick_t rfl hg33 rfl) ?_
            refine hl_val rfl rfl (v := (.bool (!((x_State == 3) && ((decide (x_Sequence ≥ 1)) && (decide (x_Sequence ≤ last))))))) (hv_move rfl) ?_
            rcases bool_or (!((x_State == 3) && ((decide (x_Sequence ≥ 1)) && (decide (x_Sequence ≤ last))))) with hg34 | hg34
            · refine hl_no (wanted_n rfl rfl rfl hg34) rfl ?_
              refine hl_no (wanted_n rfl rfl rfl hg34) rfl ?_
              refine hl_no (wanted_n rfl rfl rfl hg34) rfl ?_
              refine hl_val rfl rfl (v := (.bool true)) (hv_pick_t rfl hg34 rfl) ?_
              refine hl_val rfl rfl (v := (.bool true)) (hv_move rfl) ?_
              refine hl_no (wanted_n rfl rfl (c := true) rfl rfl) rfl ?_
              refine hl_no (wanted_n rfl rfl (c := true) rfl rfl) rfl ?_
              refine hl_no (wanted_n rfl rfl (c := true) rfl rfl) rfl ?_
              refine hl_val rfl rfl (v := (.bool true)) (hv_pick (t := true) rfl rfl) ?_
              refine hl_val rfl rfl (v := (.bool true)) (hv_move rfl) ?_
              refine hl_no (wanted_n rfl rfl (c := true) rfl rfl) rfl ?_
              refine hl_no (wanted_n rfl rfl (c := true) rfl rfl) rfl ?_
              refine hl_no (wanted_n rfl rfl (c := true) rfl rfl) rfl ?_
              refine hl_val rfl rfl (v := (.bool true)) (hv_pick (t := true) rfl rfl) ?_
              refine hl_nil ?_
              refine seqQ_n ?_
              exact ⟨rfl, (has_cons rfl (has_cons rfl (has_cons rfl (has_cons rfl (has_cons rfl (has_cons rfl (has_cons rfl (has_cons (show ((.bool true) : Value) = (.bool (bif !((x_State == 1) && (x_Sequence == 0)) then (!((x_State == 3) && ((decide (x_Sequence ≥ 1)) && (decide (x_Sequence ≤ last))))) || ((x_Pins != 0) || ((decide (x_Erases < 0)) || (decide (x_Erases > 2147483647)))) else (x_Pins != 0) || ((decide (x_Erases < 0)) || (decide (x_Erases > 2147483647))))) from (by first | rfl | ((try rw [hg33]); (try rw [hg34]); all_goals first | rfl | (simp only [Bool.true_or, Bool.or_true, Bool.false_or, Bool.or_false, Bool.true_and, Bool.and_true, Bool.false_and, Bool.and_false, Bool.not_true, Bool.not_false, Bool.cond_true, Bool.cond_false]; done)) | simp [hg33, hg34])) has_nil))))))))⟩
            · refine hl_yes (wanted_y rfl rfl rfl hg34) rfl (HStep.of_val (v := (ptr r 2)) (hv_field TyQE.fld31_2 (b := r) (o := 0) rfl) ?_)
              refine hl_yes (wanted_y rfl rfl rfl hg34) rfl (HStep.of_val (v := (.int .i64 x_Pins)) (hv_load TyQE.agg3 rfl (rowcell hr20' rfl)) ?_)
              refine hl_yes (wanted_y rfl rfl rfl hg34) rfl (HStep.of_val (v := (.bool (x_Pins != 0))) (hv_arith rfl rfl rfl) ?_)
              refine hl_val rfl rfl (v := (.bool (x_Pins != 0))) (hv_pick_f rfl hg34 rfl) ?_
              refine hl_val rfl rfl (v := (.bool (x_Pins != 0))) (hv_move rfl) ?_
              rcases bool_or (x_Pins != 0) with hg35 | hg35
              · refine hl_no (wanted_n rfl rfl rfl hg35) rfl ?_
                refine hl_no (wanted_n rfl rfl rfl hg35) rfl ?_
                refine hl_no (wanted_n rfl rfl rfl hg35) rfl ?_
                refine hl_val rfl rfl (v := (.bool true)) (hv_pick_t rfl hg35 rfl) ?_
                refine hl_val rfl rfl (v := (.bool true)) (hv_move rfl) ?_
                refine hl_no (wanted_n rfl rfl (c := true) rfl rfl) rfl ?_
                refine hl_no (wanted_n rfl rfl (c := true) rfl rfl) rfl ?_
                refine hl_no (wanted_n rfl rfl (c := true) rfl rfl) rfl ?_
                refine hl_val rfl rfl (v := (.bool true)) (hv_pick (t := true) rfl rfl) ?_
                refine hl_nil ?_
                refine seqQ_n ?_
                exact ⟨rfl, (has_cons rfl (has_cons rfl (has_cons rfl (has_cons rfl (has_cons rfl (has_cons rfl (has_cons rfl (has_cons (show ((.bool true) : Value) = (.bool (bif !((x_State == 1) && (x_Sequence == 0)) then (!((x_State == 3) && ((decide (x_Sequence ≥ 1)) && (decide (x_Sequence ≤ last))))) || ((x_Pins != 0) || ((decide (x_Erases < 0)) || (decide (x_Erases > 2147483647)))) else (x_Pins != 0) || ((decide (x_Erases < 0)) || (decide (x_Erases > 2147483647))))) from (by first | rfl | ((try rw [hg33]); (try rw [hg34]); (try rw [hg35]); all_goals first | rfl | (simp only [Bool.true_or, Bool.or_true, Bool.false_or, Bool.or_false, Bool.true_and, Bool.and_true, Bool.false_and, Bool.and_false, Bool.not_true, Bool.not_false, Bool.cond_true, Bool.cond_false]; done)) | simp [hg33, hg34, hg35])) has_nil))))))))⟩
              · refine hl_yes (wanted_y rfl rfl rfl hg35) rfl (HStep.of_val (v := (ptr r 3)) (hv_field TyQE.fld31_3 (b := r) (o := 0) rfl) ?_)
                refine hl_yes (wanted_y rfl rfl rfl hg35) rfl (HStep.of_val (v := (.int .i64 x_Erases)) (hv_load TyQE.agg3 rfl (rowcell hr20' rfl)) ?_)
                refine hl_yes (wanted_y rfl rfl rfl hg35) rfl (HStep.of_val (v := (.bool (decide (x_Erases < 0)))) (hv_arith rfl rfl rfl) ?_)
                refine hl_val rfl rfl (v := (.bool (decide (x_Erases < 0)))) (hv_pick_f rfl hg35 rfl) ?_
                refine hl_val rfl rfl (v := (.bool (decide (x_Erases < 0)))) (hv_move rfl) ?_
                rcases bool_or (decide (x_Erases < 0)) with hg36 | hg36
                · refine hl_no (wanted_n rfl rfl rfl hg36) rfl ?_
                  refine hl_no (wanted_n rfl rfl rfl hg36) rfl ?_
                  refine hl_no (wanted_n rfl rfl rfl hg36) rfl ?_
                  refine hl_val rfl rfl (v := (.bool true)) (hv_pick_t rfl hg36 rfl) ?_
                  refine hl_nil ?_
                  refine seqQ_n ?_
                  exact ⟨rfl, (has_cons rfl (has_cons rfl (has_cons rfl (has_cons rfl (has_cons rfl (has_cons rfl (has_cons rfl (has_cons (show ((.bool true) : Value) = (.bool (bif !((x_State == 1) && (x_Sequence == 0)) then (!((x_State == 3) && ((decide (x_Sequence ≥ 1)) && (decide (x_Sequence ≤ last))))) || ((x_Pins != 0) || ((decide (x_Erases < 0)) || (decide (x_Erases > 2147483647)))) else (x_Pins != 0) || ((decide (x_Erases < 0)) || (decide (x_Erases > 2147483647))))) from (by first | rfl | ((try rw [hg33]); (try rw [hg34]); (try rw [hg35]); (try rw [hg36]); all_goals first | rfl | (simp only [Bool.true_or, Bool.or_true, Bool.false_or, Bool.or_false, Bool.true_and, Bool.and_true, Bool.false_and, Bool.and_false, Bool.not_true, Bool.not_false, Bool.cond_true, Bool.cond_false]; done)) | simp [hg33, hg34, hg35, hg36])) has_nil))))))))⟩
                · refine hl_yes (wanted_y rfl rfl rfl hg36) rfl (HStep.of_val (v := (ptr r 3)) (hv_field TyQE.fld31_3 (b := r) (o := 0) rfl) ?_)
                  refine hl_yes (wanted_y rfl rfl rfl hg36) rfl (HStep.of_val (v := (.int .i64 x_Erases)) (hv_load TyQE.agg3 rfl (rowcell hr20' rfl)) ?_)
                  refine hl_yes (wanted_y rfl rfl rfl hg36) rfl (HStep.of_val (v := (.bool (decide (x_Erases > 2147483647)))) (hv_arith rfl rfl rfl) ?_)
                  refine hl_val rfl rfl (v := (.bool (decide (x_Erases > 2147483647)))) (hv_pick_f rfl hg36 rfl) ?_
                  refine hl_nil ?_
                  refine seqQ_n ?_
                  exact ⟨rfl, (has_cons rfl (has_cons rfl (has_cons rfl (has_cons rfl (has_cons rfl (has_cons rfl (has_cons rfl (has_cons (show ((.bool (decide (x_Erases > 2147483647))) : Value) = (.bool (bif !((x_State == 1) && (x_Sequence == 0)) then (!((x_State == 3) && ((decide (x_Sequence ≥ 1)) && (decide (x_Sequence ≤ last))))) || ((x_Pins != 0) || ((decide (x_Erases < 0)) || (decide (x_Erases > 2147483647)))) else (x_Pins != 0) || ((decide (x_Erases < 0)) || (decide (x_Erases > 2147483647))))) from (by first | rfl | ((try rw [hg33]); (try rw [hg34]); (try rw [hg35]); (try rw [hg36]); all_goals first | rfl | (simp only [Bool.true_or, Bool.or_true, Bool.false_or, Bool.or_false, Bool.true_and, Bool.and_true, Bool.false_and, Bool.and_false, Bool.not_true, Bool.not_false, Bool.cond_true, Bool.cond_false]; done)) | simp [hg33, hg34, hg35, hg36])) has_nil))))))))⟩
          · refine hl_no (wanted_n rfl rfl rfl hg33) rfl ?_
            refine hl_no (wanted_n rfl rfl rfl hg33) rfl ?_
            refine hl_val rfl rfl (v := (.bool false)) (hv_pick_f rfl hg33 rfl) ?_
            refine hl_val rfl rfl (v := (.bool false)) (hv_move rfl) ?_
            refine hl_yes (wanted_y rfl rfl (c := false) rfl rfl) rfl (HStep.of_val (v := (ptr r 2)) (hv_field TyQE.fld31_2 (b := r) (o := 0) rfl) ?_)
            refine hl_yes (wanted_y rfl rfl (c := false) rfl rfl) rfl (HStep.of_val (v := (.int .i64 x_Pins)) (hv_load TyQE.agg3 rfl (rowcell hr20' rfl)) ?_)
            refine hl_yes (wanted_y rfl rfl (c := false) rfl rfl) rfl (HStep.of_val (v := (.bool (x_Pins != 0))) (hv_arith rfl rfl rfl) ?_)
            refine hl_val rfl rfl (v := (.bool (x_Pins != 0))) (hv_pick (t := false) rfl rfl) ?_
            refine hl_val rfl rfl (v := (.bool (x_Pins != 0))) (hv_move rfl) ?_
            rcases bool_or (x_Pins != 0) with hg37 | hg37
            · refine hl_no (wanted_n rfl rfl rfl hg37) rfl ?_
              refine hl_no (wanted_n rfl rfl rfl hg37) rfl ?_
              refine hl_no (wanted_n rfl rfl rfl hg37) rfl ?_
              refine hl_val rfl rfl (v := (.bool true)) (hv_pick_t rfl hg37 rfl) ?_
              refine hl_val rfl rfl (v := (.bool true)) (hv_move rfl) ?_
              refine hl_no (wanted_n rfl rfl (c := true) rfl rfl) rfl ?_
              refine hl_no (wanted_n rfl rfl (c := true) rfl rfl) rfl ?_
              refine hl_no (wanted_n rfl rfl (c := true) rfl rfl) rfl ?_
              refine hl_val rfl rfl (v := (.bool true)) (hv_pick (t := true) rfl rfl) ?_
              refine hl_nil ?_
              refine seqQ_n ?_
              exact ⟨rfl, (has_cons rfl (has_cons rfl (has_cons rfl (has_cons rfl (has_cons rfl (has_cons rfl (has_cons rfl (has_cons (show ((.bool true) : Value) = (.bool (bif !((x_State == 1) && (x_Sequence == 0)) then (!((x_State == 3) && ((decide (x_Sequence ≥ 1)) && (decide (x_Sequence ≤ last))))) || ((x_Pins != 0) || ((decide (x_Erases < 0)) || (decide (x_Erases > 2147483647)))) else (x_Pins != 0) || ((decide (x_Erases < 0)) || (decide (x_Erases > 2147483647))))) from (by first | rfl | ((try rw [hg33]); (try rw [hg37]); all_goals first | rfl | (simp only [Bool.true_or, Bool.or_true, Bool.false_or, Bool.or_false, Bool.true_and, Bool.and_true, Bool.false_and, Bool.and_false, Bool.not_true, Bool.not_false, Bool.cond_true, Bool.cond_false]; done)) | simp [hg33, hg37])) has_nil))))))))⟩
            · refine hl_yes (wanted_y rfl rfl rfl hg37) rfl (HStep.of_val (v := (ptr r 3)) (hv_field TyQE.fld31_3 (b := r) (o := 0) rfl) ?_)
              refine hl_yes (wanted_y rfl rfl rfl hg37) rfl (HStep.of_val (v := (.int .i64 x_Erases)) (hv_load TyQE.agg3 rfl (rowcell hr20' rfl)) ?_)
              refine hl_yes (wanted_y rfl rfl rfl hg37) rfl (HStep.of_val (v := (.bool (decide (x_Erases < 0)))) (hv_arith rfl rfl rfl) ?_)
              refine hl_val rfl rfl (v := (.bool (decide (x_Erases < 0)))) (hv_pick_f rfl hg37 rfl) ?_
              refine hl_val rfl rfl (v := (.bool (decide (x_Erases < 0)))) (hv_move rfl) ?_
              rcases bool_or (decide (x_Erases < 0)) with hg38 | hg38
              · refine hl_no (wanted_n rfl rfl rfl hg38) rfl ?_
                refine hl_no (wanted_n rfl rfl rfl hg38) rfl ?_
                refine hl_no (wanted_n rfl rfl rfl hg38) rfl ?_
                refine hl_val rfl rfl (v := (.bool true)) (hv_pick_t rfl hg38 rfl) ?_
                refine hl_nil ?_
                refine seqQ_n ?_
                exact ⟨rfl, (has_cons rfl (has_cons rfl (has_cons rfl (has_cons rfl (has_cons rfl (has_cons rfl (has_cons rfl (has_cons (show ((.bool true) : Value) = (.bool (bif !((x_State == 1) && (x_Sequence == 0)) then (!((x_State == 3) && ((decide (x_Sequence ≥ 1)) && (decide (x_Sequence ≤ last))))) || ((x_Pins != 0) || ((decide (x_Erases < 0)) || (decide (x_Erases > 2147483647)))) else (x_Pins != 0) || ((decide (x_Erases < 0)) || (decide (x_Erases > 2147483647))))) from (by first | rfl | ((try rw [hg33]); (try rw [hg37]); (try rw [hg38]); all_goals first | rfl | (simp only [Bool.true_or, Bool.or_true, Bool.false_or, Bool.or_false, Bool.true_and, Bool.and_true, Bool.false_and, Bool.and_false, Bool.not_true, Bool.not_false, Bool.cond_true, Bool.cond_false]; done)) | simp [hg33, hg37, hg38])) has_nil))))))))⟩
              · refine hl_yes (wanted_y rfl rfl rfl hg38) rfl (HStep.of_val (v := (ptr r 3)) (hv_field TyQE.fld31_3 (b := r) (o := 0) rfl) ?_)
                refine hl_yes (wanted_y rfl rfl rfl hg38) rfl (HStep.of_val (v := (.int .i64 x_Erases)) (hv_load TyQE.agg3 rfl (rowcell hr20' rfl)) ?_)
                refine hl_yes (wanted_y rfl rfl rfl hg38) rfl (HStep.of_val (v := (.bool (decide (x_Erases > 2147483647)))) (hv_arith rfl rfl rfl) ?_)
                refine hl_val rfl rfl (v := (.bool (decide (x_Erases > 2147483647)))) (hv_pick_f rfl hg38 rfl) ?_
                refine hl_nil ?_
                refine seqQ_n ?_
                exact ⟨rfl, (has_cons rfl (has_cons rfl (has_cons rfl (has_cons rfl (has_cons rfl (has_cons rfl (has_cons rfl (has_cons (show ((.bool (decide (x_Erases > 2147483647))) : Value) = (.bool (bif !((x_State == 1) && (x_Sequence == 0)) then (!((x_State == 3) && ((decide (x_Sequence ≥ 1)) && (decide (x_Sequence ≤ last))))) || ((x_Pins != 0) || ((decide (x_Erases < 0)) || (decide (x_Erases > 2147483647)))) else (x_Pins != 0) || ((decide (x_Erases < 0)) || (decide (x_Erases > 2147483647))))) from (by first | rfl | ((try rw [hg33]); (try rw [hg37]); (try rw [hg38]); all_goals first | rfl | (simp only [Bool.true_or, Bool.or_true, Bool.false_or, Bool.or_false, Bool.true_and, Bool.and_true, Bool.false_and, Bool.and_false, Bool.not_true, Bool.not_false, Bool.cond_true, Bool.cond_false]; done)) | simp [hg33, hg37, hg38])) has_nil))))))))⟩
        · rintro ρ _ ⟨rfl, hH⟩
          refine hx_has _ hH ?_
          refine hx_cond (b := (bif !((x_State == 1) && (x_Sequence == 0)) then (!((x_State == 3) && ((decide (x_Sequence ≥ 1)) && (decide (x_Sequence ≤ last))))) || ((x_Pins != 0) || ((decide (x_Erases < 0)) || (decide (x_Erases > 2147483647)))) else (x_Pins != 0) || ((decide (x_Erases < 0)) || (decide (x_Erases > 2147483647))))) rfl (fun hb39 => ?_) (fun hb39 => ?_)
          · replace H := H.1 hb39
            refine hx_seq ?_
            refine hx_region ?_
            refine hl_val rfl rfl (v := (.bool false)) (hv_assign rfl) ?_
            refine hl_nil ?_
            refine seqQ_n ?_
            refine hx_ret ?_
            refine seqQ_ret ?_
            refine blockQ_ret ?_
            refine seqQ_ret ?_
            refine seqQ_ret ?_
            refine blockQ_ret ?_
            refine seqQ_ret ?_
            replace H := H h4 xv23
            exact endQ_ret _ (res_one Try.results49 (rv_tmp rfl)) H
          · replace H := H.2 hb39
            refine hx_skip ?_
            refine seqQ_n ?_
            obtain ⟨A43, Hx40, Hy41⟩ := H
            refine hx_cut (fun ρ h' => (A43 h' ∧ h'[r]? = some (.cells #[(.int .i64 x_State), (.int .u64 x_Sequence), (.int .i64 x_Pins), (.int .i64 x_Erases)] 31 (0, 0)) ∧ True) ∧ Has ρ [(1, (.int .u64 last)), (5, (.map (some mb))), (7, (ptr r 0)), (11, (.slice (some ⟨l_b, l_o, none⟩) l_n l_c)), (12, (.int .i64 (l_n : Int))), (13, (.int .i64 v))]) ?_ ?_
            · have H := Hx40; clear Hx40 Hy41
              refine hx_seq ?_
              refine hx_region ?_
              refine hl_val rfl rfl (v := (.bool ((x_State == 3) && ((decide (x_Sequence ≥ 1)) && (decide (x_Sequence ≤ last)))))) (hv_move rfl) ?_
              refine hl_nil ?_
              refine seqQ_n ?_
              refine hx_cond (b := ((x_State == 3) && ((decide (x_Sequence ≥ 1)) && (decide (x_Sequence ≤ last))))) rfl (fun hb45 => ?_) (fun hb45 => ?_)
              · replace H := H.1 hb45
                refine hx_region ?_
                refine hl_val rfl rfl (v := (.map (some mb))) (hv_move rfl) ?_
                refine hl_val rfl rfl (v := (ptr r 1)) (hv_field TyQE.fld31_1 (b := r) (o := 0) rfl) ?_
                refine hl_val rfl rfl (v := (.int .u64 x_Sequence)) (hv_load TyQE.agg29 rfl (rowcell hr20' rfl)) ?_
                obtain ⟨kv, mm46, x, hv47, H⟩ := H
                refine hl_val rfl rfl (v := (.int .i64 x)) (hv_look (l := kv) (a := x_Sequence) (intK .u64) TyQE.u90 TyQE.u29 TyQE.z3 rfl rfl (MapL.ext xv23 mm46) hv47) ?_
                refine hl_val rfl rfl (v := (.int .i64 (IntKind.i64.wrap (x + 1)))) (hv_arith rfl rfl rfl) ?_
                replace H := H r h4 lo21 (row_lt hr20') xv23
                obtain ⟨kv_1, mm48, H⟩ := H
                refine hl_step rfl rfl (hn_mapPut (l := kv_1) (a := x_Sequence) (intK .u64) TyQE.u90 TyQE.u29 rfl rfl rfl mm48 ?_)
                intro h6 on49 mm50
                replace H := H h6 on49 mm50
                replace hr20' := row_only on49 mm48 hr20'
                refine hl_nil ?_
                refine seqQ_n ?_
                exact ⟨⟨H, hr20', trivial⟩, (has_cons rfl (has_cons rfl (has_cons rfl (has_cons rfl (has_cons rfl (has_cons rfl has_nil))))))⟩
              · replace H := H.2 hb45
                refine hx_skip ?_
                replace H := H h4 xv23
                refine seqQ_n ?_
                exact ⟨⟨H, hr20', trivial⟩, (has_cons rfl (has_cons rfl (has_cons rfl (has_cons rfl (has_cons rfl (has_cons rfl has_nil))))))⟩
            · rintro ρ h5 ⟨⟨HA44, hr42, -⟩, hH⟩
              have H := Hy41 h5 HA44; clear Hx40 Hy41
              refine hx_has _ hH ?_
              replace H := H r lo21 (row_lt hr42)
              refine hx_seq ?_
              refine hx_region ?_
              refine hl_val rfl rfl (v := (.map (some mb))) (hv_move rfl) ?_
              refine hl_val rfl rfl (v := (ptr r 1)) (hv_field TyQE.fld31_1 (b := r) (o := 0) rfl) ?_
              refine hl_val rfl rfl (v := (.int .u64 x_Sequence)) (hv_load TyQE.agg29 rfl (rowcell hr42 rfl)) ?_
              obtain ⟨kv_2, mm51, x_1, hv52, H⟩ := H
              refine hl_val rfl rfl (v := (.int .i64 x_1)) (hv_look (l := kv_2) (a := x_Sequence) (intK .u64) TyQE.u90 TyQE.u29 TyQE.z3 rfl rfl mm51 hv52) ?_
              refine hl_val rfl rfl (v := (.bool (decide (x_1 > 1)))) (hv_arith rfl rfl rfl) ?_
              refine hl_nil ?_
              refine seqQ_n ?_
              refine hx_cond (b := decide (x_1 > 1)) rfl (fun hb53 => ?_) (fun hb53 => ?_)
              · replace H := H.1 hb53
                refine hx_seq ?_
                refine hx_region ?_
                refine hl_val rfl rfl (v := (.bool false)) (hv_assign rfl) ?_
                refine hl_nil ?_
                refine seqQ_n ?_
                refine hx_ret ?_
                refine blockQ_ret ?_
                refine seqQ_ret ?_
                refine seqQ_ret ?_
                refine blockQ_ret ?_
                refine seqQ_ret ?_
                exact endQ_ret _ (res_one Try.results49 (rv_tmp rfl)) H
              · replace H := H.2 hb53
                refine hx_skip ?_
                refine blockQ_n ?_
                refine seqQ_n ?_
                refine hx_region ?_
                refine hl_val rfl rfl (v := (.int .i64 (IntKind.i64.wrap (v + 1)))) (hv_arith rfl rfl rfl) ?_
                refine hl_val rfl rfl (v := (.int .i64 (IntKind.i64.wrap (v + 1)))) (hv_move rfl) ?_
                refine hl_nil ?_
                refine seqQ_n ?_
                exact ⟨IntKind.i64.wrap (v + 1), ⟨⟨H.1, trivial⟩, H.2⟩, (has_cons rfl (has_cons rfl (has_cons rfl (has_cons rfl (has_cons rfl has_nil)))))⟩
  · replace H := H.2 hb10
    refine hx_exit ?_
    refine seqQ_exit ?_
    refine seqQ_exit ?_
    refine blockQ_here ?_
    refine seqQ_n ?_
    refine hx_seq ?_
    refine hx_region ?_
    refine hl_val rfl rfl (v := (.int .u64 last)) (hv_move rfl) ?_
    refine hl_val rfl rfl (v := (.bool (decide (last ≤ 9223372036854775807)))) (hv_arith rfl rfl rfl) ?_
    refine hl_val rfl rfl (v := (.bool (decide (last ≤ 9223372036854775807)))) (hv_assign rfl) ?_
    refine hl_nil ?_
    refine seqQ_n ?_
    refine hx_ret ?_
    exact endQ_ret _ (res_one Try.results49 (rv_tmp rfl)) H

/-- cellar/region.Load$1 -/
theorem f52_sh (i : Int) (cap0_b : Nat) (cap0_o : Nat) (h : Heap) (R : Value → Heap → Prop)
    (H : (∃ x : Option Addr, ∃ x_n x_c : Nat, hcell h cap0_b cap0_o = some (.slice x x_n x_c) ∧ (∃ x_b x_o : Nat, x = some ⟨x_b, x_o, none⟩ ∧ (0 : Int) ≤ i ∧ i < (x_n : Int) ∧ (∃ x_1 : Int, hcell h x_b (x_o + (Int.toNat i) * 4) = some (.int .i64 x_1) ∧ R (.bool (x_1 != 1)) h)))) :
    HC Try.prog 52 #[(.int .i64 i), (ptr cap0_b cap0_o)] h R := by
  refine hc_of (args := [(.int .i64 i), (ptr cap0_b cap0_o)]) Try.func52 rfl Try.ntmps52 (Nat.le_of_ble_eq_true rfl) ?_
  refine hx_seq ?_
  refine hx_region ?_
  refine hl_val rfl rfl (v := (.bool false)) (hv_assign rfl) ?_
  refine hl_nil ?_
  refine seqQ_n ?_
  refine hx_seq ?_
  refine hx_region ?_
  obtain ⟨x, x_n, x_c, hc1, H⟩ := H
  refine hl_val rfl rfl (v := (.slice x x_n x_c)) (hv_load TyQE.agg28 rfl hc1) ?_
  refine hl_val rfl rfl (v := (.int .i64 i)) (hv_move rfl) ?_
  obtain ⟨x_b, x_o, hqe, hi2, hi3, Hq⟩ := H
  subst hqe
  have H := Hq; clear Hq
  refine hl_val rfl rfl (v := (ptr x_b (x_o + (Int.toNat i) * 4))) (hv_index TyQE.el28 rfl rfl hi2 hi3) ?_
  refine hl_val rfl rfl (v := (ptr x_b (x_o + (Int.toNat i) * 4))) (hv_field TyQE.fld31_0 (b := x_b) (o := x_o + (Int.toNat i) * 4) rfl) ?_
  obtain ⟨x_1, hc4, H⟩ := H
  refine hl_val rfl rfl (v := (.int .i64 x_1)) (hv_load TyQE.agg3 rfl hc4) ?_
  refine hl_val rfl rfl (v := (.bool (x_1 != 1))) (hv_arith rfl rfl rfl) ?_
  refine hl_val rfl rfl (v := (.bool (x_1 != 1))) (hv_assign rfl) ?_
  refine hl_nil ?_
  refine seqQ_n ?_
  refine hx_ret ?_
  exact endQ_ret _ (res_one Try.results52 (rv_tmp rfl)) H

/-- slices.DeleteFunc[[]int,int] -/
theorem f51_sh (sv : Option Addr) (s_n : Nat) (s_c : Nat) (del : Value) (h : Heap) (R : Value → Heap → Prop)
    (H : HC Try.prog 58 #[(.slice sv s_n s_c), del] h (fun vv h1 => ∃ r : Int, vv = (.int .i64 r) ∧ (((r == (-1)) = true → R (.slice sv s_n s_c) h1) ∧ ((r == (-1)) = false → (∃ (I2 : Int → Int → Heap → Prop) (mu3 : Int → Int → Heap → Nat), I2 r (IntKind.i64.wrap (r + 1)) h1 ∧ (∀ (i : Int) (j : Int) (h2 : Heap), I2 i j h2 → (((decide (j < (s_n : Int))) = true → (∃ A10 : Int → Heap → Prop, (∃ sv_b sv_o : Nat, sv = some ⟨sv_b, sv_o, none⟩ ∧ (0 : Int) ≤ j ∧ j < (s_n : Int) ∧ (∃ x : Int, hcell h2 sv_b (sv_o + (Int.toNat j) * 1) = some (.int .i64 x) ∧ HCV Try.prog del [(.int .i64 x)] h2 (fun vv h4 => ∃ r_1 : Bool, vv = (.bool r_1) ∧ (((!r_1) = true → ((0 : Int) ≤ i ∧ i < (s_n : Int) ∧ (HW h4 sv_b (sv_o + (Int.toNat i) * 1) ∧ ∀ h5, h5 = hset h4 sv_b (sv_o + (Int.toNat i) * 1) (.int .i64 x) → (A10 (IntKind.i64.wrap (i + 1)) h5)))) ∧ ((!r_1) = false → (A10 i h4)))))) ∧ (∀ (i_1 : Int) (h3 : Heap), A10 i_1 h3 → (I2 i_1 (IntKind.i64.wrap (j + 1)) h3 ∧ mu3 i_1 (IntKind.i64.wrap (j + 1)) h3 < mu3 i j h2)))) ∧ ((decide (j < (s_n : Int))) = false → (0 ≤ (i : Int) ∧ i ≤ (s_n : Int) ∧ (s_n : Int) ≤ (s_c : Int) ∧ ∀ sl : Option Addr, sl = slA sv (Int.toNat i) 1 s_c → (((Int.toNat (s_n : Int) - Int.toNat i) ≠ 0 → ∃ cb co : Nat, sl = some ⟨cb, co, none⟩ ∧ HWs h2 cb co ((Int.toNat (s_n : Int) - Int.toNat i) * 1)) ∧ ∀ h6, ((Int.toNat (s_n : Int) - Int.toNat i) = 0 → h6 = h2) → (∀ cb co : Nat, (Int.toNat (s_n : Int) - Int.toNat i) ≠ 0 → sl = some ⟨cb, co, none⟩ → h6 = hsets h2 cb co (zcells [(.int .i64 0)] (Int.toNat (s_n : Int) - Int.toNat i))) → (0 ≤ ((0 : Int) : Int) ∧ (0 : Int) ≤ i ∧ i ≤ (s_c : Int) ∧ ∀ sl_1 : Option Addr, sl_1 = slA sv (Int.toNat 0) 1 s_c → R (.slice sl_1 (Int.toNat i - Int.toNat 0) (s_c - Int.toNat 0)) h6))))))))))) :
    HC Try.prog 51 #[(.slice sv s_n s_c), del] h R := by
  refine hc_of (args := [(.slice sv s_n s_c), del]) Try.func51 rfl Try.ntmps51 (Nat.le_of_ble_eq_true rfl) ?_
  refine hx_seq ?_
  refine hx_region ?_
  refine hl_val rfl rfl (v := (.slice none 0 0)) (hv_assign rfl) ?_
  refine hl_nil ?_
  refine seqQ_n ?_
  refine hx_seq ?_
  refine hx_region ?_
  refine hl_val rfl rfl (v := (.slice sv s_n s_c)) (hv_move rfl) ?_
  refine hl_val rfl rfl (v := del) (hv_move rfl) ?_
  refine hl_step rfl rfl (hs_call TyQE.cb58 (vs := [(.slice sv s_n s_c), del]) rfl (HC.mono H ?_))
  rintro _ h1 ⟨r, rfl, H⟩
  refine hl_val rfl rfl (v := (.int .i64 r)) (hv_assign rfl) ?_
  refine hl_nil ?_
  refine seqQ_n ?_
  refine hx_seq ?_
  refine hx_seq ?_
  refine hx_region ?_
  refine hl_val rfl rfl (v := (.int .i64 r)) (hv_move rfl) ?_
  refine hl_val rfl rfl (v := (.bool (r == (-1)))) (hv_arith rfl rfl rfl) ?_
  refine hl_nil ?_
  refine seqQ_n ?_
  refine hx_cond (b := r == (-1)) rfl (fun hb1 => ?_) (fun hb1 => ?_)
  · replace H := H.1 hb1
    refine hx_seq ?_
    refine hx_region ?_
    refine hl_val rfl rfl (v := (.slice sv s_n s_c)) (hv_move rfl) ?_
    refine hl_val rfl rfl (v := (.slice sv s_n s_c)) (hv_assign rfl) ?_
    refine hl_nil ?_
    refine seqQ_n ?_
    refine hx_ret ?_
    refine seqQ_ret ?_
    exact endQ_ret _ (res_one Try.results51 (rv_tmp rfl)) H
  · replace H := H.2 hb1
    refine hx_skip ?_
    refine seqQ_n ?_
    refine hx_seq ?_
    refine hx_seq ?_
    refine hx_region ?_
    refine hl_val rfl rfl (v := (.int .i64 r)) (hv_move rfl) ?_
    refine hl_val rfl rfl (v := (.int .i64 (IntKind.i64.wrap (r + 1)))) (hv_arith rfl rfl rfl) ?_
    refine hl_val rfl rfl (v := (.int .i64 (IntKind.i64.wrap (r + 1)))) (hv_assign rfl) ?_
    refine hl_nil ?_
    refine seqQ_n ?_
    refine hx_block ?_
    obtain ⟨I2, mu3, Ha4, Hr5⟩ := H
    refine hx_loopT (σ := Int × Int) (fun s => [(0, (.slice sv s_n s_c)), (1, del), (5, (.int .i64 s.1)), (6, (.int .i64 s.2))]) (fun s h' => I2 s.1 s.2 h' ∧ True) (fun s h' => mu3 s.1 s.2 h') (r, IntKind.i64.wrap (r + 1)) ⟨Ha4, trivial⟩ (has_cons rfl (has_cons rfl (has_cons rfl (has_cons rfl has_nil)))) ?_
    rintro ⟨i, j⟩ ρ h2 ⟨Hi6, -⟩
    have H := Hr5 i j h2 Hi6
    refine hx_seq ?_
    refine hx_seq ?_
    refine hx_region ?_
    refine hl_val rfl rfl (v := (.int .i64 j)) (hv_move rfl) ?_
    refine hl_val rfl rfl (v := (.slice sv s_n s_c)) (hv_move rfl) ?_
    refine hl_val rfl rfl (v := (.int .i64 (s_n : Int))) (hv_len (n := s_n) TyQE.u50 rfl) ?_
    refine hl_val rfl rfl (v := (.bool (decide (j < (s_n : Int))))) (hv_arith rfl rfl rfl) ?_
    refine hl_nil ?_
    refine seqQ_n ?_
    refine hx_cond (b := decide (j < (s_n : Int))) rfl (fun hb7 => ?_) (fun hb7 => ?_)
    · replace H := H.1 hb7
      refine hx_skip ?_
      refine seqQ_n ?_
      obtain ⟨A10, Hx8, Hy9⟩ := H
      refine hx_cut (fun ρ h' => ∃ i_1 : Int, (A10 i_1 h' ∧ True) ∧ Has ρ [(0, (.slice sv s_n s_c)), (1, del), (5, (.int .i64 i_1)), (6, (.int .i64 j))]) ?_ ?_
      · have H := Hx8; clear Hx8 Hy9
        refine hx_block ?_
        refine hx_seq ?_
        refine hx_region ?_
        refine hl_val rfl rfl (v := (.slice sv s_n s_c)) (hv_move rfl) ?_
        refine hl_val rfl rfl (v := (.int .i64 j)) (hv_move rfl) ?_
        obtain ⟨sv_b, sv_o, hqe, hi12, hi13, Hq⟩ := H
        subst hqe
        have H := Hq; clear Hq
        refine hl_val rfl rfl (v := (ptr sv_b (sv_o + (Int.toNat j) * 1))) (hv_index TyQE.el50 rfl rfl hi12 hi13) ?_
        obtain ⟨x, hc14, H⟩ := H
        refine hl_val rfl rfl (v := (.int .i64 x)) (hv_load TyQE.agg3 rfl hc14) ?_
        refine hl_val rfl rfl (v := (.int .i64 x)) (hv_assign rfl) ?_
        refine hl_nil ?_
        refine seqQ_n ?_
        refine hx_seq ?_
        refine hx_region ?_
        refine hl_val rfl rfl (v := del) (hv_move rfl) ?_
        refine hl_val rfl rfl (v := (.int .i64 x)) (hv_move rfl) ?_
        refine hl_step rfl rfl (hs_callF (vs := [(.int .i64 x)]) rfl rfl (HCV.mono H ?_))
        rintro _ h4 ⟨r_1, rfl, H⟩
        refine hl_val rfl rfl (v := (.bool (!r_1))) (hv_not (b := r_1) rfl) ?_
        refine hl_nil ?_
        refine seqQ_n ?_
        refine hx_cond (b := !r_1) rfl (fun hb15 => ?_) (fun hb15 => ?_)
        · replace H := H.1 hb15
          refine hx_seq ?_
          refine hx_region ?_
          refine hl_val rfl rfl (v := (.slice (some ⟨sv_b, sv_o, none⟩) s_n s_c)) (hv_move rfl) ?_
          refine hl_val rfl rfl (v := (.int .i64 i)) (hv_move rfl) ?_
          refine hl_val rfl rfl (v := (.int .i64 x)) (hv_move rfl) ?_
          obtain ⟨hi16, hi17, H⟩ := H
          refine hl_val rfl rfl (v := (ptr sv_b (sv_o + (Int.toNat i) * 1))) (hv_index TyQE.el50 rfl rfl hi16 hi17) ?_
          obtain ⟨hw19, H⟩ := H
          refine hl_step rfl rfl (hn_store (v := (.int .i64 x)) rfl rfl TyQE.sz3 rfl hw19 ?_)
          intro h5 eh18
          replace H := H h5 eh18
          refine hl_nil ?_
          refine seqQ_n ?_
          refine hx_region ?_
          refine hl_val rfl rfl (v := (.int .i64 i)) (hv_move rfl) ?_
          refine hl_val rfl rfl (v := (.int .i64 (IntKind.i64.wrap (i + 1)))) (hv_arith rfl rfl rfl) ?_
          refine hl_val rfl rfl (v := (.int .i64 (IntKind.i64.wrap (i + 1)))) (hv_assign rfl) ?_
          refine hl_nil ?_
          refine blockQ_n ?_
          refine seqQ_n ?_
          exact ⟨_, ⟨H, trivial⟩, (has_cons rfl (has_cons rfl (has_cons rfl (has_cons rfl has_nil))))⟩
        · replace H := H.2 hb15
          refine hx_skip ?_
          refine blockQ_n ?_
          refine seqQ_n ?_
          exact ⟨_, ⟨H, trivial⟩, (has_cons rfl (has_cons rfl (has_cons rfl (has_cons rfl has_nil))))⟩
      · rintro ρ h3 ⟨i_1, ⟨HA11, -⟩, hH⟩
        have H := Hy9 i_1 h3 HA11; clear Hx8 Hy9
        refine hx_has _ hH ?_
        refine hx_region ?_
        refine hl_val rfl rfl (v := (.int .i64 j)) (hv_move rfl) ?_
        refine hl_val rfl rfl (v := (.int .i64 (IntKind.i64.wrap (j + 1)))) (hv_arith rfl rfl rfl) ?_
        refine hl_val rfl rfl (v := (.int .i64 (IntKind.i64.wrap (j + 1)))) (hv_assign rfl) ?_
        refine hl_nil ?_
        refine seqQ_n ?_
        exact ⟨(i_1, IntKind.i64.wrap (j + 1)), ⟨⟨H.1, trivial⟩, H.2⟩, (has_cons rfl (has_cons rfl (has_cons rfl (has_cons rfl has_nil))))⟩
    · replace H := H.2 hb7
      refine hx_exit ?_
      refine seqQ_exit ?_
      refine seqQ_exit ?_
      refine blockQ_here ?_
      refine seqQ_n ?_
      refine hx_seq ?_
      refine hx_region ?_
      refine hl_val rfl rfl (v := (.slice sv s_n s_c)) (hv_move rfl) ?_
      refine hl_val rfl rfl (v := (.int .i64 i)) (hv_move rfl) ?_
      obtain ⟨hs20, hs21, hs22, H⟩ := H
      obtain ⟨sl, hq23⟩ : ∃ q, q = slA sv (Int.toNat i) 1 s_c := ⟨_, rfl⟩
      replace H := H sl hq23
      refine hl_val rfl rfl (v := (.slice sl (Int.toNat (s_n : Int) - Int.toNat i) (s_c - Int.toNat i))) (hv_slice (l := i) (r := (s_n : Int)) TyQE.u50 TyQE.sz3 rfl (sl_some rfl) sh_none hs20 hs21 hs22 hq23) ?_
      obtain ⟨hw24, H⟩ := H
      refine hl_step rfl rfl (hn_clear2 (zs := [(.int .i64 0)]) TyQE.u50 TyQE.z3 rfl (by decide) rfl rfl hw24 ?_)
      intro h6 hz25 hn26
      replace H := H h6 hz25 hn26
      refine hl_nil ?_
      refine seqQ_n ?_
      refine hx_seq ?_
      refine hx_region ?_
      refine hl_val rfl rfl (v := (.slice sv s_n s_c)) (hv_move rfl) ?_
      refine hl_val rfl rfl (v := (.int .i64 i)) (hv_move rfl) ?_
      obtain ⟨hs27, hs28, hs29, H⟩ := H
      obtain ⟨sl_1, hq30⟩ : ∃ q, q = slA sv (Int.toNat 0) 1 s_c := ⟨_, rfl⟩
      replace H := H sl_1 hq30
      refine hl_val rfl rfl (v := (.slice sl_1 (Int.toNat i - Int.toNat 0) (s_c - Int.toNat 0))) (hv_slice (l := 0) (r := i) TyQE.u50 TyQE.sz3 rfl sl_none (sh_some rfl) hs27 hs28 hs29 hq30) ?_
      refine hl_val rfl rfl (v := (.slice sl_1 (Int.toNat i - Int.toNat 0) (s_c - Int.toNat 0))) (hv_assign rfl) ?_
      refine hl_nil ?_
      refine seqQ_n ?_
      refine hx_ret ?_
      exact endQ_ret _ (res_one Try.results51 (rv_tmp rfl)) H

/-- slices.IndexFunc[[]int,int] -/
theorem f58_sh (sv : Option Addr) (s_n : Nat) (s_c : Nat) (f : Value) (h : Heap) (R : Value → Heap → Prop)
    (H : (∃ (I1 : Int → Heap → Prop) (mu2 : Int → Heap → Nat), I1 0 h ∧ (∀ (v : Int) (h1 : Heap), I1 v h1 → (((decide (v < (s_n : Int))) = true → (∃ sv_b sv_o : Nat, sv = some ⟨sv_b, sv_o, none⟩ ∧ (0 : Int) ≤ v ∧ v < (s_n : Int) ∧ (∃ x : Int, hcell h1 sv_b (sv_o + (Int.toNat v) * 1) = some (.int .i64 x) ∧ HCV Try.prog f [(.int .i64 x)] h1 (fun vv h2 => ∃ r : Bool, vv = (.bool r) ∧ ((r = true → R (.int .i64 v) h2) ∧ (r = false → (I1 (IntKind.i64.wrap (v + 1)) h2 ∧ mu2 (IntKind.i64.wrap (v + 1)) h2 < mu2 v h1))))))) ∧ ((decide (v < (s_n : Int))) = false → R (.int .i64 (-1)) h1))))) :
    HC Try.prog 58 #[(.slice sv s_n s_c), f] h R := by
  refine hc_of (args := [(.slice sv s_n s_c), f]) Try.func58 rfl Try.ntmps58 (Nat.le_of_ble_eq_true rfl) ?_
  refine hx_seq ?_
  refine hx_region ?_
  refine hl_val rfl rfl (v := (.int .i64 0)) (hv_assign rfl) ?_
  refine hl_nil ?_
  refine seqQ_n ?_
  refine hx_seq ?_
  refine hx_seq ?_
  refine hx_region ?_
  refine hl_val rfl rfl (v := (.slice sv s_n s_c)) (hv_move rfl) ?_
  refine hl_val rfl rfl (v := (.int .i64 (s_n : Int))) (hv_len (n := s_n) TyQE.u50 rfl) ?_
  refine hl_val rfl rfl (v := (.int .i64 0)) (hv_move rfl) ?_
  refine hl_nil ?_
  refine seqQ_n ?_
  refine hx_block ?_
  obtain ⟨I1, mu2, Ha3, Hr4⟩ := H
  refine hx_loopT (σ := Int) (fun s => [(0, (.slice sv s_n s_c)), (1, f), (7, (.int .i64 (s_n : Int))), (8, (.int .i64 s))]) (fun s h' => I1 s h' ∧ True) (fun s h' => mu2 s h') 0 ⟨Ha3, trivial⟩ (has_cons rfl (has_cons rfl (has_cons rfl (has_cons rfl has_nil)))) ?_
  rintro v ρ h1 ⟨Hi5, -⟩
  have H := Hr4 v h1 Hi5
  refine hx_seq ?_
  refine hx_region ?_
  refine hl_val rfl rfl (v := (.bool (decide (v < (s_n : Int))))) (hv_arith rfl rfl rfl) ?_
  refine hl_nil ?_
  refine seqQ_n ?_
  refine hx_seq ?_
  refine hx_cond (b := decide (v < (s_n : Int))) rfl (fun hb6 => ?_) (fun hb6 => ?_)
  · replace H := H.1 hb6
    refine hx_skip ?_
    refine seqQ_n ?_
    refine hx_seq ?_
    refine hx_block ?_
    refine hx_seq ?_
    refine hx_region ?_
    refine hl_val rfl rfl (v := (.int .i64 v)) (hv_move rfl) ?_
    refine hl_val rfl rfl (v := (.int .i64 v)) (hv_assign rfl) ?_
    refine hl_nil ?_
    refine seqQ_n ?_
    refine hx_seq ?_
    refine hx_region ?_
    refine hl_val rfl rfl (v := f) (hv_move rfl) ?_
    refine hl_val rfl rfl (v := (.slice sv s_n s_c)) (hv_move rfl) ?_
    refine hl_val rfl rfl (v := (.int .i64 v)) (hv_move rfl) ?_
    obtain ⟨sv_b, sv_o, hqe, hi7, hi8, Hq⟩ := H
    subst hqe
    have H := Hq; clear Hq
    refine hl_val rfl rfl (v := (ptr sv_b (sv_o + (Int.toNat v) * 1))) (hv_index TyQE.el50 rfl rfl hi7 hi8) ?_
    obtain ⟨x, hc9, H⟩ := H
    refine hl_val rfl rfl (v := (.int .i64 x)) (hv_load TyQE.agg3 rfl hc9) ?_
    refine hl_step rfl rfl (hs_callF (vs := [(.int .i64 x)]) rfl rfl (HCV.mono H ?_))
    rintro _ h2 ⟨r, rfl, H⟩
    refine hl_nil ?_
    refine seqQ_n ?_
    refine hx_cond (b := r) rfl (fun hb10 => ?_) (fun hb10 => ?_)
    · replace H := H.1 hb10
      refine hx_seq ?_
      refine hx_region ?_
      refine hl_val rfl rfl (v := (.int .i64 v)) (hv_move rfl) ?_
      refine hl_val rfl rfl (v := (.int .i64 v)) (hv_assign rfl) ?_
      refine hl_nil ?_
      refine seqQ_n ?_
      refine hx_ret ?_
      refine blockQ_ret ?_
      refine seqQ_ret ?_
      refine seqQ_ret ?_
      refine blockQ_ret ?_
      refine seqQ_ret ?_
      exact endQ_ret _ (res_one Try.results58 (rv_tmp rfl)) H
    · replace H := H.2 hb10
      refine hx_skip ?_
      refine blockQ_n ?_
      refine seqQ_n ?_
      refine hx_region ?_
      refine hl_val rfl rfl (v := (.int .i64 (IntKind.i64.wrap (v + 1)))) (hv_arith rfl rfl rfl) ?_
      refine hl_val rfl rfl (v := (.int .i64 (IntKind.i64.wrap (v + 1)))) (hv_move rfl) ?_
      refine hl_nil ?_
      refine seqQ_n ?_
      exact ⟨IntKind.i64.wrap (v + 1), ⟨⟨H.1, trivial⟩, H.2⟩, (has_cons rfl (has_cons rfl (has_cons rfl (has_cons rfl has_nil))))⟩
  · replace H := H.2 hb6
    refine hx_exit ?_
    refine seqQ_exit ?_
    refine seqQ_exit ?_
    refine blockQ_here ?_
    refine seqQ_n ?_
    refine hx_seq ?_
    refine hx_region ?_
    refine hl_val rfl rfl (v := (.int .i64 (-1))) (hv_assign rfl) ?_
    refine hl_nil ?_
    refine seqQ_n ?_
    refine hx_ret ?_
    exact endQ_ret _ (res_one Try.results58 (rv_tmp rfl)) H

/-- slices.Clone[[]cellar/api.RegionInfo,cellar/api.RegionInfo] -/
theorem f50_sh (sv : Option Addr) (s_n : Nat) (s_c : Nat) (h : Heap) (R : Value → Heap → Prop)
    (H : ((sv.isNone = true → R (.slice none 0 0) h) ∧ (sv.isNone = false → (∀ nb h1, nb = Array.size h → h1 = Array.push h (.cells #[] 31) → HAppend Try.prog 28 28 (.slice (some ⟨nb, 0, none⟩) 0 0) (.slice sv s_n s_c) h1 (fun vv h2 => ∃ ap : Option Addr, ∃ ap_n ap_c : Nat, vv = (.slice ap ap_n ap_c) ∧ R (.slice ap ap_n ap_c) h2))))) :
    HC Try.prog 50 #[(.slice sv s_n s_c)] h R := by
  refine hc_of (args := [(.slice sv s_n s_c)]) Try.func50 rfl Try.ntmps50 (Nat.le_of_ble_eq_true rfl) ?_
  refine hx_seq ?_
  refine hx_region ?_
  refine hl_val rfl rfl (v := (.slice none 0 0)) (hv_assign rfl) ?_
  refine hl_nil ?_
  refine seqQ_n ?_
  refine hx_seq ?_
  refine hx_seq ?_
  refine hx_region ?_
  refine hl_val rfl rfl (v := (.slice sv s_n s_c)) (hv_move rfl) ?_
  refine hl_val rfl rfl (v := (.bool sv.isNone)) (hv_sliceNil TyQE.u28 rfl rfl) ?_
  refine hl_nil ?_
  refine seqQ_n ?_
  refine hx_cond (b := sv.isNone) rfl (fun hb1 => ?_) (fun hb1 => ?_)
  · replace H := H.1 hb1
    refine hx_seq ?_
    refine hx_region ?_
    refine hl_val rfl rfl (v := (.slice none 0 0)) (hv_assign rfl) ?_
    refine hl_nil ?_
    refine seqQ_n ?_
    refine hx_ret ?_
    refine seqQ_ret ?_
    exact endQ_ret _ (res_one Try.results50 (rv_tmp rfl)) H
  · replace H := H.2 hb1
    refine hx_skip ?_
    refine seqQ_n ?_
    refine hx_seq ?_
    refine hx_region ?_
    refine hl_step rfl rfl (hn_buildSlice (n := 0) (vs := []) (cs := #[]) TyQE.u28 TyQE.sz31 TyQE.z31 rfl rfl (by kernel_rfl) ?_)
    intro nb h1 eb2 eh3
    replace H := H nb h1 eb2 eh3
    have xx4 : Ext h h1 := by rw [eh3]; exact Ext.push _ _
    refine hl_val rfl rfl (v := (.slice sv s_n s_c)) (hv_move rfl) ?_
    refine hl_step rfl rfl (hs_append rfl rfl (HAppend.mono H ?_))
    rintro _ h2 ⟨ap, ap_n, ap_c, rfl, H⟩
    refine hl_val rfl rfl (v := (.slice ap ap_n ap_c)) (hv_assign rfl) ?_
    refine hl_nil ?_
    refine seqQ_n ?_
    refine hx_ret ?_
    exact endQ_ret _ (res_one Try.results50 (rv_tmp rfl)) H

end Go.Proofs.Ytfdgjgjcppfmiaa
