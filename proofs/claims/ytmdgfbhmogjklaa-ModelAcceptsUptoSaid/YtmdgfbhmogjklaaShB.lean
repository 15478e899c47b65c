/-
Shallow forms, written by gen2.py (a program of ours) out of the print of the program.
-/
import Derived.Test.YtmdgfbhmogjklaaMA
import Derived.Test.YtmdgfbhmogjklaaProg
namespace Go.Proofs.Ytmdgfbhmogjklaa
open Go
set_option maxRecDepth 100000
set_option maxHeartbeats 4000000

theorem TyShB.agg29 : aggB Try.prog 29 = some false := by kernel_rfl
theorem TyShB.agg3 : aggB Try.prog 3 = some false := by kernel_rfl
theorem TyShB.agg31 : aggB Try.prog 31 = some true := by kernel_rfl
theorem TyShB.agg4 : aggB Try.prog 4 = some false := by kernel_rfl
theorem TyShB.agg9 : aggB Try.prog 9 = some false := by kernel_rfl
theorem TyShB.cb36 : CallB Try.prog 36 := fun _ _ => Try.call36 _ _
theorem TyShB.cb56 : CallB Try.prog 56 := fun _ _ => Try.call56 _ _
theorem TyShB.fld31_0 : fldB Try.prog 31 0 = some 0 := by kernel_rfl
theorem TyShB.fld31_1 : fldB Try.prog 31 1 = some 1 := by kernel_rfl
theorem TyShB.fld31_2 : fldB Try.prog 31 2 = some 2 := by kernel_rfl
theorem TyShB.fld31_3 : fldB Try.prog 31 3 = some 3 := by kernel_rfl
theorem TyShB.fld31_4 : fldB Try.prog 31 4 = some 4 := by kernel_rfl
theorem TyShB.fld31_6 : fldB Try.prog 31 6 = some 6 := by kernel_rfl
theorem TyShB.fld31_7 : fldB Try.prog 31 7 = some 7 := by kernel_rfl
theorem TyShB.mixed : Try.prog.follows .mixedOrders = true := by kernel_rfl
theorem TyShB.sz31 : szB Try.prog 31 = some 8 := by kernel_rfl

/-- cellar/model.hits -/
theorem f35_sh (m_Kind : Int) (m_Key : ByteArray) (m_Value : ByteArray) (m_Err : Int) (m_Hit : Bool) (m_Life : Int) (m_From : Int) (m_To : Int) (h : Heap) (R : Value → Heap → Prop)
    (H : (∀ (h2 : Heap), Ext h h2 → R (.bool ((m_Kind == 1) && (m_Hit && ((m_Err == 0) && (decide (Ml.Mv.to ⟨m_Kind, m_Key, m_Value, m_Err, m_Hit, m_Life, m_From, m_To⟩ ≥ 0)))))) h2)) :
    HC Try.prog 35 #[(.agg #[(.int .i64 m_Kind), (.string m_Key), (.string m_Value), (.int .i64 m_Err), (.bool m_Hit), (.int .i64 m_Life), (.int .i64 m_From), (.int .i64 m_To)])] h R := by
  refine hc_of (args := [(.agg #[(.int .i64 m_Kind), (.string m_Key), (.string m_Value), (.int .i64 m_Err), (.bool m_Hit), (.int .i64 m_Life), (.int .i64 m_From), (.int .i64 m_To)])]) Try.func35 rfl Try.ntmps35 (Nat.le_of_ble_eq_true rfl) ?_
  refine hx_seq ?_
  refine hx_region ?_
  refine hl_step rfl rfl (hn_box (v := (.agg #[(.int .i64 m_Kind), (.string m_Key), (.string m_Value), (.int .i64 m_Err), (.bool m_Hit), (.int .i64 m_Life), (.int .i64 m_From), (.int .i64 m_To)])) rfl ?_)
  intro m h1 eb1 eh2
  have xx3 : Ext h h1 := by rw [eh2]; exact Ext.push _ _
  have lo5 : Array.size h ≤ m := Nat.le_of_eq (Eq.symm eb1)
  have hr4 : h1[m]? = some (.cells #[(.int .i64 m_Kind), (.string m_Key), (.string m_Value), (.int .i64 m_Err), (.bool m_Hit), (.int .i64 m_Life), (.int .i64 m_From), (.int .i64 m_To)] 31 (0, 0)) := by rw [eh2]; exact push_new eb1
  refine hl_val rfl rfl (v := (.bool false)) (hv_assign rfl) ?_
  refine hl_nil ?_
  refine seqQ_n ?_
  refine hx_cut (fun ρ h' => (Ext h h' ∧ h'[m]? = some (.cells #[(.int .i64 m_Kind), (.string m_Key), (.string m_Value), (.int .i64 m_Err), (.bool m_Hit), (.int .i64 m_Life), (.int .i64 m_From), (.int .i64 m_To)] 31 (0, 0)) ∧ True) ∧ Has ρ [(2, (.bool ((m_Kind == 1) && (m_Hit && ((m_Err == 0) && (decide (Ml.Mv.to ⟨m_Kind, m_Key, m_Value, m_Err, m_Hit, m_Life, m_From, m_To⟩ ≥ 0)))))))]) ?_ ?_
  · refine hx_region ?_
    refine hl_val rfl rfl (v := (ptr m 0)) (hv_field TyShB.fld31_0 (b := m) (o := 0) rfl) ?_
    refine hl_val rfl rfl (v := (.int .i64 m_Kind)) (hv_load TyShB.agg3 rfl (rowcell hr4 rfl)) ?_
    refine hl_val rfl rfl (v := (.bool (m_Kind == 1))) (hv_arith rfl rfl rfl) ?_
    refine hl_val rfl rfl (v := (.bool (m_Kind == 1))) (hv_move rfl) ?_
    rcases bool_or (m_Kind == 1) with hg10 | hg10
    · refine hl_yes (wanted_y rfl rfl rfl hg10) rfl (HStep.of_val (v := (ptr m 4)) (hv_field TyShB.fld31_4 (b := m) (o := 0) rfl) ?_)
      refine hl_yes (wanted_y rfl rfl rfl hg10) rfl (HStep.of_val (v := (.bool m_Hit)) (hv_load TyShB.agg4 rfl (rowcell hr4 rfl)) ?_)
      refine hl_val rfl rfl (v := (.bool m_Hit)) (hv_pick_t rfl hg10 rfl) ?_
      refine hl_val rfl rfl (v := (.bool m_Hit)) (hv_move rfl) ?_
      rcases bool_or (m_Hit) with hg11 | hg11
      · refine hl_yes (wanted_y rfl rfl rfl hg11) rfl (HStep.of_val (v := (ptr m 3)) (hv_field TyShB.fld31_3 (b := m) (o := 0) rfl) ?_)
        refine hl_yes (wanted_y rfl rfl rfl hg11) rfl (HStep.of_val (v := (.int .i64 m_Err)) (hv_load TyShB.agg29 rfl (rowcell hr4 rfl)) ?_)
        refine hl_yes (wanted_y rfl rfl rfl hg11) rfl (HStep.of_val (v := (.bool (m_Err == 0))) (hv_arith rfl rfl rfl) ?_)
        refine hl_val rfl rfl (v := (.bool (m_Err == 0))) (hv_pick_t rfl hg11 rfl) ?_
        refine hl_val rfl rfl (v := (.bool (m_Err == 0))) (hv_move rfl) ?_
        rcases bool_or (m_Err == 0) with hg12 | hg12
        · refine hl_yes (wanted_y rfl rfl rfl hg12) rfl (HStep.of_val (v := (.agg #[(.int .i64 m_Kind), (.string m_Key), (.string m_Value), (.int .i64 m_Err), (.bool m_Hit), (.int .i64 m_Life), (.int .i64 m_From), (.int .i64 m_To)])) (hv_loads (vs := [(.int .i64 m_Kind), (.string m_Key), (.string m_Value), (.int .i64 m_Err), (.bool m_Hit), (.int .i64 m_Life), (.int .i64 m_From), (.int .i64 m_To)]) TyShB.agg31 TyShB.sz31 rfl (hcells_cons (rowcell hr4 rfl) (hcells_cons (rowcell hr4 rfl) (hcells_cons (rowcell hr4 rfl) (hcells_cons (rowcell hr4 rfl) (hcells_cons (rowcell hr4 rfl) (hcells_cons (rowcell hr4 rfl) (hcells_cons (rowcell hr4 rfl) (hcells_cons (rowcell hr4 rfl) hcells_nil))))))))) ?_)
          refine hl_yes (wanted_y rfl rfl rfl hg12) rfl (hs_call TyShB.cb36 (vs := [(.agg #[(.int .i64 m_Kind), (.string m_Key), (.string m_Value), (.int .i64 m_Err), (.bool m_Hit), (.int .i64 m_Life), (.int .i64 m_From), (.int .i64 m_To)])]) rfl (HC.mono (returned_c (⟨m_Kind, m_Key, m_Value, m_Err, m_Hit, m_Life, m_From, m_To⟩) _) ?_))
          rintro _ h3 ⟨rfl, xx13⟩
          replace hr4 := Ext.row xx13 hr4
          have xv14 := Ext.trans xx3 xx13
          refine hl_val rfl rfl (v := (.bool (decide (Ml.Mv.to ⟨m_Kind, m_Key, m_Value, m_Err, m_Hit, m_Life, m_From, m_To⟩ ≥ 0)))) (hv_pick_t rfl hg12 rfl) ?_
          refine hl_val rfl rfl (v := (.bool (decide (Ml.Mv.to ⟨m_Kind, m_Key, m_Value, m_Err, m_Hit, m_Life, m_From, m_To⟩ ≥ 0)))) (hv_assign rfl) ?_
          refine hl_nil ?_
          refine seqQ_n ?_
          exact ⟨⟨xv14, (row_congr hr4 (by first | rfl | simp [hg10, hg11, hg12])), trivial⟩, (has_cons (show ((.bool (decide (Ml.Mv.to ⟨m_Kind, m_Key, m_Value, m_Err, m_Hit, m_Life, m_From, m_To⟩ ≥ 0))) : Value) = (.bool ((m_Kind == 1) && (m_Hit && ((m_Err == 0) && (decide (Ml.Mv.to ⟨m_Kind, m_Key, m_Value, m_Err, m_Hit, m_Life, m_From, m_To⟩ ≥ 0)))))) from (by first | rfl | simp [hg10, hg11, hg12])) has_nil)⟩
        · refine hl_no (wanted_n rfl rfl rfl hg12) rfl ?_
          refine hl_no (wanted_n rfl rfl rfl hg12) rfl ?_
          refine hl_val rfl rfl (v := (.bool false)) (hv_pick_f rfl hg12 rfl) ?_
          refine hl_val rfl rfl (v := (.bool false)) (hv_assign rfl) ?_
          refine hl_nil ?_
          refine seqQ_n ?_
          exact ⟨⟨xx3, (row_congr hr4 (by first | rfl | simp [hg10, hg11, hg12])), trivial⟩, (has_cons (show ((.bool false) : Value) = (.bool ((m_Kind == 1) && (m_Hit && ((m_Err == 0) && (decide (Ml.Mv.to ⟨m_Kind, m_Key, m_Value, m_Err, m_Hit, m_Life, m_From, m_To⟩ ≥ 0)))))) from (by first | rfl | simp [hg10, hg11, hg12])) has_nil)⟩
      · refine hl_no (wanted_n rfl rfl rfl hg11) rfl ?_
        refine hl_no (wanted_n rfl rfl rfl hg11) rfl ?_
        refine hl_no (wanted_n rfl rfl rfl hg11) rfl ?_
        refine hl_val rfl rfl (v := (.bool false)) (hv_pick_f rfl hg11 rfl) ?_
        refine hl_val rfl rfl (v := (.bool false)) (hv_move rfl) ?_
        refine hl_no (wanted_n rfl rfl (c := false) rfl rfl) rfl ?_
        refine hl_no (wanted_n rfl rfl (c := false) rfl rfl) rfl ?_
        refine hl_val rfl rfl (v := (.bool false)) (hv_pick (t := false) rfl rfl) ?_
        refine hl_val rfl rfl (v := (.bool false)) (hv_assign rfl) ?_
        refine hl_nil ?_
        refine seqQ_n ?_
        exact ⟨⟨xx3, (row_congr hr4 (by first | rfl | simp [hg10, hg11])), trivial⟩, (has_cons (show ((.bool false) : Value) = (.bool ((m_Kind == 1) && (m_Hit && ((m_Err == 0) && (decide (Ml.Mv.to ⟨m_Kind, m_Key, m_Value, m_Err, m_Hit, m_Life, m_From, m_To⟩ ≥ 0)))))) from (by first | rfl | simp [hg10, hg11])) has_nil)⟩
    · refine hl_no (wanted_n rfl rfl rfl hg10) rfl ?_
      refine hl_no (wanted_n rfl rfl rfl hg10) rfl ?_
      refine hl_val rfl rfl (v := (.bool false)) (hv_pick_f rfl hg10 rfl) ?_
      refine hl_val rfl rfl (v := (.bool false)) (hv_move rfl) ?_
      refine hl_no (wanted_n rfl rfl (c := false) rfl rfl) rfl ?_
      refine hl_no (wanted_n rfl rfl (c := false) rfl rfl) rfl ?_
      refine hl_no (wanted_n rfl rfl (c := false) rfl rfl) rfl ?_
      refine hl_val rfl rfl (v := (.bool false)) (hv_pick (t := false) rfl rfl) ?_
      refine hl_val rfl rfl (v := (.bool false)) (hv_move rfl) ?_
      refine hl_no (wanted_n rfl rfl (c := false) rfl rfl) rfl ?_
      refine hl_no (wanted_n rfl rfl (c := false) rfl rfl) rfl ?_
      refine hl_val rfl rfl (v := (.bool false)) (hv_pick (t := false) rfl rfl) ?_
      refine hl_val rfl rfl (v := (.bool false)) (hv_assign rfl) ?_
      refine hl_nil ?_
      refine seqQ_n ?_
      exact ⟨⟨xx3, (row_congr hr4 (by first | rfl | simp [hg10])), trivial⟩, (has_cons (show ((.bool false) : Value) = (.bool ((m_Kind == 1) && (m_Hit && ((m_Err == 0) && (decide (Ml.Mv.to ⟨m_Kind, m_Key, m_Value, m_Err, m_Hit, m_Life, m_From, m_To⟩ ≥ 0)))))) from (by first | rfl | simp [hg10])) has_nil)⟩
  · rintro ρ h2 ⟨⟨xv8, hr9, -⟩, hH⟩
    refine hx_has _ hH ?_
    refine hx_ret ?_
    replace H := H h2 xv8
    exact endQ_ret _ (res_one Try.results35 (rv_tmp rfl)) H

/-- cellar/model.fateOf -/
theorem f45_sh (m_Kind : Int) (m_Key : ByteArray) (m_Value : ByteArray) (m_Err : Int) (m_Hit : Bool) (m_Life : Int) (m_From : Int) (m_To : Int) (h : Heap) (R : Value → Heap → Prop)
    (H : ((((!(decide (Ml.Mv.to ⟨m_Kind, m_Key, m_Value, m_Err, m_Hit, m_Life, m_From, m_To⟩ ≥ 0))) || ((m_Err == 2) || (m_Err == 5))) = true → (∀ (h2 : Heap), Ext h h2 → R (.int .i64 3) h2)) ∧ (((!(decide (Ml.Mv.to ⟨m_Kind, m_Key, m_Value, m_Err, m_Hit, m_Life, m_From, m_To⟩ ≥ 0))) || ((m_Err == 2) || (m_Err == 5))) = false → (((m_Err == 0) = true → (∀ (h2 : Heap), Ext h h2 → R (.int .i64 1) h2)) ∧ ((m_Err == 0) = false → (((m_Err == 191) = true → (∀ (h2 : Heap), Ext h h2 → R (.int .i64 2) h2)) ∧ ((m_Err == 191) = false → (∀ (h2 : Heap), Ext h h2 → R (.int .i64 0) h2)))))))) :
    HC Try.prog 45 #[(.agg #[(.int .i64 m_Kind), (.string m_Key), (.string m_Value), (.int .i64 m_Err), (.bool m_Hit), (.int .i64 m_Life), (.int .i64 m_From), (.int .i64 m_To)])] h R := by
  refine hc_of (args := [(.agg #[(.int .i64 m_Kind), (.string m_Key), (.string m_Value), (.int .i64 m_Err), (.bool m_Hit), (.int .i64 m_Life), (.int .i64 m_From), (.int .i64 m_To)])]) Try.func45 rfl Try.ntmps45 (Nat.le_of_ble_eq_true rfl) ?_
  refine hx_seq ?_
  refine hx_region ?_
  refine hl_step rfl rfl (hn_box (v := (.agg #[(.int .i64 m_Kind), (.string m_Key), (.string m_Value), (.int .i64 m_Err), (.bool m_Hit), (.int .i64 m_Life), (.int .i64 m_From), (.int .i64 m_To)])) rfl ?_)
  intro m h1 eb1 eh2
  have xx3 : Ext h h1 := by rw [eh2]; exact Ext.push _ _
  have lo5 : Array.size h ≤ m := Nat.le_of_eq (Eq.symm eb1)
  have hr4 : h1[m]? = some (.cells #[(.int .i64 m_Kind), (.string m_Key), (.string m_Value), (.int .i64 m_Err), (.bool m_Hit), (.int .i64 m_Life), (.int .i64 m_From), (.int .i64 m_To)] 31 (0, 0)) := by rw [eh2]; exact push_new eb1
  refine hl_val rfl rfl (v := (.int .i64 0)) (hv_assign rfl) ?_
  refine hl_nil ?_
  refine seqQ_n ?_
  refine hx_seq ?_
  refine hx_block ?_
  refine hx_cut (fun ρ h' => (Ext h h' ∧ h'[m]? = some (.cells #[(.int .i64 m_Kind), (.string m_Key), (.string m_Value), (.int .i64 m_Err), (.bool m_Hit), (.int .i64 m_Life), (.int .i64 m_From), (.int .i64 m_To)] 31 (0, 0)) ∧ True) ∧ Has ρ [(1, (ptr m 0)), (3, (.bool ((!(decide (Ml.Mv.to ⟨m_Kind, m_Key, m_Value, m_Err, m_Hit, m_Life, m_From, m_To⟩ ≥ 0))) || ((m_Err == 2) || (m_Err == 5)))))]) ?_ ?_
  · refine hx_region ?_
    refine hl_val rfl rfl (v := (.agg #[(.int .i64 m_Kind), (.string m_Key), (.string m_Value), (.int .i64 m_Err), (.bool m_Hit), (.int .i64 m_Life), (.int .i64 m_From), (.int .i64 m_To)])) (hv_loads (vs := [(.int .i64 m_Kind), (.string m_Key), (.string m_Value), (.int .i64 m_Err), (.bool m_Hit), (.int .i64 m_Life), (.int .i64 m_From), (.int .i64 m_To)]) TyShB.agg31 TyShB.sz31 rfl (hcells_cons (rowcell hr4 rfl) (hcells_cons (rowcell hr4 rfl) (hcells_cons (rowcell hr4 rfl) (hcells_cons (rowcell hr4 rfl) (hcells_cons (rowcell hr4 rfl) (hcells_cons (rowcell hr4 rfl) (hcells_cons (rowcell hr4 rfl) (hcells_cons (rowcell hr4 rfl) hcells_nil))))))))) ?_
    refine hl_step rfl rfl (hs_call TyShB.cb36 (vs := [(.agg #[(.int .i64 m_Kind), (.string m_Key), (.string m_Value), (.int .i64 m_Err), (.bool m_Hit), (.int .i64 m_Life), (.int .i64 m_From), (.int .i64 m_To)])]) rfl (HC.mono (returned_c (⟨m_Kind, m_Key, m_Value, m_Err, m_Hit, m_Life, m_From, m_To⟩) _) ?_))
    rintro _ h3 ⟨rfl, xx10⟩
    replace hr4 := Ext.row xx10 hr4
    have xv11 := Ext.trans xx3 xx10
    refine hl_val rfl rfl (v := (.bool (!(decide (Ml.Mv.to ⟨m_Kind, m_Key, m_Value, m_Err, m_Hit, m_Life, m_From, m_To⟩ ≥ 0))))) (hv_not (b := decide (Ml.Mv.to ⟨m_Kind, m_Key, m_Value, m_Err, m_Hit, m_Life, m_From, m_To⟩ ≥ 0)) rfl) ?_
    refine hl_val rfl rfl (v := (.bool (!(decide (Ml.Mv.to ⟨m_Kind, m_Key, m_Value, m_Err, m_Hit, m_Life, m_From, m_To⟩ ≥ 0))))) (hv_move rfl) ?_
    rcases bool_or (!(decide (Ml.Mv.to ⟨m_Kind, m_Key, m_Value, m_Err, m_Hit, m_Life, m_From, m_To⟩ ≥ 0))) with hg12 | hg12
    · refine hl_no (wanted_n rfl rfl rfl hg12) rfl ?_
      refine hl_no (wanted_n rfl rfl rfl hg12) rfl ?_
      refine hl_no (wanted_n rfl rfl rfl hg12) rfl ?_
      refine hl_val rfl rfl (v := (.bool true)) (hv_pick_t rfl hg12 rfl) ?_
      refine hl_val rfl rfl (v := (.bool true)) (hv_move rfl) ?_
      refine hl_no (wanted_n rfl rfl (c := true) rfl rfl) rfl ?_
      refine hl_no (wanted_n rfl rfl (c := true) rfl rfl) rfl ?_
      refine hl_no (wanted_n rfl rfl (c := true) rfl rfl) rfl ?_
      refine hl_val rfl rfl (v := (.bool true)) (hv_pick (t := true) rfl rfl) ?_
      refine hl_val rfl rfl (v := (.bool true)) (hv_assign rfl) ?_
      refine hl_nil ?_
      refine seqQ_n ?_
      exact ⟨⟨xv11, (row_congr hr4 (by first | rfl | simp [hg12])), trivial⟩, (has_cons rfl (has_cons (show ((.bool true) : Value) = (.bool ((!(decide (Ml.Mv.to ⟨m_Kind, m_Key, m_Value, m_Err, m_Hit, m_Life, m_From, m_To⟩ ≥ 0))) || ((m_Err == 2) || (m_Err == 5)))) from (by first | rfl | simp [hg12])) has_nil))⟩
    · refine hl_yes (wanted_y rfl rfl rfl hg12) rfl (HStep.of_val (v := (ptr m 3)) (hv_field TyShB.fld31_3 (b := m) (o := 0) rfl) ?_)
      refine hl_yes (wanted_y rfl rfl rfl hg12) rfl (HStep.of_val (v := (.int .i64 m_Err)) (hv_load TyShB.agg29 rfl (rowcell hr4 rfl)) ?_)
      refine hl_yes (wanted_y rfl rfl rfl hg12) rfl (HStep.of_val (v := (.bool (m_Err == 2))) (hv_arith rfl rfl rfl) ?_)
      refine hl_val rfl rfl (v := (.bool (m_Err == 2))) (hv_pick_f rfl hg12 rfl) ?_
      refine hl_val rfl rfl (v := (.bool (m_Err == 2))) (hv_move rfl) ?_
      rcases bool_or (m_Err == 2) with hg13 | hg13
      · refine hl_no (wanted_n rfl rfl rfl hg13) rfl ?_
        refine hl_no (wanted_n rfl rfl rfl hg13) rfl ?_
        refine hl_no (wanted_n rfl rfl rfl hg13) rfl ?_
        refine hl_val rfl rfl (v := (.bool true)) (hv_pick_t rfl hg13 rfl) ?_
        refine hl_val rfl rfl (v := (.bool true)) (hv_assign rfl) ?_
        refine hl_nil ?_
        refine seqQ_n ?_
        exact ⟨⟨xv11, (row_congr hr4 (by first | rfl | simp [hg12, hg13])), trivial⟩, (has_cons rfl (has_cons (show ((.bool true) : Value) = (.bool ((!(decide (Ml.Mv.to ⟨m_Kind, m_Key, m_Value, m_Err, m_Hit, m_Life, m_From, m_To⟩ ≥ 0))) || ((m_Err == 2) || (m_Err == 5)))) from (by first | rfl | simp [hg12, hg13])) has_nil))⟩
      · refine hl_yes (wanted_y rfl rfl rfl hg13) rfl (HStep.of_val (v := (ptr m 3)) (hv_field TyShB.fld31_3 (b := m) (o := 0) rfl) ?_)
        refine hl_yes (wanted_y rfl rfl rfl hg13) rfl (HStep.of_val (v := (.int .i64 m_Err)) (hv_load TyShB.agg29 rfl (rowcell hr4 rfl)) ?_)
        refine hl_yes (wanted_y rfl rfl rfl hg13) rfl (HStep.of_val (v := (.bool (m_Err == 5))) (hv_arith rfl rfl rfl) ?_)
        refine hl_val rfl rfl (v := (.bool (m_Err == 5))) (hv_pick_f rfl hg13 rfl) ?_
        refine hl_val rfl rfl (v := (.bool (m_Err == 5))) (hv_assign rfl) ?_
        refine hl_nil ?_
        refine seqQ_n ?_
        exact ⟨⟨xv11, (row_congr hr4 (by first | rfl | simp [hg12, hg13])), trivial⟩, (has_cons rfl (has_cons (show ((.bool (m_Err == 5)) : Value) = (.bool ((!(decide (Ml.Mv.to ⟨m_Kind, m_Key, m_Value, m_Err, m_Hit, m_Life, m_From, m_To⟩ ≥ 0))) || ((m_Err == 2) || (m_Err == 5)))) from (by first | rfl | simp [hg12, hg13])) has_nil))⟩
  · rintro ρ h2 ⟨⟨xv8, hr9, -⟩, hH⟩
    refine hx_has _ hH ?_
    refine hx_cond (b := ((!(decide (Ml.Mv.to ⟨m_Kind, m_Key, m_Value, m_Err, m_Hit, m_Life, m_From, m_To⟩ ≥ 0))) || ((m_Err == 2) || (m_Err == 5)))) rfl (fun hb14 => ?_) (fun hb14 => ?_)
    · replace H := H.1 hb14
      refine hx_seq ?_
      refine hx_region ?_
      refine hl_val rfl rfl (v := (.int .i64 3)) (hv_assign rfl) ?_
      refine hl_nil ?_
      refine seqQ_n ?_
      refine hx_ret ?_
      refine blockQ_ret ?_
      refine seqQ_ret ?_
      replace H := H h2 xv8
      exact endQ_ret _ (res_one Try.results45 (rv_tmp rfl)) H
    · replace H := H.2 hb14
      refine hx_seq ?_
      refine hx_region ?_
      refine hl_val rfl rfl (v := (ptr m 3)) (hv_field TyShB.fld31_3 (b := m) (o := 0) rfl) ?_
      refine hl_val rfl rfl (v := (.int .i64 m_Err)) (hv_load TyShB.agg29 rfl (rowcell hr9 rfl)) ?_
      refine hl_val rfl rfl (v := (.bool (m_Err == 0))) (hv_arith rfl rfl rfl) ?_
      refine hl_val rfl rfl (v := (.bool (m_Err == 0))) (hv_assign rfl) ?_
      refine hl_nil ?_
      refine seqQ_n ?_
      refine hx_cond (b := m_Err == 0) rfl (fun hb15 => ?_) (fun hb15 => ?_)
      · replace H := H.1 hb15
        refine hx_seq ?_
        refine hx_region ?_
        refine hl_val rfl rfl (v := (.int .i64 1)) (hv_assign rfl) ?_
        refine hl_nil ?_
        refine seqQ_n ?_
        refine hx_ret ?_
        refine blockQ_ret ?_
        refine seqQ_ret ?_
        replace H := H h2 xv8
        exact endQ_ret _ (res_one Try.results45 (rv_tmp rfl)) H
      · replace H := H.2 hb15
        refine hx_seq ?_
        refine hx_region ?_
        refine hl_val rfl rfl (v := (ptr m 3)) (hv_field TyShB.fld31_3 (b := m) (o := 0) rfl) ?_
        refine hl_val rfl rfl (v := (.int .i64 m_Err)) (hv_load TyShB.agg29 rfl (rowcell hr9 rfl)) ?_
        refine hl_val rfl rfl (v := (.bool (m_Err == 191))) (hv_arith rfl rfl rfl) ?_
        refine hl_val rfl rfl (v := (.bool (m_Err == 191))) (hv_assign rfl) ?_
        refine hl_nil ?_
        refine seqQ_n ?_
        refine hx_cond (b := m_Err == 191) rfl (fun hb16 => ?_) (fun hb16 => ?_)
        · replace H := H.1 hb16
          refine hx_seq ?_
          refine hx_region ?_
          refine hl_val rfl rfl (v := (.int .i64 2)) (hv_assign rfl) ?_
          refine hl_nil ?_
          refine seqQ_n ?_
          refine hx_ret ?_
          refine blockQ_ret ?_
          refine seqQ_ret ?_
          replace H := H h2 xv8
          exact endQ_ret _ (res_one Try.results45 (rv_tmp rfl)) H
        · replace H := H.2 hb16
          refine hx_skip ?_
          refine blockQ_n ?_
          refine seqQ_n ?_
          refine hx_seq ?_
          refine hx_region ?_
          refine hl_val rfl rfl (v := (.int .i64 0)) (hv_assign rfl) ?_
          refine hl_nil ?_
          refine seqQ_n ?_
          refine hx_ret ?_
          replace H := H h2 xv8
          exact endQ_ret _ (res_one Try.results45 (rv_tmp rfl)) H

/-- cellar/cellarref23.Check -/
theorem f21_sh (m_Kind : Int) (m_Key : ByteArray) (m_Value : ByteArray) (m_Err : Int) (m_Hit : Bool) (m_Life : Int) (m_From : Int) (m_To : Int) (h : Heap) (R : Value → Heap → Prop)
    (H : ((((decide (m_Kind < 1)) || ((decide (m_Kind > 5)) || ((decide (m_From < 0)) || ((decide (m_To ≥ 0)) && (decide (m_To < m_From)))))) = true → (∀ (h1 : Heap), Ext h h1 → R (.int .i64 230) h1)) ∧ (((decide (m_Kind < 1)) || ((decide (m_Kind > 5)) || ((decide (m_From < 0)) || ((decide (m_To ≥ 0)) && (decide (m_To < m_From)))))) = false → (((m_Hit && ((m_Kind != 1) || ((m_Err != 0) || (!(decide (m_To ≥ 0)))))) = true → (∀ (h1 : Heap), Ext h h1 → R (.int .i64 230) h1)) ∧ ((m_Hit && ((m_Kind != 1) || ((m_Err != 0) || (!(decide (m_To ≥ 0)))))) = false → ((((m_Kind == 1) && ((!m_Hit) && (!decide (m_Value = ByteArray.empty)))) = true → (∀ (h1 : Heap), Ext h h1 → R (.int .i64 230) h1)) ∧ (((m_Kind == 1) && ((!m_Hit) && (!decide (m_Value = ByteArray.empty)))) = false → ((((decide (m_Kind > 2)) && (!decide (m_Value = ByteArray.empty))) = true → (∀ (h1 : Heap), Ext h h1 → R (.int .i64 230) h1)) ∧ (((decide (m_Kind > 2)) && (!decide (m_Value = ByteArray.empty))) = false → ((((decide (m_Kind > 3)) && (!decide (m_Key = ByteArray.empty))) = true → (∀ (h1 : Heap), Ext h h1 → R (.int .i64 230) h1)) ∧ (((decide (m_Kind > 3)) && (!decide (m_Key = ByteArray.empty))) = false → (∀ (h1 : Heap), Ext h h1 → R (.int .i64 0) h1)))))))))))) :
    HC Try.prog 21 #[(.agg #[(.int .i64 m_Kind), (.string m_Key), (.string m_Value), (.int .i64 m_Err), (.bool m_Hit), (.int .i64 m_Life), (.int .i64 m_From), (.int .i64 m_To)])] h R := by
  refine hc_of (args := [(.agg #[(.int .i64 m_Kind), (.string m_Key), (.string m_Value), (.int .i64 m_Err), (.bool m_Hit), (.int .i64 m_Life), (.int .i64 m_From), (.int .i64 m_To)])]) Try.func21 rfl Try.ntmps21 (Nat.le_of_ble_eq_true rfl) ?_
  refine hx_seq ?_
  refine hx_region ?_
  refine hl_step rfl rfl (hn_box (v := (.agg #[(.int .i64 m_Kind), (.string m_Key), (.string m_Value), (.int .i64 m_Err), (.bool m_Hit), (.int .i64 m_Life), (.int .i64 m_From), (.int .i64 m_To)])) rfl ?_)
  intro m h1 eb1 eh2
  have xx3 : Ext h h1 := by rw [eh2]; exact Ext.push _ _
  have lo5 : Array.size h ≤ m := Nat.le_of_eq (Eq.symm eb1)
  have hr4 : h1[m]? = some (.cells #[(.int .i64 m_Kind), (.string m_Key), (.string m_Value), (.int .i64 m_Err), (.bool m_Hit), (.int .i64 m_Life), (.int .i64 m_From), (.int .i64 m_To)] 31 (0, 0)) := by rw [eh2]; exact push_new eb1
  refine hl_val rfl rfl (v := (.int .i64 0)) (hv_assign rfl) ?_
  refine hl_nil ?_
  refine seqQ_n ?_
  refine hx_seq ?_
  refine hx_region ?_
  refine hl_val rfl rfl (v := (ptr m 7)) (hv_field TyShB.fld31_7 (b := m) (o := 0) rfl) ?_
  refine hl_val rfl rfl (v := (.int .i64 m_To)) (hv_load TyShB.agg3 rfl (rowcell hr4 rfl)) ?_
  refine hl_val rfl rfl (v := (.bool (decide (m_To ≥ 0)))) (hv_arith rfl rfl rfl) ?_
  refine hl_val rfl rfl (v := (.bool (decide (m_To ≥ 0)))) (hv_assign rfl) ?_
  refine hl_nil ?_
  refine seqQ_n ?_
  refine hx_seq ?_
  refine hx_block ?_
  refine hx_cut (fun ρ h' => h1 = h' ∧ Has ρ [(1, (ptr m 0)), (3, (.bool (decide (m_To ≥ 0)))), (7, (.bool ((decide (m_Kind < 1)) || ((decide (m_Kind > 5)) || ((decide (m_From < 0)) || ((decide (m_To ≥ 0)) && (decide (m_To < m_From))))))))]) ?_ ?_
  · refine hx_region ?_
    refine hl_val rfl rfl (v := (ptr m 0)) (hv_field TyShB.fld31_0 (b := m) (o := 0) rfl) ?_
    refine hl_val rfl rfl (v := (.int .i64 m_Kind)) (hv_load TyShB.agg3 rfl (rowcell hr4 rfl)) ?_
    refine hl_val rfl rfl (v := (.bool (decide (m_Kind < 1)))) (hv_arith rfl rfl rfl) ?_
    refine hl_val rfl rfl (v := (.bool (decide (m_Kind < 1)))) (hv_move rfl) ?_
    rcases bool_or (decide (m_Kind < 1)) with hg8 | hg8
    · refine hl_no (wanted_n rfl rfl rfl hg8) rfl ?_
      refine hl_no (wanted_n rfl rfl rfl hg8) rfl ?_
      refine hl_no (wanted_n rfl rfl rfl hg8) rfl ?_
      refine hl_val rfl rfl (v := (.bool true)) (hv_pick_t rfl hg8 rfl) ?_
      refine hl_val rfl rfl (v := (.bool true)) (hv_move rfl) ?_
      refine hl_no (wanted_n rfl rfl (c := true) rfl rfl) rfl ?_
      refine hl_no (wanted_n rfl rfl (c := true) rfl rfl) rfl ?_
      refine hl_no (wanted_n rfl rfl (c := true) rfl rfl) rfl ?_
      refine hl_val rfl rfl (v := (.bool true)) (hv_pick (t := true) rfl rfl) ?_
      refine hl_val rfl rfl (v := (.bool true)) (hv_move rfl) ?_
      refine hl_no (wanted_n rfl rfl (c := true) rfl rfl) rfl ?_
      refine hl_no (wanted_n rfl rfl (c := true) rfl rfl) rfl ?_
      refine hl_no (wanted_u rfl rfl rfl) rfl ?_
      refine hl_no (wanted_u rfl rfl rfl) rfl ?_
      refine hl_no (wanted_u rfl rfl rfl) rfl ?_
      refine hl_no (wanted_u rfl rfl rfl) rfl ?_
      refine hl_no (wanted_u rfl rfl rfl) rfl ?_
      refine hl_no (wanted_n rfl rfl (c := true) rfl rfl) rfl ?_
      refine hl_val rfl rfl (v := (.bool true)) (hv_pick (t := true) rfl rfl) ?_
      refine hl_val rfl rfl (v := (.bool true)) (hv_assign rfl) ?_
      refine hl_nil ?_
      refine seqQ_n ?_
      exact ⟨rfl, (has_cons rfl (has_cons rfl (has_cons (show ((.bool true) : Value) = (.bool ((decide (m_Kind < 1)) || ((decide (m_Kind > 5)) || ((decide (m_From < 0)) || ((decide (m_To ≥ 0)) && (decide (m_To < m_From))))))) from (by first | rfl | simp [hg8])) has_nil)))⟩
    · refine hl_yes (wanted_y rfl rfl rfl hg8) rfl (HStep.of_val (v := (ptr m 0)) (hv_field TyShB.fld31_0 (b := m) (o := 0) rfl) ?_)
      refine hl_yes (wanted_y rfl rfl rfl hg8) rfl (HStep.of_val (v := (.int .i64 m_Kind)) (hv_load TyShB.agg3 rfl (rowcell hr4 rfl)) ?_)
      refine hl_yes (wanted_y rfl rfl rfl hg8) rfl (HStep.of_val (v := (.bool (decide (m_Kind > 5)))) (hv_arith rfl rfl rfl) ?_)
      refine hl_val rfl rfl (v := (.bool (decide (m_Kind > 5)))) (hv_pick_f rfl hg8 rfl) ?_
      refine hl_val rfl rfl (v := (.bool (decide (m_Kind > 5)))) (hv_move rfl) ?_
      rcases bool_or (decide (m_Kind > 5)) with hg9 | hg9
      · refine hl_no (wanted_n rfl rfl rfl hg9) rfl ?_
        refine hl_no (wanted_n rfl rfl rfl hg9) rfl ?_
        refine hl_no (wanted_n rfl rfl rfl hg9) rfl ?_
        refine hl_val rfl rfl (v := (.bool true)) (hv_pick_t rfl hg9 rfl) ?_
        refine hl_val rfl rfl (v := (.bool true)) (hv_move rfl) ?_
        refine hl_no (wanted_n rfl rfl (c := true) rfl rfl) rfl ?_
        refine hl_no (wanted_n rfl rfl (c := true) rfl rfl) rfl ?_
        refine hl_no (wanted_u rfl rfl rfl) rfl ?_
        refine hl_no (wanted_u rfl rfl rfl) rfl ?_
        refine hl_no (wanted_u rfl rfl rfl) rfl ?_
        refine hl_no (wanted_u rfl rfl rfl) rfl ?_
        refine hl_no (wanted_u rfl rfl rfl) rfl ?_
        refine hl_no (wanted_n rfl rfl (c := true) rfl rfl) rfl ?_
        refine hl_val rfl rfl (v := (.bool true)) (hv_pick (t := true) rfl rfl) ?_
        refine hl_val rfl rfl (v := (.bool true)) (hv_assign rfl) ?_
        refine hl_nil ?_
        refine seqQ_n ?_
        exact ⟨rfl, (has_cons rfl (has_cons rfl (has_cons (show ((.bool true) : Value) = (.bool ((decide (m_Kind < 1)) || ((decide (m_Kind > 5)) || ((decide (m_From < 0)) || ((decide (m_To ≥ 0)) && (decide (m_To < m_From))))))) from (by first | rfl | simp [hg8, hg9])) has_nil)))⟩
      · refine hl_yes (wanted_y rfl rfl rfl hg9) rfl (HStep.of_val (v := (ptr m 6)) (hv_field TyShB.fld31_6 (b := m) (o := 0) rfl) ?_)
        refine hl_yes (wanted_y rfl rfl rfl hg9) rfl (HStep.of_val (v := (.int .i64 m_From)) (hv_load TyShB.agg3 rfl (rowcell hr4 rfl)) ?_)
        refine hl_yes (wanted_y rfl rfl rfl hg9) rfl (HStep.of_val (v := (.bool (decide (m_From < 0)))) (hv_arith rfl rfl rfl) ?_)
        refine hl_val rfl rfl (v := (.bool (decide (m_From < 0)))) (hv_pick_f rfl hg9 rfl) ?_
        refine hl_val rfl rfl (v := (.bool (decide (m_From < 0)))) (hv_move rfl) ?_
        rcases bool_or (decide (m_From < 0)) with hg10 | hg10
        · refine hl_no (wanted_n rfl rfl rfl hg10) rfl ?_
          refine hl_no (wanted_n rfl rfl rfl hg10) rfl ?_
          refine hl_no (wanted_u rfl rfl rfl) rfl ?_
          refine hl_no (wanted_u rfl rfl rfl) rfl ?_
          refine hl_no (wanted_u rfl rfl rfl) rfl ?_
          refine hl_no (wanted_u rfl rfl rfl) rfl ?_
          refine hl_no (wanted_u rfl rfl rfl) rfl ?_
          refine hl_no (wanted_n rfl rfl rfl hg10) rfl ?_
          refine hl_val rfl rfl (v := (.bool true)) (hv_pick_t rfl hg10 rfl) ?_
          refine hl_val rfl rfl (v := (.bool true)) (hv_assign rfl) ?_
          refine hl_nil ?_
          refine seqQ_n ?_
          exact ⟨rfl, (has_cons rfl (has_cons rfl (has_cons (show ((.bool true) : Value) = (.bool ((decide (m_Kind < 1)) || ((decide (m_Kind > 5)) || ((decide (m_From < 0)) || ((decide (m_To ≥ 0)) && (decide (m_To < m_From))))))) from (by first | rfl | simp [hg8, hg9, hg10])) has_nil)))⟩
        · refine hl_yes (wanted_y rfl rfl rfl hg10) rfl (HStep.of_val (v := (.bool (decide (m_To ≥ 0)))) (hv_move rfl) ?_)
          refine hl_yes (wanted_y rfl rfl rfl hg10) rfl (HStep.of_val (v := (.bool (decide (m_To ≥ 0)))) (hv_move rfl) ?_)
          rcases bool_or (decide (m_To ≥ 0)) with hg11 | hg11
          · refine hl_yes (wanted_y rfl rfl rfl hg11) rfl (HStep.of_val (v := (ptr m 7)) (hv_field TyShB.fld31_7 (b := m) (o := 0) rfl) ?_)
            refine hl_yes (wanted_y rfl rfl rfl hg11) rfl (HStep.of_val (v := (.int .i64 m_To)) (hv_load TyShB.agg3 rfl (rowcell hr4 rfl)) ?_)
            refine hl_yes (wanted_y rfl rfl rfl hg11) rfl (HStep.of_val (v := (ptr m 6)) (hv_field TyShB.fld31_6 (b := m) (o := 0) rfl) ?_)
            refine hl_yes (wanted_y rfl rfl rfl hg11) rfl (HStep.of_val (v := (.int .i64 m_From)) (hv_load TyShB.agg3 rfl (rowcell hr4 rfl)) ?_)
            refine hl_yes (wanted_y rfl rfl rfl hg11) rfl (HStep.of_val (v := (.bool (decide (m_To < m_From)))) (hv_arith rfl rfl rfl) ?_)
            refine hl_yes (wanted_y rfl rfl rfl hg10) rfl (HStep.of_val (v := (.bool (decide (m_To < m_From)))) (hv_pick_t rfl hg11 rfl) ?_)
            refine hl_val rfl rfl (v := (.bool (decide (m_To < m_From)))) (hv_pick_f rfl hg10 rfl) ?_
            refine hl_val rfl rfl (v := (.bool (decide (m_To < m_From)))) (hv_assign rfl) ?_
            refine hl_nil ?_
            refine seqQ_n ?_
            exact ⟨rfl, (has_cons rfl (has_cons rfl (has_cons (show ((.bool (decide (m_To < m_From))) : Value) = (.bool ((decide (m_Kind < 1)) || ((decide (m_Kind > 5)) || ((decide (m_From < 0)) || ((decide (m_To ≥ 0)) && (decide (m_To < m_From))))))) from (by first | rfl | simp [hg8, hg9, hg10, hg11])) has_nil)))⟩
          · refine hl_no (wanted_n rfl rfl rfl hg11) rfl ?_
            refine hl_no (wanted_n rfl rfl rfl hg11) rfl ?_
            refine hl_no (wanted_n rfl rfl rfl hg11) rfl ?_
            refine hl_no (wanted_n rfl rfl rfl hg11) rfl ?_
            refine hl_no (wanted_n rfl rfl rfl hg11) rfl ?_
            refine hl_yes (wanted_y rfl rfl rfl hg10) rfl (HStep.of_val (v := (.bool false)) (hv_pick_f rfl hg11 rfl) ?_)
            refine hl_val rfl rfl (v := (.bool false)) (hv_pick_f rfl hg10 rfl) ?_
            refine hl_val rfl rfl (v := (.bool false)) (hv_assign rfl) ?_
            refine hl_nil ?_
            refine seqQ_n ?_
            exact ⟨rfl, (has_cons rfl (has_cons rfl (has_cons (show ((.bool false) : Value) = (.bool ((decide (m_Kind < 1)) || ((decide (m_Kind > 5)) || ((decide (m_From < 0)) || ((decide (m_To ≥ 0)) && (decide (m_To < m_From))))))) from (by first | rfl | simp [hg8, hg9, hg10, hg11])) has_nil)))⟩
  · rintro ρ _ ⟨rfl, hH⟩
    refine hx_has _ hH ?_
    refine hx_cond (b := ((decide (m_Kind < 1)) || ((decide (m_Kind > 5)) || ((decide (m_From < 0)) || ((decide (m_To ≥ 0)) && (decide (m_To < m_From))))))) rfl (fun hb12 => ?_) (fun hb12 => ?_)
    · replace H := H.1 hb12
      refine hx_seq ?_
      refine hx_region ?_
      refine hl_val rfl rfl (v := (.int .i64 230)) (hv_assign rfl) ?_
      refine hl_nil ?_
      refine seqQ_n ?_
      refine hx_ret ?_
      refine blockQ_ret ?_
      refine seqQ_ret ?_
      replace H := H h1 xx3
      exact endQ_ret _ (res_one Try.results21 (rv_tmp rfl)) H
    · replace H := H.2 hb12
      refine hx_cut (fun ρ h' => h1 = h' ∧ Has ρ [(1, (ptr m 0)), (31, (.bool (m_Hit && ((m_Kind != 1) || ((m_Err != 0) || (!(decide (m_To ≥ 0))))))))]) ?_ ?_
      · refine hx_region ?_
        refine hl_val rfl rfl (v := (ptr m 4)) (hv_field TyShB.fld31_4 (b := m) (o := 0) rfl) ?_
        refine hl_val rfl rfl (v := (.bool m_Hit)) (hv_load TyShB.agg4 rfl (rowcell hr4 rfl)) ?_
        refine hl_val rfl rfl (v := (.bool m_Hit)) (hv_move rfl) ?_
        rcases bool_or (m_Hit) with hg15 | hg15
        · refine hl_yes (wanted_y rfl rfl rfl hg15) rfl (HStep.of_val (v := (ptr m 0)) (hv_field TyShB.fld31_0 (b := m) (o := 0) rfl) ?_)
          refine hl_yes (wanted_y rfl rfl rfl hg15) rfl (HStep.of_val (v := (.int .i64 m_Kind)) (hv_load TyShB.agg3 rfl (rowcell hr4 rfl)) ?_)
          refine hl_yes (wanted_y rfl rfl rfl hg15) rfl (HStep.of_val (v := (.bool (m_Kind != 1))) (hv_arith rfl rfl rfl) ?_)
          refine hl_yes (wanted_y rfl rfl rfl hg15) rfl (HStep.of_val (v := (.bool (m_Kind != 1))) (hv_move rfl) ?_)
          rcases bool_or (m_Kind != 1) with hg16 | hg16
          · refine hl_no (wanted_n rfl rfl rfl hg16) rfl ?_
            refine hl_no (wanted_n rfl rfl rfl hg16) rfl ?_
            refine hl_no (wanted_n rfl rfl rfl hg16) rfl ?_
            refine hl_yes (wanted_y rfl rfl rfl hg15) rfl (HStep.of_val (v := (.bool true)) (hv_pick_t rfl hg16 rfl) ?_)
            refine hl_yes (wanted_y rfl rfl rfl hg15) rfl (HStep.of_val (v := (.bool true)) (hv_move rfl) ?_)
            refine hl_no (wanted_n rfl rfl (c := true) rfl rfl) rfl ?_
            refine hl_no (wanted_n rfl rfl (c := true) rfl rfl) rfl ?_
            refine hl_yes (wanted_y rfl rfl rfl hg15) rfl (HStep.of_val (v := (.bool true)) (hv_pick (t := true) rfl rfl) ?_)
            refine hl_val rfl rfl (v := (.bool true)) (hv_pick_t rfl hg15 rfl) ?_
            refine hl_val rfl rfl (v := (.bool true)) (hv_assign rfl) ?_
            refine hl_nil ?_
            refine seqQ_n ?_
            exact ⟨rfl, (has_cons rfl (has_cons (show ((.bool true) : Value) = (.bool (m_Hit && ((m_Kind != 1) || ((m_Err != 0) || (!(decide (m_To ≥ 0))))))) from (by first | rfl | simp [hg15, hg16])) has_nil))⟩
          · refine hl_yes (wanted_y rfl rfl rfl hg16) rfl (HStep.of_val (v := (ptr m 3)) (hv_field TyShB.fld31_3 (b := m) (o := 0) rfl) ?_)
            refine hl_yes (wanted_y rfl rfl rfl hg16) rfl (HStep.of_val (v := (.int .i64 m_Err)) (hv_load TyShB.agg29 rfl (rowcell hr4 rfl)) ?_)
            refine hl_yes (wanted_y rfl rfl rfl hg16) rfl (HStep.of_val (v := (.bool (m_Err != 0))) (hv_arith rfl rfl rfl) ?_)
            refine hl_yes (wanted_y rfl rfl rfl hg15) rfl (HStep.of_val (v := (.bool (m_Err != 0))) (hv_pick_f rfl hg16 rfl) ?_)
            refine hl_yes (wanted_y rfl rfl rfl hg15) rfl (HStep.of_val (v := (.bool (m_Err != 0))) (hv_move rfl) ?_)
            rcases bool_or (m_Err != 0) with hg17 | hg17
            · refine hl_no (wanted_n rfl rfl rfl hg17) rfl ?_
              refine hl_no (wanted_n rfl rfl rfl hg17) rfl ?_
              refine hl_yes (wanted_y rfl rfl rfl hg15) rfl (HStep.of_val (v := (.bool true)) (hv_pick_t rfl hg17 rfl) ?_)
              refine hl_val rfl rfl (v := (.bool true)) (hv_pick_t rfl hg15 rfl) ?_
              refine hl_val rfl rfl (v := (.bool true)) (hv_assign rfl) ?_
              refine hl_nil ?_
              refine seqQ_n ?_
              exact ⟨rfl, (has_cons rfl (has_cons (show ((.bool true) : Value) = (.bool (m_Hit && ((m_Kind != 1) || ((m_Err != 0) || (!(decide (m_To ≥ 0))))))) from (by first | rfl | simp [hg15, hg16, hg17])) has_nil))⟩
            · refine hl_yes (wanted_y rfl rfl rfl hg17) rfl (HStep.of_val (v := (.bool (decide (m_To ≥ 0)))) (hv_move rfl) ?_)
              refine hl_yes (wanted_y rfl rfl rfl hg17) rfl (HStep.of_val (v := (.bool (!(decide (m_To ≥ 0))))) (hv_not (b := decide (m_To ≥ 0)) rfl) ?_)
              refine hl_yes (wanted_y rfl rfl rfl hg15) rfl (HStep.of_val (v := (.bool (!(decide (m_To ≥ 0))))) (hv_pick_f rfl hg17 rfl) ?_)
              refine hl_val rfl rfl (v := (.bool (!(decide (m_To ≥ 0))))) (hv_pick_t rfl hg15 rfl) ?_
              refine hl_val rfl rfl (v := (.bool (!(decide (m_To ≥ 0))))) (hv_assign rfl) ?_
              refine hl_nil ?_
              refine seqQ_n ?_
              exact ⟨rfl, (has_cons rfl (has_cons (show ((.bool (!(decide (m_To ≥ 0)))) : Value) = (.bool (m_Hit && ((m_Kind != 1) || ((m_Err != 0) || (!(decide (m_To ≥ 0))))))) from (by first | rfl | simp [hg15, hg16, hg17])) has_nil))⟩
        · refine hl_no (wanted_n rfl rfl rfl hg15) rfl ?_
          refine hl_no (wanted_n rfl rfl rfl hg15) rfl ?_
          refine hl_no (wanted_n rfl rfl rfl hg15) rfl ?_
          refine hl_no (wanted_n rfl rfl rfl hg15) rfl ?_
          refine hl_no (wanted_u rfl rfl rfl) rfl ?_
          refine hl_no (wanted_u rfl rfl rfl) rfl ?_
          refine hl_no (wanted_u rfl rfl rfl) rfl ?_
          refine hl_no (wanted_n rfl rfl rfl hg15) rfl ?_
          refine hl_no (wanted_n rfl rfl rfl hg15) rfl ?_
          refine hl_no (wanted_u rfl rfl rfl) rfl ?_
          refine hl_no (wanted_u rfl rfl rfl) rfl ?_
          refine hl_no (wanted_n rfl rfl rfl hg15) rfl ?_
          refine hl_val rfl rfl (v := (.bool false)) (hv_pick_f rfl hg15 rfl) ?_
          refine hl_val rfl rfl (v := (.bool false)) (hv_assign rfl) ?_
          refine hl_nil ?_
          refine seqQ_n ?_
          exact ⟨rfl, (has_cons rfl (has_cons (show ((.bool false) : Value) = (.bool (m_Hit && ((m_Kind != 1) || ((m_Err != 0) || (!(decide (m_To ≥ 0))))))) from (by first | rfl | simp [hg15])) has_nil))⟩
      · rintro ρ _ ⟨rfl, hH⟩
        refine hx_has _ hH ?_
        refine hx_cond (b := (m_Hit && ((m_Kind != 1) || ((m_Err != 0) || (!(decide (m_To ≥ 0))))))) rfl (fun hb18 => ?_) (fun hb18 => ?_)
        · replace H := H.1 hb18
          refine hx_seq ?_
          refine hx_region ?_
          refine hl_val rfl rfl (v := (.int .i64 230)) (hv_assign rfl) ?_
          refine hl_nil ?_
          refine seqQ_n ?_
          refine hx_ret ?_
          refine blockQ_ret ?_
          refine seqQ_ret ?_
          replace H := H h1 xx3
          exact endQ_ret _ (res_one Try.results21 (rv_tmp rfl)) H
        · replace H := H.2 hb18
          refine hx_cut (fun ρ h' => h1 = h' ∧ Has ρ [(1, (ptr m 0)), (48, (.bool ((m_Kind == 1) && ((!m_Hit) && (!decide (m_Value = ByteArray.empty))))))]) ?_ ?_
          · refine hx_region ?_
            refine hl_val rfl rfl (v := (ptr m 0)) (hv_field TyShB.fld31_0 (b := m) (o := 0) rfl) ?_
            refine hl_val rfl rfl (v := (.int .i64 m_Kind)) (hv_load TyShB.agg3 rfl (rowcell hr4 rfl)) ?_
            refine hl_val rfl rfl (v := (.bool (m_Kind == 1))) (hv_arith rfl rfl rfl) ?_
            refine hl_val rfl rfl (v := (.bool (m_Kind == 1))) (hv_move rfl) ?_
            rcases bool_or (m_Kind == 1) with hg21 | hg21
            · refine hl_yes (wanted_y rfl rfl rfl hg21) rfl (HStep.of_val (v := (ptr m 4)) (hv_field TyShB.fld31_4 (b := m) (o := 0) rfl) ?_)
              refine hl_yes (wanted_y rfl rfl rfl hg21) rfl (HStep.of_val (v := (.bool m_Hit)) (hv_load TyShB.agg4 rfl (rowcell hr4 rfl)) ?_)
              refine hl_yes (wanted_y rfl rfl rfl hg21) rfl (HStep.of_val (v := (.bool (!m_Hit))) (hv_not (b := m_Hit) rfl) ?_)
              refine hl_val rfl rfl (v := (.bool (!m_Hit))) (hv_pick_t rfl hg21 rfl) ?_
              refine hl_val rfl rfl (v := (.bool (!m_Hit))) (hv_move rfl) ?_
              rcases bool_or (!m_Hit) with hg22 | hg22
              · refine hl_yes (wanted_y rfl rfl rfl hg22) rfl (HStep.of_val (v := (ptr m 2)) (hv_field TyShB.fld31_2 (b := m) (o := 0) rfl) ?_)
                refine hl_yes (wanted_y rfl rfl rfl hg22) rfl (HStep.of_val (v := (.string m_Value)) (hv_load TyShB.agg9 rfl (rowcell hr4 rfl)) ?_)
                refine hl_yes (wanted_y rfl rfl rfl hg22) rfl (HStep.of_val (v := (.bool (!decide (m_Value = ByteArray.empty)))) (hv_str rfl rfl rfl) ?_)
                refine hl_val rfl rfl (v := (.bool (!decide (m_Value = ByteArray.empty)))) (hv_pick_t rfl hg22 rfl) ?_
                refine hl_val rfl rfl (v := (.bool (!decide (m_Value = ByteArray.empty)))) (hv_assign rfl) ?_
                refine hl_nil ?_
                refine seqQ_n ?_
                exact ⟨rfl, (has_cons rfl (has_cons (show ((.bool (!decide (m_Value = ByteArray.empty))) : Value) = (.bool ((m_Kind == 1) && ((!m_Hit) && (!decide (m_Value = ByteArray.empty))))) from (by first | rfl | simp [hg21, hg22])) has_nil))⟩
              · refine hl_no (wanted_n rfl rfl rfl hg22) rfl ?_
                refine hl_no (wanted_n rfl rfl rfl hg22) rfl ?_
                refine hl_no (wanted_n rfl rfl rfl hg22) rfl ?_
                refine hl_val rfl rfl (v := (.bool false)) (hv_pick_f rfl hg22 rfl) ?_
                refine hl_val rfl rfl (v := (.bool false)) (hv_assign rfl) ?_
                refine hl_nil ?_
                refine seqQ_n ?_
                exact ⟨rfl, (has_cons rfl (has_cons (show ((.bool false) : Value) = (.bool ((m_Kind == 1) && ((!m_Hit) && (!decide (m_Value = ByteArray.empty))))) from (by first | rfl | simp [hg21, hg22])) has_nil))⟩
            · refine hl_no (wanted_n rfl rfl rfl hg21) rfl ?_
              refine hl_no (wanted_n rfl rfl rfl hg21) rfl ?_
              refine hl_no (wanted_n rfl rfl rfl hg21) rfl ?_
              refine hl_val rfl rfl (v := (.bool false)) (hv_pick_f rfl hg21 rfl) ?_
              refine hl_val rfl rfl (v := (.bool false)) (hv_move rfl) ?_
              refine hl_no (wanted_n rfl rfl (c := false) rfl rfl) rfl ?_
              refine hl_no (wanted_n rfl rfl (c := false) rfl rfl) rfl ?_
              refine hl_no (wanted_n rfl rfl (c := false) rfl rfl) rfl ?_
              refine hl_val rfl rfl (v := (.bool false)) (hv_pick (t := false) rfl rfl) ?_
              refine hl_val rfl rfl (v := (.bool false)) (hv_assign rfl) ?_
              refine hl_nil ?_
              refine seqQ_n ?_
              exact ⟨rfl, (has_cons rfl (has_cons (show ((.bool false) : Value) = (.bool ((m_Kind == 1) && ((!m_Hit) && (!decide (m_Value = ByteArray.empty))))) from (by first | rfl | simp [hg21])) has_nil))⟩
          · rintro ρ _ ⟨rfl, hH⟩
            refine hx_has _ hH ?_
            refine hx_cond (b := ((m_Kind == 1) && ((!m_Hit) && (!decide (m_Value = ByteArray.empty))))) rfl (fun hb23 => ?_) (fun hb23 => ?_)
            · replace H := H.1 hb23
              refine hx_seq ?_
              refine hx_region ?_
              refine hl_val rfl rfl (v := (.int .i64 230)) (hv_assign rfl) ?_
              refine hl_nil ?_
              refine seqQ_n ?_
              refine hx_ret ?_
              refine blockQ_ret ?_
              refine seqQ_ret ?_
              replace H := H h1 xx3
              exact endQ_ret _ (res_one Try.results21 (rv_tmp rfl)) H
            · replace H := H.2 hb23
              refine hx_cut (fun ρ h' => h1 = h' ∧ Has ρ [(1, (ptr m 0)), (62, (.bool ((decide (m_Kind > 2)) && (!decide (m_Value = ByteArray.empty)))))]) ?_ ?_
              · refine hx_region ?_
                refine hl_val rfl rfl (v := (ptr m 0)) (hv_field TyShB.fld31_0 (b := m) (o := 0) rfl) ?_
                refine hl_val rfl rfl (v := (.int .i64 m_Kind)) (hv_load TyShB.agg3 rfl (rowcell hr4 rfl)) ?_
                refine hl_val rfl rfl (v := (.bool (decide (m_Kind > 2)))) (hv_arith rfl rfl rfl) ?_
                refine hl_val rfl rfl (v := (.bool (decide (m_Kind > 2)))) (hv_move rfl) ?_
                rcases bool_or (decide (m_Kind > 2)) with hg26 | hg26
                · refine hl_yes (wanted_y rfl rfl rfl hg26) rfl (HStep.of_val (v := (ptr m 2)) (hv_field TyShB.fld31_2 (b := m) (o := 0) rfl) ?_)
                  refine hl_yes (wanted_y rfl rfl rfl hg26) rfl (HStep.of_val (v := (.string m_Value)) (hv_load TyShB.agg9 rfl (rowcell hr4 rfl)) ?_)
                  refine hl_yes (wanted_y rfl rfl rfl hg26) rfl (HStep.of_val (v := (.bool (!decide (m_Value = ByteArray.empty)))) (hv_str rfl rfl rfl) ?_)
                  refine hl_val rfl rfl (v := (.bool (!decide (m_Value = ByteArray.empty)))) (hv_pick_t rfl hg26 rfl) ?_
                  refine hl_val rfl rfl (v := (.bool (!decide (m_Value = ByteArray.empty)))) (hv_assign rfl) ?_
                  refine hl_nil ?_
                  refine seqQ_n ?_
                  exact ⟨rfl, (has_cons rfl (has_cons (show ((.bool (!decide (m_Value = ByteArray.empty))) : Value) = (.bool ((decide (m_Kind > 2)) && (!decide (m_Value = ByteArray.empty)))) from (by first | rfl | simp [hg26])) has_nil))⟩
                · refine hl_no (wanted_n rfl rfl rfl hg26) rfl ?_
                  refine hl_no (wanted_n rfl rfl rfl hg26) rfl ?_
                  refine hl_no (wanted_n rfl rfl rfl hg26) rfl ?_
                  refine hl_val rfl rfl (v := (.bool false)) (hv_pick_f rfl hg26 rfl) ?_
                  refine hl_val rfl rfl (v := (.bool false)) (hv_assign rfl) ?_
                  refine hl_nil ?_
                  refine seqQ_n ?_
                  exact ⟨rfl, (has_cons rfl (has_cons (show ((.bool false) : Value) = (.bool ((decide (m_Kind > 2)) && (!decide (m_Value = ByteArray.empty)))) from (by first | rfl | simp [hg26])) has_nil))⟩
              · rintro ρ _ ⟨rfl, hH⟩
                refine hx_has _ hH ?_
                refine hx_cond (b := ((decide (m_Kind > 2)) && (!decide (m_Value = ByteArray.empty)))) rfl (fun hb27 => ?_) (fun hb27 => ?_)
                · replace H := H.1 hb27
                  refine hx_seq ?_
                  refine hx_region ?_
                  refine hl_val rfl rfl (v := (.int .i64 230)) (hv_assign rfl) ?_
                  refine hl_nil ?_
                  refine seqQ_n ?_
                  refine hx_ret ?_
                  refine blockQ_ret ?_
                  refine seqQ_ret ?_
                  replace H := H h1 xx3
                  exact endQ_ret _ (res_one Try.results21 (rv_tmp rfl)) H
                · replace H := H.2 hb27
                  refine hx_cut (fun ρ h' => h1 = h' ∧ Has ρ [(71, (.bool ((decide (m_Kind > 3)) && (!decide (m_Key = ByteArray.empty)))))]) ?_ ?_
                  · refine hx_region ?_
                    refine hl_val rfl rfl (v := (ptr m 0)) (hv_field TyShB.fld31_0 (b := m) (o := 0) rfl) ?_
                    refine hl_val rfl rfl (v := (.int .i64 m_Kind)) (hv_load TyShB.agg3 rfl (rowcell hr4 rfl)) ?_
                    refine hl_val rfl rfl (v := (.bool (decide (m_Kind > 3)))) (hv_arith rfl rfl rfl) ?_
                    refine hl_val rfl rfl (v := (.bool (decide (m_Kind > 3)))) (hv_move rfl) ?_
                    rcases bool_or (decide (m_Kind > 3)) with hg30 | hg30
                    · refine hl_yes (wanted_y rfl rfl rfl hg30) rfl (HStep.of_val (v := (ptr m 1)) (hv_field TyShB.fld31_1 (b := m) (o := 0) rfl) ?_)
                      refine hl_yes (wanted_y rfl rfl rfl hg30) rfl (HStep.of_val (v := (.string m_Key)) (hv_load TyShB.agg9 rfl (rowcell hr4 rfl)) ?_)
                      refine hl_yes (wanted_y rfl rfl rfl hg30) rfl (HStep.of_val (v := (.bool (!decide (m_Key = ByteArray.empty)))) (hv_str rfl rfl rfl) ?_)
                      refine hl_val rfl rfl (v := (.bool (!decide (m_Key = ByteArray.empty)))) (hv_pick_t rfl hg30 rfl) ?_
                      refine hl_val rfl rfl (v := (.bool (!decide (m_Key = ByteArray.empty)))) (hv_assign rfl) ?_
                      refine hl_nil ?_
                      refine seqQ_n ?_
                      exact ⟨rfl, (has_cons (show ((.bool (!decide (m_Key = ByteArray.empty))) : Value) = (.bool ((decide (m_Kind > 3)) && (!decide (m_Key = ByteArray.empty)))) from (by first | rfl | simp [hg30])) has_nil)⟩
                    · refine hl_no (wanted_n rfl rfl rfl hg30) rfl ?_
                      refine hl_no (wanted_n rfl rfl rfl hg30) rfl ?_
                      refine hl_no (wanted_n rfl rfl rfl hg30) rfl ?_
                      refine hl_val rfl rfl (v := (.bool false)) (hv_pick_f rfl hg30 rfl) ?_
                      refine hl_val rfl rfl (v := (.bool false)) (hv_assign rfl) ?_
                      refine hl_nil ?_
                      refine seqQ_n ?_
                      exact ⟨rfl, (has_cons (show ((.bool false) : Value) = (.bool ((decide (m_Kind > 3)) && (!decide (m_Key = ByteArray.empty)))) from (by first | rfl | simp [hg30])) has_nil)⟩
                  · rintro ρ _ ⟨rfl, hH⟩
                    refine hx_has _ hH ?_
                    refine hx_cond (b := ((decide (m_Kind > 3)) && (!decide (m_Key = ByteArray.empty)))) rfl (fun hb31 => ?_) (fun hb31 => ?_)
                    · replace H := H.1 hb31
                      refine hx_seq ?_
                      refine hx_region ?_
                      refine hl_val rfl rfl (v := (.int .i64 230)) (hv_assign rfl) ?_
                      refine hl_nil ?_
                      refine seqQ_n ?_
                      refine hx_ret ?_
                      refine blockQ_ret ?_
                      refine seqQ_ret ?_
                      replace H := H h1 xx3
                      exact endQ_ret _ (res_one Try.results21 (rv_tmp rfl)) H
                    · replace H := H.2 hb31
                      refine hx_skip ?_
                      refine blockQ_n ?_
                      refine seqQ_n ?_
                      refine hx_seq ?_
                      refine hx_region ?_
                      refine hl_val rfl rfl (v := (.int .i64 0)) (hv_assign rfl) ?_
                      refine hl_nil ?_
                      refine seqQ_n ?_
                      refine hx_ret ?_
                      replace H := H h1 xx3
                      exact endQ_ret _ (res_one Try.results21 (rv_tmp rfl)) H

/-- cmp.Compare[string] -/
theorem f44_sh (x : ByteArray) (y : ByteArray) (h : Heap) (R : Value → Heap → Prop)
    (H : (((slt x y) = true → (∀ (h2 : Heap), Ext h h2 → R (.int .i64 (-1)) h2)) ∧ ((slt x y) = false → (((slt y x) = true → (∀ (h2 : Heap), Ext h h2 → R (.int .i64 1) h2)) ∧ ((slt y x) = false → (∀ (h2 : Heap), Ext h h2 → R (.int .i64 0) h2)))))) :
    HC Try.prog 44 #[(.string x), (.string y)] h R := by
  refine hc_of (args := [(.string x), (.string y)]) Try.func44 rfl Try.ntmps44 (Nat.le_of_ble_eq_true rfl) ?_
  refine hx_seq ?_
  refine hx_region ?_
  refine hl_val rfl rfl (v := (.int .i64 0)) (hv_assign rfl) ?_
  refine hl_nil ?_
  refine seqQ_n ?_
  refine hx_seq ?_
  refine hx_region ?_
  refine hl_val rfl rfl (v := (.string x)) (hv_move rfl) ?_
  refine hl_step rfl rfl (hs_call TyShB.cb56 (vs := [(.string x)]) rfl (HC.mono (isNaN_c x _) ?_))
  rintro _ h1 ⟨rfl, xx1⟩
  refine hl_val rfl rfl (v := (.bool false)) (hv_assign rfl) ?_
  refine hl_nil ?_
  refine seqQ_n ?_
  refine hx_seq ?_
  refine hx_region ?_
  refine hl_val rfl rfl (v := (.string y)) (hv_move rfl) ?_
  refine hl_step rfl rfl (hs_call TyShB.cb56 (vs := [(.string y)]) rfl (HC.mono (isNaN_c y _) ?_))
  rintro _ h2 ⟨rfl, xx2⟩
  have xv3 := Ext.trans xx1 xx2
  refine hl_val rfl rfl (v := (.bool false)) (hv_assign rfl) ?_
  refine hl_nil ?_
  refine seqQ_n ?_
  refine hx_seq ?_
  refine hx_seq ?_
  refine hx_region ?_
  refine hl_val rfl rfl (v := (.bool false)) (hv_move rfl) ?_
  refine hl_nil ?_
  refine seqQ_n ?_
  refine hx_cond (b := false) rfl (fun hb => by cases hb) (fun _ => ?_)
  refine hx_skip ?_
  refine seqQ_n ?_
  refine hx_seq ?_
  refine hx_seq ?_
  refine hx_region ?_
  refine hl_val rfl rfl (v := (.bool false)) (hv_move rfl) ?_
  refine hl_nil ?_
  refine seqQ_n ?_
  refine hx_cond (b := false) rfl (fun hb => by cases hb) (fun _ => ?_)
  refine hx_skip ?_
  refine seqQ_n ?_
  refine hx_seq ?_
  refine hx_seq ?_
  refine hx_region ?_
  refine hl_val rfl rfl (v := (.string x)) (hv_move rfl) ?_
  refine hl_val rfl rfl (v := (.string y)) (hv_move rfl) ?_
  refine hl_val rfl rfl (v := (.bool (slt x y))) (hv_str rfl rfl rfl) ?_
  refine hl_nil ?_
  refine seqQ_n ?_
  refine hx_cond (b := slt x y) rfl (fun hb4 => ?_) (fun hb4 => ?_)
  · replace H := H.1 hb4
    refine hx_seq ?_
    refine hx_region ?_
    refine hl_val rfl rfl (v := (.int .i64 (-1))) (hv_assign rfl) ?_
    refine hl_nil ?_
    refine seqQ_n ?_
    refine hx_ret ?_
    refine seqQ_ret ?_
    replace H := H h2 xv3
    exact endQ_ret _ (res_one Try.results44 (rv_tmp rfl)) H
  · replace H := H.2 hb4
    refine hx_skip ?_
    refine seqQ_n ?_
    refine hx_seq ?_
    refine hx_seq ?_
    refine hx_region ?_
    refine hl_val rfl rfl (v := (.string x)) (hv_move rfl) ?_
    refine hl_val rfl rfl (v := (.string y)) (hv_move rfl) ?_
    refine hl_val rfl rfl (v := (.bool (slt y x))) (hv_str rfl rfl rfl) ?_
    refine hl_nil ?_
    refine seqQ_n ?_
    refine hx_cond (b := slt y x) rfl (fun hb5 => ?_) (fun hb5 => ?_)
    · replace H := H.1 hb5
      refine hx_seq ?_
      refine hx_region ?_
      refine hl_val rfl rfl (v := (.int .i64 1)) (hv_assign rfl) ?_
      refine hl_nil ?_
      refine seqQ_n ?_
      refine hx_ret ?_
      refine seqQ_ret ?_
      replace H := H h2 xv3
      exact endQ_ret _ (res_one Try.results44 (rv_tmp rfl)) H
    · replace H := H.2 hb5
      refine hx_skip ?_
      refine seqQ_n ?_
      refine hx_seq ?_
      refine hx_region ?_
      refine hl_val rfl rfl (v := (.int .i64 0)) (hv_assign rfl) ?_
      refine hl_nil ?_
      refine seqQ_n ?_
      refine hx_ret ?_
      replace H := H h2 xv3
      exact endQ_ret _ (res_one Try.results44 (rv_tmp rfl)) H

/-- cellar/cellarref23.does -/
theorem f38_sh (m_Kind : Int) (m_Key : ByteArray) (m_Value : ByteArray) (m_Err : Int) (m_Hit : Bool) (m_Life : Int) (m_From : Int) (m_To : Int) (h : Heap) (R : Value → Heap → Prop)
    (H : ((((!(m_Kind == 2)) && (!(m_Kind == 3))) = true → (∀ (h1 : Heap), Ext h h1 → R (.tuple #[(.bool true), (.bool false), (.bool false)]) h1)) ∧ (((!(m_Kind == 2)) && (!(m_Kind == 3))) = false → ((((decide (m_To < 0)) || ((m_Err == 2) || (m_Err == 5))) = true → (∀ (h1 : Heap), Ext h h1 → R (.tuple #[(.bool true), (.bool (m_Kind == 2)), (.bool true)]) h1)) ∧ (((decide (m_To < 0)) || ((m_Err == 2) || (m_Err == 5))) = false → (((m_Err == 0) = true → (∀ (h1 : Heap), Ext h h1 → R (.tuple #[(.bool false), (.bool (m_Kind == 2)), (.bool (m_Kind == 3))]) h1)) ∧ ((m_Err == 0) = false → ((((m_Kind == 2) && (m_Err == 191)) = true → (∀ (h1 : Heap), Ext h h1 → R (.tuple #[(.bool false), (.bool false), (.bool true)]) h1)) ∧ (((m_Kind == 2) && (m_Err == 191)) = false → (∀ (h1 : Heap), Ext h h1 → R (.tuple #[(.bool true), (.bool false), (.bool false)]) h1)))))))))) :
    HC Try.prog 38 #[(.agg #[(.int .i64 m_Kind), (.string m_Key), (.string m_Value), (.int .i64 m_Err), (.bool m_Hit), (.int .i64 m_Life), (.int .i64 m_From), (.int .i64 m_To)])] h R := by
  refine hc_of (args := [(.agg #[(.int .i64 m_Kind), (.string m_Key), (.string m_Value), (.int .i64 m_Err), (.bool m_Hit), (.int .i64 m_Life), (.int .i64 m_From), (.int .i64 m_To)])]) Try.func38 rfl Try.ntmps38 (Nat.le_of_ble_eq_true rfl) ?_
  refine hx_seq ?_
  refine hx_region ?_
  refine hl_step rfl rfl (hn_box (v := (.agg #[(.int .i64 m_Kind), (.string m_Key), (.string m_Value), (.int .i64 m_Err), (.bool m_Hit), (.int .i64 m_Life), (.int .i64 m_From), (.int .i64 m_To)])) rfl ?_)
  intro m h1 eb1 eh2
  have xx3 : Ext h h1 := by rw [eh2]; exact Ext.push _ _
  have lo5 : Array.size h ≤ m := Nat.le_of_eq (Eq.symm eb1)
  have hr4 : h1[m]? = some (.cells #[(.int .i64 m_Kind), (.string m_Key), (.string m_Value), (.int .i64 m_Err), (.bool m_Hit), (.int .i64 m_Life), (.int .i64 m_From), (.int .i64 m_To)] 31 (0, 0)) := by rw [eh2]; exact push_new eb1
  refine hl_val rfl rfl (v := (.bool false)) (hv_assign rfl) ?_
  refine hl_val rfl rfl (v := (.bool false)) (hv_assign rfl) ?_
  refine hl_val rfl rfl (v := (.bool false)) (hv_assign rfl) ?_
  refine hl_nil ?_
  refine seqQ_n ?_
  refine hx_seq ?_
  refine hx_draw TyShB.mixed [.pure, .read, .pure, .pure, .read, .pure, .pure, .pure] [0, 1, 2, 3, 4, 5, 6, 7] (by kernel_rfl) ?_
  refine hp_pure (i := 0) rfl (wanted_0 rfl) rfl (ptr m 0) (fun _ => hv_field TyShB.fld31_0 (b := m) (o := 0) rfl) ?_
  refine hp_read (i := 1) rfl (wanted_0 rfl) rfl (.int .i64 m_Kind) (fun _ he => hv_load TyShB.agg3 rfl (Ext.cell he (rowcell hr4 rfl))) ?_
  refine hp_pure (i := 2) rfl (wanted_0 rfl) rfl (.bool (m_Kind == 2)) (fun _ => hv_arith rfl rfl rfl) ?_
  refine hp_pure (i := 3) rfl (wanted_0 rfl) rfl (ptr m 0) (fun _ => hv_field TyShB.fld31_0 (b := m) (o := 0) rfl) ?_
  refine hp_read (i := 4) rfl (wanted_0 rfl) rfl (.int .i64 m_Kind) (fun _ he => hv_load TyShB.agg3 rfl (Ext.cell he (rowcell hr4 rfl))) ?_
  refine hp_pure (i := 5) rfl (wanted_0 rfl) rfl (.bool (m_Kind == 3)) (fun _ => hv_arith rfl rfl rfl) ?_
  refine hp_pure (i := 6) rfl (wanted_0 rfl) rfl (.bool (m_Kind == 2)) (fun _ => hv_assign rfl) ?_
  refine hp_pure (i := 7) rfl (wanted_0 rfl) rfl (.bool (m_Kind == 3)) (fun _ => hv_assign rfl) ?_
  refine hp_nil ?_
  refine seqQ_n ?_
  refine hx_cut (fun ρ h' => h1 = h' ∧ Has ρ [(1, (ptr m 0)), (5, (.bool (m_Kind == 2))), (6, (.bool (m_Kind == 3))), (7, (.bool ((decide (m_To < 0)) || ((m_Err == 2) || (m_Err == 5)))))]) ?_ ?_
  · refine hx_region ?_
    refine hl_val rfl rfl (v := (ptr m 7)) (hv_field TyShB.fld31_7 (b := m) (o := 0) rfl) ?_
    refine hl_val rfl rfl (v := (.int .i64 m_To)) (hv_load TyShB.agg3 rfl (rowcell hr4 rfl)) ?_
    refine hl_val rfl rfl (v := (.bool (decide (m_To < 0)))) (hv_arith rfl rfl rfl) ?_
    refine hl_val rfl rfl (v := (.bool (decide (m_To < 0)))) (hv_move rfl) ?_
    rcases bool_or (decide (m_To < 0)) with hg8 | hg8
    · refine hl_no (wanted_n rfl rfl rfl hg8) rfl ?_
      refine hl_no (wanted_n rfl rfl rfl hg8) rfl ?_
      refine hl_no (wanted_n rfl rfl rfl hg8) rfl ?_
      refine hl_val rfl rfl (v := (.bool true)) (hv_pick_t rfl hg8 rfl) ?_
      refine hl_val rfl rfl (v := (.bool true)) (hv_move rfl) ?_
      refine hl_no (wanted_n rfl rfl (c := true) rfl rfl) rfl ?_
      refine hl_no (wanted_n rfl rfl (c := true) rfl rfl) rfl ?_
      refine hl_no (wanted_n rfl rfl (c := true) rfl rfl) rfl ?_
      refine hl_val rfl rfl (v := (.bool true)) (hv_pick (t := true) rfl rfl) ?_
      refine hl_val rfl rfl (v := (.bool true)) (hv_assign rfl) ?_
      refine hl_nil ?_
      refine seqQ_n ?_
      exact ⟨rfl, (has_cons rfl (has_cons rfl (has_cons rfl (has_cons (show ((.bool true) : Value) = (.bool ((decide (m_To < 0)) || ((m_Err == 2) || (m_Err == 5)))) from (by first | rfl | simp [hg8])) has_nil))))⟩
    · refine hl_yes (wanted_y rfl rfl rfl hg8) rfl (HStep.of_val (v := (ptr m 3)) (hv_field TyShB.fld31_3 (b := m) (o := 0) rfl) ?_)
      refine hl_yes (wanted_y rfl rfl rfl hg8) rfl (HStep.of_val (v := (.int .i64 m_Err)) (hv_load TyShB.agg29 rfl (rowcell hr4 rfl)) ?_)
      refine hl_yes (wanted_y rfl rfl rfl hg8) rfl (HStep.of_val (v := (.bool (m_Err == 2))) (hv_arith rfl rfl rfl) ?_)
      refine hl_val rfl rfl (v := (.bool (m_Err == 2))) (hv_pick_f rfl hg8 rfl) ?_
      refine hl_val rfl rfl (v := (.bool (m_Err == 2))) (hv_move rfl) ?_
      rcases bool_or (m_Err == 2) with hg9 | hg9
      · refine hl_no (wanted_n rfl rfl rfl hg9) rfl ?_
        refine hl_no (wanted_n rfl rfl rfl hg9) rfl ?_
        refine hl_no (wanted_n rfl rfl rfl hg9) rfl ?_
        refine hl_val rfl rfl (v := (.bool true)) (hv_pick_t rfl hg9 rfl) ?_
        refine hl_val rfl rfl (v := (.bool true)) (hv_assign rfl) ?_
        refine hl_nil ?_
        refine seqQ_n ?_
        exact ⟨rfl, (has_cons rfl (has_cons rfl (has_cons rfl (has_cons (show ((.bool true) : Value) = (.bool ((decide (m_To < 0)) || ((m_Err == 2) || (m_Err == 5)))) from (by first | rfl | simp [hg8, hg9])) has_nil))))⟩
      · refine hl_yes (wanted_y rfl rfl rfl hg9) rfl (HStep.of_val (v := (ptr m 3)) (hv_field TyShB.fld31_3 (b := m) (o := 0) rfl) ?_)
        refine hl_yes (wanted_y rfl rfl rfl hg9) rfl (HStep.of_val (v := (.int .i64 m_Err)) (hv_load TyShB.agg29 rfl (rowcell hr4 rfl)) ?_)
        refine hl_yes (wanted_y rfl rfl rfl hg9) rfl (HStep.of_val (v := (.bool (m_Err == 5))) (hv_arith rfl rfl rfl) ?_)
        refine hl_val rfl rfl (v := (.bool (m_Err == 5))) (hv_pick_f rfl hg9 rfl) ?_
        refine hl_val rfl rfl (v := (.bool (m_Err == 5))) (hv_assign rfl) ?_
        refine hl_nil ?_
        refine seqQ_n ?_
        exact ⟨rfl, (has_cons rfl (has_cons rfl (has_cons rfl (has_cons (show ((.bool (m_Err == 5)) : Value) = (.bool ((decide (m_To < 0)) || ((m_Err == 2) || (m_Err == 5)))) from (by first | rfl | simp [hg8, hg9])) has_nil))))⟩
  · rintro ρ _ ⟨rfl, hH⟩
    refine hx_has _ hH ?_
    refine hx_seq ?_
    refine hx_block ?_
    refine hx_cut (fun ρ h' => h1 = h' ∧ Has ρ [(1, (ptr m 0)), (5, (.bool (m_Kind == 2))), (6, (.bool (m_Kind == 3))), (7, (.bool ((decide (m_To < 0)) || ((m_Err == 2) || (m_Err == 5))))), (27, (.bool ((!(m_Kind == 2)) && (!(m_Kind == 3)))))]) ?_ ?_
    · refine hx_region ?_
      refine hl_val rfl rfl (v := (.bool (m_Kind == 2))) (hv_move rfl) ?_
      refine hl_val rfl rfl (v := (.bool (!(m_Kind == 2)))) (hv_not (b := m_Kind == 2) rfl) ?_
      refine hl_val rfl rfl (v := (.bool (!(m_Kind == 2)))) (hv_move rfl) ?_
      rcases bool_or (!(m_Kind == 2)) with hg12 | hg12
      · refine hl_yes (wanted_y rfl rfl rfl hg12) rfl (HStep.of_val (v := (.bool (m_Kind == 3))) (hv_move rfl) ?_)
        refine hl_yes (wanted_y rfl rfl rfl hg12) rfl (HStep.of_val (v := (.bool (!(m_Kind == 3)))) (hv_not (b := m_Kind == 3) rfl) ?_)
        refine hl_val rfl rfl (v := (.bool (!(m_Kind == 3)))) (hv_pick_t rfl hg12 rfl) ?_
        refine hl_val rfl rfl (v := (.bool (!(m_Kind == 3)))) (hv_assign rfl) ?_
        refine hl_nil ?_
        refine seqQ_n ?_
        exact ⟨rfl, (has_cons rfl (has_cons rfl (has_cons rfl (has_cons rfl (has_cons (show ((.bool (!(m_Kind == 3))) : Value) = (.bool ((!(m_Kind == 2)) && (!(m_Kind == 3)))) from (by first | rfl | simp [hg12])) has_nil)))))⟩
      · refine hl_no (wanted_n rfl rfl rfl hg12) rfl ?_
        refine hl_no (wanted_n rfl rfl rfl hg12) rfl ?_
        refine hl_val rfl rfl (v := (.bool false)) (hv_pick_f rfl hg12 rfl) ?_
        refine hl_val rfl rfl (v := (.bool false)) (hv_assign rfl) ?_
        refine hl_nil ?_
        refine seqQ_n ?_
        exact ⟨rfl, (has_cons rfl (has_cons rfl (has_cons rfl (has_cons rfl (has_cons (show ((.bool false) : Value) = (.bool ((!(m_Kind == 2)) && (!(m_Kind == 3)))) from (by first | rfl | simp [hg12])) has_nil)))))⟩
    · rintro ρ _ ⟨rfl, hH⟩
      refine hx_has _ hH ?_
      refine hx_cond (b := ((!(m_Kind == 2)) && (!(m_Kind == 3)))) rfl (fun hb13 => ?_) (fun hb13 => ?_)
      · replace H := H.1 hb13
        refine hx_seq ?_
        refine hx_region ?_
        refine hl_val rfl rfl (v := (.bool true)) (hv_assign rfl) ?_
        refine hl_val rfl rfl (v := (.bool false)) (hv_assign rfl) ?_
        refine hl_val rfl rfl (v := (.bool false)) (hv_assign rfl) ?_
        refine hl_nil ?_
        refine seqQ_n ?_
        refine hx_ret ?_
        refine blockQ_ret ?_
        refine seqQ_ret ?_
        replace H := H h1 xx3
        exact endQ_ret _ (res_three Try.results38 (rv_tmp rfl) (rv_tmp rfl) (rv_tmp rfl)) H
      · replace H := H.2 hb13
        refine hx_seq ?_
        refine hx_region ?_
        refine hl_val rfl rfl (v := (.bool ((decide (m_To < 0)) || ((m_Err == 2) || (m_Err == 5))))) (hv_move rfl) ?_
        refine hl_val rfl rfl (v := (.bool ((decide (m_To < 0)) || ((m_Err == 2) || (m_Err == 5))))) (hv_assign rfl) ?_
        refine hl_nil ?_
        refine seqQ_n ?_
        refine hx_cond (b := ((decide (m_To < 0)) || ((m_Err == 2) || (m_Err == 5)))) rfl (fun hb14 => ?_) (fun hb14 => ?_)
        · replace H := H.1 hb14
          refine hx_seq ?_
          refine hx_region ?_
          refine hl_val rfl rfl (v := (.bool (m_Kind == 2))) (hv_move rfl) ?_
          refine hl_val rfl rfl (v := (.bool true)) (hv_assign rfl) ?_
          refine hl_val rfl rfl (v := (.bool (m_Kind == 2))) (hv_assign rfl) ?_
          refine hl_val rfl rfl (v := (.bool true)) (hv_assign rfl) ?_
          refine hl_nil ?_
          refine seqQ_n ?_
          refine hx_ret ?_
          refine blockQ_ret ?_
          refine seqQ_ret ?_
          replace H := H h1 xx3
          exact endQ_ret _ (res_three Try.results38 (rv_tmp rfl) (rv_tmp rfl) (rv_tmp rfl)) H
        · replace H := H.2 hb14
          refine hx_seq ?_
          refine hx_region ?_
          refine hl_val rfl rfl (v := (ptr m 3)) (hv_field TyShB.fld31_3 (b := m) (o := 0) rfl) ?_
          refine hl_val rfl rfl (v := (.int .i64 m_Err)) (hv_load TyShB.agg29 rfl (rowcell hr4 rfl)) ?_
          refine hl_val rfl rfl (v := (.bool (m_Err == 0))) (hv_arith rfl rfl rfl) ?_
          refine hl_val rfl rfl (v := (.bool (m_Err == 0))) (hv_assign rfl) ?_
          refine hl_nil ?_
          refine seqQ_n ?_
          refine hx_cond (b := m_Err == 0) rfl (fun hb15 => ?_) (fun hb15 => ?_)
          · replace H := H.1 hb15
            refine hx_seq ?_
            refine hx_region ?_
            refine hl_val rfl rfl (v := (.bool (m_Kind == 2))) (hv_move rfl) ?_
            refine hl_val rfl rfl (v := (.bool (m_Kind == 3))) (hv_move rfl) ?_
            refine hl_val rfl rfl (v := (.bool false)) (hv_assign rfl) ?_
            refine hl_val rfl rfl (v := (.bool (m_Kind == 2))) (hv_assign rfl) ?_
            refine hl_val rfl rfl (v := (.bool (m_Kind == 3))) (hv_assign rfl) ?_
            refine hl_nil ?_
            refine seqQ_n ?_
            refine hx_ret ?_
            refine blockQ_ret ?_
            refine seqQ_ret ?_
            replace H := H h1 xx3
            exact endQ_ret _ (res_three Try.results38 (rv_tmp rfl) (rv_tmp rfl) (rv_tmp rfl)) H
          · replace H := H.2 hb15
            refine hx_cut (fun ρ h' => h1 = h' ∧ Has ρ [(43, (.bool ((m_Kind == 2) && (m_Err == 191))))]) ?_ ?_
            · refine hx_region ?_
              refine hl_val rfl rfl (v := (.bool (m_Kind == 2))) (hv_move rfl) ?_
              refine hl_val rfl rfl (v := (.bool (m_Kind == 2))) (hv_move rfl) ?_
              rcases bool_or (m_Kind == 2) with hg18 | hg18
              · refine hl_yes (wanted_y rfl rfl rfl hg18) rfl (HStep.of_val (v := (ptr m 3)) (hv_field TyShB.fld31_3 (b := m) (o := 0) rfl) ?_)
                refine hl_yes (wanted_y rfl rfl rfl hg18) rfl (HStep.of_val (v := (.int .i64 m_Err)) (hv_load TyShB.agg29 rfl (rowcell hr4 rfl)) ?_)
                refine hl_yes (wanted_y rfl rfl rfl hg18) rfl (HStep.of_val (v := (.bool (m_Err == 191))) (hv_arith rfl rfl rfl) ?_)
                refine hl_val rfl rfl (v := (.bool (m_Err == 191))) (hv_pick_t rfl hg18 rfl) ?_
                refine hl_val rfl rfl (v := (.bool (m_Err == 191))) (hv_assign rfl) ?_
                refine hl_nil ?_
                refine seqQ_n ?_
                exact ⟨rfl, (has_cons (show ((.bool (m_Err == 191)) : Value) = (.bool ((m_Kind == 2) && (m_Err == 191))) from (by first | rfl | simp [hg18])) has_nil)⟩
              · refine hl_no (wanted_n rfl rfl rfl hg18) rfl ?_
                refine hl_no (wanted_n rfl rfl rfl hg18) rfl ?_
                refine hl_no (wanted_n rfl rfl rfl hg18) rfl ?_
                refine hl_val rfl rfl (v := (.bool false)) (hv_pick_f rfl hg18 rfl) ?_
                refine hl_val rfl rfl (v := (.bool false)) (hv_assign rfl) ?_
                refine hl_nil ?_
                refine seqQ_n ?_
                exact ⟨rfl, (has_cons (show ((.bool false) : Value) = (.bool ((m_Kind == 2) && (m_Err == 191))) from (by first | rfl | simp [hg18])) has_nil)⟩
            · rintro ρ _ ⟨rfl, hH⟩
              refine hx_has _ hH ?_
              refine hx_cond (b := ((m_Kind == 2) && (m_Err == 191))) rfl (fun hb19 => ?_) (fun hb19 => ?_)
              · replace H := H.1 hb19
                refine hx_seq ?_
                refine hx_region ?_
                refine hl_val rfl rfl (v := (.bool false)) (hv_assign rfl) ?_
                refine hl_val rfl rfl (v := (.bool false)) (hv_assign rfl) ?_
                refine hl_val rfl rfl (v := (.bool true)) (hv_assign rfl) ?_
                refine hl_nil ?_
                refine seqQ_n ?_
                refine hx_ret ?_
                refine blockQ_ret ?_
                refine seqQ_ret ?_
                replace H := H h1 xx3
                exact endQ_ret _ (res_three Try.results38 (rv_tmp rfl) (rv_tmp rfl) (rv_tmp rfl)) H
              · replace H := H.2 hb19
                refine hx_skip ?_
                refine blockQ_n ?_
                refine seqQ_n ?_
                refine hx_seq ?_
                refine hx_region ?_
                refine hl_val rfl rfl (v := (.bool true)) (hv_assign rfl) ?_
                refine hl_val rfl rfl (v := (.bool false)) (hv_assign rfl) ?_
                refine hl_val rfl rfl (v := (.bool false)) (hv_assign rfl) ?_
                refine hl_nil ?_
                refine seqQ_n ?_
                refine hx_ret ?_
                replace H := H h1 xx3
                exact endQ_ret _ (res_three Try.results38 (rv_tmp rfl) (rv_tmp rfl) (rv_tmp rfl)) H

end Go.Proofs.Ytmdgfbhmogjklaa
