/-
Shallow forms, written by gen2.py (a program of ours) out of the print of the program.
-/
import Derived.Test.YtmdgfbhmogjklaaStr
import Derived.Test.YtmdgfbhmogjklaaProg
namespace Go.Proofs.Ytmdgfbhmogjklaa
open Go
set_option maxRecDepth 100000
set_option maxHeartbeats 4000000

theorem Ty.agg3 : aggB Try.prog 3 = some false := by kernel_rfl
theorem Ty.agg31 : aggB Try.prog 31 = some true := by kernel_rfl
theorem Ty.agg4 : aggB Try.prog 4 = some false := by kernel_rfl
theorem Ty.agg40 : aggB Try.prog 40 = some true := by kernel_rfl
theorem Ty.agg9 : aggB Try.prog 9 = some false := by kernel_rfl
theorem Ty.fld31_0 : fldB Try.prog 31 0 = some 0 := by kernel_rfl
theorem Ty.fld31_7 : fldB Try.prog 31 7 = some 7 := by kernel_rfl
theorem Ty.fld40_0 : fldB Try.prog 40 0 = some 0 := by kernel_rfl
theorem Ty.fld40_1 : fldB Try.prog 40 1 = some 1 := by kernel_rfl
theorem Ty.pl31 : plB Try.prog 31 = some [(0, 1), (1, 1), (2, 1), (3, 1), (4, 1), (5, 1), (6, 1), (7, 1)] := by kernel_rfl
theorem Ty.pl40 : plB Try.prog 40 = some [(0, 1), (1, 1)] := by kernel_rfl
theorem Ty.sz31 : szB Try.prog 31 = some 8 := by kernel_rfl
theorem Ty.sz40 : szB Try.prog 40 = some 2 := by kernel_rfl
theorem Ty.u4 : Try.prog.underlying 4 = some (.bool) := by kernel_rfl
theorem Ty.z31 : zeroB Try.prog 31 (.agg #[(.int .i64 0), (.string ByteArray.empty), (.string ByteArray.empty), (.int .i64 0), (.bool false), (.int .i64 0), (.int .i64 0), (.int .i64 0)]) := by unfold zeroB; kernel_rfl
theorem Ty.z40 : zeroB Try.prog 40 (.agg #[(.bool false), (.string ByteArray.empty)]) := by unfold zeroB; kernel_rfl

/-- cellar/model.returned -/
theorem f36_sh (m_Kind : Int) (m_Key : ByteArray) (m_Value : ByteArray) (m_Err : Int) (m_Hit : Bool) (m_Life : Int) (m_From : Int) (m_To : Int) (h : Heap) (R : Value → Heap → Prop)
    (H : (∀ (h1 : Heap), Ext h h1 → R (.bool (decide (m_To ≥ 0))) h1)) :
    HC Try.prog 36 #[(.agg #[(.int .i64 m_Kind), (.string m_Key), (.string m_Value), (.int .i64 m_Err), (.bool m_Hit), (.int .i64 m_Life), (.int .i64 m_From), (.int .i64 m_To)])] h R := by
  refine hc_of (args := [(.agg #[(.int .i64 m_Kind), (.string m_Key), (.string m_Value), (.int .i64 m_Err), (.bool m_Hit), (.int .i64 m_Life), (.int .i64 m_From), (.int .i64 m_To)])]) Try.func36 rfl Try.ntmps36 (Nat.le_of_ble_eq_true rfl) ?_
  refine hx_seq ?_
  refine hx_region ?_
  refine hl_step rfl rfl (hn_box (v := (.agg #[(.int .i64 m_Kind), (.string m_Key), (.string m_Value), (.int .i64 m_Err), (.bool m_Hit), (.int .i64 m_Life), (.int .i64 m_From), (.int .i64 m_To)])) rfl ?_)
  intro m h1 eb1 eh2
  have xx3 : Ext h h1 := by rw [eh2]; exact Ext.push _ _
  have lo5 : Array.size h ≤ m := Nat.le_of_eq (Eq.symm eb1)
  have hr4 : h1[m]? = some (.cells #[(.int .i64 m_Kind), (.string m_Key), (.string m_Value), (.int .i64 m_Err), (.bool m_Hit), (.int .i64 m_Life), (.int .i64 m_From), (.int .i64 m_To)] 31 (0, 0)) := by rw [eh2]; exact push_new eb1
  refine hl_val rfl rfl (v := (.bool false)) (hv_assign rfl) ?_
  refine hl_nil ?_
  refine seqQ_n ?_
  refine hx_seq ?_
  refine hx_region ?_
  refine hl_val rfl rfl (v := (ptr m 7)) (hv_field Ty.fld31_7 (b := m) (o := 0) rfl) ?_
  refine hl_val rfl rfl (v := (.int .i64 m_To)) (hv_load Ty.agg3 rfl (rowcell hr4 rfl)) ?_
  refine hl_val rfl rfl (v := (.bool (decide (m_To ≥ 0)))) (hv_arith rfl rfl rfl) ?_
  refine hl_val rfl rfl (v := (.bool (decide (m_To ≥ 0)))) (hv_assign rfl) ?_
  refine hl_nil ?_
  refine seqQ_n ?_
  refine hx_ret ?_
  replace H := H h1 xx3
  exact endQ_ret _ (res_one Try.results36 (rv_tmp rfl)) H

/-- cellar/model.none -/
theorem f37_sh  (h : Heap) (R : Value → Heap → Prop)
    (H : (∀ (h2 : Heap), Ext h h2 → R (.agg #[(.bool false), (.string ByteArray.empty)]) h2)) :
    HC Try.prog 37 #[] h R := by
  refine hc_of (args := []) Try.func37 rfl Try.ntmps37 (Nat.le_of_ble_eq_true rfl) ?_
  refine hx_seq ?_
  refine hx_region ?_
  refine hl_step rfl rfl (hn_alloc Ty.z40 ?_)
  intro pb h1 eb1 eh2
  have xx3 : Ext h h1 := by rw [eh2]; exact Ext.push _ _
  have lo5 : Array.size h ≤ pb := Nat.le_of_eq (Eq.symm eb1)
  have hr4 : h1[pb]? = some (.cells #[(.bool false), (.string ByteArray.empty)] 40 (0, 0)) := by rw [eh2]; exact push_new eb1
  refine hl_nil ?_
  refine seqQ_n ?_
  refine hx_seq ?_
  refine hx_region ?_
  refine hl_val rfl rfl (v := (.agg #[(.bool false), (.string ByteArray.empty)])) (hv_build (vs := []) (cs := #[(.bool false), (.string ByteArray.empty)]) Ty.z40 Ty.pl40 rfl (by kernel_rfl)) ?_
  refine hl_step rfl rfl (hn_stores (vs := [(.bool false), (.string ByteArray.empty)]) rfl rfl Ty.sz40 rfl (HWs_row hr4 (by simp)) ?_)
  intro h2 eh6
  have hr4' : h2[pb]? = some (.cells #[(.bool false), (.string ByteArray.empty)] 40 (0, 0)) := row_hsets_eq eh6 hr4 rfl
  have xv7 := ext_hsets eh6 xx3 lo5
  refine hl_nil ?_
  refine seqQ_n ?_
  refine hx_ret ?_
  replace H := H h2 xv7
  exact endQ_ret _ (res_one Try.results37 (rv_cell (vs := [(.bool false), (.string ByteArray.empty)]) Ty.agg40 Ty.sz40 rfl (hcells_cons (rowcell hr4' rfl) (hcells_cons (rowcell hr4' rfl) hcells_nil)))) H

/-- cellar/model.keyed -/
theorem f22_sh (m_Kind : Int) (m_Key : ByteArray) (m_Value : ByteArray) (m_Err : Int) (m_Hit : Bool) (m_Life : Int) (m_From : Int) (m_To : Int) (h : Heap) (R : Value → Heap → Prop)
    (H : (∀ (h1 : Heap), Ext h h1 → R (.bool ((m_Kind == 1) || ((m_Kind == 2) || (m_Kind == 3)))) h1)) :
    HC Try.prog 22 #[(.agg #[(.int .i64 m_Kind), (.string m_Key), (.string m_Value), (.int .i64 m_Err), (.bool m_Hit), (.int .i64 m_Life), (.int .i64 m_From), (.int .i64 m_To)])] h R := by
  refine hc_of (args := [(.agg #[(.int .i64 m_Kind), (.string m_Key), (.string m_Value), (.int .i64 m_Err), (.bool m_Hit), (.int .i64 m_Life), (.int .i64 m_From), (.int .i64 m_To)])]) Try.func22 rfl Try.ntmps22 (Nat.le_of_ble_eq_true rfl) ?_
  refine hx_seq ?_
  refine hx_region ?_
  refine hl_step rfl rfl (hn_box (v := (.agg #[(.int .i64 m_Kind), (.string m_Key), (.string m_Value), (.int .i64 m_Err), (.bool m_Hit), (.int .i64 m_Life), (.int .i64 m_From), (.int .i64 m_To)])) rfl ?_)
  intro m h1 eb1 eh2
  have xx3 : Ext h h1 := by rw [eh2]; exact Ext.push _ _
  have lo5 : Array.size h ≤ m := Nat.le_of_eq (Eq.symm eb1)
  have hr4 : h1[m]? = some (.cells #[(.int .i64 m_Kind), (.string m_Key), (.string m_Value), (.int .i64 m_Err), (.bool m_Hit), (.int .i64 m_Life), (.int .i64 m_From), (.int .i64 m_To)] 31 (0, 0)) := by rw [eh2]; exact push_new eb1
  refine hl_val rfl rfl (v := (.bool false)) (hv_assign rfl) ?_
  refine hl_nil ?_
  refine seqQ_n ?_
  refine hx_cut (fun ρ h' => h1 = h' ∧ Has ρ [(2, (.bool ((m_Kind == 1) || ((m_Kind == 2) || (m_Kind == 3)))))]) ?_ ?_
  · refine hx_region ?_
    refine hl_val rfl rfl (v := (ptr m 0)) (hv_field Ty.fld31_0 (b := m) (o := 0) rfl) ?_
    refine hl_val rfl rfl (v := (.int .i64 m_Kind)) (hv_load Ty.agg3 rfl (rowcell hr4 rfl)) ?_
    refine hl_val rfl rfl (v := (.bool (m_Kind == 1))) (hv_arith rfl rfl rfl) ?_
    refine hl_val rfl rfl (v := (.bool (m_Kind == 1))) (hv_move rfl) ?_
    rcases bool_or (m_Kind == 1) with hg8 | hg8
    · refine hl_no (wanted_n rfl rfl rfl hg8) rfl ?_
      refine hl_no (wanted_n rfl rfl rfl hg8) rfl ?_
      refine hl_no (wanted_n rfl rfl rfl hg8) rfl ?_
      refine hl_val rfl rfl (v := (.bool true)) (hv_pick_t rfl hg8 rfl) ?_
      refine hl_val rfl rfl (v := (.bool true)) (hv_move rfl) ?_
      refine hl_no (wanted_n rfl rfl (c := true) rfl rfl) rfl ?_
      refine hl_no (wanted_n rfl rfl (c := true) rfl rfl) rfl ?_
      refine hl_no (wanted_n rfl rfl (c := true) rfl rfl) rfl ?_
      refine hl_val rfl rfl (v := (.bool true)) (hv_pick (t := true) rfl rfl) ?_
      refine hl_val rfl rfl (v := (.bool true)) (hv_assign rfl) ?_
      refine hl_nil ?_
      refine seqQ_n ?_
      exact ⟨rfl, (has_cons (show ((.bool true) : Value) = (.bool ((m_Kind == 1) || ((m_Kind == 2) || (m_Kind == 3)))) from (by first | rfl | simp [hg8])) has_nil)⟩
    · refine hl_yes (wanted_y rfl rfl rfl hg8) rfl (HStep.of_val (v := (ptr m 0)) (hv_field Ty.fld31_0 (b := m) (o := 0) rfl) ?_)
      refine hl_yes (wanted_y rfl rfl rfl hg8) rfl (HStep.of_val (v := (.int .i64 m_Kind)) (hv_load Ty.agg3 rfl (rowcell hr4 rfl)) ?_)
      refine hl_yes (wanted_y rfl rfl rfl hg8) rfl (HStep.of_val (v := (.bool (m_Kind == 2))) (hv_arith rfl rfl rfl) ?_)
      refine hl_val rfl rfl (v := (.bool (m_Kind == 2))) (hv_pick_f rfl hg8 rfl) ?_
      refine hl_val rfl rfl (v := (.bool (m_Kind == 2))) (hv_move rfl) ?_
      rcases bool_or (m_Kind == 2) with hg9 | hg9
      · refine hl_no (wanted_n rfl rfl rfl hg9) rfl ?_
        refine hl_no (wanted_n rfl rfl rfl hg9) rfl ?_
        refine hl_no (wanted_n rfl rfl rfl hg9) rfl ?_
        refine hl_val rfl rfl (v := (.bool true)) (hv_pick_t rfl hg9 rfl) ?_
        refine hl_val rfl rfl (v := (.bool true)) (hv_assign rfl) ?_
        refine hl_nil ?_
        refine seqQ_n ?_
        exact ⟨rfl, (has_cons (show ((.bool true) : Value) = (.bool ((m_Kind == 1) || ((m_Kind == 2) || (m_Kind == 3)))) from (by first | rfl | simp [hg8, hg9])) has_nil)⟩
      · refine hl_yes (wanted_y rfl rfl rfl hg9) rfl (HStep.of_val (v := (ptr m 0)) (hv_field Ty.fld31_0 (b := m) (o := 0) rfl) ?_)
        refine hl_yes (wanted_y rfl rfl rfl hg9) rfl (HStep.of_val (v := (.int .i64 m_Kind)) (hv_load Ty.agg3 rfl (rowcell hr4 rfl)) ?_)
        refine hl_yes (wanted_y rfl rfl rfl hg9) rfl (HStep.of_val (v := (.bool (m_Kind == 3))) (hv_arith rfl rfl rfl) ?_)
        refine hl_val rfl rfl (v := (.bool (m_Kind == 3))) (hv_pick_f rfl hg9 rfl) ?_
        refine hl_val rfl rfl (v := (.bool (m_Kind == 3))) (hv_assign rfl) ?_
        refine hl_nil ?_
        refine seqQ_n ?_
        exact ⟨rfl, (has_cons (show ((.bool (m_Kind == 3)) : Value) = (.bool ((m_Kind == 1) || ((m_Kind == 2) || (m_Kind == 3)))) from (by first | rfl | simp [hg8, hg9])) has_nil)⟩
  · rintro ρ _ ⟨rfl, hH⟩
    refine hx_has _ hH ?_
    refine hx_ret ?_
    replace H := H h1 xx3
    exact endQ_ret _ (res_one Try.results22 (rv_tmp rfl)) H

/-- cellar/cellarref23.OfKey -/
theorem f24_sh (m_Kind : Int) (m_Key : ByteArray) (m_Value : ByteArray) (m_Err : Int) (m_Hit : Bool) (m_Life : Int) (m_From : Int) (m_To : Int) (h : Heap) (R : Value → Heap → Prop)
    (H : (∀ (h1 : Heap), Ext h h1 → R (.bool ((m_Kind == 1) || ((m_Kind == 2) || (m_Kind == 3)))) h1)) :
    HC Try.prog 24 #[(.agg #[(.int .i64 m_Kind), (.string m_Key), (.string m_Value), (.int .i64 m_Err), (.bool m_Hit), (.int .i64 m_Life), (.int .i64 m_From), (.int .i64 m_To)])] h R := by
  refine hc_of (args := [(.agg #[(.int .i64 m_Kind), (.string m_Key), (.string m_Value), (.int .i64 m_Err), (.bool m_Hit), (.int .i64 m_Life), (.int .i64 m_From), (.int .i64 m_To)])]) Try.func24 rfl Try.ntmps24 (Nat.le_of_ble_eq_true rfl) ?_
  refine hx_seq ?_
  refine hx_region ?_
  refine hl_step rfl rfl (hn_box (v := (.agg #[(.int .i64 m_Kind), (.string m_Key), (.string m_Value), (.int .i64 m_Err), (.bool m_Hit), (.int .i64 m_Life), (.int .i64 m_From), (.int .i64 m_To)])) rfl ?_)
  intro m h1 eb1 eh2
  have xx3 : Ext h h1 := by rw [eh2]; exact Ext.push _ _
  have lo5 : Array.size h ≤ m := Nat.le_of_eq (Eq.symm eb1)
  have hr4 : h1[m]? = some (.cells #[(.int .i64 m_Kind), (.string m_Key), (.string m_Value), (.int .i64 m_Err), (.bool m_Hit), (.int .i64 m_Life), (.int .i64 m_From), (.int .i64 m_To)] 31 (0, 0)) := by rw [eh2]; exact push_new eb1
  refine hl_val rfl rfl (v := (.bool false)) (hv_assign rfl) ?_
  refine hl_nil ?_
  refine seqQ_n ?_
  refine hx_cut (fun ρ h' => h1 = h' ∧ Has ρ [(2, (.bool ((m_Kind == 1) || ((m_Kind == 2) || (m_Kind == 3)))))]) ?_ ?_
  · refine hx_region ?_
    refine hl_val rfl rfl (v := (ptr m 0)) (hv_field Ty.fld31_0 (b := m) (o := 0) rfl) ?_
    refine hl_val rfl rfl (v := (.int .i64 m_Kind)) (hv_load Ty.agg3 rfl (rowcell hr4 rfl)) ?_
    refine hl_val rfl rfl (v := (.bool (m_Kind == 1))) (hv_arith rfl rfl rfl) ?_
    refine hl_val rfl rfl (v := (.bool (m_Kind == 1))) (hv_move rfl) ?_
    rcases bool_or (m_Kind == 1) with hg8 | hg8
    · refine hl_no (wanted_n rfl rfl rfl hg8) rfl ?_
      refine hl_no (wanted_n rfl rfl rfl hg8) rfl ?_
      refine hl_no (wanted_n rfl rfl rfl hg8) rfl ?_
      refine hl_val rfl rfl (v := (.bool true)) (hv_pick_t rfl hg8 rfl) ?_
      refine hl_val rfl rfl (v := (.bool true)) (hv_move rfl) ?_
      refine hl_no (wanted_n rfl rfl (c := true) rfl rfl) rfl ?_
      refine hl_no (wanted_n rfl rfl (c := true) rfl rfl) rfl ?_
      refine hl_no (wanted_n rfl rfl (c := true) rfl rfl) rfl ?_
      refine hl_val rfl rfl (v := (.bool true)) (hv_pick (t := true) rfl rfl) ?_
      refine hl_val rfl rfl (v := (.bool true)) (hv_assign rfl) ?_
      refine hl_nil ?_
      refine seqQ_n ?_
      exact ⟨rfl, (has_cons (show ((.bool true) : Value) = (.bool ((m_Kind == 1) || ((m_Kind == 2) || (m_Kind == 3)))) from (by first | rfl | simp [hg8])) has_nil)⟩
    · refine hl_yes (wanted_y rfl rfl rfl hg8) rfl (HStep.of_val (v := (ptr m 0)) (hv_field Ty.fld31_0 (b := m) (o := 0) rfl) ?_)
      refine hl_yes (wanted_y rfl rfl rfl hg8) rfl (HStep.of_val (v := (.int .i64 m_Kind)) (hv_load Ty.agg3 rfl (rowcell hr4 rfl)) ?_)
      refine hl_yes (wanted_y rfl rfl rfl hg8) rfl (HStep.of_val (v := (.bool (m_Kind == 2))) (hv_arith rfl rfl rfl) ?_)
      refine hl_val rfl rfl (v := (.bool (m_Kind == 2))) (hv_pick_f rfl hg8 rfl) ?_
      refine hl_val rfl rfl (v := (.bool (m_Kind == 2))) (hv_move rfl) ?_
      rcases bool_or (m_Kind == 2) with hg9 | hg9
      · refine hl_no (wanted_n rfl rfl rfl hg9) rfl ?_
        refine hl_no (wanted_n rfl rfl rfl hg9) rfl ?_
        refine hl_no (wanted_n rfl rfl rfl hg9) rfl ?_
        refine hl_val rfl rfl (v := (.bool true)) (hv_pick_t rfl hg9 rfl) ?_
        refine hl_val rfl rfl (v := (.bool true)) (hv_assign rfl) ?_
        refine hl_nil ?_
        refine seqQ_n ?_
        exact ⟨rfl, (has_cons (show ((.bool true) : Value) = (.bool ((m_Kind == 1) || ((m_Kind == 2) || (m_Kind == 3)))) from (by first | rfl | simp [hg8, hg9])) has_nil)⟩
      · refine hl_yes (wanted_y rfl rfl rfl hg9) rfl (HStep.of_val (v := (ptr m 0)) (hv_field Ty.fld31_0 (b := m) (o := 0) rfl) ?_)
        refine hl_yes (wanted_y rfl rfl rfl hg9) rfl (HStep.of_val (v := (.int .i64 m_Kind)) (hv_load Ty.agg3 rfl (rowcell hr4 rfl)) ?_)
        refine hl_yes (wanted_y rfl rfl rfl hg9) rfl (HStep.of_val (v := (.bool (m_Kind == 3))) (hv_arith rfl rfl rfl) ?_)
        refine hl_val rfl rfl (v := (.bool (m_Kind == 3))) (hv_pick_f rfl hg9 rfl) ?_
        refine hl_val rfl rfl (v := (.bool (m_Kind == 3))) (hv_assign rfl) ?_
        refine hl_nil ?_
        refine seqQ_n ?_
        exact ⟨rfl, (has_cons (show ((.bool (m_Kind == 3)) : Value) = (.bool ((m_Kind == 1) || ((m_Kind == 2) || (m_Kind == 3)))) from (by first | rfl | simp [hg8, hg9])) has_nil)⟩
  · rintro ρ _ ⟨rfl, hH⟩
    refine hx_has _ hH ?_
    refine hx_ret ?_
    replace H := H h1 xx3
    exact endQ_ret _ (res_one Try.results24 (rv_tmp rfl)) H

/-- cellar/cellarref23.before -/
theorem f29_sh (a_Has : Bool) (a_Value : ByteArray) (b_Has : Bool) (b_Value : ByteArray) (h : Heap) (R : Value → Heap → Prop)
    (H : (((a_Has != b_Has) = true → (∀ (h2 : Heap), Ext h h2 → R (.bool (!a_Has)) h2)) ∧ ((a_Has != b_Has) = false → (∀ (h2 : Heap), Ext h h2 → R (.bool (slt a_Value b_Value)) h2)))) :
    HC Try.prog 29 #[(.agg #[(.bool a_Has), (.string a_Value)]), (.agg #[(.bool b_Has), (.string b_Value)])] h R := by
  refine hc_of (args := [(.agg #[(.bool a_Has), (.string a_Value)]), (.agg #[(.bool b_Has), (.string b_Value)])]) Try.func29 rfl Try.ntmps29 (Nat.le_of_ble_eq_true rfl) ?_
  refine hx_seq ?_
  refine hx_region ?_
  refine hl_step rfl rfl (hn_box (v := (.agg #[(.bool a_Has), (.string a_Value)])) rfl ?_)
  intro a h1 eb1 eh2
  have xx3 : Ext h h1 := by rw [eh2]; exact Ext.push _ _
  have lo5 : Array.size h ≤ a := Nat.le_of_eq (Eq.symm eb1)
  have hr4 : h1[a]? = some (.cells #[(.bool a_Has), (.string a_Value)] 40 (0, 0)) := by rw [eh2]; exact push_new eb1
  refine hl_step rfl rfl (hn_box (v := (.agg #[(.bool b_Has), (.string b_Value)])) rfl ?_)
  intro b h2 eb6 eh7
  have xx8 : Ext h1 h2 := by rw [eh7]; exact Ext.push _ _
  have ne11 := Nat.ne_of_lt (Nat.lt_of_lt_of_eq (row_lt hr4) (Eq.symm eb6))
  have lo10 : Array.size h ≤ b := Nat.le_trans (Ext.size xx3) (Nat.le_of_eq (Eq.symm eb6))
  have hr9 : h2[b]? = some (.cells #[(.bool b_Has), (.string b_Value)] 40 (0, 0)) := by rw [eh7]; exact push_new eb6
  replace hr4 := Ext.row xx8 hr4
  have xv12 := Ext.trans xx3 xx8
  refine hl_val rfl rfl (v := (.bool false)) (hv_assign rfl) ?_
  refine hl_nil ?_
  refine seqQ_n ?_
  refine hx_seq ?_
  refine hx_seq ?_
  refine hx_region ?_
  refine hl_val rfl rfl (v := (ptr a 0)) (hv_field Ty.fld40_0 (b := a) (o := 0) rfl) ?_
  refine hl_val rfl rfl (v := (.bool a_Has)) (hv_load Ty.agg4 rfl (rowcell hr4 rfl)) ?_
  refine hl_val rfl rfl (v := (ptr b 0)) (hv_field Ty.fld40_0 (b := b) (o := 0) rfl) ?_
  refine hl_val rfl rfl (v := (.bool b_Has)) (hv_load Ty.agg4 rfl (rowcell hr9 rfl)) ?_
  refine hl_val rfl rfl (v := (.bool (a_Has != b_Has))) (hv_eqBool Ty.u4 rfl rfl rfl) ?_
  refine hl_nil ?_
  refine seqQ_n ?_
  refine hx_cond (b := a_Has != b_Has) rfl (fun hb13 => ?_) (fun hb13 => ?_)
  · replace H := H.1 hb13
    refine hx_seq ?_
    refine hx_region ?_
    refine hl_val rfl rfl (v := (ptr a 0)) (hv_field Ty.fld40_0 (b := a) (o := 0) rfl) ?_
    refine hl_val rfl rfl (v := (.bool a_Has)) (hv_load Ty.agg4 rfl (rowcell hr4 rfl)) ?_
    refine hl_val rfl rfl (v := (.bool (!a_Has))) (hv_not (b := a_Has) rfl) ?_
    refine hl_val rfl rfl (v := (.bool (!a_Has))) (hv_assign rfl) ?_
    refine hl_nil ?_
    refine seqQ_n ?_
    refine hx_ret ?_
    refine seqQ_ret ?_
    replace H := H h2 xv12
    exact endQ_ret _ (res_one Try.results29 (rv_tmp rfl)) H
  · replace H := H.2 hb13
    refine hx_skip ?_
    refine seqQ_n ?_
    refine hx_seq ?_
    refine hx_region ?_
    refine hl_val rfl rfl (v := (ptr a 1)) (hv_field Ty.fld40_1 (b := a) (o := 0) rfl) ?_
    refine hl_val rfl rfl (v := (.string a_Value)) (hv_load Ty.agg9 rfl (rowcell hr4 rfl)) ?_
    refine hl_val rfl rfl (v := (ptr b 1)) (hv_field Ty.fld40_1 (b := b) (o := 0) rfl) ?_
    refine hl_val rfl rfl (v := (.string b_Value)) (hv_load Ty.agg9 rfl (rowcell hr9 rfl)) ?_
    refine hl_val rfl rfl (v := (.bool (slt a_Value b_Value))) (hv_str rfl rfl rfl) ?_
    refine hl_val rfl rfl (v := (.bool (slt a_Value b_Value))) (hv_assign rfl) ?_
    refine hl_nil ?_
    refine seqQ_n ?_
    refine hx_ret ?_
    replace H := H h2 xv12
    exact endQ_ret _ (res_one Try.results29 (rv_tmp rfl)) H

/-- cellar/cellarlaw23.put -/
theorem f25_sh (key : ByteArray) (value : ByteArray) (err : Int) (h : Heap) (R : Value → Heap → Prop)
    (H : (∀ (h2 : Heap), Ext h h2 → R (.agg #[(.int .i64 2), (.string key), (.string value), (.int .i64 err), (.bool false), (.int .i64 0), (.int .i64 0), (.int .i64 1)]) h2)) :
    HC Try.prog 25 #[(.string key), (.string value), (.int .i64 err)] h R := by
  refine hc_of (args := [(.string key), (.string value), (.int .i64 err)]) Try.func25 rfl Try.ntmps25 (Nat.le_of_ble_eq_true rfl) ?_
  refine hx_seq ?_
  refine hx_region ?_
  refine hl_step rfl rfl (hn_alloc Ty.z31 ?_)
  intro pb h1 eb1 eh2
  have xx3 : Ext h h1 := by rw [eh2]; exact Ext.push _ _
  have lo5 : Array.size h ≤ pb := Nat.le_of_eq (Eq.symm eb1)
  have hr4 : h1[pb]? = some (.cells #[(.int .i64 0), (.string ByteArray.empty), (.string ByteArray.empty), (.int .i64 0), (.bool false), (.int .i64 0), (.int .i64 0), (.int .i64 0)] 31 (0, 0)) := by rw [eh2]; exact push_new eb1
  refine hl_nil ?_
  refine seqQ_n ?_
  refine hx_seq ?_
  refine hx_region ?_
  refine hl_val rfl rfl (v := (.string key)) (hv_move rfl) ?_
  refine hl_val rfl rfl (v := (.string value)) (hv_move rfl) ?_
  refine hl_val rfl rfl (v := (.int .i64 err)) (hv_move rfl) ?_
  refine hl_val rfl rfl (v := (.agg #[(.int .i64 2), (.string key), (.string value), (.int .i64 err), (.bool false), (.int .i64 0), (.int .i64 0), (.int .i64 1)])) (hv_build (vs := [(0, (.int .i64 2)), (1, (.string key)), (2, (.string value)), (3, (.int .i64 err)), (7, (.int .i64 1))]) (cs := #[(.int .i64 2), (.string key), (.string value), (.int .i64 err), (.bool false), (.int .i64 0), (.int .i64 0), (.int .i64 1)]) Ty.z31 Ty.pl31 rfl (by kernel_rfl)) ?_
  refine hl_step rfl rfl (hn_stores (vs := [(.int .i64 2), (.string key), (.string value), (.int .i64 err), (.bool false), (.int .i64 0), (.int .i64 0), (.int .i64 1)]) rfl rfl Ty.sz31 rfl (HWs_row hr4 (by simp)) ?_)
  intro h2 eh6
  have hr4' : h2[pb]? = some (.cells #[(.int .i64 2), (.string key), (.string value), (.int .i64 err), (.bool false), (.int .i64 0), (.int .i64 0), (.int .i64 1)] 31 (0, 0)) := row_hsets_eq eh6 hr4 rfl
  have xv7 := ext_hsets eh6 xx3 lo5
  refine hl_nil ?_
  refine seqQ_n ?_
  refine hx_ret ?_
  replace H := H h2 xv7
  exact endQ_ret _ (res_one Try.results25 (rv_cell (vs := [(.int .i64 2), (.string key), (.string value), (.int .i64 err), (.bool false), (.int .i64 0), (.int .i64 0), (.int .i64 1)]) Ty.agg31 Ty.sz31 rfl (hcells_cons (rowcell hr4' rfl) (hcells_cons (rowcell hr4' rfl) (hcells_cons (rowcell hr4' rfl) (hcells_cons (rowcell hr4' rfl) (hcells_cons (rowcell hr4' rfl) (hcells_cons (rowcell hr4' rfl) (hcells_cons (rowcell hr4' rfl) (hcells_cons (rowcell hr4' rfl) hcells_nil)))))))))) H

/-- cellar/cellarlaw23.hit -/
theorem f26_sh (key : ByteArray) (value : ByteArray) (h : Heap) (R : Value → Heap → Prop)
    (H : (∀ (h2 : Heap), Ext h h2 → R (.agg #[(.int .i64 1), (.string key), (.string value), (.int .i64 0), (.bool true), (.int .i64 0), (.int .i64 0), (.int .i64 1)]) h2)) :
    HC Try.prog 26 #[(.string key), (.string value)] h R := by
  refine hc_of (args := [(.string key), (.string value)]) Try.func26 rfl Try.ntmps26 (Nat.le_of_ble_eq_true rfl) ?_
  refine hx_seq ?_
  refine hx_region ?_
  refine hl_step rfl rfl (hn_alloc Ty.z31 ?_)
  intro pb h1 eb1 eh2
  have xx3 : Ext h h1 := by rw [eh2]; exact Ext.push _ _
  have lo5 : Array.size h ≤ pb := Nat.le_of_eq (Eq.symm eb1)
  have hr4 : h1[pb]? = some (.cells #[(.int .i64 0), (.string ByteArray.empty), (.string ByteArray.empty), (.int .i64 0), (.bool false), (.int .i64 0), (.int .i64 0), (.int .i64 0)] 31 (0, 0)) := by rw [eh2]; exact push_new eb1
  refine hl_nil ?_
  refine seqQ_n ?_
  refine hx_seq ?_
  refine hx_region ?_
  refine hl_val rfl rfl (v := (.string key)) (hv_move rfl) ?_
  refine hl_val rfl rfl (v := (.string value)) (hv_move rfl) ?_
  refine hl_val rfl rfl (v := (.agg #[(.int .i64 1), (.string key), (.string value), (.int .i64 0), (.bool true), (.int .i64 0), (.int .i64 0), (.int .i64 1)])) (hv_build (vs := [(0, (.int .i64 1)), (1, (.string key)), (2, (.string value)), (4, (.bool true)), (7, (.int .i64 1))]) (cs := #[(.int .i64 1), (.string key), (.string value), (.int .i64 0), (.bool true), (.int .i64 0), (.int .i64 0), (.int .i64 1)]) Ty.z31 Ty.pl31 rfl (by kernel_rfl)) ?_
  refine hl_step rfl rfl (hn_stores (vs := [(.int .i64 1), (.string key), (.string value), (.int .i64 0), (.bool true), (.int .i64 0), (.int .i64 0), (.int .i64 1)]) rfl rfl Ty.sz31 rfl (HWs_row hr4 (by simp)) ?_)
  intro h2 eh6
  have hr4' : h2[pb]? = some (.cells #[(.int .i64 1), (.string key), (.string value), (.int .i64 0), (.bool true), (.int .i64 0), (.int .i64 0), (.int .i64 1)] 31 (0, 0)) := row_hsets_eq eh6 hr4 rfl
  have xv7 := ext_hsets eh6 xx3 lo5
  refine hl_nil ?_
  refine seqQ_n ?_
  refine hx_ret ?_
  replace H := H h2 xv7
  exact endQ_ret _ (res_one Try.results26 (rv_cell (vs := [(.int .i64 1), (.string key), (.string value), (.int .i64 0), (.bool true), (.int .i64 0), (.int .i64 0), (.int .i64 1)]) Ty.agg31 Ty.sz31 rfl (hcells_cons (rowcell hr4' rfl) (hcells_cons (rowcell hr4' rfl) (hcells_cons (rowcell hr4' rfl) (hcells_cons (rowcell hr4' rfl) (hcells_cons (rowcell hr4' rfl) (hcells_cons (rowcell hr4' rfl) (hcells_cons (rowcell hr4' rfl) (hcells_cons (rowcell hr4' rfl) hcells_nil)))))))))) H

/-- cmp.isNaN[string] -/
theorem f56_sh (x : ByteArray) (h : Heap) (R : Value → Heap → Prop)
    (H : R (.bool (!decide (x = x))) h) :
    HC Try.prog 56 #[(.string x)] h R := by
  refine hc_of (args := [(.string x)]) Try.func56 rfl Try.ntmps56 (Nat.le_of_ble_eq_true rfl) ?_
  refine hx_seq ?_
  refine hx_region ?_
  refine hl_val rfl rfl (v := (.bool false)) (hv_assign rfl) ?_
  refine hl_nil ?_
  refine seqQ_n ?_
  refine hx_seq ?_
  refine hx_region ?_
  refine hl_val rfl rfl (v := (.string x)) (hv_move rfl) ?_
  refine hl_val rfl rfl (v := (.string x)) (hv_move rfl) ?_
  refine hl_val rfl rfl (v := (.bool (!decide (x = x)))) (hv_str rfl rfl rfl) ?_
  refine hl_val rfl rfl (v := (.bool (!decide (x = x)))) (hv_assign rfl) ?_
  refine hl_nil ?_
  refine seqQ_n ?_
  refine hx_ret ?_
  exact endQ_ret _ (res_one Try.results56 (rv_tmp rfl)) H

end Go.Proofs.Ytmdgfbhmogjklaa
