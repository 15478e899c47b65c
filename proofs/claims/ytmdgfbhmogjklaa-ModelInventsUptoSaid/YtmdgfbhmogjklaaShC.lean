/-
Shallow forms, written by gen2.py (a program of ours) out of the print of the program.
-/
import Derived.Test.YtmdgfbhmogjklaaMB
import Derived.Test.YtmdgfbhmogjklaaProg
namespace Go.Proofs.Ytmdgfbhmogjklaa
open Go
set_option maxRecDepth 100000
set_option maxHeartbeats 4000000

theorem TyShC.agg3 : aggB Try.prog 3 = some false := by kernel_rfl
theorem TyShC.agg31 : aggB Try.prog 31 = some true := by kernel_rfl
theorem TyShC.agg4 : aggB Try.prog 4 = some false := by kernel_rfl
theorem TyShC.agg40 : aggB Try.prog 40 = some true := by kernel_rfl
theorem TyShC.agg9 : aggB Try.prog 9 = some false := by kernel_rfl
theorem TyShC.cb23 : CallB Try.prog 23 := fun _ _ => Try.call23 _ _
theorem TyShC.cb29 : CallB Try.prog 29 := fun _ _ => Try.call29 _ _
theorem TyShC.cb35 : CallB Try.prog 35 := fun _ _ => Try.call35 _ _
theorem TyShC.cb36 : CallB Try.prog 36 := fun _ _ => Try.call36 _ _
theorem TyShC.cb37 : CallB Try.prog 37 := fun _ _ => Try.call37 _ _
theorem TyShC.cb44 : CallB Try.prog 44 := fun _ _ => Try.call44 _ _
theorem TyShC.cb45 : CallB Try.prog 45 := fun _ _ => Try.call45 _ _
theorem TyShC.el27 : elB Try.prog 27 = some 2 := by kernel_rfl
theorem TyShC.fld31_0 : fldB Try.prog 31 0 = some 0 := by kernel_rfl
theorem TyShC.fld31_1 : fldB Try.prog 31 1 = some 1 := by kernel_rfl
theorem TyShC.fld31_2 : fldB Try.prog 31 2 = some 2 := by kernel_rfl
theorem TyShC.fld31_4 : fldB Try.prog 31 4 = some 4 := by kernel_rfl
theorem TyShC.fld31_6 : fldB Try.prog 31 6 = some 6 := by kernel_rfl
theorem TyShC.fld31_7 : fldB Try.prog 31 7 = some 7 := by kernel_rfl
theorem TyShC.fld40_0 : fldB Try.prog 40 0 = some 0 := by kernel_rfl
theorem TyShC.fld40_1 : fldB Try.prog 40 1 = some 1 := by kernel_rfl
theorem TyShC.mixed : Try.prog.follows .mixedOrders = true := by kernel_rfl
theorem TyShC.pl40 : plB Try.prog 40 = some [(0, 1), (1, 1)] := by kernel_rfl
theorem TyShC.se40 : seB Try.prog 40 = some [(4, 0), (9, 1)] := by kernel_rfl
theorem TyShC.sz31 : szB Try.prog 31 = some 8 := by kernel_rfl
theorem TyShC.sz40 : szB Try.prog 40 = some 2 := by kernel_rfl
theorem TyShC.sz9 : szB Try.prog 9 = some 1 := by kernel_rfl
theorem TyShC.u27 : Try.prog.underlying 27 = some (.slice 40) := by kernel_rfl
theorem TyShC.u3 : Try.prog.underlying 3 = some (.int .i64) := by kernel_rfl
theorem TyShC.u4 : Try.prog.underlying 4 = some (.bool) := by kernel_rfl
theorem TyShC.u54 : Try.prog.underlying 54 = some (.map 3 52) := by kernel_rfl
theorem TyShC.z40 : zeroB Try.prog 40 (.agg #[(.bool false), (.string ByteArray.empty)]) := by unfold zeroB; kernel_rfl

/-- cellar/model.Check -/
theorem f20_sh (m_Kind : Int) (m_Key : ByteArray) (m_Value : ByteArray) (m_Err : Int) (m_Hit : Bool) (m_Life : Int) (m_From : Int) (m_To : Int) (h : Heap) (R : Value → Heap → Prop)
    (H : (((((decide (m_Kind < 1)) || (decide (m_Kind > 5))) || (((decide (m_From < 0)) || ((decide (Ml.Mv.to ⟨m_Kind, m_Key, m_Value, m_Err, m_Hit, m_Life, m_From, m_To⟩ ≥ 0)) && (decide (m_To < m_From)))) || ((m_Hit && (!(Ml.hits ⟨m_Kind, m_Key, m_Value, m_Err, m_Hit, m_Life, m_From, m_To⟩))) || ((((m_Kind != 2) && (!(Ml.hits ⟨m_Kind, m_Key, m_Value, m_Err, m_Hit, m_Life, m_From, m_To⟩))) && (!decide (m_Value = ByteArray.empty))) || (((m_Kind == 4) || (m_Kind == 5)) && (!decide (m_Key = ByteArray.empty))))))) = true → (∀ (h4 : Heap), Ext h h4 → R (.int .i64 230) h4)) ∧ ((((decide (m_Kind < 1)) || (decide (m_Kind > 5))) || (((decide (m_From < 0)) || ((decide (Ml.Mv.to ⟨m_Kind, m_Key, m_Value, m_Err, m_Hit, m_Life, m_From, m_To⟩ ≥ 0)) && (decide (m_To < m_From)))) || ((m_Hit && (!(Ml.hits ⟨m_Kind, m_Key, m_Value, m_Err, m_Hit, m_Life, m_From, m_To⟩))) || ((((m_Kind != 2) && (!(Ml.hits ⟨m_Kind, m_Key, m_Value, m_Err, m_Hit, m_Life, m_From, m_To⟩))) && (!decide (m_Value = ByteArray.empty))) || (((m_Kind == 4) || (m_Kind == 5)) && (!decide (m_Key = ByteArray.empty))))))) = false → (∀ (h4 : Heap), Ext h h4 → R (.int .i64 0) h4)))) :
    HC Try.prog 20 #[(.agg #[(.int .i64 m_Kind), (.string m_Key), (.string m_Value), (.int .i64 m_Err), (.bool m_Hit), (.int .i64 m_Life), (.int .i64 m_From), (.int .i64 m_To)])] h R := by
  refine hc_of (args := [(.agg #[(.int .i64 m_Kind), (.string m_Key), (.string m_Value), (.int .i64 m_Err), (.bool m_Hit), (.int .i64 m_Life), (.int .i64 m_From), (.int .i64 m_To)])]) Try.func20 rfl Try.ntmps20 (Nat.le_of_ble_eq_true rfl) ?_
  refine hx_seq ?_
  refine hx_region ?_
  refine hl_step rfl rfl (hn_box (v := (.agg #[(.int .i64 m_Kind), (.string m_Key), (.string m_Value), (.int .i64 m_Err), (.bool m_Hit), (.int .i64 m_Life), (.int .i64 m_From), (.int .i64 m_To)])) rfl ?_)
  intro m h1 eb1 eh2
  have xx3 : Ext h h1 := by rw [eh2]; exact Ext.push _ _
  have lo5 : Array.size h ≤ m := Nat.le_of_eq (Eq.symm eb1)
  have hr4 : h1[m]? = some (.cells #[(.int .i64 m_Kind), (.string m_Key), (.string m_Value), (.int .i64 m_Err), (.bool m_Hit), (.int .i64 m_Life), (.int .i64 m_From), (.int .i64 m_To)] 31 (0, 0)) := by rw [eh2]; exact push_new eb1
  refine hl_val rfl rfl (v := (.int .i64 0)) (hv_assign rfl) ?_
  refine hl_nil ?_
  refine seqQ_n ?_
  refine hx_cut (fun ρ h' => h1 = h' ∧ Has ρ [(1, (ptr m 0)), (3, (.bool ((m_Kind == 4) || (m_Kind == 5))))]) ?_ ?_
  · refine hx_region ?_
    refine hl_val rfl rfl (v := (ptr m 0)) (hv_field TyShC.fld31_0 (b := m) (o := 0) rfl) ?_
    refine hl_val rfl rfl (v := (.int .i64 m_Kind)) (hv_load TyShC.agg3 rfl (rowcell hr4 rfl)) ?_
    refine hl_val rfl rfl (v := (.bool (m_Kind == 4))) (hv_arith rfl rfl rfl) ?_
    refine hl_val rfl rfl (v := (.bool (m_Kind == 4))) (hv_move rfl) ?_
    rcases bool_or (m_Kind == 4) with hg8 | hg8
    · refine hl_no (wanted_n rfl rfl rfl hg8) rfl ?_
      refine hl_no (wanted_n rfl rfl rfl hg8) rfl ?_
      refine hl_no (wanted_n rfl rfl rfl hg8) rfl ?_
      refine hl_val rfl rfl (v := (.bool true)) (hv_pick_t rfl hg8 rfl) ?_
      refine hl_val rfl rfl (v := (.bool true)) (hv_assign rfl) ?_
      refine hl_nil ?_
      refine seqQ_n ?_
      exact ⟨rfl, (has_cons rfl (has_cons (show ((.bool true) : Value) = (.bool ((m_Kind == 4) || (m_Kind == 5))) from (by first | rfl | simp [hg8])) has_nil))⟩
    · refine hl_yes (wanted_y rfl rfl rfl hg8) rfl (HStep.of_val (v := (ptr m 0)) (hv_field TyShC.fld31_0 (b := m) (o := 0) rfl) ?_)
      refine hl_yes (wanted_y rfl rfl rfl hg8) rfl (HStep.of_val (v := (.int .i64 m_Kind)) (hv_load TyShC.agg3 rfl (rowcell hr4 rfl)) ?_)
      refine hl_yes (wanted_y rfl rfl rfl hg8) rfl (HStep.of_val (v := (.bool (m_Kind == 5))) (hv_arith rfl rfl rfl) ?_)
      refine hl_val rfl rfl (v := (.bool (m_Kind == 5))) (hv_pick_f rfl hg8 rfl) ?_
      refine hl_val rfl rfl (v := (.bool (m_Kind == 5))) (hv_assign rfl) ?_
      refine hl_nil ?_
      refine seqQ_n ?_
      exact ⟨rfl, (has_cons rfl (has_cons (show ((.bool (m_Kind == 5)) : Value) = (.bool ((m_Kind == 4) || (m_Kind == 5))) from (by first | rfl | simp [hg8])) has_nil))⟩
  · rintro ρ _ ⟨rfl, hH⟩
    refine hx_has _ hH ?_
    refine hx_cut (fun ρ h' => (Ext h h' ∧ h'[m]? = some (.cells #[(.int .i64 m_Kind), (.string m_Key), (.string m_Value), (.int .i64 m_Err), (.bool m_Hit), (.int .i64 m_Life), (.int .i64 m_From), (.int .i64 m_To)] 31 (0, 0)) ∧ True) ∧ Has ρ [(1, (ptr m 0)), (3, (.bool ((m_Kind == 4) || (m_Kind == 5)))), (4, (.bool ((m_Kind != 2) && (!(Ml.hits ⟨m_Kind, m_Key, m_Value, m_Err, m_Hit, m_Life, m_From, m_To⟩)))))]) ?_ ?_
    · refine hx_region ?_
      refine hl_val rfl rfl (v := (ptr m 0)) (hv_field TyShC.fld31_0 (b := m) (o := 0) rfl) ?_
      refine hl_val rfl rfl (v := (.int .i64 m_Kind)) (hv_load TyShC.agg3 rfl (rowcell hr4 rfl)) ?_
      refine hl_val rfl rfl (v := (.bool (m_Kind != 2))) (hv_arith rfl rfl rfl) ?_
      refine hl_val rfl rfl (v := (.bool (m_Kind != 2))) (hv_move rfl) ?_
      rcases bool_or (m_Kind != 2) with hg13 | hg13
      · refine hl_yes (wanted_y rfl rfl rfl hg13) rfl (HStep.of_val (v := (.agg #[(.int .i64 m_Kind), (.string m_Key), (.string m_Value), (.int .i64 m_Err), (.bool m_Hit), (.int .i64 m_Life), (.int .i64 m_From), (.int .i64 m_To)])) (hv_loads (vs := [(.int .i64 m_Kind), (.string m_Key), (.string m_Value), (.int .i64 m_Err), (.bool m_Hit), (.int .i64 m_Life), (.int .i64 m_From), (.int .i64 m_To)]) TyShC.agg31 TyShC.sz31 rfl (hcells_cons (rowcell hr4 rfl) (hcells_cons (rowcell hr4 rfl) (hcells_cons (rowcell hr4 rfl) (hcells_cons (rowcell hr4 rfl) (hcells_cons (rowcell hr4 rfl) (hcells_cons (rowcell hr4 rfl) (hcells_cons (rowcell hr4 rfl) (hcells_cons (rowcell hr4 rfl) hcells_nil))))))))) ?_)
        refine hl_yes (wanted_y rfl rfl rfl hg13) rfl (hs_call TyShC.cb35 (vs := [(.agg #[(.int .i64 m_Kind), (.string m_Key), (.string m_Value), (.int .i64 m_Err), (.bool m_Hit), (.int .i64 m_Life), (.int .i64 m_From), (.int .i64 m_To)])]) rfl (HC.mono (hits_c (⟨m_Kind, m_Key, m_Value, m_Err, m_Hit, m_Life, m_From, m_To⟩) _) ?_))
        rintro _ h3 ⟨rfl, xx14⟩
        replace hr4 := Ext.row xx14 hr4
        have xv15 := Ext.trans xx3 xx14
        refine hl_yes (wanted_y rfl rfl rfl hg13) rfl (HStep.of_val (v := (.bool (!(Ml.hits ⟨m_Kind, m_Key, m_Value, m_Err, m_Hit, m_Life, m_From, m_To⟩)))) (hv_not (b := Ml.hits ⟨m_Kind, m_Key, m_Value, m_Err, m_Hit, m_Life, m_From, m_To⟩) rfl) ?_)
        refine hl_val rfl rfl (v := (.bool (!(Ml.hits ⟨m_Kind, m_Key, m_Value, m_Err, m_Hit, m_Life, m_From, m_To⟩)))) (hv_pick_t rfl hg13 rfl) ?_
        refine hl_val rfl rfl (v := (.bool (!(Ml.hits ⟨m_Kind, m_Key, m_Value, m_Err, m_Hit, m_Life, m_From, m_To⟩)))) (hv_assign rfl) ?_
        refine hl_nil ?_
        refine seqQ_n ?_
        exact ⟨⟨xv15, (row_congr hr4 (by first | rfl | simp [hg13])), trivial⟩, (has_cons rfl (has_cons rfl (has_cons (show ((.bool (!(Ml.hits ⟨m_Kind, m_Key, m_Value, m_Err, m_Hit, m_Life, m_From, m_To⟩))) : Value) = (.bool ((m_Kind != 2) && (!(Ml.hits ⟨m_Kind, m_Key, m_Value, m_Err, m_Hit, m_Life, m_From, m_To⟩)))) from (by first | rfl | simp [hg13])) has_nil)))⟩
      · refine hl_no (wanted_n rfl rfl rfl hg13) rfl ?_
        refine hl_no (wanted_n rfl rfl rfl hg13) rfl ?_
        refine hl_no (wanted_n rfl rfl rfl hg13) rfl ?_
        refine hl_val rfl rfl (v := (.bool false)) (hv_pick_f rfl hg13 rfl) ?_
        refine hl_val rfl rfl (v := (.bool false)) (hv_assign rfl) ?_
        refine hl_nil ?_
        refine seqQ_n ?_
        exact ⟨⟨xx3, (row_congr hr4 (by first | rfl | simp [hg13])), trivial⟩, (has_cons rfl (has_cons rfl (has_cons (show ((.bool false) : Value) = (.bool ((m_Kind != 2) && (!(Ml.hits ⟨m_Kind, m_Key, m_Value, m_Err, m_Hit, m_Life, m_From, m_To⟩)))) from (by first | rfl | simp [hg13])) has_nil)))⟩
    · rintro ρ h2 ⟨⟨xv11, hr12, -⟩, hH⟩
      refine hx_has _ hH ?_
      refine hx_seq ?_
      refine hx_block ?_
      refine hx_cut (fun ρ h' => (Ext h h' ∧ True) ∧ Has ρ [(21, (.bool (((decide (m_Kind < 1)) || (decide (m_Kind > 5))) || (((decide (m_From < 0)) || ((decide (Ml.Mv.to ⟨m_Kind, m_Key, m_Value, m_Err, m_Hit, m_Life, m_From, m_To⟩ ≥ 0)) && (decide (m_To < m_From)))) || ((m_Hit && (!(Ml.hits ⟨m_Kind, m_Key, m_Value, m_Err, m_Hit, m_Life, m_From, m_To⟩))) || ((((m_Kind != 2) && (!(Ml.hits ⟨m_Kind, m_Key, m_Value, m_Err, m_Hit, m_Life, m_From, m_To⟩))) && (!decide (m_Value = ByteArray.empty))) || (((m_Kind == 4) || (m_Kind == 5)) && (!decide (m_Key = ByteArray.empty)))))))))]) ?_ ?_
      · refine hx_cut (fun ρ h' => h2 = h' ∧ Has ρ [(1, (ptr m 0)), (3, (.bool ((m_Kind == 4) || (m_Kind == 5)))), (4, (.bool ((m_Kind != 2) && (!(Ml.hits ⟨m_Kind, m_Key, m_Value, m_Err, m_Hit, m_Life, m_From, m_To⟩))))), (21, (.bool ((decide (m_Kind < 1)) || (decide (m_Kind > 5)))))]) ?_ ?_
        · refine hx_region ?_
          refine hl_val rfl rfl (v := (ptr m 0)) (hv_field TyShC.fld31_0 (b := m) (o := 0) rfl) ?_
          refine hl_val rfl rfl (v := (.int .i64 m_Kind)) (hv_load TyShC.agg3 rfl (rowcell hr12 rfl)) ?_
          refine hl_val rfl rfl (v := (.bool (decide (m_Kind < 1)))) (hv_arith rfl rfl rfl) ?_
          refine hl_val rfl rfl (v := (.bool (decide (m_Kind < 1)))) (hv_move rfl) ?_
          rcases bool_or (decide (m_Kind < 1)) with hg21 | hg21
          · refine hl_no (wanted_n rfl rfl rfl hg21) rfl ?_
            refine hl_no (wanted_n rfl rfl rfl hg21) rfl ?_
            refine hl_no (wanted_n rfl rfl rfl hg21) rfl ?_
            refine hl_val rfl rfl (v := (.bool true)) (hv_pick_t rfl hg21 rfl) ?_
            refine hl_val rfl rfl (v := (.bool true)) (hv_assign rfl) ?_
            refine hl_nil ?_
            refine seqQ_n ?_
            exact ⟨rfl, (has_cons rfl (has_cons rfl (has_cons rfl (has_cons (show ((.bool true) : Value) = (.bool ((decide (m_Kind < 1)) || (decide (m_Kind > 5)))) from (by first | rfl | simp [hg21])) has_nil))))⟩
          · refine hl_yes (wanted_y rfl rfl rfl hg21) rfl (HStep.of_val (v := (ptr m 0)) (hv_field TyShC.fld31_0 (b := m) (o := 0) rfl) ?_)
            refine hl_yes (wanted_y rfl rfl rfl hg21) rfl (HStep.of_val (v := (.int .i64 m_Kind)) (hv_load TyShC.agg3 rfl (rowcell hr12 rfl)) ?_)
            refine hl_yes (wanted_y rfl rfl rfl hg21) rfl (HStep.of_val (v := (.bool (decide (m_Kind > 5)))) (hv_arith rfl rfl rfl) ?_)
            refine hl_val rfl rfl (v := (.bool (decide (m_Kind > 5)))) (hv_pick_f rfl hg21 rfl) ?_
            refine hl_val rfl rfl (v := (.bool (decide (m_Kind > 5)))) (hv_assign rfl) ?_
            refine hl_nil ?_
            refine seqQ_n ?_
            exact ⟨rfl, (has_cons rfl (has_cons rfl (has_cons rfl (has_cons (show ((.bool (decide (m_Kind > 5))) : Value) = (.bool ((decide (m_Kind < 1)) || (decide (m_Kind > 5)))) from (by first | rfl | simp [hg21])) has_nil))))⟩
        · rintro ρ _ ⟨rfl, hH⟩
          refine hx_has _ hH ?_
          refine hx_cond (b := ((decide (m_Kind < 1)) || (decide (m_Kind > 5)))) rfl (fun hb22 => ?_) (fun hb22 => ?_)
          · refine hx_skip ?_
            refine seqQ_n ?_
            exact ⟨⟨xv11, trivial⟩, (has_cons (show ((.bool ((decide (m_Kind < 1)) || (decide (m_Kind > 5)))) : Value) = (.bool (((decide (m_Kind < 1)) || (decide (m_Kind > 5))) || (((decide (m_From < 0)) || ((decide (Ml.Mv.to ⟨m_Kind, m_Key, m_Value, m_Err, m_Hit, m_Life, m_From, m_To⟩ ≥ 0)) && (decide (m_To < m_From)))) || ((m_Hit && (!(Ml.hits ⟨m_Kind, m_Key, m_Value, m_Err, m_Hit, m_Life, m_From, m_To⟩))) || ((((m_Kind != 2) && (!(Ml.hits ⟨m_Kind, m_Key, m_Value, m_Err, m_Hit, m_Life, m_From, m_To⟩))) && (!decide (m_Value = ByteArray.empty))) || (((m_Kind == 4) || (m_Kind == 5)) && (!decide (m_Key = ByteArray.empty)))))))) from (by first | rfl | simp [hb22])) has_nil)⟩
          · refine hx_cut (fun ρ h' => (Ext h h' ∧ h'[m]? = some (.cells #[(.int .i64 m_Kind), (.string m_Key), (.string m_Value), (.int .i64 m_Err), (.bool m_Hit), (.int .i64 m_Life), (.int .i64 m_From), (.int .i64 m_To)] 31 (0, 0)) ∧ True) ∧ Has ρ [(1, (ptr m 0)), (3, (.bool ((m_Kind == 4) || (m_Kind == 5)))), (4, (.bool ((m_Kind != 2) && (!(Ml.hits ⟨m_Kind, m_Key, m_Value, m_Err, m_Hit, m_Life, m_From, m_To⟩))))), (21, (.bool ((decide (m_From < 0)) || ((decide (Ml.Mv.to ⟨m_Kind, m_Key, m_Value, m_Err, m_Hit, m_Life, m_From, m_To⟩ ≥ 0)) && (decide (m_To < m_From))))))]) ?_ ?_
            · refine hx_region ?_
              refine hl_val rfl rfl (v := (ptr m 6)) (hv_field TyShC.fld31_6 (b := m) (o := 0) rfl) ?_
              refine hl_val rfl rfl (v := (.int .i64 m_From)) (hv_load TyShC.agg3 rfl (rowcell hr12 rfl)) ?_
              refine hl_val rfl rfl (v := (.bool (decide (m_From < 0)))) (hv_arith rfl rfl rfl) ?_
              refine hl_val rfl rfl (v := (.bool (decide (m_From < 0)))) (hv_move rfl) ?_
              rcases bool_or (decide (m_From < 0)) with hg27 | hg27
              · refine hl_no (wanted_n rfl rfl rfl hg27) rfl ?_
                refine hl_no (wanted_n rfl rfl rfl hg27) rfl ?_
                refine hl_no (wanted_n rfl rfl rfl hg27) rfl ?_
                refine hl_no (wanted_u rfl rfl rfl) rfl ?_
                refine hl_no (wanted_u rfl rfl rfl) rfl ?_
                refine hl_no (wanted_u rfl rfl rfl) rfl ?_
                refine hl_no (wanted_u rfl rfl rfl) rfl ?_
                refine hl_no (wanted_u rfl rfl rfl) rfl ?_
                refine hl_no (wanted_n rfl rfl rfl hg27) rfl ?_
                refine hl_val rfl rfl (v := (.bool true)) (hv_pick_t rfl hg27 rfl) ?_
                refine hl_val rfl rfl (v := (.bool true)) (hv_assign rfl) ?_
                refine hl_nil ?_
                refine seqQ_n ?_
                exact ⟨⟨xv11, (row_congr hr12 (by first | rfl | simp [hg27])), trivial⟩, (has_cons rfl (has_cons rfl (has_cons rfl (has_cons (show ((.bool true) : Value) = (.bool ((decide (m_From < 0)) || ((decide (Ml.Mv.to ⟨m_Kind, m_Key, m_Value, m_Err, m_Hit, m_Life, m_From, m_To⟩ ≥ 0)) && (decide (m_To < m_From))))) from (by first | rfl | simp [hg27])) has_nil))))⟩
              · refine hl_yes (wanted_y rfl rfl rfl hg27) rfl (HStep.of_val (v := (.agg #[(.int .i64 m_Kind), (.string m_Key), (.string m_Value), (.int .i64 m_Err), (.bool m_Hit), (.int .i64 m_Life), (.int .i64 m_From), (.int .i64 m_To)])) (hv_loads (vs := [(.int .i64 m_Kind), (.string m_Key), (.string m_Value), (.int .i64 m_Err), (.bool m_Hit), (.int .i64 m_Life), (.int .i64 m_From), (.int .i64 m_To)]) TyShC.agg31 TyShC.sz31 rfl (hcells_cons (rowcell hr12 rfl) (hcells_cons (rowcell hr12 rfl) (hcells_cons (rowcell hr12 rfl) (hcells_cons (rowcell hr12 rfl) (hcells_cons (rowcell hr12 rfl) (hcells_cons (rowcell hr12 rfl) (hcells_cons (rowcell hr12 rfl) (hcells_cons (rowcell hr12 rfl) hcells_nil))))))))) ?_)
                refine hl_yes (wanted_y rfl rfl rfl hg27) rfl (hs_call TyShC.cb36 (vs := [(.agg #[(.int .i64 m_Kind), (.string m_Key), (.string m_Value), (.int .i64 m_Err), (.bool m_Hit), (.int .i64 m_Life), (.int .i64 m_From), (.int .i64 m_To)])]) rfl (HC.mono (returned_c (⟨m_Kind, m_Key, m_Value, m_Err, m_Hit, m_Life, m_From, m_To⟩) _) ?_))
                rintro _ h6 ⟨rfl, xx28⟩
                replace hr12 := Ext.row xx28 hr12
                have xv29 := Ext.trans xv11 xx28
                refine hl_yes (wanted_y rfl rfl rfl hg27) rfl (HStep.of_val (v := (.bool (decide (Ml.Mv.to ⟨m_Kind, m_Key, m_Value, m_Err, m_Hit, m_Life, m_From, m_To⟩ ≥ 0)))) (hv_move rfl) ?_)
                rcases bool_or (decide (Ml.Mv.to ⟨m_Kind, m_Key, m_Value, m_Err, m_Hit, m_Life, m_From, m_To⟩ ≥ 0)) with hg30 | hg30
                · refine hl_yes (wanted_y rfl rfl rfl hg30) rfl (HStep.of_val (v := (ptr m 7)) (hv_field TyShC.fld31_7 (b := m) (o := 0) rfl) ?_)
                  refine hl_yes (wanted_y rfl rfl rfl hg30) rfl (HStep.of_val (v := (.int .i64 m_To)) (hv_load TyShC.agg3 rfl (rowcell hr12 rfl)) ?_)
                  refine hl_yes (wanted_y rfl rfl rfl hg30) rfl (HStep.of_val (v := (ptr m 6)) (hv_field TyShC.fld31_6 (b := m) (o := 0) rfl) ?_)
                  refine hl_yes (wanted_y rfl rfl rfl hg30) rfl (HStep.of_val (v := (.int .i64 m_From)) (hv_load TyShC.agg3 rfl (rowcell hr12 rfl)) ?_)
                  refine hl_yes (wanted_y rfl rfl rfl hg30) rfl (HStep.of_val (v := (.bool (decide (m_To < m_From)))) (hv_arith rfl rfl rfl) ?_)
                  refine hl_yes (wanted_y rfl rfl rfl hg27) rfl (HStep.of_val (v := (.bool (decide (m_To < m_From)))) (hv_pick_t rfl hg30 rfl) ?_)
                  refine hl_val rfl rfl (v := (.bool (decide (m_To < m_From)))) (hv_pick_f rfl hg27 rfl) ?_
                  refine hl_val rfl rfl (v := (.bool (decide (m_To < m_From)))) (hv_assign rfl) ?_
                  refine hl_nil ?_
                  refine seqQ_n ?_
                  exact ⟨⟨xv29, (row_congr hr12 (by first | rfl | simp [hg27, hg30])), trivial⟩, (has_cons rfl (has_cons rfl (has_cons rfl (has_cons (show ((.bool (decide (m_To < m_From))) : Value) = (.bool ((decide (m_From < 0)) || ((decide (Ml.Mv.to ⟨m_Kind, m_Key, m_Value, m_Err, m_Hit, m_Life, m_From, m_To⟩ ≥ 0)) && (decide (m_To < m_From))))) from (by first | rfl | simp [hg27, hg30])) has_nil))))⟩
                · refine hl_no (wanted_n rfl rfl rfl hg30) rfl ?_
                  refine hl_no (wanted_n rfl rfl rfl hg30) rfl ?_
                  refine hl_no (wanted_n rfl rfl rfl hg30) rfl ?_
                  refine hl_no (wanted_n rfl rfl rfl hg30) rfl ?_
                  refine hl_no (wanted_n rfl rfl rfl hg30) rfl ?_
                  refine hl_yes (wanted_y rfl rfl rfl hg27) rfl (HStep.of_val (v := (.bool false)) (hv_pick_f rfl hg30 rfl) ?_)
                  refine hl_val rfl rfl (v := (.bool false)) (hv_pick_f rfl hg27 rfl) ?_
                  refine hl_val rfl rfl (v := (.bool false)) (hv_assign rfl) ?_
                  refine hl_nil ?_
                  refine seqQ_n ?_
                  exact ⟨⟨xv29, (row_congr hr12 (by first | rfl | simp [hg27, hg30])), trivial⟩, (has_cons rfl (has_cons rfl (has_cons rfl (has_cons (show ((.bool false) : Value) = (.bool ((decide (m_From < 0)) || ((decide (Ml.Mv.to ⟨m_Kind, m_Key, m_Value, m_Err, m_Hit, m_Life, m_From, m_To⟩ ≥ 0)) && (decide (m_To < m_From))))) from (by first | rfl | simp [hg27, hg30])) has_nil))))⟩
            · rintro ρ h5 ⟨⟨xv25, hr26, -⟩, hH⟩
              refine hx_has _ hH ?_
              refine hx_cond (b := ((decide (m_From < 0)) || ((decide (Ml.Mv.to ⟨m_Kind, m_Key, m_Value, m_Err, m_Hit, m_Life, m_From, m_To⟩ ≥ 0)) && (decide (m_To < m_From))))) rfl (fun hb31 => ?_) (fun hb31 => ?_)
              · refine hx_skip ?_
                refine seqQ_n ?_
                exact ⟨⟨xv25, trivial⟩, (has_cons (show ((.bool ((decide (m_From < 0)) || ((decide (Ml.Mv.to ⟨m_Kind, m_Key, m_Value, m_Err, m_Hit, m_Life, m_From, m_To⟩ ≥ 0)) && (decide (m_To < m_From))))) : Value) = (.bool (((decide (m_Kind < 1)) || (decide (m_Kind > 5))) || (((decide (m_From < 0)) || ((decide (Ml.Mv.to ⟨m_Kind, m_Key, m_Value, m_Err, m_Hit, m_Life, m_From, m_To⟩ ≥ 0)) && (decide (m_To < m_From)))) || ((m_Hit && (!(Ml.hits ⟨m_Kind, m_Key, m_Value, m_Err, m_Hit, m_Life, m_From, m_To⟩))) || ((((m_Kind != 2) && (!(Ml.hits ⟨m_Kind, m_Key, m_Value, m_Err, m_Hit, m_Life, m_From, m_To⟩))) && (!decide (m_Value = ByteArray.empty))) || (((m_Kind == 4) || (m_Kind == 5)) && (!decide (m_Key = ByteArray.empty)))))))) from (by first | rfl | simp [hb22, hb31])) has_nil)⟩
              · refine hx_cut (fun ρ h' => (Ext h h' ∧ h'[m]? = some (.cells #[(.int .i64 m_Kind), (.string m_Key), (.string m_Value), (.int .i64 m_Err), (.bool m_Hit), (.int .i64 m_Life), (.int .i64 m_From), (.int .i64 m_To)] 31 (0, 0)) ∧ True) ∧ Has ρ [(1, (ptr m 0)), (3, (.bool ((m_Kind == 4) || (m_Kind == 5)))), (4, (.bool ((m_Kind != 2) && (!(Ml.hits ⟨m_Kind, m_Key, m_Value, m_Err, m_Hit, m_Life, m_From, m_To⟩))))), (21, (.bool (m_Hit && (!(Ml.hits ⟨m_Kind, m_Key, m_Value, m_Err, m_Hit, m_Life, m_From, m_To⟩)))))]) ?_ ?_
                · refine hx_region ?_
                  refine hl_val rfl rfl (v := (ptr m 4)) (hv_field TyShC.fld31_4 (b := m) (o := 0) rfl) ?_
                  refine hl_val rfl rfl (v := (.bool m_Hit)) (hv_load TyShC.agg4 rfl (rowcell hr26 rfl)) ?_
                  refine hl_val rfl rfl (v := (.bool m_Hit)) (hv_move rfl) ?_
                  rcases bool_or (m_Hit) with hg36 | hg36
                  · refine hl_yes (wanted_y rfl rfl rfl hg36) rfl (HStep.of_val (v := (.agg #[(.int .i64 m_Kind), (.string m_Key), (.string m_Value), (.int .i64 m_Err), (.bool m_Hit), (.int .i64 m_Life), (.int .i64 m_From), (.int .i64 m_To)])) (hv_loads (vs := [(.int .i64 m_Kind), (.string m_Key), (.string m_Value), (.int .i64 m_Err), (.bool m_Hit), (.int .i64 m_Life), (.int .i64 m_From), (.int .i64 m_To)]) TyShC.agg31 TyShC.sz31 rfl (hcells_cons (rowcell hr26 rfl) (hcells_cons (rowcell hr26 rfl) (hcells_cons (rowcell hr26 rfl) (hcells_cons (rowcell hr26 rfl) (hcells_cons (rowcell hr26 rfl) (hcells_cons (rowcell hr26 rfl) (hcells_cons (rowcell hr26 rfl) (hcells_cons (rowcell hr26 rfl) hcells_nil))))))))) ?_)
                    refine hl_yes (wanted_y rfl rfl rfl hg36) rfl (hs_call TyShC.cb35 (vs := [(.agg #[(.int .i64 m_Kind), (.string m_Key), (.string m_Value), (.int .i64 m_Err), (.bool m_Hit), (.int .i64 m_Life), (.int .i64 m_From), (.int .i64 m_To)])]) rfl (HC.mono (hits_c (⟨m_Kind, m_Key, m_Value, m_Err, m_Hit, m_Life, m_From, m_To⟩) _) ?_))
                    rintro _ h8 ⟨rfl, xx37⟩
                    replace hr26 := Ext.row xx37 hr26
                    have xv38 := Ext.trans xv25 xx37
                    refine hl_yes (wanted_y rfl rfl rfl hg36) rfl (HStep.of_val (v := (.bool (!(Ml.hits ⟨m_Kind, m_Key, m_Value, m_Err, m_Hit, m_Life, m_From, m_To⟩)))) (hv_not (b := Ml.hits ⟨m_Kind, m_Key, m_Value, m_Err, m_Hit, m_Life, m_From, m_To⟩) rfl) ?_)
                    refine hl_val rfl rfl (v := (.bool (!(Ml.hits ⟨m_Kind, m_Key, m_Value, m_Err, m_Hit, m_Life, m_From, m_To⟩)))) (hv_pick_t rfl hg36 rfl) ?_
                    refine hl_val rfl rfl (v := (.bool (!(Ml.hits ⟨m_Kind, m_Key, m_Value, m_Err, m_Hit, m_Life, m_From, m_To⟩)))) (hv_assign rfl) ?_
                    refine hl_nil ?_
                    refine seqQ_n ?_
                    exact ⟨⟨xv38, (row_congr hr26 (by first | rfl | simp [hg36])), trivial⟩, (has_cons rfl (has_cons rfl (has_cons rfl (has_cons (show ((.bool (!(Ml.hits ⟨m_Kind, m_Key, m_Value, m_Err, m_Hit, m_Life, m_From, m_To⟩))) : Value) = (.bool (m_Hit && (!(Ml.hits ⟨m_Kind, m_Key, m_Value, m_Err, m_Hit, m_Life, m_From, m_To⟩)))) from (by first | rfl | simp [hg36])) has_nil))))⟩
                  · refine hl_no (wanted_n rfl rfl rfl hg36) rfl ?_
                    refine hl_no (wanted_n rfl rfl rfl hg36) rfl ?_
                    refine hl_no (wanted_n rfl rfl rfl hg36) rfl ?_
                    refine hl_val rfl rfl (v := (.bool false)) (hv_pick_f rfl hg36 rfl) ?_
                    refine hl_val rfl rfl (v := (.bool false)) (hv_assign rfl) ?_
                    refine hl_nil ?_
                    refine seqQ_n ?_
                    exact ⟨⟨xv25, (row_congr hr26 (by first | rfl | simp [hg36])), trivial⟩, (has_cons rfl (has_cons rfl (has_cons rfl (has_cons (show ((.bool false) : Value) = (.bool (m_Hit && (!(Ml.hits ⟨m_Kind, m_Key, m_Value, m_Err, m_Hit, m_Life, m_From, m_To⟩)))) from (by first | rfl | simp [hg36])) has_nil))))⟩
                · rintro ρ h7 ⟨⟨xv34, hr35, -⟩, hH⟩
                  refine hx_has _ hH ?_
                  refine hx_cond (b := (m_Hit && (!(Ml.hits ⟨m_Kind, m_Key, m_Value, m_Err, m_Hit, m_Life, m_From, m_To⟩)))) rfl (fun hb39 => ?_) (fun hb39 => ?_)
                  · refine hx_skip ?_
                    refine seqQ_n ?_
                    exact ⟨⟨xv34, trivial⟩, (has_cons (show ((.bool (m_Hit && (!(Ml.hits ⟨m_Kind, m_Key, m_Value, m_Err, m_Hit, m_Life, m_From, m_To⟩)))) : Value) = (.bool (((decide (m_Kind < 1)) || (decide (m_Kind > 5))) || (((decide (m_From < 0)) || ((decide (Ml.Mv.to ⟨m_Kind, m_Key, m_Value, m_Err, m_Hit, m_Life, m_From, m_To⟩ ≥ 0)) && (decide (m_To < m_From)))) || ((m_Hit && (!(Ml.hits ⟨m_Kind, m_Key, m_Value, m_Err, m_Hit, m_Life, m_From, m_To⟩))) || ((((m_Kind != 2) && (!(Ml.hits ⟨m_Kind, m_Key, m_Value, m_Err, m_Hit, m_Life, m_From, m_To⟩))) && (!decide (m_Value = ByteArray.empty))) || (((m_Kind == 4) || (m_Kind == 5)) && (!decide (m_Key = ByteArray.empty)))))))) from (by first | rfl | simp [hb22, hb31, hb39])) has_nil)⟩
                  · refine hx_cut (fun ρ h' => h7 = h' ∧ Has ρ [(1, (ptr m 0)), (3, (.bool ((m_Kind == 4) || (m_Kind == 5)))), (21, (.bool (((m_Kind != 2) && (!(Ml.hits ⟨m_Kind, m_Key, m_Value, m_Err, m_Hit, m_Life, m_From, m_To⟩))) && (!decide (m_Value = ByteArray.empty)))))]) ?_ ?_
                    · refine hx_region ?_
                      refine hl_val rfl rfl (v := (.bool ((m_Kind != 2) && (!(Ml.hits ⟨m_Kind, m_Key, m_Value, m_Err, m_Hit, m_Life, m_From, m_To⟩))))) (hv_move rfl) ?_
                      refine hl_val rfl rfl (v := (.bool ((m_Kind != 2) && (!(Ml.hits ⟨m_Kind, m_Key, m_Value, m_Err, m_Hit, m_Life, m_From, m_To⟩))))) (hv_move rfl) ?_
                      rcases bool_or (((m_Kind != 2) && (!(Ml.hits ⟨m_Kind, m_Key, m_Value, m_Err, m_Hit, m_Life, m_From, m_To⟩)))) with hg42 | hg42
                      · refine hl_yes (wanted_y rfl rfl rfl hg42) rfl (HStep.of_val (v := (ptr m 2)) (hv_field TyShC.fld31_2 (b := m) (o := 0) rfl) ?_)
                        refine hl_yes (wanted_y rfl rfl rfl hg42) rfl (HStep.of_val (v := (.string m_Value)) (hv_load TyShC.agg9 rfl (rowcell hr35 rfl)) ?_)
                        refine hl_yes (wanted_y rfl rfl rfl hg42) rfl (HStep.of_val (v := (.bool (!decide (m_Value = ByteArray.empty)))) (hv_str rfl rfl rfl) ?_)
                        refine hl_val rfl rfl (v := (.bool (!decide (m_Value = ByteArray.empty)))) (hv_pick_t rfl hg42 rfl) ?_
                        refine hl_val rfl rfl (v := (.bool (!decide (m_Value = ByteArray.empty)))) (hv_assign rfl) ?_
                        refine hl_nil ?_
                        refine seqQ_n ?_
                        exact ⟨rfl, (has_cons rfl (has_cons rfl (has_cons (show ((.bool (!decide (m_Value = ByteArray.empty))) : Value) = (.bool (((m_Kind != 2) && (!(Ml.hits ⟨m_Kind, m_Key, m_Value, m_Err, m_Hit, m_Life, m_From, m_To⟩))) && (!decide (m_Value = ByteArray.empty)))) from (by first | rfl | simp [hg42])) has_nil)))⟩
                      · refine hl_no (wanted_n rfl rfl rfl hg42) rfl ?_
                        refine hl_no (wanted_n rfl rfl rfl hg42) rfl ?_
                        refine hl_no (wanted_n rfl rfl rfl hg42) rfl ?_
                        refine hl_val rfl rfl (v := (.bool false)) (hv_pick_f rfl hg42 rfl) ?_
                        refine hl_val rfl rfl (v := (.bool false)) (hv_assign rfl) ?_
                        refine hl_nil ?_
                        refine seqQ_n ?_
                        exact ⟨rfl, (has_cons rfl (has_cons rfl (has_cons (show ((.bool false) : Value) = (.bool (((m_Kind != 2) && (!(Ml.hits ⟨m_Kind, m_Key, m_Value, m_Err, m_Hit, m_Life, m_From, m_To⟩))) && (!decide (m_Value = ByteArray.empty)))) from (by first | rfl | simp [hg42])) has_nil)))⟩
                    · rintro ρ _ ⟨rfl, hH⟩
                      refine hx_has _ hH ?_
                      refine hx_cond (b := (((m_Kind != 2) && (!(Ml.hits ⟨m_Kind, m_Key, m_Value, m_Err, m_Hit, m_Life, m_From, m_To⟩))) && (!decide (m_Value = ByteArray.empty)))) rfl (fun hb43 => ?_) (fun hb43 => ?_)
                      · refine hx_skip ?_
                        refine seqQ_n ?_
                        exact ⟨⟨xv34, trivial⟩, (has_cons (show ((.bool (((m_Kind != 2) && (!(Ml.hits ⟨m_Kind, m_Key, m_Value, m_Err, m_Hit, m_Life, m_From, m_To⟩))) && (!decide (m_Value = ByteArray.empty)))) : Value) = (.bool (((decide (m_Kind < 1)) || (decide (m_Kind > 5))) || (((decide (m_From < 0)) || ((decide (Ml.Mv.to ⟨m_Kind, m_Key, m_Value, m_Err, m_Hit, m_Life, m_From, m_To⟩ ≥ 0)) && (decide (m_To < m_From)))) || ((m_Hit && (!(Ml.hits ⟨m_Kind, m_Key, m_Value, m_Err, m_Hit, m_Life, m_From, m_To⟩))) || ((((m_Kind != 2) && (!(Ml.hits ⟨m_Kind, m_Key, m_Value, m_Err, m_Hit, m_Life, m_From, m_To⟩))) && (!decide (m_Value = ByteArray.empty))) || (((m_Kind == 4) || (m_Kind == 5)) && (!decide (m_Key = ByteArray.empty)))))))) from (by first | rfl | simp [hb22, hb31, hb39, hb43])) has_nil)⟩
                      · refine hx_region ?_
                        refine hl_val rfl rfl (v := (.bool ((m_Kind == 4) || (m_Kind == 5)))) (hv_move rfl) ?_
                        refine hl_val rfl rfl (v := (.bool ((m_Kind == 4) || (m_Kind == 5)))) (hv_move rfl) ?_
                        rcases bool_or (((m_Kind == 4) || (m_Kind == 5))) with hg44 | hg44
                        · refine hl_yes (wanted_y rfl rfl rfl hg44) rfl (HStep.of_val (v := (ptr m 1)) (hv_field TyShC.fld31_1 (b := m) (o := 0) rfl) ?_)
                          refine hl_yes (wanted_y rfl rfl rfl hg44) rfl (HStep.of_val (v := (.string m_Key)) (hv_load TyShC.agg9 rfl (rowcell hr35 rfl)) ?_)
                          refine hl_yes (wanted_y rfl rfl rfl hg44) rfl (HStep.of_val (v := (.bool (!decide (m_Key = ByteArray.empty)))) (hv_str rfl rfl rfl) ?_)
                          refine hl_val rfl rfl (v := (.bool (!decide (m_Key = ByteArray.empty)))) (hv_pick_t rfl hg44 rfl) ?_
                          refine hl_val rfl rfl (v := (.bool (!decide (m_Key = ByteArray.empty)))) (hv_assign rfl) ?_
                          refine hl_nil ?_
                          refine seqQ_n ?_
                          exact ⟨⟨xv34, trivial⟩, (has_cons (show ((.bool (!decide (m_Key = ByteArray.empty))) : Value) = (.bool (((decide (m_Kind < 1)) || (decide (m_Kind > 5))) || (((decide (m_From < 0)) || ((decide (Ml.Mv.to ⟨m_Kind, m_Key, m_Value, m_Err, m_Hit, m_Life, m_From, m_To⟩ ≥ 0)) && (decide (m_To < m_From)))) || ((m_Hit && (!(Ml.hits ⟨m_Kind, m_Key, m_Value, m_Err, m_Hit, m_Life, m_From, m_To⟩))) || ((((m_Kind != 2) && (!(Ml.hits ⟨m_Kind, m_Key, m_Value, m_Err, m_Hit, m_Life, m_From, m_To⟩))) && (!decide (m_Value = ByteArray.empty))) || (((m_Kind == 4) || (m_Kind == 5)) && (!decide (m_Key = ByteArray.empty)))))))) from (by first | rfl | simp [hb22, hb31, hb39, hb43, hg44])) has_nil)⟩
                        · refine hl_no (wanted_n rfl rfl rfl hg44) rfl ?_
                          refine hl_no (wanted_n rfl rfl rfl hg44) rfl ?_
                          refine hl_no (wanted_n rfl rfl rfl hg44) rfl ?_
                          refine hl_val rfl rfl (v := (.bool false)) (hv_pick_f rfl hg44 rfl) ?_
                          refine hl_val rfl rfl (v := (.bool false)) (hv_assign rfl) ?_
                          refine hl_nil ?_
                          refine seqQ_n ?_
                          exact ⟨⟨xv34, trivial⟩, (has_cons (show ((.bool false) : Value) = (.bool (((decide (m_Kind < 1)) || (decide (m_Kind > 5))) || (((decide (m_From < 0)) || ((decide (Ml.Mv.to ⟨m_Kind, m_Key, m_Value, m_Err, m_Hit, m_Life, m_From, m_To⟩ ≥ 0)) && (decide (m_To < m_From)))) || ((m_Hit && (!(Ml.hits ⟨m_Kind, m_Key, m_Value, m_Err, m_Hit, m_Life, m_From, m_To⟩))) || ((((m_Kind != 2) && (!(Ml.hits ⟨m_Kind, m_Key, m_Value, m_Err, m_Hit, m_Life, m_From, m_To⟩))) && (!decide (m_Value = ByteArray.empty))) || (((m_Kind == 4) || (m_Kind == 5)) && (!decide (m_Key = ByteArray.empty)))))))) from (by first | rfl | simp [hb22, hb31, hb39, hb43, hg44])) has_nil)⟩
      · rintro ρ h4 ⟨⟨xv18, -⟩, hH⟩
        refine hx_has _ hH ?_
        refine hx_cond (b := (((decide (m_Kind < 1)) || (decide (m_Kind > 5))) || (((decide (m_From < 0)) || ((decide (Ml.Mv.to ⟨m_Kind, m_Key, m_Value, m_Err, m_Hit, m_Life, m_From, m_To⟩ ≥ 0)) && (decide (m_To < m_From)))) || ((m_Hit && (!(Ml.hits ⟨m_Kind, m_Key, m_Value, m_Err, m_Hit, m_Life, m_From, m_To⟩))) || ((((m_Kind != 2) && (!(Ml.hits ⟨m_Kind, m_Key, m_Value, m_Err, m_Hit, m_Life, m_From, m_To⟩))) && (!decide (m_Value = ByteArray.empty))) || (((m_Kind == 4) || (m_Kind == 5)) && (!decide (m_Key = ByteArray.empty)))))))) rfl (fun hb45 => ?_) (fun hb45 => ?_)
        · replace H := H.1 hb45
          refine hx_seq ?_
          refine hx_region ?_
          refine hl_val rfl rfl (v := (.int .i64 230)) (hv_assign rfl) ?_
          refine hl_nil ?_
          refine seqQ_n ?_
          refine hx_ret ?_
          refine blockQ_ret ?_
          refine seqQ_ret ?_
          replace H := H h4 xv18
          exact endQ_ret _ (res_one Try.results20 (rv_tmp rfl)) H
        · replace H := H.2 hb45
          refine hx_skip ?_
          refine blockQ_n ?_
          refine seqQ_n ?_
          refine hx_seq ?_
          refine hx_region ?_
          refine hl_val rfl rfl (v := (.int .i64 0)) (hv_assign rfl) ?_
          refine hl_nil ?_
          refine seqQ_n ?_
          refine hx_ret ?_
          replace H := H h4 xv18
          exact endQ_ret _ (res_one Try.results20 (rv_tmp rfl)) H

/-- cellar/model.compare -/
theorem f33_sh (a_Has : Bool) (a_Value : ByteArray) (b_Has : Bool) (b_Value : ByteArray) (h : Heap) (R : Value → Heap → Prop)
    (H : (((a_Has == b_Has) = true → (∀ (h3 : Heap), Ext h h3 → R (.int .i64 (scmp a_Value b_Value)) h3)) ∧ ((a_Has == b_Has) = false → ((b_Has = true → (∀ (h2 : Heap), Ext h h2 → R (.int .i64 (-1)) h2)) ∧ (b_Has = false → (∀ (h2 : Heap), Ext h h2 → R (.int .i64 1) h2)))))) :
    HC Try.prog 33 #[(.agg #[(.bool a_Has), (.string a_Value)]), (.agg #[(.bool b_Has), (.string b_Value)])] h R := by
  refine hc_of (args := [(.agg #[(.bool a_Has), (.string a_Value)]), (.agg #[(.bool b_Has), (.string b_Value)])]) Try.func33 rfl Try.ntmps33 (Nat.le_of_ble_eq_true rfl) ?_
  refine hx_seq ?_
  refine hx_region ?_
  refine hl_step rfl rfl (hn_box (v := (.agg #[(.bool a_Has), (.string a_Value)])) rfl ?_)
  intro a h1 eb1 eh2
  have xx3 : Ext h h1 := by rw [eh2]; exact Ext.push _ _
  have lo5 : Array.size h ≤ a := Nat.le_of_eq (Eq.symm eb1)
  have hr4 : h1[a]? = some (.cells #[(.bool a_Has), (.string a_Value)] 40 (0, 0)) := by rw [eh2]; exact push_new eb1
  refine hl_step rfl rfl (hn_box (v := (.agg #[(.bool b_Has), (.string b_Value)])) rfl ?_)
  intro b h2 eb6 eh7
  have xx8 : Ext h1 h2 := by rw [eh7]; exact Ext.push _ _
  have ne11 := Nat.ne_of_lt (Nat.lt_of_lt_of_eq (row_lt hr4) (Eq.symm eb6))
  have lo10 : Array.size h ≤ b := Nat.le_trans (Ext.size xx3) (Nat.le_of_eq (Eq.symm eb6))
  have hr9 : h2[b]? = some (.cells #[(.bool b_Has), (.string b_Value)] 40 (0, 0)) := by rw [eh7]; exact push_new eb6
  replace hr4 := Ext.row xx8 hr4
  have xv12 := Ext.trans xx3 xx8
  refine hl_val rfl rfl (v := (.int .i64 0)) (hv_assign rfl) ?_
  refine hl_nil ?_
  refine seqQ_n ?_
  refine hx_seq ?_
  refine hx_block ?_
  refine hx_seq ?_
  refine hx_region ?_
  refine hl_val rfl rfl (v := (ptr a 0)) (hv_field TyShC.fld40_0 (b := a) (o := 0) rfl) ?_
  refine hl_val rfl rfl (v := (.bool a_Has)) (hv_load TyShC.agg4 rfl (rowcell hr4 rfl)) ?_
  refine hl_val rfl rfl (v := (ptr b 0)) (hv_field TyShC.fld40_0 (b := b) (o := 0) rfl) ?_
  refine hl_val rfl rfl (v := (.bool b_Has)) (hv_load TyShC.agg4 rfl (rowcell hr9 rfl)) ?_
  refine hl_val rfl rfl (v := (.bool (a_Has == b_Has))) (hv_eqBool TyShC.u4 rfl rfl rfl) ?_
  refine hl_val rfl rfl (v := (.bool (a_Has == b_Has))) (hv_assign rfl) ?_
  refine hl_nil ?_
  refine seqQ_n ?_
  refine hx_cond (b := a_Has == b_Has) rfl (fun hb13 => ?_) (fun hb13 => ?_)
  · replace H := H.1 hb13
    refine hx_seq ?_
    refine hx_region ?_
    refine hl_val rfl rfl (v := (ptr a 1)) (hv_field TyShC.fld40_1 (b := a) (o := 0) rfl) ?_
    refine hl_val rfl rfl (v := (.string a_Value)) (hv_load TyShC.agg9 rfl (rowcell hr4 rfl)) ?_
    refine hl_val rfl rfl (v := (ptr b 1)) (hv_field TyShC.fld40_1 (b := b) (o := 0) rfl) ?_
    refine hl_val rfl rfl (v := (.string b_Value)) (hv_load TyShC.agg9 rfl (rowcell hr9 rfl)) ?_
    refine hl_step rfl rfl (hs_call TyShC.cb44 (vs := [(.string a_Value), (.string b_Value)]) rfl (HC.mono (cmpStr_c a_Value b_Value _) ?_))
    rintro _ h3 ⟨rfl, xx14⟩
    replace hr4 := Ext.row xx14 hr4
    replace hr9 := Ext.row xx14 hr9
    have xv15 := Ext.trans xv12 xx14
    refine hl_val rfl rfl (v := (.int .i64 (scmp a_Value b_Value))) (hv_assign rfl) ?_
    refine hl_nil ?_
    refine seqQ_n ?_
    refine hx_ret ?_
    refine blockQ_ret ?_
    refine seqQ_ret ?_
    replace H := H h3 xv15
    exact endQ_ret _ (res_one Try.results33 (rv_tmp rfl)) H
  · replace H := H.2 hb13
    refine hx_seq ?_
    refine hx_region ?_
    refine hl_val rfl rfl (v := (ptr b 0)) (hv_field TyShC.fld40_0 (b := b) (o := 0) rfl) ?_
    refine hl_val rfl rfl (v := (.bool b_Has)) (hv_load TyShC.agg4 rfl (rowcell hr9 rfl)) ?_
    refine hl_val rfl rfl (v := (.bool b_Has)) (hv_assign rfl) ?_
    refine hl_nil ?_
    refine seqQ_n ?_
    refine hx_cond (b := b_Has) rfl (fun hb16 => ?_) (fun hb16 => ?_)
    · replace H := H.1 hb16
      refine hx_seq ?_
      refine hx_region ?_
      refine hl_val rfl rfl (v := (.int .i64 (-1))) (hv_assign rfl) ?_
      refine hl_nil ?_
      refine seqQ_n ?_
      refine hx_ret ?_
      refine blockQ_ret ?_
      refine seqQ_ret ?_
      replace H := H h2 xv12
      exact endQ_ret _ (res_one Try.results33 (rv_tmp rfl)) H
    · replace H := H.2 hb16
      refine hx_skip ?_
      refine blockQ_n ?_
      refine seqQ_n ?_
      refine hx_seq ?_
      refine hx_region ?_
      refine hl_val rfl rfl (v := (.int .i64 1)) (hv_assign rfl) ?_
      refine hl_nil ?_
      refine seqQ_n ?_
      refine hx_ret ?_
      replace H := H h2 xv12
      exact endQ_ret _ (res_one Try.results33 (rv_tmp rfl)) H

/-- cellar/model.gets -/
theorem f39_sh (was_Has : Bool) (was_Value : ByteArray) (m_Kind : Int) (m_Key : ByteArray) (m_Value : ByteArray) (m_Err : Int) (m_Hit : Bool) (m_Life : Int) (m_From : Int) (m_To : Int) (h : Heap) (R : Value → Heap → Prop)
    (H : ((((Ml.hits ⟨m_Kind, m_Key, m_Value, m_Err, m_Hit, m_Life, m_From, m_To⟩) && ((!was_Has) || (!decide (was_Value = m_Value)))) = true → (∀ (h3 : Heap), Ext h h3 → R (.slice none 0 0) h3)) ∧ (((Ml.hits ⟨m_Kind, m_Key, m_Value, m_Err, m_Hit, m_Life, m_From, m_To⟩) && ((!was_Has) || (!decide (was_Value = m_Value)))) = false → (∀ (h3 : Heap), Ext h h3 → (∀ nb h5, nb = Array.size h3 → h5 = Array.push h3 (.cells #[(.bool was_Has), (.string was_Value)] 40) → R (.slice (some ⟨nb, 0, none⟩) 1 1) h5))))) :
    HC Try.prog 39 #[(.agg #[(.bool was_Has), (.string was_Value)]), (.agg #[(.int .i64 m_Kind), (.string m_Key), (.string m_Value), (.int .i64 m_Err), (.bool m_Hit), (.int .i64 m_Life), (.int .i64 m_From), (.int .i64 m_To)])] h R := by
  refine hc_of (args := [(.agg #[(.bool was_Has), (.string was_Value)]), (.agg #[(.int .i64 m_Kind), (.string m_Key), (.string m_Value), (.int .i64 m_Err), (.bool m_Hit), (.int .i64 m_Life), (.int .i64 m_From), (.int .i64 m_To)])]) Try.func39 rfl Try.ntmps39 (Nat.le_of_ble_eq_true rfl) ?_
  refine hx_seq ?_
  refine hx_region ?_
  refine hl_step rfl rfl (hn_box (v := (.agg #[(.bool was_Has), (.string was_Value)])) rfl ?_)
  intro was h1 eb1 eh2
  have xx3 : Ext h h1 := by rw [eh2]; exact Ext.push _ _
  have lo5 : Array.size h ≤ was := Nat.le_of_eq (Eq.symm eb1)
  have hr4 : h1[was]? = some (.cells #[(.bool was_Has), (.string was_Value)] 40 (0, 0)) := by rw [eh2]; exact push_new eb1
  refine hl_step rfl rfl (hn_box (v := (.agg #[(.int .i64 m_Kind), (.string m_Key), (.string m_Value), (.int .i64 m_Err), (.bool m_Hit), (.int .i64 m_Life), (.int .i64 m_From), (.int .i64 m_To)])) rfl ?_)
  intro m h2 eb6 eh7
  have xx8 : Ext h1 h2 := by rw [eh7]; exact Ext.push _ _
  have ne11 := Nat.ne_of_lt (Nat.lt_of_lt_of_eq (row_lt hr4) (Eq.symm eb6))
  have lo10 : Array.size h ≤ m := Nat.le_trans (Ext.size xx3) (Nat.le_of_eq (Eq.symm eb6))
  have hr9 : h2[m]? = some (.cells #[(.int .i64 m_Kind), (.string m_Key), (.string m_Value), (.int .i64 m_Err), (.bool m_Hit), (.int .i64 m_Life), (.int .i64 m_From), (.int .i64 m_To)] 31 (0, 0)) := by rw [eh7]; exact push_new eb6
  replace hr4 := Ext.row xx8 hr4
  have xv12 := Ext.trans xx3 xx8
  refine hl_val rfl rfl (v := (.slice none 0 0)) (hv_assign rfl) ?_
  refine hl_nil ?_
  refine seqQ_n ?_
  refine hx_seq ?_
  refine hx_cut (fun ρ h' => (Ext h h' ∧ h'[was]? = some (.cells #[(.bool was_Has), (.string was_Value)] 40 (0, 0)) ∧ True) ∧ Has ρ [(2, (ptr was 0)), (18, (.bool ((Ml.hits ⟨m_Kind, m_Key, m_Value, m_Err, m_Hit, m_Life, m_From, m_To⟩) && ((!was_Has) || (!decide (was_Value = m_Value))))))]) ?_ ?_
  · refine hx_region ?_
    refine hl_val rfl rfl (v := (.agg #[(.int .i64 m_Kind), (.string m_Key), (.string m_Value), (.int .i64 m_Err), (.bool m_Hit), (.int .i64 m_Life), (.int .i64 m_From), (.int .i64 m_To)])) (hv_loads (vs := [(.int .i64 m_Kind), (.string m_Key), (.string m_Value), (.int .i64 m_Err), (.bool m_Hit), (.int .i64 m_Life), (.int .i64 m_From), (.int .i64 m_To)]) TyShC.agg31 TyShC.sz31 rfl (hcells_cons (rowcell hr9 rfl) (hcells_cons (rowcell hr9 rfl) (hcells_cons (rowcell hr9 rfl) (hcells_cons (rowcell hr9 rfl) (hcells_cons (rowcell hr9 rfl) (hcells_cons (rowcell hr9 rfl) (hcells_cons (rowcell hr9 rfl) (hcells_cons (rowcell hr9 rfl) hcells_nil))))))))) ?_
    refine hl_step rfl rfl (hs_call TyShC.cb35 (vs := [(.agg #[(.int .i64 m_Kind), (.string m_Key), (.string m_Value), (.int .i64 m_Err), (.bool m_Hit), (.int .i64 m_Life), (.int .i64 m_From), (.int .i64 m_To)])]) rfl (HC.mono (hits_c (⟨m_Kind, m_Key, m_Value, m_Err, m_Hit, m_Life, m_From, m_To⟩) _) ?_))
    rintro _ h4 ⟨rfl, xx17⟩
    replace hr4 := Ext.row xx17 hr4
    replace hr9 := Ext.row xx17 hr9
    have xv18 := Ext.trans xv12 xx17
    refine hl_val rfl rfl (v := (.bool (Ml.hits ⟨m_Kind, m_Key, m_Value, m_Err, m_Hit, m_Life, m_From, m_To⟩))) (hv_move rfl) ?_
    rcases bool_or (Ml.hits ⟨m_Kind, m_Key, m_Value, m_Err, m_Hit, m_Life, m_From, m_To⟩) with hg19 | hg19
    · refine hl_yes (wanted_y rfl rfl rfl hg19) rfl (HStep.of_val (v := (ptr was 0)) (hv_field TyShC.fld40_0 (b := was) (o := 0) rfl) ?_)
      refine hl_yes (wanted_y rfl rfl rfl hg19) rfl (HStep.of_val (v := (.bool was_Has)) (hv_load TyShC.agg4 rfl (rowcell hr4 rfl)) ?_)
      refine hl_yes (wanted_y rfl rfl rfl hg19) rfl (HStep.of_val (v := (.bool (!was_Has))) (hv_not (b := was_Has) rfl) ?_)
      refine hl_yes (wanted_y rfl rfl rfl hg19) rfl (HStep.of_val (v := (.bool (!was_Has))) (hv_move rfl) ?_)
      rcases bool_or (!was_Has) with hg20 | hg20
      · refine hl_no (wanted_n rfl rfl rfl hg20) rfl ?_
        refine hl_no (wanted_n rfl rfl rfl hg20) rfl ?_
        refine hl_no (wanted_n rfl rfl rfl hg20) rfl ?_
        refine hl_no (wanted_n rfl rfl rfl hg20) rfl ?_
        refine hl_no (wanted_n rfl rfl rfl hg20) rfl ?_
        refine hl_yes (wanted_y rfl rfl rfl hg19) rfl (HStep.of_val (v := (.bool true)) (hv_pick_t rfl hg20 rfl) ?_)
        refine hl_val rfl rfl (v := (.bool true)) (hv_pick_t rfl hg19 rfl) ?_
        refine hl_nil ?_
        refine seqQ_n ?_
        exact ⟨⟨xv18, (row_congr hr4 (by first | rfl | simp [hg19, hg20])), trivial⟩, (has_cons rfl (has_cons (show ((.bool true) : Value) = (.bool ((Ml.hits ⟨m_Kind, m_Key, m_Value, m_Err, m_Hit, m_Life, m_From, m_To⟩) && ((!was_Has) || (!decide (was_Value = m_Value))))) from (by first | rfl | simp [hg19, hg20])) has_nil))⟩
      · refine hl_yes (wanted_y rfl rfl rfl hg20) rfl (HStep.of_val (v := (ptr was 1)) (hv_field TyShC.fld40_1 (b := was) (o := 0) rfl) ?_)
        refine hl_yes (wanted_y rfl rfl rfl hg20) rfl (HStep.of_val (v := (.string was_Value)) (hv_load TyShC.agg9 rfl (rowcell hr4 rfl)) ?_)
        refine hl_yes (wanted_y rfl rfl rfl hg20) rfl (HStep.of_val (v := (ptr m 2)) (hv_field TyShC.fld31_2 (b := m) (o := 0) rfl) ?_)
        refine hl_yes (wanted_y rfl rfl rfl hg20) rfl (HStep.of_val (v := (.string m_Value)) (hv_load TyShC.agg9 rfl (rowcell hr9 rfl)) ?_)
        refine hl_yes (wanted_y rfl rfl rfl hg20) rfl (HStep.of_val (v := (.bool (!decide (was_Value = m_Value)))) (hv_str rfl rfl rfl) ?_)
        refine hl_yes (wanted_y rfl rfl rfl hg19) rfl (HStep.of_val (v := (.bool (!decide (was_Value = m_Value)))) (hv_pick_f rfl hg20 rfl) ?_)
        refine hl_val rfl rfl (v := (.bool (!decide (was_Value = m_Value)))) (hv_pick_t rfl hg19 rfl) ?_
        refine hl_nil ?_
        refine seqQ_n ?_
        exact ⟨⟨xv18, (row_congr hr4 (by first | rfl | simp [hg19, hg20])), trivial⟩, (has_cons rfl (has_cons (show ((.bool (!decide (was_Value = m_Value))) : Value) = (.bool ((Ml.hits ⟨m_Kind, m_Key, m_Value, m_Err, m_Hit, m_Life, m_From, m_To⟩) && ((!was_Has) || (!decide (was_Value = m_Value))))) from (by first | rfl | simp [hg19, hg20])) has_nil))⟩
    · refine hl_no (wanted_n rfl rfl rfl hg19) rfl ?_
      refine hl_no (wanted_n rfl rfl rfl hg19) rfl ?_
      refine hl_no (wanted_n rfl rfl rfl hg19) rfl ?_
      refine hl_no (wanted_n rfl rfl rfl hg19) rfl ?_
      refine hl_no (wanted_u rfl rfl rfl) rfl ?_
      refine hl_no (wanted_u rfl rfl rfl) rfl ?_
      refine hl_no (wanted_u rfl rfl rfl) rfl ?_
      refine hl_no (wanted_u rfl rfl rfl) rfl ?_
      refine hl_no (wanted_u rfl rfl rfl) rfl ?_
      refine hl_no (wanted_n rfl rfl rfl hg19) rfl ?_
      refine hl_val rfl rfl (v := (.bool false)) (hv_pick_f rfl hg19 rfl) ?_
      refine hl_nil ?_
      refine seqQ_n ?_
      exact ⟨⟨xv18, (row_congr hr4 (by first | rfl | simp [hg19])), trivial⟩, (has_cons rfl (has_cons (show ((.bool false) : Value) = (.bool ((Ml.hits ⟨m_Kind, m_Key, m_Value, m_Err, m_Hit, m_Life, m_From, m_To⟩) && ((!was_Has) || (!decide (was_Value = m_Value))))) from (by first | rfl | simp [hg19])) has_nil))⟩
  · rintro ρ h3 ⟨⟨xv15, hr16, -⟩, hH⟩
    refine hx_has _ hH ?_
    refine hx_cond (b := ((Ml.hits ⟨m_Kind, m_Key, m_Value, m_Err, m_Hit, m_Life, m_From, m_To⟩) && ((!was_Has) || (!decide (was_Value = m_Value))))) rfl (fun hb21 => ?_) (fun hb21 => ?_)
    · replace H := H.1 hb21
      refine hx_seq ?_
      refine hx_region ?_
      refine hl_val rfl rfl (v := (.slice none 0 0)) (hv_assign rfl) ?_
      refine hl_nil ?_
      refine seqQ_n ?_
      refine hx_ret ?_
      refine seqQ_ret ?_
      replace H := H h3 xv15
      exact endQ_ret _ (res_one Try.results39 (rv_tmp rfl)) H
    · replace H := H.2 hb21
      refine hx_skip ?_
      refine seqQ_n ?_
      refine hx_seq ?_
      refine hx_region ?_
      refine hl_val rfl rfl (v := (.agg #[(.bool was_Has), (.string was_Value)])) (hv_loads (vs := [(.bool was_Has), (.string was_Value)]) TyShC.agg40 TyShC.sz40 rfl (hcells_cons (rowcell hr16 rfl) (hcells_cons (rowcell hr16 rfl) hcells_nil))) ?_
      replace H := H h3 xv15
      refine hl_step rfl rfl (hn_buildSlice (n := 1) (vs := [(0, (.agg #[(.bool was_Has), (.string was_Value)]))]) (cs := #[(.bool was_Has), (.string was_Value)]) TyShC.u27 TyShC.sz40 TyShC.z40 rfl rfl (by kernel_rfl) ?_)
      intro nb h5 eb22 eh23
      replace H := H nb h5 eb22 eh23
      have xx24 : Ext h3 h5 := by rw [eh23]; exact Ext.push _ _
      refine hl_val rfl rfl (v := (.slice (some ⟨nb, 0, none⟩) 1 1)) (hv_assign rfl) ?_
      refine hl_nil ?_
      refine seqQ_n ?_
      refine hx_ret ?_
      exact endQ_ret _ (res_one Try.results39 (rv_tmp rfl)) H

/-- cellar/model.puts -/
theorem f40_sh (was_Has : Bool) (was_Value : ByteArray) (m_Kind : Int) (m_Key : ByteArray) (m_Value : ByteArray) (m_Err : Int) (m_Hit : Bool) (m_Life : Int) (m_From : Int) (m_To : Int) (h : Heap) (R : Value → Heap → Prop)
    (H : ((((Ml.fate ⟨m_Kind, m_Key, m_Value, m_Err, m_Hit, m_Life, m_From, m_To⟩ : Int) == 1) = true → (∀ (was : Nat) (now : Nat) (h5 : Heap), Array.size h ≤ was → was < Array.size h5 → Array.size h ≤ now → now < Array.size h5 → Ext h h5 → (∀ nb h6, nb = Array.size h5 → h6 = Array.push h5 (.cells #[(.bool true), (.string m_Value)] 40) → R (.slice (some ⟨nb, 0, none⟩) 1 1) h6))) ∧ (((Ml.fate ⟨m_Kind, m_Key, m_Value, m_Err, m_Hit, m_Life, m_From, m_To⟩ : Int) == 1) = false → ((((Ml.fate ⟨m_Kind, m_Key, m_Value, m_Err, m_Hit, m_Life, m_From, m_To⟩ : Int) == 2) = true → (∀ (was : Nat) (now : Nat) (h5 : Heap), Array.size h ≤ was → was < Array.size h5 → Array.size h ≤ now → now < Array.size h5 → Ext h h5 → HC Try.prog 23 #[] h5 (fun vv h7 => Kp [was, now] h5 h7 ∧ ∃ r : Option Addr, ∃ r_n r_c : Nat, vv = (.slice r r_n r_c) ∧ R (.slice r r_n r_c) h7))) ∧ (((Ml.fate ⟨m_Kind, m_Key, m_Value, m_Err, m_Hit, m_Life, m_From, m_To⟩ : Int) == 2) = false → ((((Ml.fate ⟨m_Kind, m_Key, m_Value, m_Err, m_Hit, m_Life, m_From, m_To⟩ : Int) == 3) = true → (∀ (was : Nat) (h8 : Heap), Array.size h ≤ was → was < Array.size h8 → Ext h h8 → (∀ nb h9, nb = Array.size h8 → h9 = Array.push h8 (.cells #[(.bool true), (.string m_Value), (.bool false), (.string ByteArray.empty), (.bool was_Has), (.string was_Value)] 40) → R (.slice (some ⟨nb, 0, none⟩) 3 3) h9))) ∧ (((Ml.fate ⟨m_Kind, m_Key, m_Value, m_Err, m_Hit, m_Life, m_From, m_To⟩ : Int) == 3) = false → (∀ (h5 : Heap), Ext h h5 → (∀ nb h10, nb = Array.size h5 → h10 = Array.push h5 (.cells #[(.bool was_Has), (.string was_Value)] 40) → R (.slice (some ⟨nb, 0, none⟩) 1 1) h10))))))))) :
    HC Try.prog 40 #[(.agg #[(.bool was_Has), (.string was_Value)]), (.agg #[(.int .i64 m_Kind), (.string m_Key), (.string m_Value), (.int .i64 m_Err), (.bool m_Hit), (.int .i64 m_Life), (.int .i64 m_From), (.int .i64 m_To)])] h R := by
  refine hc_of (args := [(.agg #[(.bool was_Has), (.string was_Value)]), (.agg #[(.int .i64 m_Kind), (.string m_Key), (.string m_Value), (.int .i64 m_Err), (.bool m_Hit), (.int .i64 m_Life), (.int .i64 m_From), (.int .i64 m_To)])]) Try.func40 rfl Try.ntmps40 (Nat.le_of_ble_eq_true rfl) ?_
  refine hx_seq ?_
  refine hx_region ?_
  refine hl_step rfl rfl (hn_box (v := (.agg #[(.bool was_Has), (.string was_Value)])) rfl ?_)
  intro was h1 eb1 eh2
  have xx3 : Ext h h1 := by rw [eh2]; exact Ext.push _ _
  have lo5 : Array.size h ≤ was := Nat.le_of_eq (Eq.symm eb1)
  have hr4 : h1[was]? = some (.cells #[(.bool was_Has), (.string was_Value)] 40 (0, 0)) := by rw [eh2]; exact push_new eb1
  refine hl_step rfl rfl (hn_box (v := (.agg #[(.int .i64 m_Kind), (.string m_Key), (.string m_Value), (.int .i64 m_Err), (.bool m_Hit), (.int .i64 m_Life), (.int .i64 m_From), (.int .i64 m_To)])) rfl ?_)
  intro m h2 eb6 eh7
  have xx8 : Ext h1 h2 := by rw [eh7]; exact Ext.push _ _
  have ne11 := Nat.ne_of_lt (Nat.lt_of_lt_of_eq (row_lt hr4) (Eq.symm eb6))
  have lo10 : Array.size h ≤ m := Nat.le_trans (Ext.size xx3) (Nat.le_of_eq (Eq.symm eb6))
  have hr9 : h2[m]? = some (.cells #[(.int .i64 m_Kind), (.string m_Key), (.string m_Value), (.int .i64 m_Err), (.bool m_Hit), (.int .i64 m_Life), (.int .i64 m_From), (.int .i64 m_To)] 31 (0, 0)) := by rw [eh7]; exact push_new eb6
  replace hr4 := Ext.row xx8 hr4
  have xv12 := Ext.trans xx3 xx8
  refine hl_val rfl rfl (v := (.slice none 0 0)) (hv_assign rfl) ?_
  refine hl_nil ?_
  refine seqQ_n ?_
  refine hx_seq ?_
  refine hx_region ?_
  refine hl_val rfl rfl (v := (ptr m 2)) (hv_field TyShC.fld31_2 (b := m) (o := 0) rfl) ?_
  refine hl_val rfl rfl (v := (.string m_Value)) (hv_load TyShC.agg9 rfl (rowcell hr9 rfl)) ?_
  refine hl_val rfl rfl (v := (.agg #[(.bool true), (.string m_Value)])) (hv_build (vs := [(0, (.bool true)), (1, (.string m_Value))]) (cs := #[(.bool true), (.string m_Value)]) TyShC.z40 TyShC.pl40 rfl (by kernel_rfl)) ?_
  refine hl_step rfl rfl (hn_alloc TyShC.z40 ?_)
  intro now h3 eb13 eh14
  have xx15 : Ext h2 h3 := by rw [eh14]; exact Ext.push _ _
  have ne18 := Nat.ne_of_lt (Nat.lt_of_lt_of_eq (row_lt hr4) (Eq.symm eb13))
  have ne19 := Nat.ne_of_lt (Nat.lt_of_lt_of_eq (row_lt hr9) (Eq.symm eb13))
  have lo17 : Array.size h ≤ now := Nat.le_trans (Ext.size xv12) (Nat.le_of_eq (Eq.symm eb13))
  have hr16 : h3[now]? = some (.cells #[(.bool false), (.string ByteArray.empty)] 40 (0, 0)) := by rw [eh14]; exact push_new eb13
  replace hr4 := Ext.row xx15 hr4
  replace hr9 := Ext.row xx15 hr9
  have xv20 := Ext.trans xv12 xx15
  refine hl_step rfl rfl (hn_stores (vs := [(.bool true), (.string m_Value)]) rfl rfl TyShC.sz40 rfl (HWs_row hr16 (by simp)) ?_)
  intro h4 eh21
  replace hr4 := row_hsets_ne eh21 ne18 hr4
  replace hr9 := row_hsets_ne eh21 ne19 hr9
  have hr16' : h4[now]? = some (.cells #[(.bool true), (.string m_Value)] 40 (0, 0)) := row_hsets_eq eh21 hr16 rfl
  have xv22 := ext_hsets eh21 xv20 lo17
  refine hl_nil ?_
  refine seqQ_n ?_
  refine hx_seq ?_
  refine hx_seq ?_
  refine hx_region ?_
  refine hl_val rfl rfl (v := (.agg #[(.int .i64 m_Kind), (.string m_Key), (.string m_Value), (.int .i64 m_Err), (.bool m_Hit), (.int .i64 m_Life), (.int .i64 m_From), (.int .i64 m_To)])) (hv_loads (vs := [(.int .i64 m_Kind), (.string m_Key), (.string m_Value), (.int .i64 m_Err), (.bool m_Hit), (.int .i64 m_Life), (.int .i64 m_From), (.int .i64 m_To)]) TyShC.agg31 TyShC.sz31 rfl (hcells_cons (rowcell hr9 rfl) (hcells_cons (rowcell hr9 rfl) (hcells_cons (rowcell hr9 rfl) (hcells_cons (rowcell hr9 rfl) (hcells_cons (rowcell hr9 rfl) (hcells_cons (rowcell hr9 rfl) (hcells_cons (rowcell hr9 rfl) (hcells_cons (rowcell hr9 rfl) hcells_nil))))))))) ?_
  refine hl_step rfl rfl (hs_call TyShC.cb45 (vs := [(.agg #[(.int .i64 m_Kind), (.string m_Key), (.string m_Value), (.int .i64 m_Err), (.bool m_Hit), (.int .i64 m_Life), (.int .i64 m_From), (.int .i64 m_To)])]) rfl (HC.mono (fate_c (⟨m_Kind, m_Key, m_Value, m_Err, m_Hit, m_Life, m_From, m_To⟩) _) ?_))
  rintro _ h5 ⟨rfl, xx23⟩
  replace hr4 := Ext.row xx23 hr4
  replace hr9 := Ext.row xx23 hr9
  replace hr16' := Ext.row xx23 hr16'
  have xv24 := Ext.trans xv22 xx23
  refine hl_nil ?_
  refine seqQ_n ?_
  refine hx_block ?_
  refine hx_seq ?_
  refine hx_region ?_
  refine hl_val rfl rfl (v := (.bool ((Ml.fate ⟨m_Kind, m_Key, m_Value, m_Err, m_Hit, m_Life, m_From, m_To⟩ : Int) == 1))) (hv_arith rfl rfl rfl) ?_
  refine hl_val rfl rfl (v := (.bool ((Ml.fate ⟨m_Kind, m_Key, m_Value, m_Err, m_Hit, m_Life, m_From, m_To⟩ : Int) == 1))) (hv_assign rfl) ?_
  refine hl_nil ?_
  refine seqQ_n ?_
  refine hx_cond (b := (Ml.fate ⟨m_Kind, m_Key, m_Value, m_Err, m_Hit, m_Life, m_From, m_To⟩ : Int) == 1) rfl (fun hb25 => ?_) (fun hb25 => ?_)
  · replace H := H.1 hb25
    refine hx_seq ?_
    refine hx_region ?_
    refine hl_val rfl rfl (v := (.agg #[(.bool true), (.string m_Value)])) (hv_loads (vs := [(.bool true), (.string m_Value)]) TyShC.agg40 TyShC.sz40 rfl (hcells_cons (rowcell hr16' rfl) (hcells_cons (rowcell hr16' rfl) hcells_nil))) ?_
    replace H := H was now h5 lo5 (row_lt hr4) lo17 (row_lt hr16') xv24
    refine hl_step rfl rfl (hn_buildSlice (n := 1) (vs := [(0, (.agg #[(.bool true), (.string m_Value)]))]) (cs := #[(.bool true), (.string m_Value)]) TyShC.u27 TyShC.sz40 TyShC.z40 rfl rfl (by kernel_rfl) ?_)
    intro nb h6 eb26 eh27
    replace H := H nb h6 eb26 eh27
    have xx28 : Ext h5 h6 := by rw [eh27]; exact Ext.push _ _
    replace hr4 := Ext.row xx28 hr4
    replace hr16' := Ext.row xx28 hr16'
    refine hl_val rfl rfl (v := (.slice (some ⟨nb, 0, none⟩) 1 1)) (hv_assign rfl) ?_
    refine hl_nil ?_
    refine seqQ_n ?_
    refine hx_ret ?_
    refine blockQ_ret ?_
    refine seqQ_ret ?_
    exact endQ_ret _ (res_one Try.results40 (rv_tmp rfl)) H
  · replace H := H.2 hb25
    refine hx_seq ?_
    refine hx_region ?_
    refine hl_val rfl rfl (v := (.bool ((Ml.fate ⟨m_Kind, m_Key, m_Value, m_Err, m_Hit, m_Life, m_From, m_To⟩ : Int) == 2))) (hv_arith rfl rfl rfl) ?_
    refine hl_val rfl rfl (v := (.bool ((Ml.fate ⟨m_Kind, m_Key, m_Value, m_Err, m_Hit, m_Life, m_From, m_To⟩ : Int) == 2))) (hv_assign rfl) ?_
    refine hl_nil ?_
    refine seqQ_n ?_
    refine hx_cond (b := (Ml.fate ⟨m_Kind, m_Key, m_Value, m_Err, m_Hit, m_Life, m_From, m_To⟩ : Int) == 2) rfl (fun hb29 => ?_) (fun hb29 => ?_)
    · replace H := H.1 hb29
      refine hx_seq ?_
      refine hx_region ?_
      replace H := H was now h5 lo5 (row_lt hr4) lo17 (row_lt hr16') xv24
      refine hl_step rfl rfl (hs_call TyShC.cb23 (vs := []) rfl (HC.mono H ?_))
      rintro _ h7 ⟨kp30, r, r_n, r_c, rfl, H⟩
      replace hr4 := Kp.row kp30 (by simp) hr4
      replace hr16' := Kp.row kp30 (by simp) hr16'
      refine hl_val rfl rfl (v := (.slice r r_n r_c)) (hv_assign rfl) ?_
      refine hl_nil ?_
      refine seqQ_n ?_
      refine hx_ret ?_
      refine blockQ_ret ?_
      refine seqQ_ret ?_
      exact endQ_ret _ (res_one Try.results40 (rv_tmp rfl)) H
    · replace H := H.2 hb29
      refine hx_seq ?_
      refine hx_region ?_
      refine hl_val rfl rfl (v := (.bool ((Ml.fate ⟨m_Kind, m_Key, m_Value, m_Err, m_Hit, m_Life, m_From, m_To⟩ : Int) == 3))) (hv_arith rfl rfl rfl) ?_
      refine hl_val rfl rfl (v := (.bool ((Ml.fate ⟨m_Kind, m_Key, m_Value, m_Err, m_Hit, m_Life, m_From, m_To⟩ : Int) == 3))) (hv_assign rfl) ?_
      refine hl_nil ?_
      refine seqQ_n ?_
      refine hx_cond (b := (Ml.fate ⟨m_Kind, m_Key, m_Value, m_Err, m_Hit, m_Life, m_From, m_To⟩ : Int) == 3) rfl (fun hb31 => ?_) (fun hb31 => ?_)
      · replace H := H.1 hb31
        refine hx_seq ?_
        refine hx_draw TyShC.mixed [.read, .ext, .read, .ext, .pure] [0, 2, 1, 3, 4] (by kernel_rfl) ?_
        refine hp_read (i := 0) rfl (wanted_0 rfl) rfl (.agg #[(.bool true), (.string m_Value)]) (fun _ he => hv_loads (vs := [(.bool true), (.string m_Value)]) TyShC.agg40 TyShC.sz40 rfl (hcells_cons (Ext.cell he (rowcell hr16' rfl)) (hcells_cons (Ext.cell he (rowcell hr16' rfl)) hcells_nil))) ?_
        refine hp_read (i := 2) rfl (wanted_0 rfl) rfl (.agg #[(.bool was_Has), (.string was_Value)]) (fun _ he => hv_loads (vs := [(.bool was_Has), (.string was_Value)]) TyShC.agg40 TyShC.sz40 rfl (hcells_cons (Ext.cell he (rowcell hr4 rfl)) (hcells_cons (Ext.cell he (rowcell hr4 rfl)) hcells_nil))) ?_
        refine hp_ext (i := 1) rfl (wanted_0 rfl) rfl (hs_call TyShC.cb37 (vs := []) rfl (HC.mono (none_c  _) ?_))
        rintro _ h8 ⟨rfl, xx32⟩
        refine ⟨xx32, ?_⟩
        replace hr4 := Ext.row xx32 hr4
        replace hr9 := Ext.row xx32 hr9
        replace hr16' := Ext.row xx32 hr16'
        have xv33 := Ext.trans xv24 xx32
        replace H := H was h8 lo5 (row_lt hr4) xv33
        refine hp_ext (i := 3) rfl (wanted_0 rfl) rfl (hn_buildSlice (n := 3) (vs := [(0, (.agg #[(.bool true), (.string m_Value)])), (1, (.agg #[(.bool false), (.string ByteArray.empty)])), (2, (.agg #[(.bool was_Has), (.string was_Value)]))]) (cs := #[(.bool true), (.string m_Value), (.bool false), (.string ByteArray.empty), (.bool was_Has), (.string was_Value)]) TyShC.u27 TyShC.sz40 TyShC.z40 rfl rfl (by kernel_rfl) ?_)
        intro nb h9 eb34 eh35
        replace H := H nb h9 eb34 eh35
        have xx36 : Ext h8 h9 := by rw [eh35]; exact Ext.push _ _
        replace hr4 := Ext.row xx36 hr4
        refine ⟨xx36, ?_⟩
        refine hp_pure (i := 4) rfl (wanted_0 rfl) rfl (.slice (some ⟨nb, 0, none⟩) 3 3) (fun _ => hv_assign rfl) ?_
        refine hp_nil ?_
        refine seqQ_n ?_
        refine hx_ret ?_
        refine blockQ_ret ?_
        refine seqQ_ret ?_
        exact endQ_ret _ (res_one Try.results40 (rv_tmp rfl)) H
      · replace H := H.2 hb31
        refine hx_skip ?_
        refine blockQ_n ?_
        refine seqQ_n ?_
        refine hx_seq ?_
        refine hx_region ?_
        refine hl_val rfl rfl (v := (.agg #[(.bool was_Has), (.string was_Value)])) (hv_loads (vs := [(.bool was_Has), (.string was_Value)]) TyShC.agg40 TyShC.sz40 rfl (hcells_cons (rowcell hr4 rfl) (hcells_cons (rowcell hr4 rfl) hcells_nil))) ?_
        replace H := H h5 xv24
        refine hl_step rfl rfl (hn_buildSlice (n := 1) (vs := [(0, (.agg #[(.bool was_Has), (.string was_Value)]))]) (cs := #[(.bool was_Has), (.string was_Value)]) TyShC.u27 TyShC.sz40 TyShC.z40 rfl rfl (by kernel_rfl) ?_)
        intro nb h10 eb37 eh38
        replace H := H nb h10 eb37 eh38
        have xx39 : Ext h5 h10 := by rw [eh38]; exact Ext.push _ _
        refine hl_val rfl rfl (v := (.slice (some ⟨nb, 0, none⟩) 1 1)) (hv_assign rfl) ?_
        refine hl_nil ?_
        refine seqQ_n ?_
        refine hx_ret ?_
        exact endQ_ret _ (res_one Try.results40 (rv_tmp rfl)) H

/-- cellar/model.deletes -/
theorem f41_sh (was_Has : Bool) (was_Value : ByteArray) (m_Kind : Int) (m_Key : ByteArray) (m_Value : ByteArray) (m_Err : Int) (m_Hit : Bool) (m_Life : Int) (m_From : Int) (m_To : Int) (h : Heap) (R : Value → Heap → Prop)
    (H : ((((Ml.fate ⟨m_Kind, m_Key, m_Value, m_Err, m_Hit, m_Life, m_From, m_To⟩ : Int) == 1) = true → (∀ (was : Nat) (h3 : Heap), Array.size h ≤ was → was < Array.size h3 → Ext h h3 → HC Try.prog 23 #[] h3 (fun vv h4 => Kp [was] h3 h4 ∧ ∃ r : Option Addr, ∃ r_n r_c : Nat, vv = (.slice r r_n r_c) ∧ R (.slice r r_n r_c) h4))) ∧ (((Ml.fate ⟨m_Kind, m_Key, m_Value, m_Err, m_Hit, m_Life, m_From, m_To⟩ : Int) == 1) = false → ((((Ml.fate ⟨m_Kind, m_Key, m_Value, m_Err, m_Hit, m_Life, m_From, m_To⟩ : Int) == 3) = true → (∀ (was : Nat) (h5 : Heap), Array.size h ≤ was → was < Array.size h5 → Ext h h5 → (∀ nb h6, nb = Array.size h5 → h6 = Array.push h5 (.cells #[(.bool false), (.string ByteArray.empty), (.bool was_Has), (.string was_Value)] 40) → R (.slice (some ⟨nb, 0, none⟩) 2 2) h6))) ∧ (((Ml.fate ⟨m_Kind, m_Key, m_Value, m_Err, m_Hit, m_Life, m_From, m_To⟩ : Int) == 3) = false → (∀ (h3 : Heap), Ext h h3 → (∀ nb h7, nb = Array.size h3 → h7 = Array.push h3 (.cells #[(.bool was_Has), (.string was_Value)] 40) → R (.slice (some ⟨nb, 0, none⟩) 1 1) h7))))))) :
    HC Try.prog 41 #[(.agg #[(.bool was_Has), (.string was_Value)]), (.agg #[(.int .i64 m_Kind), (.string m_Key), (.string m_Value), (.int .i64 m_Err), (.bool m_Hit), (.int .i64 m_Life), (.int .i64 m_From), (.int .i64 m_To)])] h R := by
  refine hc_of (args := [(.agg #[(.bool was_Has), (.string was_Value)]), (.agg #[(.int .i64 m_Kind), (.string m_Key), (.string m_Value), (.int .i64 m_Err), (.bool m_Hit), (.int .i64 m_Life), (.int .i64 m_From), (.int .i64 m_To)])]) Try.func41 rfl Try.ntmps41 (Nat.le_of_ble_eq_true rfl) ?_
  refine hx_seq ?_
  refine hx_region ?_
  refine hl_step rfl rfl (hn_box (v := (.agg #[(.bool was_Has), (.string was_Value)])) rfl ?_)
  intro was h1 eb1 eh2
  have xx3 : Ext h h1 := by rw [eh2]; exact Ext.push _ _
  have lo5 : Array.size h ≤ was := Nat.le_of_eq (Eq.symm eb1)
  have hr4 : h1[was]? = some (.cells #[(.bool was_Has), (.string was_Value)] 40 (0, 0)) := by rw [eh2]; exact push_new eb1
  refine hl_step rfl rfl (hn_box (v := (.agg #[(.int .i64 m_Kind), (.string m_Key), (.string m_Value), (.int .i64 m_Err), (.bool m_Hit), (.int .i64 m_Life), (.int .i64 m_From), (.int .i64 m_To)])) rfl ?_)
  intro m h2 eb6 eh7
  have xx8 : Ext h1 h2 := by rw [eh7]; exact Ext.push _ _
  have ne11 := Nat.ne_of_lt (Nat.lt_of_lt_of_eq (row_lt hr4) (Eq.symm eb6))
  have lo10 : Array.size h ≤ m := Nat.le_trans (Ext.size xx3) (Nat.le_of_eq (Eq.symm eb6))
  have hr9 : h2[m]? = some (.cells #[(.int .i64 m_Kind), (.string m_Key), (.string m_Value), (.int .i64 m_Err), (.bool m_Hit), (.int .i64 m_Life), (.int .i64 m_From), (.int .i64 m_To)] 31 (0, 0)) := by rw [eh7]; exact push_new eb6
  replace hr4 := Ext.row xx8 hr4
  have xv12 := Ext.trans xx3 xx8
  refine hl_val rfl rfl (v := (.slice none 0 0)) (hv_assign rfl) ?_
  refine hl_nil ?_
  refine seqQ_n ?_
  refine hx_seq ?_
  refine hx_seq ?_
  refine hx_region ?_
  refine hl_val rfl rfl (v := (.agg #[(.int .i64 m_Kind), (.string m_Key), (.string m_Value), (.int .i64 m_Err), (.bool m_Hit), (.int .i64 m_Life), (.int .i64 m_From), (.int .i64 m_To)])) (hv_loads (vs := [(.int .i64 m_Kind), (.string m_Key), (.string m_Value), (.int .i64 m_Err), (.bool m_Hit), (.int .i64 m_Life), (.int .i64 m_From), (.int .i64 m_To)]) TyShC.agg31 TyShC.sz31 rfl (hcells_cons (rowcell hr9 rfl) (hcells_cons (rowcell hr9 rfl) (hcells_cons (rowcell hr9 rfl) (hcells_cons (rowcell hr9 rfl) (hcells_cons (rowcell hr9 rfl) (hcells_cons (rowcell hr9 rfl) (hcells_cons (rowcell hr9 rfl) (hcells_cons (rowcell hr9 rfl) hcells_nil))))))))) ?_
  refine hl_step rfl rfl (hs_call TyShC.cb45 (vs := [(.agg #[(.int .i64 m_Kind), (.string m_Key), (.string m_Value), (.int .i64 m_Err), (.bool m_Hit), (.int .i64 m_Life), (.int .i64 m_From), (.int .i64 m_To)])]) rfl (HC.mono (fate_c (⟨m_Kind, m_Key, m_Value, m_Err, m_Hit, m_Life, m_From, m_To⟩) _) ?_))
  rintro _ h3 ⟨rfl, xx13⟩
  replace hr4 := Ext.row xx13 hr4
  replace hr9 := Ext.row xx13 hr9
  have xv14 := Ext.trans xv12 xx13
  refine hl_nil ?_
  refine seqQ_n ?_
  refine hx_block ?_
  refine hx_seq ?_
  refine hx_region ?_
  refine hl_val rfl rfl (v := (.bool ((Ml.fate ⟨m_Kind, m_Key, m_Value, m_Err, m_Hit, m_Life, m_From, m_To⟩ : Int) == 1))) (hv_arith rfl rfl rfl) ?_
  refine hl_val rfl rfl (v := (.bool ((Ml.fate ⟨m_Kind, m_Key, m_Value, m_Err, m_Hit, m_Life, m_From, m_To⟩ : Int) == 1))) (hv_assign rfl) ?_
  refine hl_nil ?_
  refine seqQ_n ?_
  refine hx_cond (b := (Ml.fate ⟨m_Kind, m_Key, m_Value, m_Err, m_Hit, m_Life, m_From, m_To⟩ : Int) == 1) rfl (fun hb15 => ?_) (fun hb15 => ?_)
  · replace H := H.1 hb15
    refine hx_seq ?_
    refine hx_region ?_
    replace H := H was h3 lo5 (row_lt hr4) xv14
    refine hl_step rfl rfl (hs_call TyShC.cb23 (vs := []) rfl (HC.mono H ?_))
    rintro _ h4 ⟨kp16, r, r_n, r_c, rfl, H⟩
    replace hr4 := Kp.row kp16 (by simp) hr4
    refine hl_val rfl rfl (v := (.slice r r_n r_c)) (hv_assign rfl) ?_
    refine hl_nil ?_
    refine seqQ_n ?_
    refine hx_ret ?_
    refine blockQ_ret ?_
    refine seqQ_ret ?_
    exact endQ_ret _ (res_one Try.results41 (rv_tmp rfl)) H
  · replace H := H.2 hb15
    refine hx_seq ?_
    refine hx_region ?_
    refine hl_val rfl rfl (v := (.bool ((Ml.fate ⟨m_Kind, m_Key, m_Value, m_Err, m_Hit, m_Life, m_From, m_To⟩ : Int) == 3))) (hv_arith rfl rfl rfl) ?_
    refine hl_val rfl rfl (v := (.bool ((Ml.fate ⟨m_Kind, m_Key, m_Value, m_Err, m_Hit, m_Life, m_From, m_To⟩ : Int) == 3))) (hv_assign rfl) ?_
    refine hl_nil ?_
    refine seqQ_n ?_
    refine hx_cond (b := (Ml.fate ⟨m_Kind, m_Key, m_Value, m_Err, m_Hit, m_Life, m_From, m_To⟩ : Int) == 3) rfl (fun hb17 => ?_) (fun hb17 => ?_)
    · replace H := H.1 hb17
      refine hx_seq ?_
      refine hx_draw TyShC.mixed [.ext, .read, .ext, .pure] [1, 0, 2, 3] (by kernel_rfl) ?_
      refine hp_read (i := 1) rfl (wanted_0 rfl) rfl (.agg #[(.bool was_Has), (.string was_Value)]) (fun _ he => hv_loads (vs := [(.bool was_Has), (.string was_Value)]) TyShC.agg40 TyShC.sz40 rfl (hcells_cons (Ext.cell he (rowcell hr4 rfl)) (hcells_cons (Ext.cell he (rowcell hr4 rfl)) hcells_nil))) ?_
      refine hp_ext (i := 0) rfl (wanted_0 rfl) rfl (hs_call TyShC.cb37 (vs := []) rfl (HC.mono (none_c  _) ?_))
      rintro _ h5 ⟨rfl, xx18⟩
      refine ⟨xx18, ?_⟩
      replace hr4 := Ext.row xx18 hr4
      replace hr9 := Ext.row xx18 hr9
      have xv19 := Ext.trans xv14 xx18
      replace H := H was h5 lo5 (row_lt hr4) xv19
      refine hp_ext (i := 2) rfl (wanted_0 rfl) rfl (hn_buildSlice (n := 2) (vs := [(0, (.agg #[(.bool false), (.string ByteArray.empty)])), (1, (.agg #[(.bool was_Has), (.string was_Value)]))]) (cs := #[(.bool false), (.string ByteArray.empty), (.bool was_Has), (.string was_Value)]) TyShC.u27 TyShC.sz40 TyShC.z40 rfl rfl (by kernel_rfl) ?_)
      intro nb h6 eb20 eh21
      replace H := H nb h6 eb20 eh21
      have xx22 : Ext h5 h6 := by rw [eh21]; exact Ext.push _ _
      replace hr4 := Ext.row xx22 hr4
      refine ⟨xx22, ?_⟩
      refine hp_pure (i := 3) rfl (wanted_0 rfl) rfl (.slice (some ⟨nb, 0, none⟩) 2 2) (fun _ => hv_assign rfl) ?_
      refine hp_nil ?_
      refine seqQ_n ?_
      refine hx_ret ?_
      refine blockQ_ret ?_
      refine seqQ_ret ?_
      exact endQ_ret _ (res_one Try.results41 (rv_tmp rfl)) H
    · replace H := H.2 hb17
      refine hx_skip ?_
      refine blockQ_n ?_
      refine seqQ_n ?_
      refine hx_seq ?_
      refine hx_region ?_
      refine hl_val rfl rfl (v := (.agg #[(.bool was_Has), (.string was_Value)])) (hv_loads (vs := [(.bool was_Has), (.string was_Value)]) TyShC.agg40 TyShC.sz40 rfl (hcells_cons (rowcell hr4 rfl) (hcells_cons (rowcell hr4 rfl) hcells_nil))) ?_
      replace H := H h3 xv14
      refine hl_step rfl rfl (hn_buildSlice (n := 1) (vs := [(0, (.agg #[(.bool was_Has), (.string was_Value)]))]) (cs := #[(.bool was_Has), (.string was_Value)]) TyShC.u27 TyShC.sz40 TyShC.z40 rfl rfl (by kernel_rfl) ?_)
      intro nb h7 eb23 eh24
      replace H := H nb h7 eb23 eh24
      have xx25 : Ext h3 h7 := by rw [eh24]; exact Ext.push _ _
      refine hl_val rfl rfl (v := (.slice (some ⟨nb, 0, none⟩) 1 1)) (hv_assign rfl) ?_
      refine hl_nil ?_
      refine seqQ_n ?_
      refine hx_ret ?_
      exact endQ_ret _ (res_one Try.results41 (rv_tmp rfl)) H

/-- cellar/model.Start -/
theorem f23_sh  (h : Heap) (R : Value → Heap → Prop)
    (H : (∀ (h1 : Heap), Ext h h1 → (∀ nb h2, nb = Array.size h1 → h2 = Array.push h1 (.cells #[(.bool false), (.string ByteArray.empty)] 40) → R (.slice (some ⟨nb, 0, none⟩) 1 1) h2))) :
    HC Try.prog 23 #[] h R := by
  refine hc_of (args := []) Try.func23 rfl Try.ntmps23 (Nat.le_of_ble_eq_true rfl) ?_
  refine hx_seq ?_
  refine hx_region ?_
  refine hl_val rfl rfl (v := (.slice none 0 0)) (hv_assign rfl) ?_
  refine hl_nil ?_
  refine seqQ_n ?_
  refine hx_seq ?_
  refine hx_region ?_
  refine hl_step rfl rfl (hs_call TyShC.cb37 (vs := []) rfl (HC.mono (none_c  _) ?_))
  rintro _ h1 ⟨rfl, xx1⟩
  replace H := H h1 xx1
  refine hl_step rfl rfl (hn_buildSlice (n := 1) (vs := [(0, (.agg #[(.bool false), (.string ByteArray.empty)]))]) (cs := #[(.bool false), (.string ByteArray.empty)]) TyShC.u27 TyShC.sz40 TyShC.z40 rfl rfl (by kernel_rfl) ?_)
  intro nb h2 eb2 eh3
  replace H := H nb h2 eb2 eh3
  have xx4 : Ext h1 h2 := by rw [eh3]; exact Ext.push _ _
  refine hl_val rfl rfl (v := (.slice (some ⟨nb, 0, none⟩) 1 1)) (hv_assign rfl) ?_
  refine hl_nil ?_
  refine seqQ_n ?_
  refine hx_ret ?_
  exact endQ_ret _ (res_one Try.results23 (rv_tmp rfl)) H

/-- cellar/cellarref23.Start -/
theorem f27_sh  (h : Heap) (R : Value → Heap → Prop)
    (H : (∀ nb h1, nb = Array.size h → h1 = Array.push h (.cells #[(.bool false), (.string ByteArray.empty)] 40) → R (.slice (some ⟨nb, 0, none⟩) 1 1) h1)) :
    HC Try.prog 27 #[] h R := by
  refine hc_of (args := []) Try.func27 rfl Try.ntmps27 (Nat.le_of_ble_eq_true rfl) ?_
  refine hx_seq ?_
  refine hx_region ?_
  refine hl_val rfl rfl (v := (.slice none 0 0)) (hv_assign rfl) ?_
  refine hl_nil ?_
  refine seqQ_n ?_
  refine hx_seq ?_
  refine hx_region ?_
  refine hl_val rfl rfl (v := (.agg #[(.bool false), (.string ByteArray.empty)])) (hv_build (vs := []) (cs := #[(.bool false), (.string ByteArray.empty)]) TyShC.z40 TyShC.pl40 rfl (by kernel_rfl)) ?_
  refine hl_step rfl rfl (hn_buildSlice (n := 1) (vs := [(0, (.agg #[(.bool false), (.string ByteArray.empty)]))]) (cs := #[(.bool false), (.string ByteArray.empty)]) TyShC.u27 TyShC.sz40 TyShC.z40 rfl rfl (by kernel_rfl) ?_)
  intro nb h1 eb1 eh2
  replace H := H nb h1 eb1 eh2
  have xx3 : Ext h h1 := by rw [eh2]; exact Ext.push _ _
  refine hl_val rfl rfl (v := (.slice (some ⟨nb, 0, none⟩) 1 1)) (hv_assign rfl) ?_
  refine hl_nil ?_
  refine seqQ_n ?_
  refine hx_ret ?_
  exact endQ_ret _ (res_one Try.results27 (rv_tmp rfl)) H

/-- cellar/model.kinds -/
theorem f30_sh  (h : Heap) (R : Value → Heap → Prop)
    (H : (∀ mb h1, mb = Array.size h → Ext h h1 → Array.size h1 = Array.size h + 1 → MapL h1 mb (Value.int .i64) [] → (∃ kv : List (Int × Value), MapL h1 mb (Value.int .i64) kv ∧ ∀ h2, Only mb h1 h2 → MapL h2 mb (Value.int .i64) (kput kv 1 (.func (.func 39) #[] #[])) → (∃ kv_1 : List (Int × Value), MapL h2 mb (Value.int .i64) kv_1 ∧ ∀ h3, Only mb h2 h3 → MapL h3 mb (Value.int .i64) (kput kv_1 2 (.func (.func 40) #[] #[])) → (∃ kv_2 : List (Int × Value), MapL h3 mb (Value.int .i64) kv_2 ∧ ∀ h4, Only mb h3 h4 → MapL h4 mb (Value.int .i64) (kput kv_2 3 (.func (.func 41) #[] #[])) → R (.map (some mb)) h4))))) :
    HC Try.prog 30 #[] h R := by
  refine hc_of (args := []) Try.func30 rfl Try.ntmps30 (Nat.le_of_ble_eq_true rfl) ?_
  refine hx_seq ?_
  refine hx_region ?_
  refine hl_val rfl rfl (v := (.map none)) (hv_assign rfl) ?_
  refine hl_nil ?_
  refine seqQ_n ?_
  refine hx_seq ?_
  refine hx_region ?_
  refine hl_step rfl rfl (hn_makeMap (enc := (Value.int .i64)) ?_)
  intro mb h1 eb1 ex2 ez3 mm4
  replace H := H mb h1 eb1 ex2 ez3 mm4
  obtain ⟨kv, mm5, H⟩ := H
  refine hl_step rfl rfl (hn_mapIns (l := kv) (a := 1) (intK .i64) TyShC.u54 TyShC.u3 rfl rfl rfl mm5 ?_)
  intro h2 on6 mm7
  replace H := H h2 on6 mm7
  obtain ⟨kv_1, mm8, H⟩ := H
  refine hl_step rfl rfl (hn_mapIns (l := kv_1) (a := 2) (intK .i64) TyShC.u54 TyShC.u3 rfl rfl rfl mm8 ?_)
  intro h3 on9 mm10
  replace H := H h3 on9 mm10
  obtain ⟨kv_2, mm11, H⟩ := H
  refine hl_step rfl rfl (hn_mapIns (l := kv_2) (a := 3) (intK .i64) TyShC.u54 TyShC.u3 rfl rfl rfl mm11 ?_)
  intro h4 on12 mm13
  replace H := H h4 on12 mm13
  refine hl_val rfl rfl (v := (.map (some mb))) (hv_move rfl) ?_
  refine hl_val rfl rfl (v := (.map (some mb))) (hv_assign rfl) ?_
  refine hl_nil ?_
  refine seqQ_n ?_
  refine hx_ret ?_
  exact endQ_ret _ (res_one Try.results30 (rv_tmp rfl)) H

/-- cellar/cellarlaw23.same -/
theorem f13_sh (a : Option Addr) (a_n : Nat) (a_c : Nat) (b : Option Addr) (b_n : Nat) (b_c : Nat) (h : Heap) (R : Value → Heap → Prop)
    (H : ((((a_n : Int) != (b_n : Int)) = true → R (.bool false) h) ∧ (((a_n : Int) != (b_n : Int)) = false → (∃ (I2 : Int → Prop) (mu3 : Int → Nat), I2 0 ∧ (∀ (i : Int), I2 i → (((decide (i < (a_n : Int))) = true → (∃ a_b a_o : Nat, a = some ⟨a_b, a_o, none⟩ ∧ (0 : Int) ≤ i ∧ i < (a_n : Int) ∧ (∃ x_Has : Bool, ∃ x_Value : ByteArray, hcell h a_b (a_o + (Int.toNat i) * 2) = some (.bool x_Has) ∧ hcell h a_b ((a_o + (Int.toNat i) * 2) + 1) = some (.string x_Value) ∧ (∃ b_b b_o : Nat, b = some ⟨b_b, b_o, none⟩ ∧ (0 : Int) ≤ i ∧ i < (b_n : Int) ∧ (∃ x_Has_1 : Bool, ∃ x_Value_1 : ByteArray, hcell h b_b (b_o + (Int.toNat i) * 2) = some (.bool x_Has_1) ∧ hcell h b_b ((b_o + (Int.toNat i) * 2) + 1) = some (.string x_Value_1) ∧ (((!((x_Has == x_Has_1 && (x_Value == x_Value_1 && true)))) = true → R (.bool false) h) ∧ ((!((x_Has == x_Has_1 && (x_Value == x_Value_1 && true)))) = false → (I2 (IntKind.i64.wrap (i + 1)) ∧ mu3 (IntKind.i64.wrap (i + 1)) < mu3 i)))))))) ∧ ((decide (i < (a_n : Int))) = false → R (.bool true) h))))))) :
    HC Try.prog 13 #[(.slice a a_n a_c), (.slice b b_n b_c)] h R := by
  refine hc_of (args := [(.slice a a_n a_c), (.slice b b_n b_c)]) Try.func13 rfl Try.ntmps13 (Nat.le_of_ble_eq_true rfl) ?_
  refine hx_seq ?_
  refine hx_region ?_
  refine hl_val rfl rfl (v := (.bool false)) (hv_assign rfl) ?_
  refine hl_nil ?_
  refine seqQ_n ?_
  refine hx_seq ?_
  refine hx_seq ?_
  refine hx_region ?_
  refine hl_val rfl rfl (v := (.slice a a_n a_c)) (hv_move rfl) ?_
  refine hl_val rfl rfl (v := (.int .i64 (a_n : Int))) (hv_len (n := a_n) TyShC.u27 rfl) ?_
  refine hl_val rfl rfl (v := (.slice b b_n b_c)) (hv_move rfl) ?_
  refine hl_val rfl rfl (v := (.int .i64 (b_n : Int))) (hv_len (n := b_n) TyShC.u27 rfl) ?_
  refine hl_val rfl rfl (v := (.bool ((a_n : Int) != (b_n : Int)))) (hv_arith rfl rfl rfl) ?_
  refine hl_nil ?_
  refine seqQ_n ?_
  refine hx_cond (b := (a_n : Int) != (b_n : Int)) rfl (fun hb1 => ?_) (fun hb1 => ?_)
  · replace H := H.1 hb1
    refine hx_seq ?_
    refine hx_region ?_
    refine hl_val rfl rfl (v := (.bool false)) (hv_assign rfl) ?_
    refine hl_nil ?_
    refine seqQ_n ?_
    refine hx_ret ?_
    refine seqQ_ret ?_
    exact endQ_ret _ (res_one Try.results13 (rv_tmp rfl)) H
  · replace H := H.2 hb1
    refine hx_skip ?_
    refine seqQ_n ?_
    refine hx_seq ?_
    refine hx_seq ?_
    refine hx_region ?_
    refine hl_val rfl rfl (v := (.int .i64 0)) (hv_assign rfl) ?_
    refine hl_nil ?_
    refine seqQ_n ?_
    refine hx_block ?_
    obtain ⟨I2, mu3, Ha4, Hr5⟩ := H
    refine hx_loopT (σ := Int) (fun s => [(0, (.slice a a_n a_c)), (1, (.slice b b_n b_c)), (5, (.int .i64 s))]) (fun s h' => I2 s ∧ h = h') (fun s _ => mu3 s) 0 ⟨Ha4, rfl⟩ (has_cons rfl (has_cons rfl (has_cons rfl has_nil))) ?_
    rintro i ρ _ ⟨Hi6, rfl⟩
    have H := Hr5 i Hi6
    refine hx_seq ?_
    refine hx_seq ?_
    refine hx_region ?_
    refine hl_val rfl rfl (v := (.int .i64 i)) (hv_move rfl) ?_
    refine hl_val rfl rfl (v := (.slice a a_n a_c)) (hv_move rfl) ?_
    refine hl_val rfl rfl (v := (.int .i64 (a_n : Int))) (hv_len (n := a_n) TyShC.u27 rfl) ?_
    refine hl_val rfl rfl (v := (.bool (decide (i < (a_n : Int))))) (hv_arith rfl rfl rfl) ?_
    refine hl_nil ?_
    refine seqQ_n ?_
    refine hx_cond (b := decide (i < (a_n : Int))) rfl (fun hb7 => ?_) (fun hb7 => ?_)
    · replace H := H.1 hb7
      refine hx_skip ?_
      refine seqQ_n ?_
      refine hx_seq ?_
      refine hx_block ?_
      refine hx_seq ?_
      refine hx_draw TyShC.mixed [.pure, .pure, .pure, .read, .pure, .pure, .pure, .read, .pure] [0, 1, 2, 3, 4, 5, 6, 7, 8] (by kernel_rfl) ?_
      refine hp_pure (i := 0) rfl (wanted_0 rfl) rfl (.slice a a_n a_c) (fun _ => hv_move rfl) ?_
      refine hp_pure (i := 1) rfl (wanted_0 rfl) rfl (.int .i64 i) (fun _ => hv_move rfl) ?_
      obtain ⟨a_b, a_o, hqe, hi8, hi9, Hq⟩ := H
      subst hqe
      have H := Hq; clear Hq
      refine hp_pure (i := 2) rfl (wanted_0 rfl) rfl (ptr a_b (a_o + (Int.toNat i) * 2)) (fun _ => hv_index TyShC.el27 rfl rfl hi8 hi9) ?_
      obtain ⟨x_Has, x_Value, hc15, hc16, H⟩ := H
      refine hp_read (i := 3) rfl (wanted_0 rfl) rfl (.agg #[(.bool x_Has), (.string x_Value)]) (fun _ he => hv_loads (vs := [(.bool x_Has), (.string x_Value)]) TyShC.agg40 TyShC.sz40 rfl (hcells_cons (Ext.cell he hc15) (hcells_cons (Ext.cell he hc16) hcells_nil))) ?_
      refine hp_pure (i := 4) rfl (wanted_0 rfl) rfl (.slice b b_n b_c) (fun _ => hv_move rfl) ?_
      refine hp_pure (i := 5) rfl (wanted_0 rfl) rfl (.int .i64 i) (fun _ => hv_move rfl) ?_
      obtain ⟨b_b, b_o, hqe, hi10, hi11, Hq⟩ := H
      subst hqe
      have H := Hq; clear Hq
      refine hp_pure (i := 6) rfl (wanted_0 rfl) rfl (ptr b_b (b_o + (Int.toNat i) * 2)) (fun _ => hv_index TyShC.el27 rfl rfl hi10 hi11) ?_
      obtain ⟨x_Has_1, x_Value_1, hc13, hc14, H⟩ := H
      refine hp_read (i := 7) rfl (wanted_0 rfl) rfl (.agg #[(.bool x_Has_1), (.string x_Value_1)]) (fun _ he => hv_loads (vs := [(.bool x_Has_1), (.string x_Value_1)]) TyShC.agg40 TyShC.sz40 rfl (hcells_cons (Ext.cell he hc13) (hcells_cons (Ext.cell he hc14) hcells_nil))) ?_
      refine hp_pure (i := 8) rfl (wanted_0 rfl) rfl (.bool (!((x_Has == x_Has_1 && (x_Value == x_Value_1 && true))))) (fun _ => hv_structEq (xs := [(.bool x_Has), (.string x_Value)]) (ys := [(.bool x_Has_1), (.string x_Value_1)]) (b := (x_Has == x_Has_1 && (x_Value == x_Value_1 && true))) TyShC.se40 rfl rfl (by kernel_rfl) rfl) ?_
      refine hp_nil ?_
      refine seqQ_n ?_
      refine hx_cond (b := !((x_Has == x_Has_1 && (x_Value == x_Value_1 && true)))) rfl (fun hb12 => ?_) (fun hb12 => ?_)
      · replace H := H.1 hb12
        refine hx_seq ?_
        refine hx_region ?_
        refine hl_val rfl rfl (v := (.bool false)) (hv_assign rfl) ?_
        refine hl_nil ?_
        refine seqQ_n ?_
        refine hx_ret ?_
        refine blockQ_ret ?_
        refine seqQ_ret ?_
        refine seqQ_ret ?_
        refine blockQ_ret ?_
        refine seqQ_ret ?_
        exact endQ_ret _ (res_one Try.results13 (rv_tmp rfl)) H
      · replace H := H.2 hb12
        refine hx_skip ?_
        refine blockQ_n ?_
        refine seqQ_n ?_
        refine hx_region ?_
        refine hl_val rfl rfl (v := (.int .i64 i)) (hv_move rfl) ?_
        refine hl_val rfl rfl (v := (.int .i64 (IntKind.i64.wrap (i + 1)))) (hv_arith rfl rfl rfl) ?_
        refine hl_val rfl rfl (v := (.int .i64 (IntKind.i64.wrap (i + 1)))) (hv_assign rfl) ?_
        refine hl_nil ?_
        refine seqQ_n ?_
        exact ⟨IntKind.i64.wrap (i + 1), ⟨⟨H.1, rfl⟩, H.2⟩, (has_cons rfl (has_cons rfl (has_cons rfl has_nil)))⟩
    · replace H := H.2 hb7
      refine hx_exit ?_
      refine seqQ_exit ?_
      refine seqQ_exit ?_
      refine blockQ_here ?_
      refine seqQ_n ?_
      refine hx_seq ?_
      refine hx_region ?_
      refine hl_val rfl rfl (v := (.bool true)) (hv_assign rfl) ?_
      refine hl_nil ?_
      refine seqQ_n ?_
      refine hx_ret ?_
      exact endQ_ret _ (res_one Try.results13 (rv_tmp rfl)) H

/-- cellar/cellarref23.With -/
theorem f18_sh (l : Option Addr) (l_n : Nat) (l_c : Nat) (m_Has : Bool) (m_Value : ByteArray) (h : Heap) (R : Value → Heap → Prop)
    (H : (∃ (I15 : Int → Prop) (mu16 : Int → Nat), I15 0 ∧ (∀ (i : Int), I15 i → (∃ j : Bool, (((decide (i < (l_n : Int))) = true → (∃ l_b l_o : Nat, l = some ⟨l_b, l_o, none⟩ ∧ (0 : Int) ≤ i ∧ i < (l_n : Int) ∧ (∃ x_Has : Bool, ∃ x_Value : ByteArray, hcell h l_b (l_o + (Int.toNat i) * 2) = some (.bool x_Has) ∧ hcell h l_b ((l_o + (Int.toNat i) * 2) + 1) = some (.string x_Value) ∧ (j = (Ml.mlt ⟨x_Has, x_Value⟩ ⟨m_Has, (bif !m_Has then ByteArray.empty else m_Value)⟩))))) ∧ ((decide (i < (l_n : Int))) = false → (j = false))) ∧ ((j = true → (I15 (IntKind.i64.wrap (i + 1)) ∧ mu16 (IntKind.i64.wrap (i + 1)) < mu16 i)) ∧ (j = false → (∃ j_1 : Bool, (((decide (i < (l_n : Int))) = true → (∃ l_b_1 l_o_1 : Nat, l = some ⟨l_b_1, l_o_1, none⟩ ∧ (0 : Int) ≤ i ∧ i < (l_n : Int) ∧ (∃ x_Has_1 : Bool, ∃ x_Value_1 : ByteArray, hcell h l_b_1 (l_o_1 + (Int.toNat i) * 2) = some (.bool x_Has_1) ∧ hcell h l_b_1 ((l_o_1 + (Int.toNat i) * 2) + 1) = some (.string x_Value_1) ∧ (j_1 = ((x_Has_1 == m_Has && (x_Value_1 == (bif !m_Has then ByteArray.empty else m_Value) && true))))))) ∧ ((decide (i < (l_n : Int))) = false → (j_1 = false))) ∧ ((j_1 = true → (∀ (h5 : Heap), Ext h h5 → R (.slice l l_n l_c) h5)) ∧ (j_1 = false → (∀ (m : Nat) (h5 : Heap), Array.size h ≤ m → m < Array.size h5 → Ext h h5 → (∀ nb h7, nb = Array.size h5 → h7 = Array.push h5 (.cells #[] 40) → (0 ≤ (0 : Int) ∧ 0 ≤ i ∧ i ≤ (l_c : Int) ∧ ∀ sl : Option Addr, sl = slA l (Int.toNat 0) 2 l_c → HAppend Try.prog 27 27 (.slice (some ⟨nb, 0, none⟩) 0 0) (.slice sl (Int.toNat i - Int.toNat 0) (l_c - Int.toNat 0)) h7 (fun vv h8 => Kp [m] h7 h8 ∧ ∃ ap : Option Addr, ∃ ap_n ap_c : Nat, vv = (.slice ap ap_n ap_c) ∧ (∀ nb_1 h9, nb_1 = Array.size h8 → h9 = Array.push h8 (.cells #[(.bool m_Has), (.string (bif !m_Has then ByteArray.empty else m_Value))] 40) → HAppend Try.prog 27 27 (.slice ap ap_n ap_c) (.slice (some ⟨nb_1, 0, none⟩) 1 1) h9 (fun vv h10 => ∃ ap_1 : Option Addr, ∃ ap_n_1 ap_c_1 : Nat, vv = (.slice ap_1 ap_n_1 ap_c_1) ∧ (0 ≤ (i : Int) ∧ i ≤ (l_n : Int) ∧ (l_n : Int) ≤ (l_c : Int) ∧ ∀ sl_1 : Option Addr, sl_1 = slA l (Int.toNat i) 2 l_c → HAppend Try.prog 27 27 (.slice ap_1 ap_n_1 ap_c_1) (.slice sl_1 (Int.toNat (l_n : Int) - Int.toNat i) (l_c - Int.toNat i)) h10 (fun vv h11 => ∃ ap_2 : Option Addr, ∃ ap_n_2 ap_c_2 : Nat, vv = (.slice ap_2 ap_n_2 ap_c_2) ∧ R (.slice ap_2 ap_n_2 ap_c_2) h11))))))))))))))))) :
    HC Try.prog 18 #[(.slice l l_n l_c), (.agg #[(.bool m_Has), (.string m_Value)])] h R := by
  refine hc_of (args := [(.slice l l_n l_c), (.agg #[(.bool m_Has), (.string m_Value)])]) Try.func18 rfl Try.ntmps18 (Nat.le_of_ble_eq_true rfl) ?_
  refine hx_seq ?_
  refine hx_region ?_
  refine hl_step rfl rfl (hn_box (v := (.agg #[(.bool m_Has), (.string m_Value)])) rfl ?_)
  intro m h1 eb1 eh2
  have xx3 : Ext h h1 := by rw [eh2]; exact Ext.push _ _
  have lo5 : Array.size h ≤ m := Nat.le_of_eq (Eq.symm eb1)
  have hr4 : h1[m]? = some (.cells #[(.bool m_Has), (.string m_Value)] 40 (0, 0)) := by rw [eh2]; exact push_new eb1
  refine hl_val rfl rfl (v := (.slice none 0 0)) (hv_assign rfl) ?_
  refine hl_nil ?_
  refine seqQ_n ?_
  refine hx_cut (fun ρ h' => (Ext h h' ∧ h'[m]? = some (.cells #[(.bool m_Has), (.string (bif !m_Has then ByteArray.empty else m_Value))] 40 (0, 0)) ∧ True) ∧ Has ρ [(0, (.slice l l_n l_c)), (3, (ptr m 0))]) ?_ ?_
  · refine hx_seq ?_
    refine hx_region ?_
    refine hl_val rfl rfl (v := (ptr m 0)) (hv_field TyShC.fld40_0 (b := m) (o := 0) rfl) ?_
    refine hl_val rfl rfl (v := (.bool m_Has)) (hv_load TyShC.agg4 rfl (rowcell hr4 rfl)) ?_
    refine hl_val rfl rfl (v := (.bool (!m_Has))) (hv_not (b := m_Has) rfl) ?_
    refine hl_nil ?_
    refine seqQ_n ?_
    refine hx_cond (b := !m_Has) rfl (fun hb10 => ?_) (fun hb10 => ?_)
    · refine hx_region ?_
      refine hl_val rfl rfl (v := (ptr m 1)) (hv_field TyShC.fld40_1 (b := m) (o := 0) rfl) ?_
      refine hl_step rfl rfl (hn_store (v := (.string ByteArray.empty)) rfl rfl TyShC.sz9 rfl (HW_row hr4 (by simp)) ?_)
      intro h3 eh11
      have hr4' : h3[m]? = some (.cells #[(.bool m_Has), (.string ByteArray.empty)] 40 (0, 0)) := row_hset_eq eh11 hr4 rfl
      have xv12 := ext_hset eh11 xx3 lo5
      refine hl_nil ?_
      refine seqQ_n ?_
      exact ⟨⟨xv12, (row_congr hr4' (by first | rfl | simp [hb10])), trivial⟩, (has_cons rfl (has_cons rfl has_nil))⟩
    · refine hx_skip ?_
      refine seqQ_n ?_
      exact ⟨⟨xx3, (row_congr hr4 (by first | rfl | simp [hb10])), trivial⟩, (has_cons rfl (has_cons rfl has_nil))⟩
  · rintro ρ h2 ⟨⟨xv8, hr9, -⟩, hH⟩
    refine hx_has _ hH ?_
    refine hx_seq ?_
    refine hx_region ?_
    refine hl_val rfl rfl (v := (.int .i64 0)) (hv_assign rfl) ?_
    refine hl_nil ?_
    refine seqQ_n ?_
    refine hx_seq ?_
    refine hx_block ?_
    obtain ⟨I15, mu16, Ha17, Hr18⟩ := H
    refine hx_loopT (σ := Int) (fun s => [(0, (.slice l l_n l_c)), (3, (ptr m 0)), (5, (.int .i64 s))]) (fun s h' => I15 s ∧ Ext h h' ∧ h'[m]? = some (.cells #[(.bool m_Has), (.string (bif !m_Has then ByteArray.empty else m_Value))] 40 (0, 0)) ∧ True) (fun s _ => mu16 s) 0 ⟨Ha17, xv8, hr9, trivial⟩ (has_cons rfl (has_cons rfl (has_cons rfl has_nil))) ?_
    rintro i ρ h4 ⟨Hi19, xv13, hr14, -⟩
    have H := Hr18 i Hi19
    refine hx_seq ?_
    obtain ⟨j, Hx20, Hy21⟩ := H
    refine hx_cut (fun ρ h' => (Ext h h' ∧ h'[m]? = some (.cells #[(.bool m_Has), (.string (bif !m_Has then ByteArray.empty else m_Value))] 40 (0, 0)) ∧ True) ∧ Has ρ [(0, (.slice l l_n l_c)), (3, (ptr m 0)), (5, (.int .i64 i)), (22, (.bool j))]) ?_ ?_
    · have H := Hx20; clear Hx20 Hy21
      refine hx_draw TyShC.mixed [.pure, .pure, .pure, .pure, .pure, .pure, .pure, .pure, .read, .read, .ext, .pure] [0, 1, 2, 3, 4, 5, 6, 7, 8, 9, 10, 11] (by kernel_rfl) ?_
      refine hp_pure (i := 0) rfl (wanted_0 rfl) rfl (.int .i64 i) (fun _ => hv_move rfl) ?_
      refine hp_pure (i := 1) rfl (wanted_0 rfl) rfl (.slice l l_n l_c) (fun _ => hv_move rfl) ?_
      refine hp_pure (i := 2) rfl (wanted_0 rfl) rfl (.int .i64 (l_n : Int)) (fun _ => hv_len (n := l_n) TyShC.u27 rfl) ?_
      refine hp_pure (i := 3) rfl (wanted_0 rfl) rfl (.bool (decide (i < (l_n : Int)))) (fun _ => hv_arith rfl rfl rfl) ?_
      refine hp_pure (i := 4) rfl (wanted_0 rfl) rfl (.bool (decide (i < (l_n : Int)))) (fun _ => hv_move rfl) ?_
      rcases bool_or (decide (i < (l_n : Int))) with hg24 | hg24
      · replace H := H.1 hg24
        refine hp_pure (i := 5) rfl (wanted_y rfl rfl rfl hg24) rfl (.slice l l_n l_c) (fun _ => hv_move rfl) ?_
        refine hp_pure (i := 6) rfl (wanted_y rfl rfl rfl hg24) rfl (.int .i64 i) (fun _ => hv_move rfl) ?_
        obtain ⟨l_b, l_o, hqe, hi25, hi26, Hq⟩ := H
        subst hqe
        have H := Hq; clear Hq
        refine hp_pure (i := 7) rfl (wanted_y rfl rfl rfl hg24) rfl (ptr l_b (l_o + (Int.toNat i) * 2)) (fun _ => hv_index TyShC.el27 rfl rfl hi25 hi26) ?_
        obtain ⟨x_Has, x_Value, hc29, hc30, H⟩ := H
        refine hp_read (i := 8) rfl (wanted_y rfl rfl rfl hg24) rfl (.agg #[(.bool x_Has), (.string x_Value)]) (fun _ he => hv_loads (vs := [(.bool x_Has), (.string x_Value)]) TyShC.agg40 TyShC.sz40 rfl (hcells_cons (Ext.cell he (Ext.cell xv13 hc29)) (hcells_cons (Ext.cell he (Ext.cell xv13 hc30)) hcells_nil))) ?_
        refine hp_read (i := 9) rfl (wanted_y rfl rfl rfl hg24) rfl (.agg #[(.bool m_Has), (.string (bif !m_Has then ByteArray.empty else m_Value))]) (fun _ he => hv_loads (vs := [(.bool m_Has), (.string (bif !m_Has then ByteArray.empty else m_Value))]) TyShC.agg40 TyShC.sz40 rfl (hcells_cons (Ext.cell he (rowcell hr14 rfl)) (hcells_cons (Ext.cell he (rowcell hr14 rfl)) hcells_nil))) ?_
        refine hp_ext (i := 10) rfl (wanted_y rfl rfl rfl hg24) rfl (hs_call TyShC.cb29 (vs := [(.agg #[(.bool x_Has), (.string x_Value)]), (.agg #[(.bool m_Has), (.string (bif !m_Has then ByteArray.empty else m_Value))])]) rfl (HC.mono (before_c (⟨x_Has, x_Value⟩) (⟨m_Has, (bif !m_Has then ByteArray.empty else m_Value)⟩) _) ?_))
        rintro _ h6 ⟨rfl, xx27⟩
        refine ⟨xx27, ?_⟩
        replace hr14 := Ext.row xx27 hr14
        have xv28 := Ext.trans xv13 xx27
        refine hp_pure (i := 11) rfl (wanted_0 rfl) rfl (.bool (Ml.mlt ⟨x_Has, x_Value⟩ ⟨m_Has, (bif !m_Has then ByteArray.empty else m_Value)⟩)) (fun _ => hv_pick_t rfl hg24 rfl) ?_
        refine hp_nil ?_
        refine seqQ_n ?_
        obtain rfl := H
        exact ⟨⟨xv28, hr14, trivial⟩, (has_cons rfl (has_cons rfl (has_cons rfl (has_cons rfl has_nil))))⟩
      · replace H := H.2 hg24
        refine hp_no (i := 5) rfl (wanted_n rfl rfl rfl hg24) ?_
        refine hp_no (i := 6) rfl (wanted_n rfl rfl rfl hg24) ?_
        refine hp_no (i := 7) rfl (wanted_n rfl rfl rfl hg24) ?_
        refine hp_no (i := 8) rfl (wanted_n rfl rfl rfl hg24) ?_
        refine hp_no (i := 9) rfl (wanted_n rfl rfl rfl hg24) ?_
        refine hp_no (i := 10) rfl (wanted_n rfl rfl rfl hg24) ?_
        refine hp_pure (i := 11) rfl (wanted_0 rfl) rfl (.bool false) (fun _ => hv_pick_f rfl hg24 rfl) ?_
        refine hp_nil ?_
        refine seqQ_n ?_
        obtain rfl := H
        exact ⟨⟨xv13, hr14, trivial⟩, (has_cons rfl (has_cons rfl (has_cons rfl (has_cons rfl has_nil))))⟩
    · have H := Hy21; clear Hx20 Hy21
      rintro ρ h5 ⟨⟨xv22, hr23, -⟩, hH⟩
      refine hx_has _ hH ?_
      refine hx_cond (b := j) rfl (fun hb31 => ?_) (fun hb31 => ?_)
      · replace H := H.1 hb31
        refine hx_skip ?_
        refine seqQ_n ?_
        refine hx_block ?_
        refine hx_region ?_
        refine hl_val rfl rfl (v := (.int .i64 i)) (hv_move rfl) ?_
        refine hl_val rfl rfl (v := (.int .i64 (IntKind.i64.wrap (i + 1)))) (hv_arith rfl rfl rfl) ?_
        refine hl_val rfl rfl (v := (.int .i64 (IntKind.i64.wrap (i + 1)))) (hv_assign rfl) ?_
        refine hl_nil ?_
        refine blockQ_n ?_
        refine seqQ_n ?_
        exact ⟨IntKind.i64.wrap (i + 1), ⟨⟨H.1, xv22, hr23, trivial⟩, H.2⟩, (has_cons rfl (has_cons rfl (has_cons rfl has_nil)))⟩
      · replace H := H.2 hb31
        refine hx_exit ?_
        refine seqQ_exit ?_
        refine seqQ_exit ?_
        refine blockQ_here ?_
        refine seqQ_n ?_
        refine hx_seq ?_
        obtain ⟨j_1, Hx32, Hy33⟩ := H
        refine hx_cut (fun ρ h' => h5 = h' ∧ Has ρ [(0, (.slice l l_n l_c)), (3, (ptr m 0)), (5, (.int .i64 i)), (36, (.bool j_1))]) ?_ ?_
        · have H := Hx32; clear Hx32 Hy33
          refine hx_draw TyShC.mixed [.pure, .pure, .pure, .pure, .pure, .pure, .pure, .pure, .read, .read, .pure, .pure] [0, 1, 2, 3, 4, 5, 6, 7, 8, 9, 10, 11] (by kernel_rfl) ?_
          refine hp_pure (i := 0) rfl (wanted_0 rfl) rfl (.int .i64 i) (fun _ => hv_move rfl) ?_
          refine hp_pure (i := 1) rfl (wanted_0 rfl) rfl (.slice l l_n l_c) (fun _ => hv_move rfl) ?_
          refine hp_pure (i := 2) rfl (wanted_0 rfl) rfl (.int .i64 (l_n : Int)) (fun _ => hv_len (n := l_n) TyShC.u27 rfl) ?_
          refine hp_pure (i := 3) rfl (wanted_0 rfl) rfl (.bool (decide (i < (l_n : Int)))) (fun _ => hv_arith rfl rfl rfl) ?_
          refine hp_pure (i := 4) rfl (wanted_0 rfl) rfl (.bool (decide (i < (l_n : Int)))) (fun _ => hv_move rfl) ?_
          rcases bool_or (decide (i < (l_n : Int))) with hg34 | hg34
          · replace H := H.1 hg34
            refine hp_pure (i := 5) rfl (wanted_y rfl rfl rfl hg34) rfl (.slice l l_n l_c) (fun _ => hv_move rfl) ?_
            refine hp_pure (i := 6) rfl (wanted_y rfl rfl rfl hg34) rfl (.int .i64 i) (fun _ => hv_move rfl) ?_
            obtain ⟨l_b_1, l_o_1, hqe, hi35, hi36, Hq⟩ := H
            subst hqe
            have H := Hq; clear Hq
            refine hp_pure (i := 7) rfl (wanted_y rfl rfl rfl hg34) rfl (ptr l_b_1 (l_o_1 + (Int.toNat i) * 2)) (fun _ => hv_index TyShC.el27 rfl rfl hi35 hi36) ?_
            obtain ⟨x_Has_1, x_Value_1, hc37, hc38, H⟩ := H
            refine hp_read (i := 8) rfl (wanted_y rfl rfl rfl hg34) rfl (.agg #[(.bool x_Has_1), (.string x_Value_1)]) (fun _ he => hv_loads (vs := [(.bool x_Has_1), (.string x_Value_1)]) TyShC.agg40 TyShC.sz40 rfl (hcells_cons (Ext.cell he (Ext.cell xv22 hc37)) (hcells_cons (Ext.cell he (Ext.cell xv22 hc38)) hcells_nil))) ?_
            refine hp_read (i := 9) rfl (wanted_y rfl rfl rfl hg34) rfl (.agg #[(.bool m_Has), (.string (bif !m_Has then ByteArray.empty else m_Value))]) (fun _ he => hv_loads (vs := [(.bool m_Has), (.string (bif !m_Has then ByteArray.empty else m_Value))]) TyShC.agg40 TyShC.sz40 rfl (hcells_cons (Ext.cell he (rowcell hr23 rfl)) (hcells_cons (Ext.cell he (rowcell hr23 rfl)) hcells_nil))) ?_
            refine hp_pure (i := 10) rfl (wanted_y rfl rfl rfl hg34) rfl (.bool ((x_Has_1 == m_Has && (x_Value_1 == (bif !m_Has then ByteArray.empty else m_Value) && true)))) (fun _ => hv_structEq (xs := [(.bool x_Has_1), (.string x_Value_1)]) (ys := [(.bool m_Has), (.string (bif !m_Has then ByteArray.empty else m_Value))]) (b := (x_Has_1 == m_Has && (x_Value_1 == (bif !m_Has then ByteArray.empty else m_Value) && true))) TyShC.se40 rfl rfl (by kernel_rfl) rfl) ?_
            refine hp_pure (i := 11) rfl (wanted_0 rfl) rfl (.bool ((x_Has_1 == m_Has && (x_Value_1 == (bif !m_Has then ByteArray.empty else m_Value) && true)))) (fun _ => hv_pick_t rfl hg34 rfl) ?_
            refine hp_nil ?_
            refine seqQ_n ?_
            obtain rfl := H
            exact ⟨rfl, (has_cons rfl (has_cons rfl (has_cons rfl (has_cons rfl has_nil))))⟩
          · replace H := H.2 hg34
            refine hp_no (i := 5) rfl (wanted_n rfl rfl rfl hg34) ?_
            refine hp_no (i := 6) rfl (wanted_n rfl rfl rfl hg34) ?_
            refine hp_no (i := 7) rfl (wanted_n rfl rfl rfl hg34) ?_
            refine hp_no (i := 8) rfl (wanted_n rfl rfl rfl hg34) ?_
            refine hp_no (i := 9) rfl (wanted_n rfl rfl rfl hg34) ?_
            refine hp_no (i := 10) rfl (wanted_n rfl rfl rfl hg34) ?_
            refine hp_pure (i := 11) rfl (wanted_0 rfl) rfl (.bool false) (fun _ => hv_pick_f rfl hg34 rfl) ?_
            refine hp_nil ?_
            refine seqQ_n ?_
            obtain rfl := H
            exact ⟨rfl, (has_cons rfl (has_cons rfl (has_cons rfl (has_cons rfl has_nil))))⟩
        · have H := Hy33; clear Hx32 Hy33
          rintro ρ _ ⟨rfl, hH⟩
          refine hx_has _ hH ?_
          refine hx_cond (b := j_1) rfl (fun hb39 => ?_) (fun hb39 => ?_)
          · replace H := H.1 hb39
            refine hx_seq ?_
            refine hx_region ?_
            refine hl_val rfl rfl (v := (.slice l l_n l_c)) (hv_move rfl) ?_
            refine hl_val rfl rfl (v := (.slice l l_n l_c)) (hv_assign rfl) ?_
            refine hl_nil ?_
            refine seqQ_n ?_
            refine hx_ret ?_
            refine seqQ_ret ?_
            replace H := H h5 xv22
            exact endQ_ret _ (res_one Try.results18 (rv_tmp rfl)) H
          · replace H := H.2 hb39
            refine hx_skip ?_
            refine seqQ_n ?_
            refine hx_seq ?_
            refine hx_region ?_
            replace H := H m h5 lo5 (row_lt hr23) xv22
            refine hl_step rfl rfl (hn_buildSlice (n := 0) (vs := []) (cs := #[]) TyShC.u27 TyShC.sz40 TyShC.z40 rfl rfl (by kernel_rfl) ?_)
            intro nb h7 eb40 eh41
            replace H := H nb h7 eb40 eh41
            have xx42 : Ext h5 h7 := by rw [eh41]; exact Ext.push _ _
            replace hr23 := Ext.row xx42 hr23
            refine hl_val rfl rfl (v := (.slice l l_n l_c)) (hv_move rfl) ?_
            refine hl_val rfl rfl (v := (.int .i64 i)) (hv_move rfl) ?_
            obtain ⟨hs43, hs44, hs45, H⟩ := H
            obtain ⟨sl, hq46⟩ : ∃ q, q = slA l (Int.toNat 0) 2 l_c := ⟨_, rfl⟩
            replace H := H sl hq46
            refine hl_val rfl rfl (v := (.slice sl (Int.toNat i - Int.toNat 0) (l_c - Int.toNat 0))) (hv_slice (l := 0) (r := i) TyShC.u27 TyShC.sz40 rfl sl_none (sh_some rfl) hs43 hs44 hs45 hq46) ?_
            refine hl_step rfl rfl (hs_append rfl rfl (HAppend.mono H ?_))
            rintro _ h8 ⟨kp47, ap, ap_n, ap_c, rfl, H⟩
            replace hr23 := Kp.row kp47 (by simp) hr23
            refine hl_val rfl rfl (v := (.slice ap ap_n ap_c)) (hv_assign rfl) ?_
            refine hl_nil ?_
            refine seqQ_n ?_
            refine hx_seq ?_
            refine hx_region ?_
            refine hl_val rfl rfl (v := (.slice ap ap_n ap_c)) (hv_move rfl) ?_
            refine hl_val rfl rfl (v := (.agg #[(.bool m_Has), (.string (bif !m_Has then ByteArray.empty else m_Value))])) (hv_loads (vs := [(.bool m_Has), (.string (bif !m_Has then ByteArray.empty else m_Value))]) TyShC.agg40 TyShC.sz40 rfl (hcells_cons (rowcell hr23 rfl) (hcells_cons (rowcell hr23 rfl) hcells_nil))) ?_
            refine hl_step rfl rfl (hn_buildSlice (n := 1) (vs := [(0, (.agg #[(.bool m_Has), (.string (bif !m_Has then ByteArray.empty else m_Value))]))]) (cs := #[(.bool m_Has), (.string (bif !m_Has then ByteArray.empty else m_Value))]) TyShC.u27 TyShC.sz40 TyShC.z40 rfl rfl (by kernel_rfl) ?_)
            intro nb_1 h9 eb48 eh49
            replace H := H nb_1 h9 eb48 eh49
            have xx50 : Ext h8 h9 := by rw [eh49]; exact Ext.push _ _
            replace hr23 := Ext.row xx50 hr23
            refine hl_step rfl rfl (hs_append rfl rfl (HAppend.mono H ?_))
            rintro _ h10 ⟨ap_1, ap_n_1, ap_c_1, rfl, H⟩
            refine hl_val rfl rfl (v := (.slice ap_1 ap_n_1 ap_c_1)) (hv_assign rfl) ?_
            refine hl_nil ?_
            refine seqQ_n ?_
            refine hx_seq ?_
            refine hx_region ?_
            refine hl_val rfl rfl (v := (.slice ap_1 ap_n_1 ap_c_1)) (hv_move rfl) ?_
            refine hl_val rfl rfl (v := (.slice l l_n l_c)) (hv_move rfl) ?_
            refine hl_val rfl rfl (v := (.int .i64 i)) (hv_move rfl) ?_
            obtain ⟨hs51, hs52, hs53, H⟩ := H
            obtain ⟨sl_1, hq54⟩ : ∃ q, q = slA l (Int.toNat i) 2 l_c := ⟨_, rfl⟩
            replace H := H sl_1 hq54
            refine hl_val rfl rfl (v := (.slice sl_1 (Int.toNat (l_n : Int) - Int.toNat i) (l_c - Int.toNat i))) (hv_slice (l := i) (r := (l_n : Int)) TyShC.u27 TyShC.sz40 rfl (sl_some rfl) sh_none hs51 hs52 hs53 hq54) ?_
            refine hl_step rfl rfl (hs_append rfl rfl (HAppend.mono H ?_))
            rintro _ h11 ⟨ap_2, ap_n_2, ap_c_2, rfl, H⟩
            refine hl_val rfl rfl (v := (.slice ap_2 ap_n_2 ap_c_2)) (hv_assign rfl) ?_
            refine hl_nil ?_
            refine seqQ_n ?_
            refine hx_ret ?_
            exact endQ_ret _ (res_one Try.results18 (rv_tmp rfl)) H

/-- slices.Compact[[]cellar/api.Might,cellar/api.Might] -/
theorem f34_sh (sv : Option Addr) (s_n : Nat) (s_c : Nat) (h : Heap) (R : Value → Heap → Prop)
    (H : (((decide ((s_n : Int) < 2)) = true → R (.slice sv s_n s_c) h) ∧ ((decide ((s_n : Int) < 2)) = false → (∃ (I2 : Int → Prop) (mu3 : Int → Nat), I2 1 ∧ (∀ (k : Int), I2 k → (((decide (k < (s_n : Int))) = true → (∃ sv_b sv_o : Nat, sv = some ⟨sv_b, sv_o, none⟩ ∧ (0 : Int) ≤ k ∧ k < (s_n : Int) ∧ (∃ x_Has : Bool, ∃ x_Value : ByteArray, hcell h sv_b (sv_o + (Int.toNat k) * 2) = some (.bool x_Has) ∧ hcell h sv_b ((sv_o + (Int.toNat k) * 2) + 1) = some (.string x_Value) ∧ ((0 : Int) ≤ IntKind.i64.wrap (k - 1) ∧ IntKind.i64.wrap (k - 1) < (s_n : Int) ∧ (∃ x_Has_1 : Bool, ∃ x_Value_1 : ByteArray, hcell h sv_b (sv_o + (Int.toNat (IntKind.i64.wrap (k - 1))) * 2) = some (.bool x_Has_1) ∧ hcell h sv_b ((sv_o + (Int.toNat (IntKind.i64.wrap (k - 1))) * 2) + 1) = some (.string x_Value_1) ∧ ((((x_Has == x_Has_1 && (x_Value == x_Value_1 && true))) = true → (0 ≤ (k : Int) ∧ k ≤ (s_n : Int) ∧ (s_n : Int) ≤ (s_c : Int) ∧ ∀ sl : Option Addr, sl = slA (some ⟨sv_b, sv_o, none⟩) (Int.toNat k) 2 s_c → (∃ (I17 : Int → Int → Heap → Prop) (mu18 : Int → Int → Heap → Nat), I17 k 1 h ∧ (∀ (k_1 : Int) (k2 : Int) (h1 : Heap), I17 k_1 k2 h1 → (((decide (k2 < (((Int.toNat (s_n : Int) - Int.toNat k) : Nat) : Int))) = true → (∃ A25 : Int → Heap → Prop, (∃ sl_b sl_o : Nat, sl = some ⟨sl_b, sl_o, none⟩ ∧ (0 : Int) ≤ k2 ∧ k2 < (((Int.toNat (s_n : Int) - Int.toNat k) : Nat) : Int) ∧ (∃ x_Has_2 : Bool, ∃ x_Value_2 : ByteArray, hcell h1 sl_b (sl_o + (Int.toNat k2) * 2) = some (.bool x_Has_2) ∧ hcell h1 sl_b ((sl_o + (Int.toNat k2) * 2) + 1) = some (.string x_Value_2) ∧ ((0 : Int) ≤ IntKind.i64.wrap (k2 - 1) ∧ IntKind.i64.wrap (k2 - 1) < (((Int.toNat (s_n : Int) - Int.toNat k) : Nat) : Int) ∧ (∃ x_Has_3 : Bool, ∃ x_Value_3 : ByteArray, hcell h1 sl_b (sl_o + (Int.toNat (IntKind.i64.wrap (k2 - 1))) * 2) = some (.bool x_Has_3) ∧ hcell h1 sl_b ((sl_o + (Int.toNat (IntKind.i64.wrap (k2 - 1))) * 2) + 1) = some (.string x_Value_3) ∧ (((!((x_Has_2 == x_Has_3 && (x_Value_2 == x_Value_3 && true)))) = true → ((0 : Int) ≤ k2 ∧ k2 < (((Int.toNat (s_n : Int) - Int.toNat k) : Nat) : Int) ∧ (∃ x_Has_4 : Bool, ∃ x_Value_4 : ByteArray, hcell h1 sl_b (sl_o + (Int.toNat k2) * 2) = some (.bool x_Has_4) ∧ hcell h1 sl_b ((sl_o + (Int.toNat k2) * 2) + 1) = some (.string x_Value_4) ∧ ((0 : Int) ≤ k_1 ∧ k_1 < (s_n : Int) ∧ (HWs h1 sv_b (sv_o + (Int.toNat k_1) * 2) 2 ∧ ∀ h3, h3 = hsets h1 sv_b (sv_o + (Int.toNat k_1) * 2) [(.bool x_Has_4), (.string x_Value_4)] → (A25 (IntKind.i64.wrap (k_1 + 1)) h3)))))) ∧ ((!((x_Has_2 == x_Has_3 && (x_Value_2 == x_Value_3 && true)))) = false → (A25 k_1 h1))))))) ∧ (∀ (k_2 : Int) (h2 : Heap), A25 k_2 h2 → (I17 k_2 (IntKind.i64.wrap (k2 + 1)) h2 ∧ mu18 k_2 (IntKind.i64.wrap (k2 + 1)) h2 < mu18 k_1 k2 h1)))) ∧ ((decide (k2 < (((Int.toNat (s_n : Int) - Int.toNat k) : Nat) : Int))) = false → (0 ≤ (k_1 : Int) ∧ k_1 ≤ (s_n : Int) ∧ (s_n : Int) ≤ (s_c : Int) ∧ ∀ sl_1 : Option Addr, sl_1 = slA (some ⟨sv_b, sv_o, none⟩) (Int.toNat k_1) 2 s_c → (((Int.toNat (s_n : Int) - Int.toNat k_1) ≠ 0 → ∃ cb co : Nat, sl_1 = some ⟨cb, co, none⟩ ∧ HWs h1 cb co ((Int.toNat (s_n : Int) - Int.toNat k_1) * 2)) ∧ ∀ h4, ((Int.toNat (s_n : Int) - Int.toNat k_1) = 0 → h4 = h1) → (∀ cb co : Nat, (Int.toNat (s_n : Int) - Int.toNat k_1) ≠ 0 → sl_1 = some ⟨cb, co, none⟩ → h4 = hsets h1 cb co (zcells [(.bool false), (.string ByteArray.empty)] (Int.toNat (s_n : Int) - Int.toNat k_1))) → (0 ≤ (0 : Int) ∧ 0 ≤ k_1 ∧ k_1 ≤ (s_c : Int) ∧ ∀ sl_2 : Option Addr, sl_2 = slA (some ⟨sv_b, sv_o, none⟩) (Int.toNat 0) 2 s_c → R (.slice sl_2 (Int.toNat k_1 - Int.toNat 0) (s_c - Int.toNat 0)) h4))))))))) ∧ (((x_Has == x_Has_1 && (x_Value == x_Value_1 && true))) = false → (I2 (IntKind.i64.wrap (k + 1)) ∧ mu3 (IntKind.i64.wrap (k + 1)) < mu3 k)))))))) ∧ ((decide (k < (s_n : Int))) = false → R (.slice sv s_n s_c) h))))))) :
    HC Try.prog 34 #[(.slice sv s_n s_c)] h R := by
  refine hc_of (args := [(.slice sv s_n s_c)]) Try.func34 rfl Try.ntmps34 (Nat.le_of_ble_eq_true rfl) ?_
  refine hx_seq ?_
  refine hx_region ?_
  refine hl_val rfl rfl (v := (.slice none 0 0)) (hv_assign rfl) ?_
  refine hl_nil ?_
  refine seqQ_n ?_
  refine hx_seq ?_
  refine hx_seq ?_
  refine hx_region ?_
  refine hl_val rfl rfl (v := (.slice sv s_n s_c)) (hv_move rfl) ?_
  refine hl_val rfl rfl (v := (.int .i64 (s_n : Int))) (hv_len (n := s_n) TyShC.u27 rfl) ?_
  refine hl_val rfl rfl (v := (.bool (decide ((s_n : Int) < 2)))) (hv_arith rfl rfl rfl) ?_
  refine hl_nil ?_
  refine seqQ_n ?_
  refine hx_cond (b := decide ((s_n : Int) < 2)) rfl (fun hb1 => ?_) (fun hb1 => ?_)
  · replace H := H.1 hb1
    refine hx_seq ?_
    refine hx_region ?_
    refine hl_val rfl rfl (v := (.slice sv s_n s_c)) (hv_move rfl) ?_
    refine hl_val rfl rfl (v := (.slice sv s_n s_c)) (hv_assign rfl) ?_
    refine hl_nil ?_
    refine seqQ_n ?_
    refine hx_ret ?_
    refine seqQ_ret ?_
    exact endQ_ret _ (res_one Try.results34 (rv_tmp rfl)) H
  · replace H := H.2 hb1
    refine hx_skip ?_
    refine seqQ_n ?_
    refine hx_seq ?_
    refine hx_seq ?_
    refine hx_region ?_
    refine hl_val rfl rfl (v := (.int .i64 1)) (hv_assign rfl) ?_
    refine hl_nil ?_
    refine seqQ_n ?_
    refine hx_block ?_
    obtain ⟨I2, mu3, Ha4, Hr5⟩ := H
    refine hx_loopT (σ := Int) (fun s => [(0, (.slice sv s_n s_c)), (3, (.int .i64 s))]) (fun s h' => I2 s ∧ h = h') (fun s _ => mu3 s) 1 ⟨Ha4, rfl⟩ (has_cons rfl (has_cons rfl has_nil)) ?_
    rintro k ρ _ ⟨Hi6, rfl⟩
    have H := Hr5 k Hi6
    refine hx_seq ?_
    refine hx_seq ?_
    refine hx_region ?_
    refine hl_val rfl rfl (v := (.int .i64 k)) (hv_move rfl) ?_
    refine hl_val rfl rfl (v := (.slice sv s_n s_c)) (hv_move rfl) ?_
    refine hl_val rfl rfl (v := (.int .i64 (s_n : Int))) (hv_len (n := s_n) TyShC.u27 rfl) ?_
    refine hl_val rfl rfl (v := (.bool (decide (k < (s_n : Int))))) (hv_arith rfl rfl rfl) ?_
    refine hl_nil ?_
    refine seqQ_n ?_
    refine hx_cond (b := decide (k < (s_n : Int))) rfl (fun hb7 => ?_) (fun hb7 => ?_)
    · replace H := H.1 hb7
      refine hx_skip ?_
      refine seqQ_n ?_
      refine hx_seq ?_
      refine hx_block ?_
      refine hx_seq ?_
      refine hx_draw TyShC.mixed [.pure, .pure, .pure, .read, .pure, .pure, .pure, .pure, .read, .pure] [0, 1, 2, 3, 4, 5, 6, 7, 8, 9] (by kernel_rfl) ?_
      refine hp_pure (i := 0) rfl (wanted_0 rfl) rfl (.slice sv s_n s_c) (fun _ => hv_move rfl) ?_
      refine hp_pure (i := 1) rfl (wanted_0 rfl) rfl (.int .i64 k) (fun _ => hv_move rfl) ?_
      obtain ⟨sv_b, sv_o, hqe, hi8, hi9, Hq⟩ := H
      subst hqe
      have H := Hq; clear Hq
      refine hp_pure (i := 2) rfl (wanted_0 rfl) rfl (ptr sv_b (sv_o + (Int.toNat k) * 2)) (fun _ => hv_index TyShC.el27 rfl rfl hi8 hi9) ?_
      obtain ⟨x_Has, x_Value, hc57, hc58, H⟩ := H
      refine hp_read (i := 3) rfl (wanted_0 rfl) rfl (.agg #[(.bool x_Has), (.string x_Value)]) (fun _ he => hv_loads (vs := [(.bool x_Has), (.string x_Value)]) TyShC.agg40 TyShC.sz40 rfl (hcells_cons (Ext.cell he hc57) (hcells_cons (Ext.cell he hc58) hcells_nil))) ?_
      refine hp_pure (i := 4) rfl (wanted_0 rfl) rfl (.slice (some ⟨sv_b, sv_o, none⟩) s_n s_c) (fun _ => hv_move rfl) ?_
      refine hp_pure (i := 5) rfl (wanted_0 rfl) rfl (.int .i64 k) (fun _ => hv_move rfl) ?_
      refine hp_pure (i := 6) rfl (wanted_0 rfl) rfl (.int .i64 (IntKind.i64.wrap (k - 1))) (fun _ => hv_arith rfl rfl rfl) ?_
      obtain ⟨hi10, hi11, H⟩ := H
      refine hp_pure (i := 7) rfl (wanted_0 rfl) rfl (ptr sv_b (sv_o + (Int.toNat (IntKind.i64.wrap (k - 1))) * 2)) (fun _ => hv_index TyShC.el27 rfl rfl hi10 hi11) ?_
      obtain ⟨x_Has_1, x_Value_1, hc55, hc56, H⟩ := H
      refine hp_read (i := 8) rfl (wanted_0 rfl) rfl (.agg #[(.bool x_Has_1), (.string x_Value_1)]) (fun _ he => hv_loads (vs := [(.bool x_Has_1), (.string x_Value_1)]) TyShC.agg40 TyShC.sz40 rfl (hcells_cons (Ext.cell he hc55) (hcells_cons (Ext.cell he hc56) hcells_nil))) ?_
      refine hp_pure (i := 9) rfl (wanted_0 rfl) rfl (.bool ((x_Has == x_Has_1 && (x_Value == x_Value_1 && true)))) (fun _ => hv_structEq (xs := [(.bool x_Has), (.string x_Value)]) (ys := [(.bool x_Has_1), (.string x_Value_1)]) (b := (x_Has == x_Has_1 && (x_Value == x_Value_1 && true))) TyShC.se40 rfl rfl (by kernel_rfl) rfl) ?_
      refine hp_nil ?_
      refine seqQ_n ?_
      refine hx_cond (b := ((x_Has == x_Has_1 && (x_Value == x_Value_1 && true)))) rfl (fun hb12 => ?_) (fun hb12 => ?_)
      · replace H := H.1 hb12
        refine hx_seq ?_
        refine hx_region ?_
        refine hl_val rfl rfl (v := (.slice (some ⟨sv_b, sv_o, none⟩) s_n s_c)) (hv_move rfl) ?_
        refine hl_val rfl rfl (v := (.int .i64 k)) (hv_move rfl) ?_
        obtain ⟨hs13, hs14, hs15, H⟩ := H
        obtain ⟨sl, hq16⟩ : ∃ q, q = slA (some ⟨sv_b, sv_o, none⟩) (Int.toNat k) 2 s_c := ⟨_, rfl⟩
        replace H := H sl hq16
        refine hl_val rfl rfl (v := (.slice sl (Int.toNat (s_n : Int) - Int.toNat k) (s_c - Int.toNat k))) (hv_slice (l := k) (r := (s_n : Int)) TyShC.u27 TyShC.sz40 rfl (sl_some rfl) sh_none hs13 hs14 hs15 hq16) ?_
        refine hl_val rfl rfl (v := (.slice sl (Int.toNat (s_n : Int) - Int.toNat k) (s_c - Int.toNat k))) (hv_assign rfl) ?_
        refine hl_nil ?_
        refine seqQ_n ?_
        refine hx_seq ?_
        refine hx_seq ?_
        refine hx_region ?_
        refine hl_val rfl rfl (v := (.int .i64 1)) (hv_assign rfl) ?_
        refine hl_nil ?_
        refine seqQ_n ?_
        refine hx_block ?_
        obtain ⟨I17, mu18, Ha19, Hr20⟩ := H
        refine hx_loopT (σ := Int × Int) (fun s => [(0, (.slice (some ⟨sv_b, sv_o, none⟩) s_n s_c)), (3, (.int .i64 s.1)), (4, (.slice sl (Int.toNat (s_n : Int) - Int.toNat k) (s_c - Int.toNat k))), (5, (.int .i64 s.2))]) (fun s h' => I17 s.1 s.2 h' ∧ True) (fun s h' => mu18 s.1 s.2 h') (k, 1) ⟨Ha19, trivial⟩ (has_cons rfl (has_cons rfl (has_cons rfl (has_cons rfl has_nil)))) ?_
        rintro ⟨k_1, k2⟩ ρ h1 ⟨Hi21, -⟩
        have H := Hr20 k_1 k2 h1 Hi21
        refine hx_seq ?_
        refine hx_seq ?_
        refine hx_region ?_
        refine hl_val rfl rfl (v := (.int .i64 k2)) (hv_move rfl) ?_
        refine hl_val rfl rfl (v := (.slice sl (Int.toNat (s_n : Int) - Int.toNat k) (s_c - Int.toNat k))) (hv_move rfl) ?_
        refine hl_val rfl rfl (v := (.int .i64 (((Int.toNat (s_n : Int) - Int.toNat k) : Nat) : Int))) (hv_len (n := (Int.toNat (s_n : Int) - Int.toNat k)) TyShC.u27 rfl) ?_
        refine hl_val rfl rfl (v := (.bool (decide (k2 < (((Int.toNat (s_n : Int) - Int.toNat k) : Nat) : Int))))) (hv_arith rfl rfl rfl) ?_
        refine hl_nil ?_
        refine seqQ_n ?_
        refine hx_cond (b := decide (k2 < (((Int.toNat (s_n : Int) - Int.toNat k) : Nat) : Int))) rfl (fun hb22 => ?_) (fun hb22 => ?_)
        · replace H := H.1 hb22
          refine hx_skip ?_
          refine seqQ_n ?_
          obtain ⟨A25, Hx23, Hy24⟩ := H
          refine hx_cut (fun ρ h' => ∃ k_2 : Int, (A25 k_2 h' ∧ True) ∧ Has ρ [(0, (.slice (some ⟨sv_b, sv_o, none⟩) s_n s_c)), (3, (.int .i64 k_2)), (4, (.slice sl (Int.toNat (s_n : Int) - Int.toNat k) (s_c - Int.toNat k))), (5, (.int .i64 k2))]) ?_ ?_
          · have H := Hx23; clear Hx23 Hy24
            refine hx_block ?_
            refine hx_seq ?_
            refine hx_draw TyShC.mixed [.pure, .pure, .pure, .read, .pure, .pure, .pure, .pure, .read, .pure] [0, 1, 2, 3, 4, 5, 6, 7, 8, 9] (by kernel_rfl) ?_
            refine hp_pure (i := 0) rfl (wanted_0 rfl) rfl (.slice sl (Int.toNat (s_n : Int) - Int.toNat k) (s_c - Int.toNat k)) (fun _ => hv_move rfl) ?_
            refine hp_pure (i := 1) rfl (wanted_0 rfl) rfl (.int .i64 k2) (fun _ => hv_move rfl) ?_
            obtain ⟨sl_b, sl_o, hqe, hi27, hi28, Hq⟩ := H
            subst hqe
            have H := Hq; clear Hq
            refine hp_pure (i := 2) rfl (wanted_0 rfl) rfl (ptr sl_b (sl_o + (Int.toNat k2) * 2)) (fun _ => hv_index TyShC.el27 rfl rfl hi27 hi28) ?_
            obtain ⟨x_Has_2, x_Value_2, hc42, hc43, H⟩ := H
            refine hp_read (i := 3) rfl (wanted_0 rfl) rfl (.agg #[(.bool x_Has_2), (.string x_Value_2)]) (fun _ he => hv_loads (vs := [(.bool x_Has_2), (.string x_Value_2)]) TyShC.agg40 TyShC.sz40 rfl (hcells_cons (Ext.cell he hc42) (hcells_cons (Ext.cell he hc43) hcells_nil))) ?_
            refine hp_pure (i := 4) rfl (wanted_0 rfl) rfl (.slice (some ⟨sl_b, sl_o, none⟩) (Int.toNat (s_n : Int) - Int.toNat k) (s_c - Int.toNat k)) (fun _ => hv_move rfl) ?_
            refine hp_pure (i := 5) rfl (wanted_0 rfl) rfl (.int .i64 k2) (fun _ => hv_move rfl) ?_
            refine hp_pure (i := 6) rfl (wanted_0 rfl) rfl (.int .i64 (IntKind.i64.wrap (k2 - 1))) (fun _ => hv_arith rfl rfl rfl) ?_
            obtain ⟨hi29, hi30, H⟩ := H
            refine hp_pure (i := 7) rfl (wanted_0 rfl) rfl (ptr sl_b (sl_o + (Int.toNat (IntKind.i64.wrap (k2 - 1))) * 2)) (fun _ => hv_index TyShC.el27 rfl rfl hi29 hi30) ?_
            obtain ⟨x_Has_3, x_Value_3, hc40, hc41, H⟩ := H
            refine hp_read (i := 8) rfl (wanted_0 rfl) rfl (.agg #[(.bool x_Has_3), (.string x_Value_3)]) (fun _ he => hv_loads (vs := [(.bool x_Has_3), (.string x_Value_3)]) TyShC.agg40 TyShC.sz40 rfl (hcells_cons (Ext.cell he hc40) (hcells_cons (Ext.cell he hc41) hcells_nil))) ?_
            refine hp_pure (i := 9) rfl (wanted_0 rfl) rfl (.bool (!((x_Has_2 == x_Has_3 && (x_Value_2 == x_Value_3 && true))))) (fun _ => hv_structEq (xs := [(.bool x_Has_2), (.string x_Value_2)]) (ys := [(.bool x_Has_3), (.string x_Value_3)]) (b := (x_Has_2 == x_Has_3 && (x_Value_2 == x_Value_3 && true))) TyShC.se40 rfl rfl (by kernel_rfl) rfl) ?_
            refine hp_nil ?_
            refine seqQ_n ?_
            refine hx_cond (b := !((x_Has_2 == x_Has_3 && (x_Value_2 == x_Value_3 && true)))) rfl (fun hb31 => ?_) (fun hb31 => ?_)
            · replace H := H.1 hb31
              refine hx_seq ?_
              refine hx_region ?_
              refine hl_val rfl rfl (v := (.slice (some ⟨sv_b, sv_o, none⟩) s_n s_c)) (hv_move rfl) ?_
              refine hl_val rfl rfl (v := (.int .i64 k_1)) (hv_move rfl) ?_
              refine hl_val rfl rfl (v := (.slice (some ⟨sl_b, sl_o, none⟩) (Int.toNat (s_n : Int) - Int.toNat k) (s_c - Int.toNat k))) (hv_move rfl) ?_
              refine hl_val rfl rfl (v := (.int .i64 k2)) (hv_move rfl) ?_
              obtain ⟨hi32, hi33, H⟩ := H
              refine hl_val rfl rfl (v := (ptr sl_b (sl_o + (Int.toNat k2) * 2))) (hv_index TyShC.el27 rfl rfl hi32 hi33) ?_
              obtain ⟨x_Has_4, x_Value_4, hc38, hc39, H⟩ := H
              refine hl_val rfl rfl (v := (.agg #[(.bool x_Has_4), (.string x_Value_4)])) (hv_loads (vs := [(.bool x_Has_4), (.string x_Value_4)]) TyShC.agg40 TyShC.sz40 rfl (hcells_cons hc38 (hcells_cons hc39 hcells_nil))) ?_
              obtain ⟨hi34, hi35, H⟩ := H
              refine hl_val rfl rfl (v := (ptr sv_b (sv_o + (Int.toNat k_1) * 2))) (hv_index TyShC.el27 rfl rfl hi34 hi35) ?_
              obtain ⟨hw37, H⟩ := H
              refine hl_step rfl rfl (hn_stores (vs := [(.bool x_Has_4), (.string x_Value_4)]) rfl rfl TyShC.sz40 rfl hw37 ?_)
              intro h3 eh36
              replace H := H h3 eh36
              refine hl_nil ?_
              refine seqQ_n ?_
              refine hx_region ?_
              refine hl_val rfl rfl (v := (.int .i64 k_1)) (hv_move rfl) ?_
              refine hl_val rfl rfl (v := (.int .i64 (IntKind.i64.wrap (k_1 + 1)))) (hv_arith rfl rfl rfl) ?_
              refine hl_val rfl rfl (v := (.int .i64 (IntKind.i64.wrap (k_1 + 1)))) (hv_assign rfl) ?_
              refine hl_nil ?_
              refine blockQ_n ?_
              refine seqQ_n ?_
              exact ⟨_, ⟨H, trivial⟩, (has_cons rfl (has_cons rfl (has_cons rfl (has_cons rfl has_nil))))⟩
            · replace H := H.2 hb31
              refine hx_skip ?_
              refine blockQ_n ?_
              refine seqQ_n ?_
              exact ⟨_, ⟨H, trivial⟩, (has_cons rfl (has_cons rfl (has_cons rfl (has_cons rfl has_nil))))⟩
          · rintro ρ h2 ⟨k_2, ⟨HA26, -⟩, hH⟩
            have H := Hy24 k_2 h2 HA26; clear Hx23 Hy24
            refine hx_has _ hH ?_
            refine hx_region ?_
            refine hl_val rfl rfl (v := (.int .i64 k2)) (hv_move rfl) ?_
            refine hl_val rfl rfl (v := (.int .i64 (IntKind.i64.wrap (k2 + 1)))) (hv_arith rfl rfl rfl) ?_
            refine hl_val rfl rfl (v := (.int .i64 (IntKind.i64.wrap (k2 + 1)))) (hv_assign rfl) ?_
            refine hl_nil ?_
            refine seqQ_n ?_
            exact ⟨(k_2, IntKind.i64.wrap (k2 + 1)), ⟨⟨H.1, trivial⟩, H.2⟩, (has_cons rfl (has_cons rfl (has_cons rfl (has_cons rfl has_nil))))⟩
        · replace H := H.2 hb22
          refine hx_exit ?_
          refine seqQ_exit ?_
          refine seqQ_exit ?_
          refine blockQ_here ?_
          refine seqQ_n ?_
          refine hx_seq ?_
          refine hx_region ?_
          refine hl_val rfl rfl (v := (.slice (some ⟨sv_b, sv_o, none⟩) s_n s_c)) (hv_move rfl) ?_
          refine hl_val rfl rfl (v := (.int .i64 k_1)) (hv_move rfl) ?_
          obtain ⟨hs44, hs45, hs46, H⟩ := H
          obtain ⟨sl_1, hq47⟩ : ∃ q, q = slA (some ⟨sv_b, sv_o, none⟩) (Int.toNat k_1) 2 s_c := ⟨_, rfl⟩
          replace H := H sl_1 hq47
          refine hl_val rfl rfl (v := (.slice sl_1 (Int.toNat (s_n : Int) - Int.toNat k_1) (s_c - Int.toNat k_1))) (hv_slice (l := k_1) (r := (s_n : Int)) TyShC.u27 TyShC.sz40 rfl (sl_some rfl) sh_none hs44 hs45 hs46 hq47) ?_
          obtain ⟨hw48, H⟩ := H
          refine hl_step rfl rfl (hn_clear2 (zs := [(.bool false), (.string ByteArray.empty)]) TyShC.u27 TyShC.z40 rfl (by decide) rfl rfl hw48 ?_)
          intro h4 hz49 hn50
          replace H := H h4 hz49 hn50
          refine hl_nil ?_
          refine seqQ_n ?_
          refine hx_seq ?_
          refine hx_region ?_
          refine hl_val rfl rfl (v := (.slice (some ⟨sv_b, sv_o, none⟩) s_n s_c)) (hv_move rfl) ?_
          refine hl_val rfl rfl (v := (.int .i64 k_1)) (hv_move rfl) ?_
          obtain ⟨hs51, hs52, hs53, H⟩ := H
          obtain ⟨sl_2, hq54⟩ : ∃ q, q = slA (some ⟨sv_b, sv_o, none⟩) (Int.toNat 0) 2 s_c := ⟨_, rfl⟩
          replace H := H sl_2 hq54
          refine hl_val rfl rfl (v := (.slice sl_2 (Int.toNat k_1 - Int.toNat 0) (s_c - Int.toNat 0))) (hv_slice (l := 0) (r := k_1) TyShC.u27 TyShC.sz40 rfl sl_none (sh_some rfl) hs51 hs52 hs53 hq54) ?_
          refine hl_val rfl rfl (v := (.slice sl_2 (Int.toNat k_1 - Int.toNat 0) (s_c - Int.toNat 0))) (hv_assign rfl) ?_
          refine hl_nil ?_
          refine seqQ_n ?_
          refine hx_ret ?_
          refine blockQ_ret ?_
          refine seqQ_ret ?_
          refine seqQ_ret ?_
          refine blockQ_ret ?_
          refine seqQ_ret ?_
          exact endQ_ret _ (res_one Try.results34 (rv_tmp rfl)) H
      · replace H := H.2 hb12
        refine hx_skip ?_
        refine blockQ_n ?_
        refine seqQ_n ?_
        refine hx_region ?_
        refine hl_val rfl rfl (v := (.int .i64 k)) (hv_move rfl) ?_
        refine hl_val rfl rfl (v := (.int .i64 (IntKind.i64.wrap (k + 1)))) (hv_arith rfl rfl rfl) ?_
        refine hl_val rfl rfl (v := (.int .i64 (IntKind.i64.wrap (k + 1)))) (hv_assign rfl) ?_
        refine hl_nil ?_
        refine seqQ_n ?_
        exact ⟨IntKind.i64.wrap (k + 1), ⟨⟨H.1, rfl⟩, H.2⟩, (has_cons rfl (has_cons rfl has_nil))⟩
    · replace H := H.2 hb7
      refine hx_exit ?_
      refine seqQ_exit ?_
      refine seqQ_exit ?_
      refine blockQ_here ?_
      refine seqQ_n ?_
      refine hx_seq ?_
      refine hx_region ?_
      refine hl_val rfl rfl (v := (.slice sv s_n s_c)) (hv_move rfl) ?_
      refine hl_val rfl rfl (v := (.slice sv s_n s_c)) (hv_assign rfl) ?_
      refine hl_nil ?_
      refine seqQ_n ?_
      refine hx_ret ?_
      exact endQ_ret _ (res_one Try.results34 (rv_tmp rfl)) H

/-- cellar/model.Next$1 -/
theorem f31_sh (was_Has : Bool) (was_Value : ByteArray) (Kind : Int) (Key : ByteArray) (Valuev : ByteArray) (Err : Int) (Hitv : Bool) (Life : Int) (From : Int) (To : Int) (h : Heap) (R : Value → Heap → Prop)
    (H : (∀ (h2 : Heap), Ext h h2 → (∀ nb h3, nb = Array.size h2 → h3 = Array.push h2 (.cells #[(.bool was_Has), (.string was_Value)] 40) → R (.slice (some ⟨nb, 0, none⟩) 1 1) h3))) :
    HC Try.prog 31 #[(.agg #[(.bool was_Has), (.string was_Value)]), (.agg #[(.int .i64 Kind), (.string Key), (.string Valuev), (.int .i64 Err), (.bool Hitv), (.int .i64 Life), (.int .i64 From), (.int .i64 To)])] h R := by
  refine hc_of (args := [(.agg #[(.bool was_Has), (.string was_Value)]), (.agg #[(.int .i64 Kind), (.string Key), (.string Valuev), (.int .i64 Err), (.bool Hitv), (.int .i64 Life), (.int .i64 From), (.int .i64 To)])]) Try.func31 rfl Try.ntmps31 (Nat.le_of_ble_eq_true rfl) ?_
  refine hx_seq ?_
  refine hx_region ?_
  refine hl_step rfl rfl (hn_box (v := (.agg #[(.bool was_Has), (.string was_Value)])) rfl ?_)
  intro was h1 eb1 eh2
  have xx3 : Ext h h1 := by rw [eh2]; exact Ext.push _ _
  have lo5 : Array.size h ≤ was := Nat.le_of_eq (Eq.symm eb1)
  have hr4 : h1[was]? = some (.cells #[(.bool was_Has), (.string was_Value)] 40 (0, 0)) := by rw [eh2]; exact push_new eb1
  refine hl_step rfl rfl (hn_box (v := (.agg #[(.int .i64 Kind), (.string Key), (.string Valuev), (.int .i64 Err), (.bool Hitv), (.int .i64 Life), (.int .i64 From), (.int .i64 To)])) rfl ?_)
  intro x h2 eb6 eh7
  have xx8 : Ext h1 h2 := by rw [eh7]; exact Ext.push _ _
  have ne11 := Nat.ne_of_lt (Nat.lt_of_lt_of_eq (row_lt hr4) (Eq.symm eb6))
  have lo10 : Array.size h ≤ x := Nat.le_trans (Ext.size xx3) (Nat.le_of_eq (Eq.symm eb6))
  have hr9 : h2[x]? = some (.cells #[(.int .i64 Kind), (.string Key), (.string Valuev), (.int .i64 Err), (.bool Hitv), (.int .i64 Life), (.int .i64 From), (.int .i64 To)] 31 (0, 0)) := by rw [eh7]; exact push_new eb6
  replace hr4 := Ext.row xx8 hr4
  have xv12 := Ext.trans xx3 xx8
  refine hl_val rfl rfl (v := (.slice none 0 0)) (hv_assign rfl) ?_
  refine hl_nil ?_
  refine seqQ_n ?_
  refine hx_seq ?_
  refine hx_region ?_
  refine hl_val rfl rfl (v := (.agg #[(.bool was_Has), (.string was_Value)])) (hv_loads (vs := [(.bool was_Has), (.string was_Value)]) TyShC.agg40 TyShC.sz40 rfl (hcells_cons (rowcell hr4 rfl) (hcells_cons (rowcell hr4 rfl) hcells_nil))) ?_
  replace H := H h2 xv12
  refine hl_step rfl rfl (hn_buildSlice (n := 1) (vs := [(0, (.agg #[(.bool was_Has), (.string was_Value)]))]) (cs := #[(.bool was_Has), (.string was_Value)]) TyShC.u27 TyShC.sz40 TyShC.z40 rfl rfl (by kernel_rfl) ?_)
  intro nb h3 eb13 eh14
  replace H := H nb h3 eb13 eh14
  have xx15 : Ext h2 h3 := by rw [eh14]; exact Ext.push _ _
  refine hl_val rfl rfl (v := (.slice (some ⟨nb, 0, none⟩) 1 1)) (hv_assign rfl) ?_
  refine hl_nil ?_
  refine seqQ_n ?_
  refine hx_ret ?_
  exact endQ_ret _ (res_one Try.results31 (rv_tmp rfl)) H

end Go.Proofs.Ytmdgfbhmogjklaa
