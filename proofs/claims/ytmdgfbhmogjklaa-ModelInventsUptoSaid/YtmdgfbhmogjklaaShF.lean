/-
Shallow forms, written by gen2.py (a program of ours) out of the print of the program.
-/
import Derived.Test.YtmdgfbhmogjklaaMH
import Derived.Test.YtmdgfbhmogjklaaProg
namespace Go.Proofs.Ytmdgfbhmogjklaa
open Go
set_option maxRecDepth 100000
set_option maxHeartbeats 4000000

theorem TyShF.agg29 : aggB Try.prog 29 = some false := by kernel_rfl
theorem TyShF.agg3 : aggB Try.prog 3 = some false := by kernel_rfl
theorem TyShF.agg31 : aggB Try.prog 31 = some true := by kernel_rfl
theorem TyShF.agg4 : aggB Try.prog 4 = some false := by kernel_rfl
theorem TyShF.agg40 : aggB Try.prog 40 = some true := by kernel_rfl
theorem TyShF.agg9 : aggB Try.prog 9 = some false := by kernel_rfl
theorem TyShF.cb10 : CallB Try.prog 10 := fun _ _ => Try.call10 _ _
theorem TyShF.cb11 : CallB Try.prog 11 := fun _ _ => Try.call11 _ _
theorem TyShF.cb12 : CallB Try.prog 12 := fun _ _ => Try.call12 _ _
theorem TyShF.cb13 : CallB Try.prog 13 := fun _ _ => Try.call13 _ _
theorem TyShF.cb14 : CallB Try.prog 14 := fun _ _ => Try.call14 _ _
theorem TyShF.cb15 : CallB Try.prog 15 := fun _ _ => Try.call15 _ _
theorem TyShF.cb16 : CallB Try.prog 16 := fun _ _ => Try.call16 _ _
theorem TyShF.cb17 : CallB Try.prog 17 := fun _ _ => Try.call17 _ _
theorem TyShF.cb18 : CallB Try.prog 18 := fun _ _ => Try.call18 _ _
theorem TyShF.cb19 : CallB Try.prog 19 := fun _ _ => Try.call19 _ _
theorem TyShF.cb20 : CallB Try.prog 20 := fun _ _ => Try.call20 _ _
theorem TyShF.cb21 : CallB Try.prog 21 := fun _ _ => Try.call21 _ _
theorem TyShF.el22 : elB Try.prog 22 = some 8 := by kernel_rfl
theorem TyShF.el27 : elB Try.prog 27 = some 2 := by kernel_rfl
theorem TyShF.fld31_0 : fldB Try.prog 31 0 = some 0 := by kernel_rfl
theorem TyShF.fld31_1 : fldB Try.prog 31 1 = some 1 := by kernel_rfl
theorem TyShF.fld31_2 : fldB Try.prog 31 2 = some 2 := by kernel_rfl
theorem TyShF.fld31_3 : fldB Try.prog 31 3 = some 3 := by kernel_rfl
theorem TyShF.fld31_4 : fldB Try.prog 31 4 = some 4 := by kernel_rfl
theorem TyShF.fld31_7 : fldB Try.prog 31 7 = some 7 := by kernel_rfl
theorem TyShF.mixed : Try.prog.follows .mixedOrders = true := by kernel_rfl
theorem TyShF.pl31 : plB Try.prog 31 = some [(0, 1), (1, 1), (2, 1), (3, 1), (4, 1), (5, 1), (6, 1), (7, 1)] := by kernel_rfl
theorem TyShF.se31 : seB Try.prog 31 = some [(3, 0), (9, 1), (9, 2), (29, 3), (4, 4), (3, 5), (3, 6), (3, 7)] := by kernel_rfl
theorem TyShF.sz29 : szB Try.prog 29 = some 1 := by kernel_rfl
theorem TyShF.sz3 : szB Try.prog 3 = some 1 := by kernel_rfl
theorem TyShF.sz31 : szB Try.prog 31 = some 8 := by kernel_rfl
theorem TyShF.sz40 : szB Try.prog 40 = some 2 := by kernel_rfl
theorem TyShF.u22 : Try.prog.underlying 22 = some (.slice 31) := by kernel_rfl
theorem TyShF.u27 : Try.prog.underlying 27 = some (.slice 40) := by kernel_rfl
theorem TyShF.u4 : Try.prog.underlying 4 = some (.bool) := by kernel_rfl
theorem TyShF.z31 : zeroB Try.prog 31 (.agg #[(.int .i64 0), (.string ByteArray.empty), (.string ByteArray.empty), (.int .i64 0), (.bool false), (.int .i64 0), (.int .i64 0), (.int .i64 0)]) := by unfold zeroB; kernel_rfl

/-- cellar/cellarlaw23.ModelAccepts -/
theorem f3_sh (l : Option Addr) (l_n : Nat) (l_c : Nat) (key : ByteArray) (h : Heap) (R : Value → Heap → Prop)
    (H : (∀ nb h1, nb = Array.size h → h1 = Array.push h (.cells #[] 31) → HAppend Try.prog 22 22 (.slice (some ⟨nb, 0, none⟩) 0 0) (.slice l l_n l_c) h1 (fun vv h2 => ∃ ap : Option Addr, ∃ ap_n ap_c : Nat, vv = (.slice ap ap_n ap_c) ∧ HC Try.prog 10 #[(.slice ap ap_n ap_c)] h2 (fun vv h3 => ∃ r0 : Bool, ∃ r1 : Int, vv = (.tuple #[(.bool r0), (.int .i64 r1)]) ∧ HC Try.prog 11 #[(.slice l l_n l_c)] h3 (fun vv h4 => ∃ r0_1 : Bool, ∃ r1_1 : Int, vv = (.tuple #[(.bool r0_1), (.int .i64 r1_1)]) ∧ (∃ A6 : Bool → Heap → Prop, (((r0 != r0_1) = true → (∀ (h6 : Heap), Ext h4 h6 → (A6 true h6))) ∧ ((r0 != r0_1) = false → (((r1 != r1_1) = true → (∀ (h6 : Heap), Ext h4 h6 → (A6 true h6))) ∧ ((r1 != r1_1) = false → (∀ (h6 : Heap), Ext h4 h6 → HC Try.prog 14 #[(.slice ap ap_n ap_c), (.string key)] h6 (fun vv h7 => ∃ r : Option Addr, ∃ r_n r_c : Nat, vv = (.slice r r_n r_c) ∧ HC Try.prog 15 #[(.slice l l_n l_c), (.string key)] h7 (fun vv h8 => ∃ r_1 : Option Addr, ∃ r_n_1 r_c_1 : Nat, vv = (.slice r_1 r_n_1 r_c_1) ∧ HC Try.prog 13 #[(.slice r r_n r_c), (.slice r_1 r_n_1 r_c_1)] h8 (fun vv h9 => ∃ r_2 : Bool, vv = (.bool r_2) ∧ (A6 (!r_2) h9))))))))) ∧ (∀ (j : Bool) (h5 : Heap), A6 j h5 → ((j = true → R (.bool false) h5) ∧ (j = false → (∃ (I12 : Int → Heap → Prop) (mu13 : Int → Heap → Nat), I12 0 h5 ∧ (∀ (i : Int) (h10 : Heap), I12 i h10 → (((decide (i < (l_n : Int))) = true → (∃ A20 : Bool → Heap → Prop, (∃ T22 : Heap → Heap → Prop, Fit T22 ∧ (∃ ap_b ap_o : Nat, ap = some ⟨ap_b, ap_o, none⟩ ∧ (0 : Int) ≤ i ∧ i < (ap_n : Int) ∧ (∃ x_Kind : Int, ∃ x_Key x_Value : ByteArray, ∃ x_Err : Int, ∃ x_Hit : Bool, ∃ x_Life x_From x_To : Int, hcell h10 ap_b (ap_o + (Int.toNat i) * 8) = some (.int .i64 x_Kind) ∧ hcell h10 ap_b ((ap_o + (Int.toNat i) * 8) + 1) = some (.string x_Key) ∧ hcell h10 ap_b ((ap_o + (Int.toNat i) * 8) + 2) = some (.string x_Value) ∧ hcell h10 ap_b ((ap_o + (Int.toNat i) * 8) + 3) = some (.int .i64 x_Err) ∧ hcell h10 ap_b ((ap_o + (Int.toNat i) * 8) + 4) = some (.bool x_Hit) ∧ hcell h10 ap_b ((ap_o + (Int.toNat i) * 8) + 5) = some (.int .i64 x_Life) ∧ hcell h10 ap_b ((ap_o + (Int.toNat i) * 8) + 6) = some (.int .i64 x_From) ∧ hcell h10 ap_b ((ap_o + (Int.toNat i) * 8) + 7) = some (.int .i64 x_To) ∧ (∃ l_b l_o : Nat, l = some ⟨l_b, l_o, none⟩ ∧ (0 : Int) ≤ i ∧ i < (l_n : Int) ∧ (∃ x_Kind_1 : Int, ∃ x_Key_1 x_Value_1 : ByteArray, ∃ x_Err_1 : Int, ∃ x_Hit_1 : Bool, ∃ x_Life_1 x_From_1 x_To_1 : Int, hcell h10 l_b (l_o + (Int.toNat i) * 8) = some (.int .i64 x_Kind_1) ∧ hcell h10 l_b ((l_o + (Int.toNat i) * 8) + 1) = some (.string x_Key_1) ∧ hcell h10 l_b ((l_o + (Int.toNat i) * 8) + 2) = some (.string x_Value_1) ∧ hcell h10 l_b ((l_o + (Int.toNat i) * 8) + 3) = some (.int .i64 x_Err_1) ∧ hcell h10 l_b ((l_o + (Int.toNat i) * 8) + 4) = some (.bool x_Hit_1) ∧ hcell h10 l_b ((l_o + (Int.toNat i) * 8) + 5) = some (.int .i64 x_Life_1) ∧ hcell h10 l_b ((l_o + (Int.toNat i) * 8) + 6) = some (.int .i64 x_From_1) ∧ hcell h10 l_b ((l_o + (Int.toNat i) * 8) + 7) = some (.int .i64 x_To_1) ∧ (((!((x_Kind == x_Kind_1 && (x_Key == x_Key_1 && (x_Value == x_Value_1 && (x_Err == x_Err_1 && (x_Hit == x_Hit_1 && (x_Life == x_Life_1 && (x_From == x_From_1 && (x_To == x_To_1 && true)))))))))) = true → (A20 true h10)) ∧ ((!((x_Kind == x_Kind_1 && (x_Key == x_Key_1 && (x_Value == x_Value_1 && (x_Err == x_Err_1 && (x_Hit == x_Hit_1 && (x_Life == x_Life_1 && (x_From == x_From_1 && (x_To == x_To_1 && true)))))))))) = false → (∃ x : ByteArray, (∀ hx, T22 h10 hx → hcell hx l_b ((l_o + (Int.toNat i) * 8) + 1) = some (.string x)) ∧ HC Try.prog 14 #[(.slice (some ⟨ap_b, ap_o, none⟩) ap_n ap_c), (.string x_Key_1)] h10 (fun vv h12 => T22 h10 h12 ∧ ∃ r_3 : Option Addr, ∃ r_n_2 r_c_2 : Nat, vv = (.slice r_3 r_n_2 r_c_2) ∧ HC Try.prog 15 #[(.slice (some ⟨l_b, l_o, none⟩) l_n l_c), (.string x)] h12 (fun vv h13 => ∃ r_4 : Option Addr, ∃ r_n_3 r_c_3 : Nat, vv = (.slice r_4 r_n_3 r_c_3) ∧ HC Try.prog 13 #[(.slice r_3 r_n_2 r_c_2), (.slice r_4 r_n_3 r_c_3)] h13 (fun vv h14 => ∃ r_5 : Bool, vv = (.bool r_5) ∧ (A20 (!r_5) h14)))))))))))) ∧ (∀ (j_1 : Bool) (h11 : Heap), A20 j_1 h11 → ((j_1 = true → R (.bool false) h11) ∧ (j_1 = false → (I12 (IntKind.i64.wrap (i + 1)) h11 ∧ mu13 (IntKind.i64.wrap (i + 1)) h11 < mu13 i h10)))))) ∧ ((decide (i < (l_n : Int))) = false → R (.bool true) h10))))))))))))) :
    HC Try.prog 3 #[(.slice l l_n l_c), (.string key)] h R := by
  refine hc_of (args := [(.slice l l_n l_c), (.string key)]) Try.func3 rfl Try.ntmps3 (Nat.le_of_ble_eq_true rfl) ?_
  refine hx_seq ?_
  refine hx_region ?_
  refine hl_val rfl rfl (v := (.bool false)) (hv_assign rfl) ?_
  refine hl_nil ?_
  refine seqQ_n ?_
  refine hx_seq ?_
  refine hx_region ?_
  refine hl_step rfl rfl (hn_buildSlice (n := 0) (vs := []) (cs := #[]) TyShF.u22 TyShF.sz31 TyShF.z31 rfl rfl (by kernel_rfl) ?_)
  intro nb h1 eb1 eh2
  replace H := H nb h1 eb1 eh2
  have xx3 : Ext h h1 := by rw [eh2]; exact Ext.push _ _
  refine hl_val rfl rfl (v := (.slice l l_n l_c)) (hv_move rfl) ?_
  refine hl_step rfl rfl (hs_append rfl rfl (HAppend.mono H ?_))
  rintro _ h2 ⟨ap, ap_n, ap_c, rfl, H⟩
  refine hl_val rfl rfl (v := (.slice ap ap_n ap_c)) (hv_assign rfl) ?_
  refine hl_nil ?_
  refine seqQ_n ?_
  refine hx_seq ?_
  refine hx_region ?_
  refine hl_val rfl rfl (v := (.slice ap ap_n ap_c)) (hv_move rfl) ?_
  refine hl_step rfl rfl (hs_call TyShF.cb10 (vs := [(.slice ap ap_n ap_c)]) rfl (HC.mono H ?_))
  rintro _ h3 ⟨r0, r1, rfl, H⟩
  refine hl_val rfl rfl (v := (.tuple #[(.bool r0), (.int .i64 r1)])) (hv_move rfl) ?_
  refine hl_val rfl rfl (v := (.bool r0)) (hv_extract (vs := #[(.bool r0), (.int .i64 r1)]) rfl rfl) ?_
  refine hl_val rfl rfl (v := (.int .i64 r1)) (hv_extract (vs := #[(.bool r0), (.int .i64 r1)]) rfl rfl) ?_
  refine hl_val rfl rfl (v := (.bool r0)) (hv_assign rfl) ?_
  refine hl_val rfl rfl (v := (.int .i64 r1)) (hv_assign rfl) ?_
  refine hl_nil ?_
  refine seqQ_n ?_
  refine hx_seq ?_
  refine hx_region ?_
  refine hl_val rfl rfl (v := (.slice l l_n l_c)) (hv_move rfl) ?_
  refine hl_step rfl rfl (hs_call TyShF.cb11 (vs := [(.slice l l_n l_c)]) rfl (HC.mono H ?_))
  rintro _ h4 ⟨r0_1, r1_1, rfl, H⟩
  refine hl_val rfl rfl (v := (.tuple #[(.bool r0_1), (.int .i64 r1_1)])) (hv_move rfl) ?_
  refine hl_val rfl rfl (v := (.bool r0_1)) (hv_extract (vs := #[(.bool r0_1), (.int .i64 r1_1)]) rfl rfl) ?_
  refine hl_val rfl rfl (v := (.int .i64 r1_1)) (hv_extract (vs := #[(.bool r0_1), (.int .i64 r1_1)]) rfl rfl) ?_
  refine hl_val rfl rfl (v := (.bool r0_1)) (hv_assign rfl) ?_
  refine hl_val rfl rfl (v := (.int .i64 r1_1)) (hv_assign rfl) ?_
  refine hl_nil ?_
  refine seqQ_n ?_
  refine hx_seq ?_
  obtain ⟨A6, Hx4, Hy5⟩ := H
  refine hx_cut (fun ρ h' => ∃ j : Bool, (A6 j h' ∧ True) ∧ Has ρ [(0, (.slice l l_n l_c)), (5, (.slice ap ap_n ap_c)), (45, (.bool j))]) ?_ ?_
  · have H := Hx4; clear Hx4 Hy5
    refine hx_region ?_
    refine hl_step rfl rfl (hs_call TyShF.cb12 (vs := []) rfl (HC.mono (lives_c  _) ?_))
    rintro _ h6 ⟨rfl, xx8⟩
    refine hl_val rfl rfl (v := (.bool false)) (hv_not (b := true) rfl) ?_
    refine hl_val rfl rfl (v := (.bool false)) (hv_move rfl) ?_
    refine hl_yes (wanted_y rfl rfl (c := false) rfl rfl) rfl (HStep.of_val (v := (.bool r0)) (hv_move rfl) ?_)
    refine hl_yes (wanted_y rfl rfl (c := false) rfl rfl) rfl (HStep.of_val (v := (.bool r0_1)) (hv_move rfl) ?_)
    refine hl_yes (wanted_y rfl rfl (c := false) rfl rfl) rfl (HStep.of_val (v := (.bool (r0 != r0_1))) (hv_eqBool TyShF.u4 rfl rfl rfl) ?_)
    refine hl_val rfl rfl (v := (.bool (r0 != r0_1))) (hv_pick (t := false) rfl rfl) ?_
    refine hl_val rfl rfl (v := (.bool (r0 != r0_1))) (hv_move rfl) ?_
    rcases bool_or (r0 != r0_1) with hg9 | hg9
    · replace H := H.1 hg9
      refine hl_no (wanted_n rfl rfl rfl hg9) rfl ?_
      refine hl_no (wanted_n rfl rfl rfl hg9) rfl ?_
      refine hl_no (wanted_n rfl rfl rfl hg9) rfl ?_
      refine hl_val rfl rfl (v := (.bool true)) (hv_pick_t rfl hg9 rfl) ?_
      refine hl_val rfl rfl (v := (.bool true)) (hv_move rfl) ?_
      refine hl_no (wanted_n rfl rfl (c := true) rfl rfl) rfl ?_
      refine hl_no (wanted_n rfl rfl (c := true) rfl rfl) rfl ?_
      refine hl_no (wanted_n rfl rfl (c := true) rfl rfl) rfl ?_
      refine hl_no (wanted_n rfl rfl (c := true) rfl rfl) rfl ?_
      refine hl_no (wanted_n rfl rfl (c := true) rfl rfl) rfl ?_
      refine hl_no (wanted_n rfl rfl (c := true) rfl rfl) rfl ?_
      refine hl_no (wanted_n rfl rfl (c := true) rfl rfl) rfl ?_
      refine hl_no (wanted_n rfl rfl (c := true) rfl rfl) rfl ?_
      refine hl_val rfl rfl (v := (.bool true)) (hv_pick (t := true) rfl rfl) ?_
      refine hl_nil ?_
      replace H := H h6 xx8
      refine seqQ_n ?_
      exact ⟨_, ⟨H, trivial⟩, (has_cons rfl (has_cons rfl (has_cons rfl has_nil)))⟩
    · replace H := H.2 hg9
      refine hl_yes (wanted_y rfl rfl rfl hg9) rfl (HStep.of_val (v := (.int .i64 r1)) (hv_move rfl) ?_)
      refine hl_yes (wanted_y rfl rfl rfl hg9) rfl (HStep.of_val (v := (.int .i64 r1_1)) (hv_move rfl) ?_)
      refine hl_yes (wanted_y rfl rfl rfl hg9) rfl (HStep.of_val (v := (.bool (r1 != r1_1))) (hv_arith rfl rfl rfl) ?_)
      refine hl_val rfl rfl (v := (.bool (r1 != r1_1))) (hv_pick_f rfl hg9 rfl) ?_
      refine hl_val rfl rfl (v := (.bool (r1 != r1_1))) (hv_move rfl) ?_
      rcases bool_or (r1 != r1_1) with hg10 | hg10
      · replace H := H.1 hg10
        refine hl_no (wanted_n rfl rfl rfl hg10) rfl ?_
        refine hl_no (wanted_n rfl rfl rfl hg10) rfl ?_
        refine hl_no (wanted_n rfl rfl rfl hg10) rfl ?_
        refine hl_no (wanted_n rfl rfl rfl hg10) rfl ?_
        refine hl_no (wanted_n rfl rfl rfl hg10) rfl ?_
        refine hl_no (wanted_n rfl rfl rfl hg10) rfl ?_
        refine hl_no (wanted_n rfl rfl rfl hg10) rfl ?_
        refine hl_no (wanted_n rfl rfl rfl hg10) rfl ?_
        refine hl_val rfl rfl (v := (.bool true)) (hv_pick_t rfl hg10 rfl) ?_
        refine hl_nil ?_
        replace H := H h6 xx8
        refine seqQ_n ?_
        exact ⟨_, ⟨H, trivial⟩, (has_cons rfl (has_cons rfl (has_cons rfl has_nil)))⟩
      · replace H := H.2 hg10
        refine hl_yes (wanted_y rfl rfl rfl hg10) rfl (HStep.of_val (v := (.slice ap ap_n ap_c)) (hv_move rfl) ?_)
        refine hl_yes (wanted_y rfl rfl rfl hg10) rfl (HStep.of_val (v := (.string key)) (hv_move rfl) ?_)
        replace H := H h6 xx8
        refine hl_yes (wanted_y rfl rfl rfl hg10) rfl (hs_call TyShF.cb14 (vs := [(.slice ap ap_n ap_c), (.string key)]) rfl (HC.mono H ?_))
        rintro _ h7 ⟨r, r_n, r_c, rfl, H⟩
        refine hl_yes (wanted_y rfl rfl rfl hg10) rfl (HStep.of_val (v := (.slice l l_n l_c)) (hv_move rfl) ?_)
        refine hl_yes (wanted_y rfl rfl rfl hg10) rfl (HStep.of_val (v := (.string key)) (hv_move rfl) ?_)
        refine hl_yes (wanted_y rfl rfl rfl hg10) rfl (hs_call TyShF.cb15 (vs := [(.slice l l_n l_c), (.string key)]) rfl (HC.mono H ?_))
        rintro _ h8 ⟨r_1, r_n_1, r_c_1, rfl, H⟩
        refine hl_yes (wanted_y rfl rfl rfl hg10) rfl (hs_call TyShF.cb13 (vs := [(.slice r r_n r_c), (.slice r_1 r_n_1 r_c_1)]) rfl (HC.mono H ?_))
        rintro _ h9 ⟨r_2, rfl, H⟩
        refine hl_yes (wanted_y rfl rfl rfl hg10) rfl (HStep.of_val (v := (.bool (!r_2))) (hv_not (b := r_2) rfl) ?_)
        refine hl_val rfl rfl (v := (.bool (!r_2))) (hv_pick_f rfl hg10 rfl) ?_
        refine hl_nil ?_
        refine seqQ_n ?_
        exact ⟨_, ⟨H, trivial⟩, (has_cons rfl (has_cons rfl (has_cons rfl has_nil)))⟩
  · rintro ρ h5 ⟨j, ⟨HA7, -⟩, hH⟩
    have H := Hy5 j h5 HA7; clear Hx4 Hy5
    refine hx_has _ hH ?_
    refine hx_cond (b := j) rfl (fun hb11 => ?_) (fun hb11 => ?_)
    · replace H := H.1 hb11
      refine hx_seq ?_
      refine hx_region ?_
      refine hl_val rfl rfl (v := (.bool false)) (hv_assign rfl) ?_
      refine hl_nil ?_
      refine seqQ_n ?_
      refine hx_ret ?_
      refine seqQ_ret ?_
      exact endQ_ret _ (res_one Try.results3 (rv_tmp rfl)) H
    · replace H := H.2 hb11
      refine hx_skip ?_
      refine seqQ_n ?_
      refine hx_seq ?_
      refine hx_seq ?_
      refine hx_region ?_
      refine hl_val rfl rfl (v := (.int .i64 0)) (hv_assign rfl) ?_
      refine hl_nil ?_
      refine seqQ_n ?_
      refine hx_block ?_
      obtain ⟨I12, mu13, Ha14, Hr15⟩ := H
      refine hx_loopT (σ := Int) (fun s => [(0, (.slice l l_n l_c)), (5, (.slice ap ap_n ap_c)), (10, (.int .i64 s))]) (fun s h' => I12 s h' ∧ True) (fun s h' => mu13 s h') 0 ⟨Ha14, trivial⟩ (has_cons rfl (has_cons rfl (has_cons rfl has_nil))) ?_
      rintro i ρ h10 ⟨Hi16, -⟩
      have H := Hr15 i h10 Hi16
      refine hx_seq ?_
      refine hx_seq ?_
      refine hx_region ?_
      refine hl_val rfl rfl (v := (.int .i64 i)) (hv_move rfl) ?_
      refine hl_val rfl rfl (v := (.slice l l_n l_c)) (hv_move rfl) ?_
      refine hl_val rfl rfl (v := (.int .i64 (l_n : Int))) (hv_len (n := l_n) TyShF.u22 rfl) ?_
      refine hl_val rfl rfl (v := (.bool (decide (i < (l_n : Int))))) (hv_arith rfl rfl rfl) ?_
      refine hl_nil ?_
      refine seqQ_n ?_
      refine hx_cond (b := decide (i < (l_n : Int))) rfl (fun hb17 => ?_) (fun hb17 => ?_)
      · replace H := H.1 hb17
        refine hx_skip ?_
        refine seqQ_n ?_
        refine hx_seq ?_
        refine hx_block ?_
        obtain ⟨A20, Hx18, Hy19⟩ := H
        refine hx_cut (fun ρ h' => ∃ j_1 : Bool, (A20 j_1 h' ∧ True) ∧ Has ρ [(0, (.slice l l_n l_c)), (5, (.slice ap ap_n ap_c)), (10, (.int .i64 i)), (78, (.bool j_1))]) ?_ ?_
        · have H := Hx18; clear Hx18 Hy19
          obtain ⟨T22, hT23, H⟩ := H
          refine hx_drawT TyShF.mixed T22 hT23 [.pure, .pure, .pure, .read, .pure, .pure, .pure, .read, .pure, .pure, .pure, .pure, .pure, .pure, .pure, .read, .tame, .pure, .pure, .pure, .pure, .pure, .stay, .wild, .wild, .pure, .pure] [0, 1, 2, 3, 4, 5, 6, 7, 8, 9, 10, 11, 12, 13, 14, 15, 17, 18, 19, 20, 21, 22, 16, 23, 24, 25, 26] (by kernel_rfl) ?_
          refine hp_pure (i := 0) rfl (wanted_0 rfl) rfl (.slice ap ap_n ap_c) (fun _ => hv_move rfl) ?_
          refine hp_pure (i := 1) rfl (wanted_0 rfl) rfl (.int .i64 i) (fun _ => hv_move rfl) ?_
          obtain ⟨ap_b, ap_o, hqe, hi24, hi25, Hq⟩ := H
          subst hqe
          have H := Hq; clear Hq
          refine hp_pure (i := 2) rfl (wanted_0 rfl) rfl (ptr ap_b (ap_o + (Int.toNat i) * 8)) (fun _ => hv_index TyShF.el22 rfl rfl hi24 hi25) ?_
          obtain ⟨x_Kind, x_Key, x_Value, x_Err, x_Hit, x_Life, x_From, x_To, hc26, hc27, hc28, hc29, hc30, hc31, hc32, hc33, H⟩ := H
          refine hp_read (i := 3) rfl (wanted_0 rfl) rfl (.agg #[(.int .i64 x_Kind), (.string x_Key), (.string x_Value), (.int .i64 x_Err), (.bool x_Hit), (.int .i64 x_Life), (.int .i64 x_From), (.int .i64 x_To)]) (fun _ he => hv_loads (vs := [(.int .i64 x_Kind), (.string x_Key), (.string x_Value), (.int .i64 x_Err), (.bool x_Hit), (.int .i64 x_Life), (.int .i64 x_From), (.int .i64 x_To)]) TyShF.agg31 TyShF.sz31 rfl (hcells_cons (Ext.cell he hc26) (hcells_cons (Ext.cell he hc27) (hcells_cons (Ext.cell he hc28) (hcells_cons (Ext.cell he hc29) (hcells_cons (Ext.cell he hc30) (hcells_cons (Ext.cell he hc31) (hcells_cons (Ext.cell he hc32) (hcells_cons (Ext.cell he hc33) hcells_nil))))))))) ?_
          refine hp_pure (i := 4) rfl (wanted_0 rfl) rfl (.slice l l_n l_c) (fun _ => hv_move rfl) ?_
          refine hp_pure (i := 5) rfl (wanted_0 rfl) rfl (.int .i64 i) (fun _ => hv_move rfl) ?_
          obtain ⟨l_b, l_o, hqe, hi34, hi35, Hq⟩ := H
          subst hqe
          have H := Hq; clear Hq
          refine hp_pure (i := 6) rfl (wanted_0 rfl) rfl (ptr l_b (l_o + (Int.toNat i) * 8)) (fun _ => hv_index TyShF.el22 rfl rfl hi34 hi35) ?_
          obtain ⟨x_Kind_1, x_Key_1, x_Value_1, x_Err_1, x_Hit_1, x_Life_1, x_From_1, x_To_1, hc36, hc37, hc38, hc39, hc40, hc41, hc42, hc43, H⟩ := H
          refine hp_read (i := 7) rfl (wanted_0 rfl) rfl (.agg #[(.int .i64 x_Kind_1), (.string x_Key_1), (.string x_Value_1), (.int .i64 x_Err_1), (.bool x_Hit_1), (.int .i64 x_Life_1), (.int .i64 x_From_1), (.int .i64 x_To_1)]) (fun _ he => hv_loads (vs := [(.int .i64 x_Kind_1), (.string x_Key_1), (.string x_Value_1), (.int .i64 x_Err_1), (.bool x_Hit_1), (.int .i64 x_Life_1), (.int .i64 x_From_1), (.int .i64 x_To_1)]) TyShF.agg31 TyShF.sz31 rfl (hcells_cons (Ext.cell he hc36) (hcells_cons (Ext.cell he hc37) (hcells_cons (Ext.cell he hc38) (hcells_cons (Ext.cell he hc39) (hcells_cons (Ext.cell he hc40) (hcells_cons (Ext.cell he hc41) (hcells_cons (Ext.cell he hc42) (hcells_cons (Ext.cell he hc43) hcells_nil))))))))) ?_
          refine hp_pure (i := 8) rfl (wanted_0 rfl) rfl (.bool (!((x_Kind == x_Kind_1 && (x_Key == x_Key_1 && (x_Value == x_Value_1 && (x_Err == x_Err_1 && (x_Hit == x_Hit_1 && (x_Life == x_Life_1 && (x_From == x_From_1 && (x_To == x_To_1 && true))))))))))) (fun _ => hv_structEq (xs := [(.int .i64 x_Kind), (.string x_Key), (.string x_Value), (.int .i64 x_Err), (.bool x_Hit), (.int .i64 x_Life), (.int .i64 x_From), (.int .i64 x_To)]) (ys := [(.int .i64 x_Kind_1), (.string x_Key_1), (.string x_Value_1), (.int .i64 x_Err_1), (.bool x_Hit_1), (.int .i64 x_Life_1), (.int .i64 x_From_1), (.int .i64 x_To_1)]) (b := (x_Kind == x_Kind_1 && (x_Key == x_Key_1 && (x_Value == x_Value_1 && (x_Err == x_Err_1 && (x_Hit == x_Hit_1 && (x_Life == x_Life_1 && (x_From == x_From_1 && (x_To == x_To_1 && true))))))))) TyShF.se31 rfl rfl (by kernel_rfl) rfl) ?_
          refine hp_pure (i := 9) rfl (wanted_0 rfl) rfl (.bool (!((x_Kind == x_Kind_1 && (x_Key == x_Key_1 && (x_Value == x_Value_1 && (x_Err == x_Err_1 && (x_Hit == x_Hit_1 && (x_Life == x_Life_1 && (x_From == x_From_1 && (x_To == x_To_1 && true))))))))))) (fun _ => hv_move rfl) ?_
          rcases bool_or (!((x_Kind == x_Kind_1 && (x_Key == x_Key_1 && (x_Value == x_Value_1 && (x_Err == x_Err_1 && (x_Hit == x_Hit_1 && (x_Life == x_Life_1 && (x_From == x_From_1 && (x_To == x_To_1 && true)))))))))) with hg44 | hg44
          · replace H := H.1 hg44
            refine hp_no (i := 10) rfl (wanted_n rfl rfl rfl hg44) ?_
            refine hp_no (i := 11) rfl (wanted_n rfl rfl rfl hg44) ?_
            refine hp_no (i := 12) rfl (wanted_n rfl rfl rfl hg44) ?_
            refine hp_no (i := 13) rfl (wanted_n rfl rfl rfl hg44) ?_
            refine hp_no (i := 14) rfl (wanted_n rfl rfl rfl hg44) ?_
            refine hp_no (i := 15) rfl (wanted_n rfl rfl rfl hg44) ?_
            refine hp_no (i := 17) rfl (wanted_n rfl rfl rfl hg44) ?_
            refine hp_no (i := 18) rfl (wanted_n rfl rfl rfl hg44) ?_
            refine hp_no (i := 19) rfl (wanted_n rfl rfl rfl hg44) ?_
            refine hp_no (i := 20) rfl (wanted_n rfl rfl rfl hg44) ?_
            refine hp_no (i := 21) rfl (wanted_n rfl rfl rfl hg44) ?_
            refine hp_no (i := 22) rfl (wanted_n rfl rfl rfl hg44) ?_
            refine hp_no (i := 16) rfl (wanted_n rfl rfl rfl hg44) ?_
            refine hp_no (i := 23) rfl (wanted_n rfl rfl rfl hg44) ?_
            refine hp_no (i := 24) rfl (wanted_n rfl rfl rfl hg44) ?_
            refine hp_no (i := 25) rfl (wanted_n rfl rfl rfl hg44) ?_
            refine hp_pure (i := 26) rfl (wanted_0 rfl) rfl (.bool true) (fun _ => hv_pick_t rfl hg44 rfl) ?_
            refine hp_nil ?_
            refine seqQ_n ?_
            exact ⟨_, ⟨H, trivial⟩, (has_cons rfl (has_cons rfl (has_cons rfl (has_cons rfl has_nil))))⟩
          · replace H := H.2 hg44
            refine hp_pure (i := 10) rfl (wanted_y rfl rfl rfl hg44) rfl (.slice (some ⟨ap_b, ap_o, none⟩) ap_n ap_c) (fun _ => hv_move rfl) ?_
            refine hp_pure (i := 11) rfl (wanted_y rfl rfl rfl hg44) rfl (.slice (some ⟨l_b, l_o, none⟩) l_n l_c) (fun _ => hv_move rfl) ?_
            refine hp_pure (i := 12) rfl (wanted_y rfl rfl rfl hg44) rfl (.int .i64 i) (fun _ => hv_move rfl) ?_
            refine hp_pure (i := 13) rfl (wanted_y rfl rfl rfl hg44) rfl (ptr l_b (l_o + (Int.toNat i) * 8)) (fun _ => hv_index TyShF.el22 rfl rfl hi34 hi35) ?_
            refine hp_pure (i := 14) rfl (wanted_y rfl rfl rfl hg44) rfl (ptr l_b ((l_o + (Int.toNat i) * 8) + 1)) (fun _ => hv_field TyShF.fld31_1 (b := l_b) (o := l_o + (Int.toNat i) * 8) rfl) ?_
            refine hp_read (i := 15) rfl (wanted_y rfl rfl rfl hg44) rfl (.string x_Key_1) (fun _ he => hv_load TyShF.agg9 rfl (Ext.cell he hc37)) ?_
            refine hp_pure (i := 17) rfl (wanted_y rfl rfl rfl hg44) rfl (.slice (some ⟨l_b, l_o, none⟩) l_n l_c) (fun _ => hv_move rfl) ?_
            refine hp_pure (i := 18) rfl (wanted_y rfl rfl rfl hg44) rfl (.slice (some ⟨l_b, l_o, none⟩) l_n l_c) (fun _ => hv_move rfl) ?_
            refine hp_pure (i := 19) rfl (wanted_y rfl rfl rfl hg44) rfl (.int .i64 i) (fun _ => hv_move rfl) ?_
            refine hp_pure (i := 20) rfl (wanted_y rfl rfl rfl hg44) rfl (ptr l_b (l_o + (Int.toNat i) * 8)) (fun _ => hv_index TyShF.el22 rfl rfl hi34 hi35) ?_
            refine hp_pure (i := 21) rfl (wanted_y rfl rfl rfl hg44) rfl (ptr l_b ((l_o + (Int.toNat i) * 8) + 1)) (fun _ => hv_field TyShF.fld31_1 (b := l_b) (o := l_o + (Int.toNat i) * 8) rfl) ?_
            obtain ⟨x, hc49, H⟩ := H
            refine hp_stay (i := 22) rfl (wanted_y rfl rfl rfl hg44) rfl (.string x) (fun _ he => hv_load TyShF.agg9 rfl (hc49 _ he)) ?_
            refine hp_tame (i := 16) rfl (wanted_y rfl rfl rfl hg44) rfl (hs_call TyShF.cb14 (vs := [(.slice (some ⟨ap_b, ap_o, none⟩) ap_n ap_c), (.string x_Key_1)]) rfl (HC.mono H ?_))
            rintro _ h12 ⟨ht50, r_3, r_n_2, r_c_2, rfl, H⟩
            refine ⟨ht50, ?_⟩
            refine hp_wild (i := 23) rfl (wanted_y rfl rfl rfl hg44) rfl (hs_call TyShF.cb15 (vs := [(.slice (some ⟨l_b, l_o, none⟩) l_n l_c), (.string x)]) rfl (HC.mono H ?_))
            rintro _ h13 ⟨r_4, r_n_3, r_c_3, rfl, H⟩
            refine hp_wild (i := 24) rfl (wanted_y rfl rfl rfl hg44) rfl (hs_call TyShF.cb13 (vs := [(.slice r_3 r_n_2 r_c_2), (.slice r_4 r_n_3 r_c_3)]) rfl (HC.mono H ?_))
            rintro _ h14 ⟨r_5, rfl, H⟩
            refine hp_pure (i := 25) rfl (wanted_y rfl rfl rfl hg44) rfl (.bool (!r_5)) (fun _ => hv_not (b := r_5) rfl) ?_
            refine hp_pure (i := 26) rfl (wanted_0 rfl) rfl (.bool (!r_5)) (fun _ => hv_pick_f rfl hg44 rfl) ?_
            refine hp_nil ?_
            refine seqQ_n ?_
            exact ⟨_, ⟨H, trivial⟩, (has_cons rfl (has_cons rfl (has_cons rfl (has_cons rfl has_nil))))⟩
        · rintro ρ h11 ⟨j_1, ⟨HA21, -⟩, hH⟩
          have H := Hy19 j_1 h11 HA21; clear Hx18 Hy19
          refine hx_has _ hH ?_
          refine hx_cond (b := j_1) rfl (fun hb51 => ?_) (fun hb51 => ?_)
          · replace H := H.1 hb51
            refine hx_seq ?_
            refine hx_region ?_
            refine hl_val rfl rfl (v := (.bool false)) (hv_assign rfl) ?_
            refine hl_nil ?_
            refine seqQ_n ?_
            refine hx_ret ?_
            refine blockQ_ret ?_
            refine seqQ_ret ?_
            refine seqQ_ret ?_
            refine blockQ_ret ?_
            refine seqQ_ret ?_
            exact endQ_ret _ (res_one Try.results3 (rv_tmp rfl)) H
          · replace H := H.2 hb51
            refine hx_skip ?_
            refine blockQ_n ?_
            refine seqQ_n ?_
            refine hx_region ?_
            refine hl_val rfl rfl (v := (.int .i64 i)) (hv_move rfl) ?_
            refine hl_val rfl rfl (v := (.int .i64 (IntKind.i64.wrap (i + 1)))) (hv_arith rfl rfl rfl) ?_
            refine hl_val rfl rfl (v := (.int .i64 (IntKind.i64.wrap (i + 1)))) (hv_assign rfl) ?_
            refine hl_nil ?_
            refine seqQ_n ?_
            exact ⟨IntKind.i64.wrap (i + 1), ⟨⟨H.1, trivial⟩, H.2⟩, (has_cons rfl (has_cons rfl (has_cons rfl has_nil)))⟩
      · replace H := H.2 hb17
        refine hx_exit ?_
        refine seqQ_exit ?_
        refine seqQ_exit ?_
        refine blockQ_here ?_
        refine seqQ_n ?_
        refine hx_seq ?_
        refine hx_region ?_
        refine hl_val rfl rfl (v := (.bool true)) (hv_assign rfl) ?_
        refine hl_nil ?_
        refine seqQ_n ?_
        refine hx_ret ?_
        exact endQ_ret _ (res_one Try.results3 (rv_tmp rfl)) H

/-- cellar/cellarlaw23.ModelDrops -/
theorem f4_sh (l : Option Addr) (l_n : Nat) (l_c : Nat) (key : ByteArray) (atv : Int) (h : Heap) (R : Value → Heap → Prop)
    (H : (∀ (h1 : Heap), Ext h h1 → HC Try.prog 10 #[(.slice l l_n l_c)] h1 (fun vv h2 => ∃ r0 : Bool, ∃ r1 : Int, vv = (.tuple #[(.bool r0), (.int .i64 r1)]) ∧ (IntKind.i64.wrap ((l_n : Int) + 1) ≠ 0 ∧ (∀ k : Int, k = (bif decide ((Int.tmod atv (IntKind.i64.wrap ((l_n : Int) + 1))) < 0) then IntKind.i64.wrap ((IntKind.i64.wrap ((Int.tmod atv (IntKind.i64.wrap ((l_n : Int) + 1))) + (l_n : Int))) + 1) else Int.tmod atv (IntKind.i64.wrap ((l_n : Int) + 1))) → (∀ nb h3, nb = Array.size h2 → h3 = Array.push h2 (.cells #[] 31) → (0 ≤ ((0 : Int) : Int) ∧ (0 : Int) ≤ k ∧ k ≤ (l_c : Int) ∧ ∀ sl : Option Addr, sl = slA l (Int.toNat 0) 8 l_c → HAppend Try.prog 22 22 (.slice (some ⟨nb, 0, none⟩) 0 0) (.slice sl (Int.toNat k - Int.toNat 0) (l_c - Int.toNat 0)) h3 (fun vv h4 => ∃ ap : Option Addr, ∃ ap_n ap_c : Nat, vv = (.slice ap ap_n ap_c) ∧ (∀ nb_1 h5, nb_1 = Array.size h4 → h5 = Array.push h4 (.cells #[(.int .i64 1), (.string key), (.string ByteArray.empty), (.int .i64 0), (.bool false), (.int .i64 0), (.int .i64 0), (.int .i64 3)] 31) → HAppend Try.prog 22 22 (.slice ap ap_n ap_c) (.slice (some ⟨nb_1, 0, none⟩) 1 1) h5 (fun vv h6 => ∃ ap_1 : Option Addr, ∃ ap_n_1 ap_c_1 : Nat, vv = (.slice ap_1 ap_n_1 ap_c_1) ∧ (0 ≤ (k : Int) ∧ k ≤ (l_n : Int) ∧ (l_n : Int) ≤ (l_c : Int) ∧ ∀ sl_1 : Option Addr, sl_1 = slA l (Int.toNat k) 8 l_c → HAppend Try.prog 22 22 (.slice ap_1 ap_n_1 ap_c_1) (.slice sl_1 (Int.toNat (l_n : Int) - Int.toNat k) (l_c - Int.toNat k)) h6 (fun vv h7 => ∃ ap_2 : Option Addr, ∃ ap_n_2 ap_c_2 : Nat, vv = (.slice ap_2 ap_n_2 ap_c_2) ∧ HC Try.prog 10 #[(.slice ap_2 ap_n_2 ap_c_2)] h7 (fun vv h8 => ∃ r0_1 : Bool, ∃ r1_1 : Int, vv = (.tuple #[(.bool r0_1), (.int .i64 r1_1)]) ∧ (((r0_1 != r0) = true → R (.bool false) h8) ∧ ((r0_1 != r0) = false → (∃ (I21 : Int → Heap → Prop) (mu22 : Int → Heap → Nat), I21 0 h8 ∧ (∀ (i : Int) (h9 : Heap), I21 i h9 → (((decide (i < (l_n : Int))) = true → (∃ A29 : Heap → Prop, (∃ l_b l_o : Nat, l = some ⟨l_b, l_o, none⟩ ∧ (0 : Int) ≤ i ∧ i < (l_n : Int) ∧ (∃ x : Int, hcell h9 l_b (l_o + (Int.toNat i) * 8) = some (.int .i64 x) ∧ (((x != 1) = true → (A29 h9)) ∧ ((x != 1) = false → HC Try.prog 16 #[(.slice (some ⟨l_b, l_o, none⟩) l_n l_c), (.int .i64 i)] h9 (fun vv h11 => ∃ r : Option Addr, ∃ r_n r_c : Nat, vv = (.slice r r_n r_c) ∧ HC Try.prog 10 #[(.slice r r_n r_c)] h11 (fun vv h12 => ∃ r0_2 : Bool, ∃ r1_2 : Int, vv = (.tuple #[(.bool r0_2), (.int .i64 r1_2)]) ∧ (((r0 && (!r0_2)) = true → R (.bool false) h12) ∧ ((r0 && (!r0_2)) = false → (A29 h12))))))))) ∧ (∀ (h10 : Heap), A29 h10 → (I21 (IntKind.i64.wrap (i + 1)) h10 ∧ mu22 (IntKind.i64.wrap (i + 1)) h10 < mu22 i h9)))) ∧ ((decide (i < (l_n : Int))) = false → R (.bool true) h9))))))))))))))))))) :
    HC Try.prog 4 #[(.slice l l_n l_c), (.string key), (.int .i64 atv)] h R := by
  refine hc_of (args := [(.slice l l_n l_c), (.string key), (.int .i64 atv)]) Try.func4 rfl Try.ntmps4 (Nat.le_of_ble_eq_true rfl) ?_
  refine hx_seq ?_
  refine hx_region ?_
  refine hl_val rfl rfl (v := (.bool false)) (hv_assign rfl) ?_
  refine hl_nil ?_
  refine seqQ_n ?_
  refine hx_seq ?_
  refine hx_seq ?_
  refine hx_region ?_
  refine hl_step rfl rfl (hs_call TyShF.cb12 (vs := []) rfl (HC.mono (lives_c  _) ?_))
  rintro _ h1 ⟨rfl, xx1⟩
  refine hl_val rfl rfl (v := (.bool false)) (hv_not (b := true) rfl) ?_
  refine hl_nil ?_
  refine seqQ_n ?_
  refine hx_cond (b := false) rfl (fun hb => by cases hb) (fun _ => ?_)
  refine hx_skip ?_
  refine seqQ_n ?_
  refine hx_seq ?_
  refine hx_region ?_
  refine hl_val rfl rfl (v := (.slice l l_n l_c)) (hv_move rfl) ?_
  replace H := H h1 xx1
  refine hl_step rfl rfl (hs_call TyShF.cb10 (vs := [(.slice l l_n l_c)]) rfl (HC.mono H ?_))
  rintro _ h2 ⟨r0, r1, rfl, H⟩
  refine hl_val rfl rfl (v := (.tuple #[(.bool r0), (.int .i64 r1)])) (hv_move rfl) ?_
  refine hl_val rfl rfl (v := (.bool r0)) (hv_extract (vs := #[(.bool r0), (.int .i64 r1)]) rfl rfl) ?_
  refine hl_val rfl rfl (v := (.int .i64 r1)) (hv_extract (vs := #[(.bool r0), (.int .i64 r1)]) rfl rfl) ?_
  refine hl_val rfl rfl (v := (.bool r0)) (hv_assign rfl) ?_
  refine hl_val rfl rfl (v := (.int .i64 r1)) (hv_assign rfl) ?_
  refine hl_nil ?_
  refine seqQ_n ?_
  refine hx_seq ?_
  refine hx_region ?_
  refine hl_val rfl rfl (v := (.int .i64 atv)) (hv_move rfl) ?_
  refine hl_val rfl rfl (v := (.slice l l_n l_c)) (hv_move rfl) ?_
  refine hl_val rfl rfl (v := (.int .i64 (l_n : Int))) (hv_len (n := l_n) TyShF.u22 rfl) ?_
  refine hl_val rfl rfl (v := (.int .i64 (IntKind.i64.wrap ((l_n : Int) + 1)))) (hv_arith rfl rfl rfl) ?_
  obtain ⟨hz39, H⟩ := H
  refine hl_val rfl rfl (v := (.int .i64 (Int.tmod atv (IntKind.i64.wrap ((l_n : Int) + 1))))) (hv_rem rfl rfl hz39) ?_
  refine hl_val rfl rfl (v := (.int .i64 (Int.tmod atv (IntKind.i64.wrap ((l_n : Int) + 1))))) (hv_assign rfl) ?_
  refine hl_nil ?_
  refine seqQ_n ?_
  obtain ⟨k, hq4⟩ : ∃ q : Int, q = (bif decide ((Int.tmod atv (IntKind.i64.wrap ((l_n : Int) + 1))) < 0) then IntKind.i64.wrap ((IntKind.i64.wrap ((Int.tmod atv (IntKind.i64.wrap ((l_n : Int) + 1))) + (l_n : Int))) + 1) else Int.tmod atv (IntKind.i64.wrap ((l_n : Int) + 1))) := ⟨_, rfl⟩
  replace H := H k hq4
  refine hx_cut (fun ρ h' => h2 = h' ∧ Has ρ [(0, (.slice l l_n l_c)), (1, (.string key)), (7, (.bool r0)), (9, (.int .i64 k))]) ?_ ?_
  · refine hx_seq ?_
    refine hx_region ?_
    refine hl_val rfl rfl (v := (.int .i64 (Int.tmod atv (IntKind.i64.wrap ((l_n : Int) + 1))))) (hv_move rfl) ?_
    refine hl_val rfl rfl (v := (.bool (decide ((Int.tmod atv (IntKind.i64.wrap ((l_n : Int) + 1))) < 0)))) (hv_arith rfl rfl rfl) ?_
    refine hl_nil ?_
    refine seqQ_n ?_
    refine hx_cond (b := decide ((Int.tmod atv (IntKind.i64.wrap ((l_n : Int) + 1))) < 0)) rfl (fun hb5 => ?_) (fun hb5 => ?_)
    · refine hx_region ?_
      refine hl_val rfl rfl (v := (.int .i64 (Int.tmod atv (IntKind.i64.wrap ((l_n : Int) + 1))))) (hv_move rfl) ?_
      refine hl_val rfl rfl (v := (.slice l l_n l_c)) (hv_move rfl) ?_
      refine hl_val rfl rfl (v := (.int .i64 (l_n : Int))) (hv_len (n := l_n) TyShF.u22 rfl) ?_
      refine hl_val rfl rfl (v := (.int .i64 (IntKind.i64.wrap ((Int.tmod atv (IntKind.i64.wrap ((l_n : Int) + 1))) + (l_n : Int))))) (hv_arith rfl rfl rfl) ?_
      refine hl_val rfl rfl (v := (.int .i64 (IntKind.i64.wrap ((IntKind.i64.wrap ((Int.tmod atv (IntKind.i64.wrap ((l_n : Int) + 1))) + (l_n : Int))) + 1)))) (hv_arith rfl rfl rfl) ?_
      refine hl_val rfl rfl (v := (.int .i64 (IntKind.i64.wrap ((IntKind.i64.wrap ((Int.tmod atv (IntKind.i64.wrap ((l_n : Int) + 1))) + (l_n : Int))) + 1)))) (hv_assign rfl) ?_
      refine hl_nil ?_
      refine seqQ_n ?_
      exact ⟨rfl, (has_cons rfl (has_cons rfl (has_cons rfl (has_cons (show ((.int .i64 (IntKind.i64.wrap ((IntKind.i64.wrap ((Int.tmod atv (IntKind.i64.wrap ((l_n : Int) + 1))) + (l_n : Int))) + 1))) : Value) = (.int .i64 k) from (by first | rfl | simp [hb5, hq4])) has_nil))))⟩
    · refine hx_skip ?_
      refine seqQ_n ?_
      exact ⟨rfl, (has_cons rfl (has_cons rfl (has_cons rfl (has_cons (show ((.int .i64 (Int.tmod atv (IntKind.i64.wrap ((l_n : Int) + 1)))) : Value) = (.int .i64 k) from (by first | rfl | simp [hb5, hq4])) has_nil))))⟩
  · rintro ρ _ ⟨rfl, hH⟩
    refine hx_has _ hH ?_
    refine hx_seq ?_
    refine hx_region ?_
    refine hl_step rfl rfl (hn_buildSlice (n := 0) (vs := []) (cs := #[]) TyShF.u22 TyShF.sz31 TyShF.z31 rfl rfl (by kernel_rfl) ?_)
    intro nb h3 eb6 eh7
    replace H := H nb h3 eb6 eh7
    have xx8 : Ext h2 h3 := by rw [eh7]; exact Ext.push _ _
    refine hl_val rfl rfl (v := (.slice l l_n l_c)) (hv_move rfl) ?_
    refine hl_val rfl rfl (v := (.int .i64 k)) (hv_move rfl) ?_
    obtain ⟨hs9, hs10, hs11, H⟩ := H
    obtain ⟨sl, hq12⟩ : ∃ q, q = slA l (Int.toNat 0) 8 l_c := ⟨_, rfl⟩
    replace H := H sl hq12
    refine hl_val rfl rfl (v := (.slice sl (Int.toNat k - Int.toNat 0) (l_c - Int.toNat 0))) (hv_slice (l := 0) (r := k) TyShF.u22 TyShF.sz31 rfl sl_none (sh_some rfl) hs9 hs10 hs11 hq12) ?_
    refine hl_step rfl rfl (hs_append rfl rfl (HAppend.mono H ?_))
    rintro _ h4 ⟨ap, ap_n, ap_c, rfl, H⟩
    refine hl_val rfl rfl (v := (.slice ap ap_n ap_c)) (hv_assign rfl) ?_
    refine hl_nil ?_
    refine seqQ_n ?_
    refine hx_seq ?_
    refine hx_region ?_
    refine hl_val rfl rfl (v := (.slice ap ap_n ap_c)) (hv_move rfl) ?_
    refine hl_val rfl rfl (v := (.string key)) (hv_move rfl) ?_
    refine hl_val rfl rfl (v := (.agg #[(.int .i64 1), (.string key), (.string ByteArray.empty), (.int .i64 0), (.bool false), (.int .i64 0), (.int .i64 0), (.int .i64 3)])) (hv_build (vs := [(0, (.int .i64 1)), (1, (.string key)), (7, (.int .i64 3))]) (cs := #[(.int .i64 1), (.string key), (.string ByteArray.empty), (.int .i64 0), (.bool false), (.int .i64 0), (.int .i64 0), (.int .i64 3)]) TyShF.z31 TyShF.pl31 rfl (by kernel_rfl)) ?_
    refine hl_step rfl rfl (hn_buildSlice (n := 1) (vs := [(0, (.agg #[(.int .i64 1), (.string key), (.string ByteArray.empty), (.int .i64 0), (.bool false), (.int .i64 0), (.int .i64 0), (.int .i64 3)]))]) (cs := #[(.int .i64 1), (.string key), (.string ByteArray.empty), (.int .i64 0), (.bool false), (.int .i64 0), (.int .i64 0), (.int .i64 3)]) TyShF.u22 TyShF.sz31 TyShF.z31 rfl rfl (by kernel_rfl) ?_)
    intro nb_1 h5 eb13 eh14
    replace H := H nb_1 h5 eb13 eh14
    have xx15 : Ext h4 h5 := by rw [eh14]; exact Ext.push _ _
    refine hl_step rfl rfl (hs_append rfl rfl (HAppend.mono H ?_))
    rintro _ h6 ⟨ap_1, ap_n_1, ap_c_1, rfl, H⟩
    refine hl_val rfl rfl (v := (.slice ap_1 ap_n_1 ap_c_1)) (hv_assign rfl) ?_
    refine hl_nil ?_
    refine seqQ_n ?_
    refine hx_seq ?_
    refine hx_region ?_
    refine hl_val rfl rfl (v := (.slice ap_1 ap_n_1 ap_c_1)) (hv_move rfl) ?_
    refine hl_val rfl rfl (v := (.slice l l_n l_c)) (hv_move rfl) ?_
    refine hl_val rfl rfl (v := (.int .i64 k)) (hv_move rfl) ?_
    obtain ⟨hs16, hs17, hs18, H⟩ := H
    obtain ⟨sl_1, hq19⟩ : ∃ q, q = slA l (Int.toNat k) 8 l_c := ⟨_, rfl⟩
    replace H := H sl_1 hq19
    refine hl_val rfl rfl (v := (.slice sl_1 (Int.toNat (l_n : Int) - Int.toNat k) (l_c - Int.toNat k))) (hv_slice (l := k) (r := (l_n : Int)) TyShF.u22 TyShF.sz31 rfl (sl_some rfl) sh_none hs16 hs17 hs18 hq19) ?_
    refine hl_step rfl rfl (hs_append rfl rfl (HAppend.mono H ?_))
    rintro _ h7 ⟨ap_2, ap_n_2, ap_c_2, rfl, H⟩
    refine hl_val rfl rfl (v := (.slice ap_2 ap_n_2 ap_c_2)) (hv_assign rfl) ?_
    refine hl_nil ?_
    refine seqQ_n ?_
    refine hx_seq ?_
    refine hx_seq ?_
    refine hx_region ?_
    refine hl_val rfl rfl (v := (.slice ap_2 ap_n_2 ap_c_2)) (hv_move rfl) ?_
    refine hl_step rfl rfl (hs_call TyShF.cb10 (vs := [(.slice ap_2 ap_n_2 ap_c_2)]) rfl (HC.mono H ?_))
    rintro _ h8 ⟨r0_1, r1_1, rfl, H⟩
    refine hl_val rfl rfl (v := (.tuple #[(.bool r0_1), (.int .i64 r1_1)])) (hv_move rfl) ?_
    refine hl_val rfl rfl (v := (.bool r0_1)) (hv_extract (vs := #[(.bool r0_1), (.int .i64 r1_1)]) rfl rfl) ?_
    refine hl_val rfl rfl (v := (.int .i64 r1_1)) (hv_extract (vs := #[(.bool r0_1), (.int .i64 r1_1)]) rfl rfl) ?_
    refine hl_val rfl rfl (v := (.bool r0_1)) (hv_assign rfl) ?_
    refine hl_val rfl rfl (v := (.int .i64 r1_1)) (hv_assign rfl) ?_
    refine hl_nil ?_
    refine seqQ_n ?_
    refine hx_seq ?_
    refine hx_region ?_
    refine hl_val rfl rfl (v := (.bool r0_1)) (hv_move rfl) ?_
    refine hl_val rfl rfl (v := (.bool r0)) (hv_move rfl) ?_
    refine hl_val rfl rfl (v := (.bool (r0_1 != r0))) (hv_eqBool TyShF.u4 rfl rfl rfl) ?_
    refine hl_nil ?_
    refine seqQ_n ?_
    refine hx_cond (b := r0_1 != r0) rfl (fun hb20 => ?_) (fun hb20 => ?_)
    · replace H := H.1 hb20
      refine hx_seq ?_
      refine hx_region ?_
      refine hl_val rfl rfl (v := (.bool false)) (hv_assign rfl) ?_
      refine hl_nil ?_
      refine seqQ_n ?_
      refine hx_ret ?_
      refine seqQ_ret ?_
      exact endQ_ret _ (res_one Try.results4 (rv_tmp rfl)) H
    · replace H := H.2 hb20
      refine hx_skip ?_
      refine seqQ_n ?_
      refine hx_seq ?_
      refine hx_seq ?_
      refine hx_region ?_
      refine hl_val rfl rfl (v := (.int .i64 0)) (hv_assign rfl) ?_
      refine hl_nil ?_
      refine seqQ_n ?_
      refine hx_block ?_
      obtain ⟨I21, mu22, Ha23, Hr24⟩ := H
      refine hx_loopT (σ := Int) (fun s => [(0, (.slice l l_n l_c)), (7, (.bool r0)), (13, (.int .i64 s))]) (fun s h' => I21 s h' ∧ True) (fun s h' => mu22 s h') 0 ⟨Ha23, trivial⟩ (has_cons rfl (has_cons rfl (has_cons rfl has_nil))) ?_
      rintro i ρ h9 ⟨Hi25, -⟩
      have H := Hr24 i h9 Hi25
      refine hx_seq ?_
      refine hx_seq ?_
      refine hx_region ?_
      refine hl_val rfl rfl (v := (.int .i64 i)) (hv_move rfl) ?_
      refine hl_val rfl rfl (v := (.slice l l_n l_c)) (hv_move rfl) ?_
      refine hl_val rfl rfl (v := (.int .i64 (l_n : Int))) (hv_len (n := l_n) TyShF.u22 rfl) ?_
      refine hl_val rfl rfl (v := (.bool (decide (i < (l_n : Int))))) (hv_arith rfl rfl rfl) ?_
      refine hl_nil ?_
      refine seqQ_n ?_
      refine hx_cond (b := decide (i < (l_n : Int))) rfl (fun hb26 => ?_) (fun hb26 => ?_)
      · replace H := H.1 hb26
        refine hx_skip ?_
        refine seqQ_n ?_
        obtain ⟨A29, Hx27, Hy28⟩ := H
        refine hx_cut (fun ρ h' => (A29 h' ∧ True) ∧ Has ρ [(0, (.slice l l_n l_c)), (7, (.bool r0)), (13, (.int .i64 i))]) ?_ ?_
        · have H := Hx27; clear Hx27 Hy28
          refine hx_block ?_
          refine hx_seq ?_
          refine hx_seq ?_
          refine hx_region ?_
          refine hl_val rfl rfl (v := (.slice l l_n l_c)) (hv_move rfl) ?_
          refine hl_val rfl rfl (v := (.int .i64 i)) (hv_move rfl) ?_
          obtain ⟨l_b, l_o, hqe, hi31, hi32, Hq⟩ := H
          subst hqe
          have H := Hq; clear Hq
          refine hl_val rfl rfl (v := (ptr l_b (l_o + (Int.toNat i) * 8))) (hv_index TyShF.el22 rfl rfl hi31 hi32) ?_
          refine hl_val rfl rfl (v := (ptr l_b (l_o + (Int.toNat i) * 8))) (hv_field TyShF.fld31_0 (b := l_b) (o := l_o + (Int.toNat i) * 8) rfl) ?_
          obtain ⟨x, hc33, H⟩ := H
          refine hl_val rfl rfl (v := (.int .i64 x)) (hv_load TyShF.agg3 rfl hc33) ?_
          refine hl_val rfl rfl (v := (.bool (x != 1))) (hv_arith rfl rfl rfl) ?_
          refine hl_nil ?_
          refine seqQ_n ?_
          refine hx_cond (b := x != 1) rfl (fun hb34 => ?_) (fun hb34 => ?_)
          · replace H := H.1 hb34
            refine hx_exit ?_
            refine seqQ_exit ?_
            refine blockQ_here ?_
            refine seqQ_n ?_
            exact ⟨⟨H, trivial⟩, (has_cons rfl (has_cons rfl (has_cons rfl has_nil)))⟩
          · replace H := H.2 hb34
            refine hx_skip ?_
            refine seqQ_n ?_
            refine hx_seq ?_
            refine hx_region ?_
            refine hl_val rfl rfl (v := (.slice (some ⟨l_b, l_o, none⟩) l_n l_c)) (hv_move rfl) ?_
            refine hl_val rfl rfl (v := (.int .i64 i)) (hv_move rfl) ?_
            refine hl_step rfl rfl (hs_call TyShF.cb16 (vs := [(.slice (some ⟨l_b, l_o, none⟩) l_n l_c), (.int .i64 i)]) rfl (HC.mono H ?_))
            rintro _ h11 ⟨r, r_n, r_c, rfl, H⟩
            refine hl_step rfl rfl (hs_call TyShF.cb10 (vs := [(.slice r r_n r_c)]) rfl (HC.mono H ?_))
            rintro _ h12 ⟨r0_2, r1_2, rfl, H⟩
            refine hl_val rfl rfl (v := (.tuple #[(.bool r0_2), (.int .i64 r1_2)])) (hv_move rfl) ?_
            refine hl_val rfl rfl (v := (.bool r0_2)) (hv_extract (vs := #[(.bool r0_2), (.int .i64 r1_2)]) rfl rfl) ?_
            refine hl_val rfl rfl (v := (.int .i64 r1_2)) (hv_extract (vs := #[(.bool r0_2), (.int .i64 r1_2)]) rfl rfl) ?_
            refine hl_val rfl rfl (v := (.bool r0_2)) (hv_assign rfl) ?_
            refine hl_val rfl rfl (v := (.int .i64 r1_2)) (hv_assign rfl) ?_
            refine hl_nil ?_
            refine seqQ_n ?_
            refine hx_cut (fun ρ h' => h12 = h' ∧ Has ρ [(0, (.slice (some ⟨l_b, l_o, none⟩) l_n l_c)), (7, (.bool r0)), (13, (.int .i64 i)), (81, (.bool (r0 && (!r0_2))))]) ?_ ?_
            · refine hx_region ?_
              refine hl_val rfl rfl (v := (.bool r0)) (hv_move rfl) ?_
              refine hl_val rfl rfl (v := (.bool r0)) (hv_move rfl) ?_
              rcases bool_or (r0) with hg37 | hg37
              · refine hl_yes (wanted_y rfl rfl rfl hg37) rfl (HStep.of_val (v := (.bool r0_2)) (hv_move rfl) ?_)
                refine hl_yes (wanted_y rfl rfl rfl hg37) rfl (HStep.of_val (v := (.bool (!r0_2))) (hv_not (b := r0_2) rfl) ?_)
                refine hl_val rfl rfl (v := (.bool (!r0_2))) (hv_pick_t rfl hg37 rfl) ?_
                refine hl_nil ?_
                refine seqQ_n ?_
                exact ⟨rfl, (has_cons rfl (has_cons rfl (has_cons rfl (has_cons (show ((.bool (!r0_2)) : Value) = (.bool (r0 && (!r0_2))) from (by first | rfl | simp [hg37])) has_nil))))⟩
              · refine hl_no (wanted_n rfl rfl rfl hg37) rfl ?_
                refine hl_no (wanted_n rfl rfl rfl hg37) rfl ?_
                refine hl_val rfl rfl (v := (.bool false)) (hv_pick_f rfl hg37 rfl) ?_
                refine hl_nil ?_
                refine seqQ_n ?_
                exact ⟨rfl, (has_cons rfl (has_cons rfl (has_cons rfl (has_cons (show ((.bool false) : Value) = (.bool (r0 && (!r0_2))) from (by first | rfl | simp [hg37])) has_nil))))⟩
            · rintro ρ _ ⟨rfl, hH⟩
              refine hx_has _ hH ?_
              refine hx_cond (b := (r0 && (!r0_2))) rfl (fun hb38 => ?_) (fun hb38 => ?_)
              · replace H := H.1 hb38
                refine hx_seq ?_
                refine hx_region ?_
                refine hl_val rfl rfl (v := (.bool false)) (hv_assign rfl) ?_
                refine hl_nil ?_
                refine seqQ_n ?_
                refine hx_ret ?_
                refine blockQ_ret ?_
                refine seqQ_ret ?_
                refine seqQ_ret ?_
                refine blockQ_ret ?_
                refine seqQ_ret ?_
                exact endQ_ret _ (res_one Try.results4 (rv_tmp rfl)) H
              · replace H := H.2 hb38
                refine hx_skip ?_
                refine blockQ_n ?_
                refine seqQ_n ?_
                exact ⟨⟨H, trivial⟩, (has_cons rfl (has_cons rfl (has_cons rfl has_nil)))⟩
        · rintro ρ h10 ⟨⟨HA30, -⟩, hH⟩
          have H := Hy28 h10 HA30; clear Hx27 Hy28
          refine hx_has _ hH ?_
          refine hx_region ?_
          refine hl_val rfl rfl (v := (.int .i64 i)) (hv_move rfl) ?_
          refine hl_val rfl rfl (v := (.int .i64 (IntKind.i64.wrap (i + 1)))) (hv_arith rfl rfl rfl) ?_
          refine hl_val rfl rfl (v := (.int .i64 (IntKind.i64.wrap (i + 1)))) (hv_assign rfl) ?_
          refine hl_nil ?_
          refine seqQ_n ?_
          exact ⟨IntKind.i64.wrap (i + 1), ⟨⟨H.1, trivial⟩, H.2⟩, (has_cons rfl (has_cons rfl (has_cons rfl has_nil)))⟩
      · replace H := H.2 hb26
        refine hx_exit ?_
        refine seqQ_exit ?_
        refine seqQ_exit ?_
        refine blockQ_here ?_
        refine seqQ_n ?_
        refine hx_seq ?_
        refine hx_region ?_
        refine hl_val rfl rfl (v := (.bool true)) (hv_assign rfl) ?_
        refine hl_nil ?_
        refine seqQ_n ?_
        refine hx_ret ?_
        exact endQ_ret _ (res_one Try.results4 (rv_tmp rfl)) H

/-- cellar/cellarlaw23.ModelLocal -/
theorem f5_sh (l : Option Addr) (l_n : Nat) (l_c : Nat) (h : Heap) (R : Value → Heap → Prop)
    (H : (∀ (h1 : Heap), Ext h h1 → (∃ (I2 : Bool → Int → Heap → Prop) (mu3 : Bool → Int → Heap → Nat), I2 true 0 h1 ∧ (∀ (all : Bool) (i : Int) (h2 : Heap), I2 all i h2 → (((decide (i < (l_n : Int))) = true → (∃ A10 : Bool → Heap → Prop, (∃ l_b l_o : Nat, l = some ⟨l_b, l_o, none⟩ ∧ (0 : Int) ≤ i ∧ i < (l_n : Int) ∧ (∃ x : ByteArray, hcell h2 l_b ((l_o + (Int.toNat i) * 8) + 1) = some (.string x) ∧ HC Try.prog 17 #[(.slice (some ⟨l_b, l_o, none⟩) l_n l_c), (.string x)] h2 (fun vv h4 => ∃ r : Option Addr, ∃ r_n r_c : Nat, vv = (.slice r r_n r_c) ∧ HC Try.prog 10 #[(.slice r r_n r_c)] h4 (fun vv h5 => ∃ r0 : Bool, ∃ r1 : Int, vv = (.tuple #[(.bool r0), (.int .i64 r1)]) ∧ (((!r0) = true → (A10 false h5)) ∧ ((!r0) = false → (A10 all h5))))))) ∧ (∀ (all_1 : Bool) (h3 : Heap), A10 all_1 h3 → (I2 all_1 (IntKind.i64.wrap (i + 1)) h3 ∧ mu3 all_1 (IntKind.i64.wrap (i + 1)) h3 < mu3 all i h2)))) ∧ ((decide (i < (l_n : Int))) = false → HC Try.prog 10 #[(.slice l l_n l_c)] h2 (fun vv h6 => ∃ r0 : Bool, ∃ r1 : Int, vv = (.tuple #[(.bool r0), (.int .i64 r1)]) ∧ R (.bool (r0 == all)) h6))))))) :
    HC Try.prog 5 #[(.slice l l_n l_c)] h R := by
  refine hc_of (args := [(.slice l l_n l_c)]) Try.func5 rfl Try.ntmps5 (Nat.le_of_ble_eq_true rfl) ?_
  refine hx_seq ?_
  refine hx_region ?_
  refine hl_val rfl rfl (v := (.bool false)) (hv_assign rfl) ?_
  refine hl_nil ?_
  refine seqQ_n ?_
  refine hx_seq ?_
  refine hx_seq ?_
  refine hx_region ?_
  refine hl_step rfl rfl (hs_call TyShF.cb12 (vs := []) rfl (HC.mono (lives_c  _) ?_))
  rintro _ h1 ⟨rfl, xx1⟩
  refine hl_val rfl rfl (v := (.bool false)) (hv_not (b := true) rfl) ?_
  refine hl_nil ?_
  refine seqQ_n ?_
  refine hx_cond (b := false) rfl (fun hb => by cases hb) (fun _ => ?_)
  refine hx_skip ?_
  refine seqQ_n ?_
  refine hx_seq ?_
  refine hx_region ?_
  refine hl_val rfl rfl (v := (.bool true)) (hv_assign rfl) ?_
  refine hl_nil ?_
  refine seqQ_n ?_
  refine hx_seq ?_
  refine hx_seq ?_
  refine hx_region ?_
  refine hl_val rfl rfl (v := (.int .i64 0)) (hv_assign rfl) ?_
  refine hl_nil ?_
  refine seqQ_n ?_
  refine hx_block ?_
  replace H := H h1 xx1
  obtain ⟨I2, mu3, Ha4, Hr5⟩ := H
  refine hx_loopT (σ := Bool × Int) (fun s => [(0, (.slice l l_n l_c)), (3, (.bool s.1)), (4, (.int .i64 s.2))]) (fun s h' => I2 s.1 s.2 h' ∧ True) (fun s h' => mu3 s.1 s.2 h') (true, 0) ⟨Ha4, trivial⟩ (has_cons rfl (has_cons rfl (has_cons rfl has_nil))) ?_
  rintro ⟨all, i⟩ ρ h2 ⟨Hi6, -⟩
  have H := Hr5 all i h2 Hi6
  refine hx_seq ?_
  refine hx_seq ?_
  refine hx_region ?_
  refine hl_val rfl rfl (v := (.int .i64 i)) (hv_move rfl) ?_
  refine hl_val rfl rfl (v := (.slice l l_n l_c)) (hv_move rfl) ?_
  refine hl_val rfl rfl (v := (.int .i64 (l_n : Int))) (hv_len (n := l_n) TyShF.u22 rfl) ?_
  refine hl_val rfl rfl (v := (.bool (decide (i < (l_n : Int))))) (hv_arith rfl rfl rfl) ?_
  refine hl_nil ?_
  refine seqQ_n ?_
  refine hx_cond (b := decide (i < (l_n : Int))) rfl (fun hb7 => ?_) (fun hb7 => ?_)
  · replace H := H.1 hb7
    refine hx_skip ?_
    refine seqQ_n ?_
    obtain ⟨A10, Hx8, Hy9⟩ := H
    refine hx_cut (fun ρ h' => ∃ all_1 : Bool, (A10 all_1 h' ∧ True) ∧ Has ρ [(0, (.slice l l_n l_c)), (3, (.bool all_1)), (4, (.int .i64 i))]) ?_ ?_
    · have H := Hx8; clear Hx8 Hy9
      refine hx_block ?_
      refine hx_seq ?_
      refine hx_region ?_
      refine hl_val rfl rfl (v := (.slice l l_n l_c)) (hv_move rfl) ?_
      refine hl_val rfl rfl (v := (.slice l l_n l_c)) (hv_move rfl) ?_
      refine hl_val rfl rfl (v := (.int .i64 i)) (hv_move rfl) ?_
      obtain ⟨l_b, l_o, hqe, hi12, hi13, Hq⟩ := H
      subst hqe
      have H := Hq; clear Hq
      refine hl_val rfl rfl (v := (ptr l_b (l_o + (Int.toNat i) * 8))) (hv_index TyShF.el22 rfl rfl hi12 hi13) ?_
      refine hl_val rfl rfl (v := (ptr l_b ((l_o + (Int.toNat i) * 8) + 1))) (hv_field TyShF.fld31_1 (b := l_b) (o := l_o + (Int.toNat i) * 8) rfl) ?_
      obtain ⟨x, hc14, H⟩ := H
      refine hl_val rfl rfl (v := (.string x)) (hv_load TyShF.agg9 rfl hc14) ?_
      refine hl_step rfl rfl (hs_call TyShF.cb17 (vs := [(.slice (some ⟨l_b, l_o, none⟩) l_n l_c), (.string x)]) rfl (HC.mono H ?_))
      rintro _ h4 ⟨r, r_n, r_c, rfl, H⟩
      refine hl_step rfl rfl (hs_call TyShF.cb10 (vs := [(.slice r r_n r_c)]) rfl (HC.mono H ?_))
      rintro _ h5 ⟨r0, r1, rfl, H⟩
      refine hl_val rfl rfl (v := (.tuple #[(.bool r0), (.int .i64 r1)])) (hv_move rfl) ?_
      refine hl_val rfl rfl (v := (.bool r0)) (hv_extract (vs := #[(.bool r0), (.int .i64 r1)]) rfl rfl) ?_
      refine hl_val rfl rfl (v := (.int .i64 r1)) (hv_extract (vs := #[(.bool r0), (.int .i64 r1)]) rfl rfl) ?_
      refine hl_val rfl rfl (v := (.bool r0)) (hv_assign rfl) ?_
      refine hl_val rfl rfl (v := (.int .i64 r1)) (hv_assign rfl) ?_
      refine hl_nil ?_
      refine seqQ_n ?_
      refine hx_seq ?_
      refine hx_region ?_
      refine hl_val rfl rfl (v := (.bool r0)) (hv_move rfl) ?_
      refine hl_val rfl rfl (v := (.bool (!r0))) (hv_not (b := r0) rfl) ?_
      refine hl_nil ?_
      refine seqQ_n ?_
      refine hx_cond (b := !r0) rfl (fun hb15 => ?_) (fun hb15 => ?_)
      · replace H := H.1 hb15
        refine hx_region ?_
        refine hl_val rfl rfl (v := (.bool false)) (hv_assign rfl) ?_
        refine hl_nil ?_
        refine blockQ_n ?_
        refine seqQ_n ?_
        exact ⟨_, ⟨H, trivial⟩, (has_cons rfl (has_cons rfl (has_cons rfl has_nil)))⟩
      · replace H := H.2 hb15
        refine hx_skip ?_
        refine blockQ_n ?_
        refine seqQ_n ?_
        exact ⟨_, ⟨H, trivial⟩, (has_cons rfl (has_cons rfl (has_cons rfl has_nil)))⟩
    · rintro ρ h3 ⟨all_1, ⟨HA11, -⟩, hH⟩
      have H := Hy9 all_1 h3 HA11; clear Hx8 Hy9
      refine hx_has _ hH ?_
      refine hx_region ?_
      refine hl_val rfl rfl (v := (.int .i64 i)) (hv_move rfl) ?_
      refine hl_val rfl rfl (v := (.int .i64 (IntKind.i64.wrap (i + 1)))) (hv_arith rfl rfl rfl) ?_
      refine hl_val rfl rfl (v := (.int .i64 (IntKind.i64.wrap (i + 1)))) (hv_assign rfl) ?_
      refine hl_nil ?_
      refine seqQ_n ?_
      exact ⟨(all_1, IntKind.i64.wrap (i + 1)), ⟨⟨H.1, trivial⟩, H.2⟩, (has_cons rfl (has_cons rfl (has_cons rfl has_nil)))⟩
  · replace H := H.2 hb7
    refine hx_exit ?_
    refine seqQ_exit ?_
    refine seqQ_exit ?_
    refine blockQ_here ?_
    refine seqQ_n ?_
    refine hx_seq ?_
    refine hx_region ?_
    refine hl_val rfl rfl (v := (.slice l l_n l_c)) (hv_move rfl) ?_
    refine hl_step rfl rfl (hs_call TyShF.cb10 (vs := [(.slice l l_n l_c)]) rfl (HC.mono H ?_))
    rintro _ h6 ⟨r0, r1, rfl, H⟩
    refine hl_val rfl rfl (v := (.tuple #[(.bool r0), (.int .i64 r1)])) (hv_move rfl) ?_
    refine hl_val rfl rfl (v := (.bool r0)) (hv_extract (vs := #[(.bool r0), (.int .i64 r1)]) rfl rfl) ?_
    refine hl_val rfl rfl (v := (.int .i64 r1)) (hv_extract (vs := #[(.bool r0), (.int .i64 r1)]) rfl rfl) ?_
    refine hl_val rfl rfl (v := (.bool r0)) (hv_assign rfl) ?_
    refine hl_val rfl rfl (v := (.int .i64 r1)) (hv_assign rfl) ?_
    refine hl_nil ?_
    refine seqQ_n ?_
    refine hx_seq ?_
    refine hx_region ?_
    refine hl_val rfl rfl (v := (.bool r0)) (hv_move rfl) ?_
    refine hl_val rfl rfl (v := (.bool all)) (hv_move rfl) ?_
    refine hl_val rfl rfl (v := (.bool (r0 == all))) (hv_eqBool TyShF.u4 rfl rfl rfl) ?_
    refine hl_val rfl rfl (v := (.bool (r0 == all))) (hv_assign rfl) ?_
    refine hl_nil ?_
    refine seqQ_n ?_
    refine hx_ret ?_
    exact endQ_ret _ (res_one Try.results5 (rv_tmp rfl)) H

/-- cellar/cellarlaw23.ModelInvents -/
theorem f6_sh (l : Option Addr) (l_n : Nat) (l_c : Nat) (h : Heap) (R : Value → Heap → Prop)
    (H : (∀ (h1 : Heap), Ext h h1 → HC Try.prog 10 #[(.slice l l_n l_c)] h1 (fun vv h2 => ∃ r0 : Bool, ∃ r1 : Int, vv = (.tuple #[(.bool r0), (.int .i64 r1)]) ∧ (∀ n : Int, n = (bif r0 then (l_n : Int) else r1) → ((((decide (n < 0)) || (decide (n > (l_n : Int)))) = true → R (.bool false) h2) ∧ (((decide (n < 0)) || (decide (n > (l_n : Int)))) = false → (∃ (I11 : Int → Prop) (mu12 : Int → Nat), I11 0 ∧ (∀ (i : Int), I11 i → (((decide (i < n)) = true → (∃ A20 : Prop, (∃ l_b l_o : Nat, l = some ⟨l_b, l_o, none⟩ ∧ (0 : Int) ≤ i ∧ i < (l_n : Int) ∧ (∃ x_Kind : Int, ∃ x_Key x_Value : ByteArray, ∃ x_Err : Int, ∃ x_Hit : Bool, ∃ x_Life x_From x_To : Int, hcell h2 l_b (l_o + (Int.toNat i) * 8) = some (.int .i64 x_Kind) ∧ hcell h2 l_b ((l_o + (Int.toNat i) * 8) + 1) = some (.string x_Key) ∧ hcell h2 l_b ((l_o + (Int.toNat i) * 8) + 2) = some (.string x_Value) ∧ hcell h2 l_b ((l_o + (Int.toNat i) * 8) + 3) = some (.int .i64 x_Err) ∧ hcell h2 l_b ((l_o + (Int.toNat i) * 8) + 4) = some (.bool x_Hit) ∧ hcell h2 l_b ((l_o + (Int.toNat i) * 8) + 5) = some (.int .i64 x_Life) ∧ hcell h2 l_b ((l_o + (Int.toNat i) * 8) + 6) = some (.int .i64 x_From) ∧ hcell h2 l_b ((l_o + (Int.toNat i) * 8) + 7) = some (.int .i64 x_To) ∧ ((((x_Kind != 1) || ((!x_Hit) || ((x_Err != 0) || (decide (x_To < 0))))) = true → A20) ∧ (((x_Kind != 1) || ((!x_Hit) || ((x_Err != 0) || (decide (x_To < 0))))) = false → (∃ (I46 : Bool → Int → Prop) (mu47 : Bool → Int → Nat), I46 false 0 ∧ (∀ (found : Bool) (k : Int), I46 found k → (((decide (k < i)) = true → ((found = true → (I46 true (IntKind.i64.wrap (k + 1)) ∧ mu47 true (IntKind.i64.wrap (k + 1)) < mu47 found k)) ∧ (found = false → ((0 : Int) ≤ k ∧ k < (l_n : Int) ∧ (∃ x_1 : Int, hcell h2 l_b (l_o + (Int.toNat k) * 8) = some (.int .i64 x_1) ∧ (((x_1 == 2) = true → (∃ x_2 : ByteArray, hcell h2 l_b ((l_o + (Int.toNat k) * 8) + 1) = some (.string x_2) ∧ (((decide (x_2 = x_Key)) = true → (∃ x_3 : ByteArray, hcell h2 l_b ((l_o + (Int.toNat k) * 8) + 2) = some (.string x_3) ∧ (I46 (decide (x_3 = x_Value)) (IntKind.i64.wrap (k + 1)) ∧ mu47 (decide (x_3 = x_Value)) (IntKind.i64.wrap (k + 1)) < mu47 found k))) ∧ ((decide (x_2 = x_Key)) = false → (I46 false (IntKind.i64.wrap (k + 1)) ∧ mu47 false (IntKind.i64.wrap (k + 1)) < mu47 found k))))) ∧ ((x_1 == 2) = false → (I46 false (IntKind.i64.wrap (k + 1)) ∧ mu47 false (IntKind.i64.wrap (k + 1)) < mu47 found k)))))))) ∧ ((decide (k < i)) = false → (((!found) = true → (∀ (h6 : Heap), Ext h2 h6 → R (.bool false) h6)) ∧ ((!found) = false → A20)))))))))) ∧ (A20 → (I11 (IntKind.i64.wrap (i + 1)) ∧ mu12 (IntKind.i64.wrap (i + 1)) < mu12 i)))) ∧ ((decide (i < n)) = false → (∀ (h3 : Heap), Ext h2 h3 → R (.bool true) h3))))))))))) :
    HC Try.prog 6 #[(.slice l l_n l_c)] h R := by
  refine hc_of (args := [(.slice l l_n l_c)]) Try.func6 rfl Try.ntmps6 (Nat.le_of_ble_eq_true rfl) ?_
  refine hx_seq ?_
  refine hx_region ?_
  refine hl_val rfl rfl (v := (.bool false)) (hv_assign rfl) ?_
  refine hl_nil ?_
  refine seqQ_n ?_
  refine hx_seq ?_
  refine hx_seq ?_
  refine hx_region ?_
  refine hl_step rfl rfl (hs_call TyShF.cb12 (vs := []) rfl (HC.mono (lives_c  _) ?_))
  rintro _ h1 ⟨rfl, xx1⟩
  refine hl_val rfl rfl (v := (.bool false)) (hv_not (b := true) rfl) ?_
  refine hl_nil ?_
  refine seqQ_n ?_
  refine hx_cond (b := false) rfl (fun hb => by cases hb) (fun _ => ?_)
  refine hx_skip ?_
  refine seqQ_n ?_
  refine hx_seq ?_
  refine hx_region ?_
  refine hl_val rfl rfl (v := (.slice l l_n l_c)) (hv_move rfl) ?_
  replace H := H h1 xx1
  refine hl_step rfl rfl (hs_call TyShF.cb10 (vs := [(.slice l l_n l_c)]) rfl (HC.mono H ?_))
  rintro _ h2 ⟨r0, r1, rfl, H⟩
  refine hl_val rfl rfl (v := (.tuple #[(.bool r0), (.int .i64 r1)])) (hv_move rfl) ?_
  refine hl_val rfl rfl (v := (.bool r0)) (hv_extract (vs := #[(.bool r0), (.int .i64 r1)]) rfl rfl) ?_
  refine hl_val rfl rfl (v := (.int .i64 r1)) (hv_extract (vs := #[(.bool r0), (.int .i64 r1)]) rfl rfl) ?_
  refine hl_val rfl rfl (v := (.bool r0)) (hv_assign rfl) ?_
  refine hl_val rfl rfl (v := (.int .i64 r1)) (hv_assign rfl) ?_
  refine hl_nil ?_
  refine seqQ_n ?_
  obtain ⟨n, hq4⟩ : ∃ q : Int, q = (bif r0 then (l_n : Int) else r1) := ⟨_, rfl⟩
  replace H := H n hq4
  refine hx_cut (fun ρ h' => h2 = h' ∧ Has ρ [(0, (.slice l l_n l_c)), (4, (.int .i64 n))]) ?_ ?_
  · refine hx_seq ?_
    refine hx_region ?_
    refine hl_val rfl rfl (v := (.bool r0)) (hv_move rfl) ?_
    refine hl_nil ?_
    refine seqQ_n ?_
    refine hx_cond (b := r0) rfl (fun hb5 => ?_) (fun hb5 => ?_)
    · refine hx_region ?_
      refine hl_val rfl rfl (v := (.slice l l_n l_c)) (hv_move rfl) ?_
      refine hl_val rfl rfl (v := (.int .i64 (l_n : Int))) (hv_len (n := l_n) TyShF.u22 rfl) ?_
      refine hl_val rfl rfl (v := (.int .i64 (l_n : Int))) (hv_assign rfl) ?_
      refine hl_nil ?_
      refine seqQ_n ?_
      exact ⟨rfl, (has_cons rfl (has_cons (show ((.int .i64 (l_n : Int)) : Value) = (.int .i64 n) from (by first | rfl | simp [hb5, hq4])) has_nil))⟩
    · refine hx_skip ?_
      refine seqQ_n ?_
      exact ⟨rfl, (has_cons rfl (has_cons (show ((.int .i64 r1) : Value) = (.int .i64 n) from (by first | rfl | simp [hb5, hq4])) has_nil))⟩
  · rintro ρ _ ⟨rfl, hH⟩
    refine hx_has _ hH ?_
    refine hx_seq ?_
    refine hx_cut (fun ρ h' => h2 = h' ∧ Has ρ [(0, (.slice l l_n l_c)), (4, (.int .i64 n)), (26, (.bool ((decide (n < 0)) || (decide (n > (l_n : Int))))))]) ?_ ?_
    · refine hx_region ?_
      refine hl_val rfl rfl (v := (.int .i64 n)) (hv_move rfl) ?_
      refine hl_val rfl rfl (v := (.bool (decide (n < 0)))) (hv_arith rfl rfl rfl) ?_
      refine hl_val rfl rfl (v := (.bool (decide (n < 0)))) (hv_move rfl) ?_
      rcases bool_or (decide (n < 0)) with hg8 | hg8
      · refine hl_no (wanted_n rfl rfl rfl hg8) rfl ?_
        refine hl_no (wanted_n rfl rfl rfl hg8) rfl ?_
        refine hl_no (wanted_n rfl rfl rfl hg8) rfl ?_
        refine hl_no (wanted_n rfl rfl rfl hg8) rfl ?_
        refine hl_val rfl rfl (v := (.bool true)) (hv_pick_t rfl hg8 rfl) ?_
        refine hl_nil ?_
        refine seqQ_n ?_
        exact ⟨rfl, (has_cons rfl (has_cons rfl (has_cons (show ((.bool true) : Value) = (.bool ((decide (n < 0)) || (decide (n > (l_n : Int))))) from (by first | rfl | simp [hg8])) has_nil)))⟩
      · refine hl_yes (wanted_y rfl rfl rfl hg8) rfl (HStep.of_val (v := (.int .i64 n)) (hv_move rfl) ?_)
        refine hl_yes (wanted_y rfl rfl rfl hg8) rfl (HStep.of_val (v := (.slice l l_n l_c)) (hv_move rfl) ?_)
        refine hl_yes (wanted_y rfl rfl rfl hg8) rfl (HStep.of_val (v := (.int .i64 (l_n : Int))) (hv_len (n := l_n) TyShF.u22 rfl) ?_)
        refine hl_yes (wanted_y rfl rfl rfl hg8) rfl (HStep.of_val (v := (.bool (decide (n > (l_n : Int))))) (hv_arith rfl rfl rfl) ?_)
        refine hl_val rfl rfl (v := (.bool (decide (n > (l_n : Int))))) (hv_pick_f rfl hg8 rfl) ?_
        refine hl_nil ?_
        refine seqQ_n ?_
        exact ⟨rfl, (has_cons rfl (has_cons rfl (has_cons (show ((.bool (decide (n > (l_n : Int)))) : Value) = (.bool ((decide (n < 0)) || (decide (n > (l_n : Int))))) from (by first | rfl | simp [hg8])) has_nil)))⟩
    · rintro ρ _ ⟨rfl, hH⟩
      refine hx_has _ hH ?_
      refine hx_cond (b := ((decide (n < 0)) || (decide (n > (l_n : Int))))) rfl (fun hb9 => ?_) (fun hb9 => ?_)
      · replace H := H.1 hb9
        refine hx_seq ?_
        refine hx_region ?_
        refine hl_val rfl rfl (v := (.bool false)) (hv_assign rfl) ?_
        refine hl_nil ?_
        refine seqQ_n ?_
        refine hx_ret ?_
        refine seqQ_ret ?_
        exact endQ_ret _ (res_one Try.results6 (rv_tmp rfl)) H
      · replace H := H.2 hb9
        refine hx_skip ?_
        refine seqQ_n ?_
        refine hx_seq ?_
        refine hx_seq ?_
        refine hx_region ?_
        refine hl_val rfl rfl (v := (.int .i64 0)) (hv_assign rfl) ?_
        refine hl_nil ?_
        refine seqQ_n ?_
        refine hx_block ?_
        obtain ⟨I11, mu12, Ha13, Hr14⟩ := H
        refine hx_loopT (σ := Int) (fun s => [(0, (.slice l l_n l_c)), (4, (.int .i64 n)), (5, (.int .i64 s))]) (fun s h' => I11 s ∧ Ext h2 h' ∧ True) (fun s _ => mu12 s) 0 ⟨Ha13, (Ext.refl _), trivial⟩ (has_cons rfl (has_cons rfl (has_cons rfl has_nil))) ?_
        rintro i ρ h3 ⟨Hi15, xv10, -⟩
        have H := Hr14 i Hi15
        refine hx_seq ?_
        refine hx_seq ?_
        refine hx_region ?_
        refine hl_val rfl rfl (v := (.int .i64 i)) (hv_move rfl) ?_
        refine hl_val rfl rfl (v := (.int .i64 n)) (hv_move rfl) ?_
        refine hl_val rfl rfl (v := (.bool (decide (i < n)))) (hv_arith rfl rfl rfl) ?_
        refine hl_nil ?_
        refine seqQ_n ?_
        refine hx_cond (b := decide (i < n)) rfl (fun hb16 => ?_) (fun hb16 => ?_)
        · replace H := H.1 hb16
          refine hx_skip ?_
          refine seqQ_n ?_
          obtain ⟨A20, Hx17, Hy18⟩ := H
          refine hx_cut (fun ρ h' => (A20 ∧ Ext h2 h' ∧ True) ∧ Has ρ [(0, (.slice l l_n l_c)), (4, (.int .i64 n)), (5, (.int .i64 i))]) ?_ ?_
          · have H := Hx17; clear Hx17 Hy18
            refine hx_block ?_
            refine hx_seq ?_
            refine hx_region ?_
            refine hl_val rfl rfl (v := (.slice l l_n l_c)) (hv_move rfl) ?_
            refine hl_val rfl rfl (v := (.int .i64 i)) (hv_move rfl) ?_
            obtain ⟨l_b, l_o, hqe, hi22, hi23, Hq⟩ := H
            subst hqe
            have H := Hq; clear Hq
            refine hl_val rfl rfl (v := (ptr l_b (l_o + (Int.toNat i) * 8))) (hv_index TyShF.el22 rfl rfl hi22 hi23) ?_
            obtain ⟨x_Kind, x_Key, x_Value, x_Err, x_Hit, x_Life, x_From, x_To, hc24, hc25, hc26, hc27, hc28, hc29, hc30, hc31, H⟩ := H
            refine hl_val rfl rfl (v := (.agg #[(.int .i64 x_Kind), (.string x_Key), (.string x_Value), (.int .i64 x_Err), (.bool x_Hit), (.int .i64 x_Life), (.int .i64 x_From), (.int .i64 x_To)])) (hv_loads (vs := [(.int .i64 x_Kind), (.string x_Key), (.string x_Value), (.int .i64 x_Err), (.bool x_Hit), (.int .i64 x_Life), (.int .i64 x_From), (.int .i64 x_To)]) TyShF.agg31 TyShF.sz31 rfl (hcells_cons (Ext.cell xv10 hc24) (hcells_cons (Ext.cell xv10 hc25) (hcells_cons (Ext.cell xv10 hc26) (hcells_cons (Ext.cell xv10 hc27) (hcells_cons (Ext.cell xv10 hc28) (hcells_cons (Ext.cell xv10 hc29) (hcells_cons (Ext.cell xv10 hc30) (hcells_cons (Ext.cell xv10 hc31) hcells_nil))))))))) ?_
            refine hl_step rfl rfl (hn_alloc TyShF.z31 ?_)
            intro x h5 eb32 eh33
            have xx34 : Ext h3 h5 := by rw [eh33]; exact Ext.push _ _
            have lo36 : Array.size h2 ≤ x := Nat.le_trans (Ext.size xv10) (Nat.le_of_eq (Eq.symm eb32))
            have hr35 : h5[x]? = some (.cells #[(.int .i64 0), (.string ByteArray.empty), (.string ByteArray.empty), (.int .i64 0), (.bool false), (.int .i64 0), (.int .i64 0), (.int .i64 0)] 31 (0, 0)) := by rw [eh33]; exact push_new eb32
            have xv37 := Ext.trans xv10 xx34
            refine hl_step rfl rfl (hn_stores (vs := [(.int .i64 x_Kind), (.string x_Key), (.string x_Value), (.int .i64 x_Err), (.bool x_Hit), (.int .i64 x_Life), (.int .i64 x_From), (.int .i64 x_To)]) rfl rfl TyShF.sz31 rfl (HWs_row hr35 (by simp)) ?_)
            intro h6 eh38
            have hr35' : h6[x]? = some (.cells #[(.int .i64 x_Kind), (.string x_Key), (.string x_Value), (.int .i64 x_Err), (.bool x_Hit), (.int .i64 x_Life), (.int .i64 x_From), (.int .i64 x_To)] 31 (0, 0)) := row_hsets_eq eh38 hr35 rfl
            have xv39 := ext_hsets eh38 xv37 lo36
            refine hl_nil ?_
            refine seqQ_n ?_
            refine hx_seq ?_
            refine hx_cut (fun ρ h' => h6 = h' ∧ Has ρ [(0, (.slice (some ⟨l_b, l_o, none⟩) l_n l_c)), (4, (.int .i64 n)), (5, (.int .i64 i)), (6, (ptr x 0)), (53, (.bool ((x_Kind != 1) || ((!x_Hit) || ((x_Err != 0) || (decide (x_To < 0)))))))]) ?_ ?_
            · refine hx_region ?_
              refine hl_val rfl rfl (v := (ptr x 0)) (hv_field TyShF.fld31_0 (b := x) (o := 0) rfl) ?_
              refine hl_val rfl rfl (v := (.int .i64 x_Kind)) (hv_load TyShF.agg3 rfl (rowcell hr35' rfl)) ?_
              refine hl_val rfl rfl (v := (.bool (x_Kind != 1))) (hv_arith rfl rfl rfl) ?_
              refine hl_val rfl rfl (v := (.bool (x_Kind != 1))) (hv_move rfl) ?_
              rcases bool_or (x_Kind != 1) with hg42 | hg42
              · refine hl_no (wanted_n rfl rfl rfl hg42) rfl ?_
                refine hl_no (wanted_n rfl rfl rfl hg42) rfl ?_
                refine hl_no (wanted_n rfl rfl rfl hg42) rfl ?_
                refine hl_val rfl rfl (v := (.bool true)) (hv_pick_t rfl hg42 rfl) ?_
                refine hl_val rfl rfl (v := (.bool true)) (hv_move rfl) ?_
                refine hl_no (wanted_n rfl rfl (c := true) rfl rfl) rfl ?_
                refine hl_no (wanted_n rfl rfl (c := true) rfl rfl) rfl ?_
                refine hl_no (wanted_n rfl rfl (c := true) rfl rfl) rfl ?_
                refine hl_val rfl rfl (v := (.bool true)) (hv_pick (t := true) rfl rfl) ?_
                refine hl_val rfl rfl (v := (.bool true)) (hv_move rfl) ?_
                refine hl_no (wanted_n rfl rfl (c := true) rfl rfl) rfl ?_
                refine hl_no (wanted_n rfl rfl (c := true) rfl rfl) rfl ?_
                refine hl_no (wanted_n rfl rfl (c := true) rfl rfl) rfl ?_
                refine hl_val rfl rfl (v := (.bool true)) (hv_pick (t := true) rfl rfl) ?_
                refine hl_nil ?_
                refine seqQ_n ?_
                exact ⟨rfl, (has_cons rfl (has_cons rfl (has_cons rfl (has_cons rfl (has_cons (show ((.bool true) : Value) = (.bool ((x_Kind != 1) || ((!x_Hit) || ((x_Err != 0) || (decide (x_To < 0)))))) from (by first | rfl | simp [hg42])) has_nil)))))⟩
              · refine hl_yes (wanted_y rfl rfl rfl hg42) rfl (HStep.of_val (v := (ptr x 4)) (hv_field TyShF.fld31_4 (b := x) (o := 0) rfl) ?_)
                refine hl_yes (wanted_y rfl rfl rfl hg42) rfl (HStep.of_val (v := (.bool x_Hit)) (hv_load TyShF.agg4 rfl (rowcell hr35' rfl)) ?_)
                refine hl_yes (wanted_y rfl rfl rfl hg42) rfl (HStep.of_val (v := (.bool (!x_Hit))) (hv_not (b := x_Hit) rfl) ?_)
                refine hl_val rfl rfl (v := (.bool (!x_Hit))) (hv_pick_f rfl hg42 rfl) ?_
                refine hl_val rfl rfl (v := (.bool (!x_Hit))) (hv_move rfl) ?_
                rcases bool_or (!x_Hit) with hg43 | hg43
                · refine hl_no (wanted_n rfl rfl rfl hg43) rfl ?_
                  refine hl_no (wanted_n rfl rfl rfl hg43) rfl ?_
                  refine hl_no (wanted_n rfl rfl rfl hg43) rfl ?_
                  refine hl_val rfl rfl (v := (.bool true)) (hv_pick_t rfl hg43 rfl) ?_
                  refine hl_val rfl rfl (v := (.bool true)) (hv_move rfl) ?_
                  refine hl_no (wanted_n rfl rfl (c := true) rfl rfl) rfl ?_
                  refine hl_no (wanted_n rfl rfl (c := true) rfl rfl) rfl ?_
                  refine hl_no (wanted_n rfl rfl (c := true) rfl rfl) rfl ?_
                  refine hl_val rfl rfl (v := (.bool true)) (hv_pick (t := true) rfl rfl) ?_
                  refine hl_nil ?_
                  refine seqQ_n ?_
                  exact ⟨rfl, (has_cons rfl (has_cons rfl (has_cons rfl (has_cons rfl (has_cons (show ((.bool true) : Value) = (.bool ((x_Kind != 1) || ((!x_Hit) || ((x_Err != 0) || (decide (x_To < 0)))))) from (by first | rfl | simp [hg42, hg43])) has_nil)))))⟩
                · refine hl_yes (wanted_y rfl rfl rfl hg43) rfl (HStep.of_val (v := (ptr x 3)) (hv_field TyShF.fld31_3 (b := x) (o := 0) rfl) ?_)
                  refine hl_yes (wanted_y rfl rfl rfl hg43) rfl (HStep.of_val (v := (.int .i64 x_Err)) (hv_load TyShF.agg29 rfl (rowcell hr35' rfl)) ?_)
                  refine hl_yes (wanted_y rfl rfl rfl hg43) rfl (HStep.of_val (v := (.bool (x_Err != 0))) (hv_arith rfl rfl rfl) ?_)
                  refine hl_val rfl rfl (v := (.bool (x_Err != 0))) (hv_pick_f rfl hg43 rfl) ?_
                  refine hl_val rfl rfl (v := (.bool (x_Err != 0))) (hv_move rfl) ?_
                  rcases bool_or (x_Err != 0) with hg44 | hg44
                  · refine hl_no (wanted_n rfl rfl rfl hg44) rfl ?_
                    refine hl_no (wanted_n rfl rfl rfl hg44) rfl ?_
                    refine hl_no (wanted_n rfl rfl rfl hg44) rfl ?_
                    refine hl_val rfl rfl (v := (.bool true)) (hv_pick_t rfl hg44 rfl) ?_
                    refine hl_nil ?_
                    refine seqQ_n ?_
                    exact ⟨rfl, (has_cons rfl (has_cons rfl (has_cons rfl (has_cons rfl (has_cons (show ((.bool true) : Value) = (.bool ((x_Kind != 1) || ((!x_Hit) || ((x_Err != 0) || (decide (x_To < 0)))))) from (by first | rfl | simp [hg42, hg43, hg44])) has_nil)))))⟩
                  · refine hl_yes (wanted_y rfl rfl rfl hg44) rfl (HStep.of_val (v := (ptr x 7)) (hv_field TyShF.fld31_7 (b := x) (o := 0) rfl) ?_)
                    refine hl_yes (wanted_y rfl rfl rfl hg44) rfl (HStep.of_val (v := (.int .i64 x_To)) (hv_load TyShF.agg3 rfl (rowcell hr35' rfl)) ?_)
                    refine hl_yes (wanted_y rfl rfl rfl hg44) rfl (HStep.of_val (v := (.bool (decide (x_To < 0)))) (hv_arith rfl rfl rfl) ?_)
                    refine hl_val rfl rfl (v := (.bool (decide (x_To < 0)))) (hv_pick_f rfl hg44 rfl) ?_
                    refine hl_nil ?_
                    refine seqQ_n ?_
                    exact ⟨rfl, (has_cons rfl (has_cons rfl (has_cons rfl (has_cons rfl (has_cons (show ((.bool (decide (x_To < 0))) : Value) = (.bool ((x_Kind != 1) || ((!x_Hit) || ((x_Err != 0) || (decide (x_To < 0)))))) from (by first | rfl | simp [hg42, hg43, hg44])) has_nil)))))⟩
            · rintro ρ _ ⟨rfl, hH⟩
              refine hx_has _ hH ?_
              refine hx_cond (b := ((x_Kind != 1) || ((!x_Hit) || ((x_Err != 0) || (decide (x_To < 0)))))) rfl (fun hb45 => ?_) (fun hb45 => ?_)
              · replace H := H.1 hb45
                refine hx_exit ?_
                refine seqQ_exit ?_
                refine blockQ_here ?_
                refine seqQ_n ?_
                exact ⟨⟨H, xv39, trivial⟩, (has_cons rfl (has_cons rfl (has_cons rfl has_nil)))⟩
              · replace H := H.2 hb45
                refine hx_skip ?_
                refine seqQ_n ?_
                refine hx_seq ?_
                refine hx_region ?_
                refine hl_val rfl rfl (v := (.bool false)) (hv_assign rfl) ?_
                refine hl_nil ?_
                refine seqQ_n ?_
                refine hx_seq ?_
                refine hx_seq ?_
                refine hx_region ?_
                refine hl_val rfl rfl (v := (.int .i64 0)) (hv_assign rfl) ?_
                refine hl_nil ?_
                refine seqQ_n ?_
                refine hx_block ?_
                obtain ⟨I46, mu47, Ha48, Hr49⟩ := H
                refine hx_loopT (σ := Bool × Int) (fun s => [(0, (.slice (some ⟨l_b, l_o, none⟩) l_n l_c)), (4, (.int .i64 n)), (5, (.int .i64 i)), (6, (ptr x 0)), (7, (.bool s.1)), (8, (.int .i64 s.2))]) (fun s h' => I46 s.1 s.2 ∧ h6 = h') (fun s _ => mu47 s.1 s.2) (false, 0) ⟨Ha48, rfl⟩ (has_cons rfl (has_cons rfl (has_cons rfl (has_cons rfl (has_cons rfl (has_cons rfl has_nil)))))) ?_
                rintro ⟨found, k⟩ ρ _ ⟨Hi50, rfl⟩
                have H := Hr49 found k Hi50
                refine hx_seq ?_
                refine hx_seq ?_
                refine hx_region ?_
                refine hl_val rfl rfl (v := (.int .i64 k)) (hv_move rfl) ?_
                refine hl_val rfl rfl (v := (.int .i64 i)) (hv_move rfl) ?_
                refine hl_val rfl rfl (v := (.bool (decide (k < i)))) (hv_arith rfl rfl rfl) ?_
                refine hl_nil ?_
                refine seqQ_n ?_
                refine hx_cond (b := decide (k < i)) rfl (fun hb51 => ?_) (fun hb51 => ?_)
                · replace H := H.1 hb51
                  refine hx_skip ?_
                  refine seqQ_n ?_
                  refine hx_seq ?_
                  refine hx_block ?_
                  refine hx_draw TyShF.mixed [.pure, .pure, .pure, .pure, .pure, .pure, .read, .pure, .pure, .pure, .pure, .pure, .pure, .read, .pure, .read, .pure, .pure, .pure, .pure, .pure, .pure, .pure, .read, .pure, .read, .pure, .pure, .pure, .pure] [0, 1, 2, 3, 4, 5, 6, 7, 8, 9, 10, 11, 12, 13, 14, 15, 16, 17, 18, 19, 20, 21, 22, 23, 24, 25, 26, 27, 28, 29] (by kernel_rfl) ?_
                  refine hp_pure (i := 0) rfl (wanted_0 rfl) rfl (.bool found) (fun _ => hv_move rfl) ?_
                  refine hp_pure (i := 1) rfl (wanted_0 rfl) rfl (.bool found) (fun _ => hv_move rfl) ?_
                  rcases bool_or (found) with hg52 | hg52
                  · replace H := H.1 hg52
                    refine hp_no (i := 2) rfl (wanted_n rfl rfl rfl hg52) ?_
                    refine hp_no (i := 3) rfl (wanted_n rfl rfl rfl hg52) ?_
                    refine hp_no (i := 4) rfl (wanted_n rfl rfl rfl hg52) ?_
                    refine hp_no (i := 5) rfl (wanted_n rfl rfl rfl hg52) ?_
                    refine hp_no (i := 6) rfl (wanted_n rfl rfl rfl hg52) ?_
                    refine hp_no (i := 7) rfl (wanted_n rfl rfl rfl hg52) ?_
                    refine hp_no (i := 8) rfl (wanted_n rfl rfl rfl hg52) ?_
                    refine hp_no (i := 9) rfl (wanted_u rfl rfl rfl) ?_
                    refine hp_no (i := 10) rfl (wanted_u rfl rfl rfl) ?_
                    refine hp_no (i := 11) rfl (wanted_u rfl rfl rfl) ?_
                    refine hp_no (i := 12) rfl (wanted_u rfl rfl rfl) ?_
                    refine hp_no (i := 13) rfl (wanted_u rfl rfl rfl) ?_
                    refine hp_no (i := 14) rfl (wanted_u rfl rfl rfl) ?_
                    refine hp_no (i := 15) rfl (wanted_u rfl rfl rfl) ?_
                    refine hp_no (i := 16) rfl (wanted_u rfl rfl rfl) ?_
                    refine hp_no (i := 17) rfl (wanted_n rfl rfl rfl hg52) ?_
                    refine hp_no (i := 18) rfl (wanted_n rfl rfl rfl hg52) ?_
                    refine hp_no (i := 19) rfl (wanted_u rfl rfl rfl) ?_
                    refine hp_no (i := 20) rfl (wanted_u rfl rfl rfl) ?_
                    refine hp_no (i := 21) rfl (wanted_u rfl rfl rfl) ?_
                    refine hp_no (i := 22) rfl (wanted_u rfl rfl rfl) ?_
                    refine hp_no (i := 23) rfl (wanted_u rfl rfl rfl) ?_
                    refine hp_no (i := 24) rfl (wanted_u rfl rfl rfl) ?_
                    refine hp_no (i := 25) rfl (wanted_u rfl rfl rfl) ?_
                    refine hp_no (i := 26) rfl (wanted_u rfl rfl rfl) ?_
                    refine hp_no (i := 27) rfl (wanted_n rfl rfl rfl hg52) ?_
                    refine hp_pure (i := 28) rfl (wanted_0 rfl) rfl (.bool true) (fun _ => hv_pick_t rfl hg52 rfl) ?_
                    refine hp_pure (i := 29) rfl (wanted_0 rfl) rfl (.bool true) (fun _ => hv_assign rfl) ?_
                    refine hp_nil ?_
                    refine blockQ_n ?_
                    refine seqQ_n ?_
                    refine hx_region ?_
                    refine hl_val rfl rfl (v := (.int .i64 k)) (hv_move rfl) ?_
                    refine hl_val rfl rfl (v := (.int .i64 (IntKind.i64.wrap (k + 1)))) (hv_arith rfl rfl rfl) ?_
                    refine hl_val rfl rfl (v := (.int .i64 (IntKind.i64.wrap (k + 1)))) (hv_assign rfl) ?_
                    refine hl_nil ?_
                    refine seqQ_n ?_
                    exact ⟨(true, IntKind.i64.wrap (k + 1)), ⟨⟨H.1, rfl⟩, H.2⟩, (has_cons rfl (has_cons rfl (has_cons rfl (has_cons rfl (has_cons rfl (has_cons rfl has_nil))))))⟩
                  · replace H := H.2 hg52
                    refine hp_pure (i := 2) rfl (wanted_y rfl rfl rfl hg52) rfl (.slice (some ⟨l_b, l_o, none⟩) l_n l_c) (fun _ => hv_move rfl) ?_
                    refine hp_pure (i := 3) rfl (wanted_y rfl rfl rfl hg52) rfl (.int .i64 k) (fun _ => hv_move rfl) ?_
                    obtain ⟨hi53, hi54, H⟩ := H
                    refine hp_pure (i := 4) rfl (wanted_y rfl rfl rfl hg52) rfl (ptr l_b (l_o + (Int.toNat k) * 8)) (fun _ => hv_index TyShF.el22 rfl rfl hi53 hi54) ?_
                    refine hp_pure (i := 5) rfl (wanted_y rfl rfl rfl hg52) rfl (ptr l_b (l_o + (Int.toNat k) * 8)) (fun _ => hv_field TyShF.fld31_0 (b := l_b) (o := l_o + (Int.toNat k) * 8) rfl) ?_
                    obtain ⟨x_1, hc55, H⟩ := H
                    refine hp_read (i := 6) rfl (wanted_y rfl rfl rfl hg52) rfl (.int .i64 x_1) (fun _ he => hv_load TyShF.agg3 rfl (Ext.cell he (Ext.cell xv39 hc55))) ?_
                    refine hp_pure (i := 7) rfl (wanted_y rfl rfl rfl hg52) rfl (.bool (x_1 == 2)) (fun _ => hv_arith rfl rfl rfl) ?_
                    refine hp_pure (i := 8) rfl (wanted_y rfl rfl rfl hg52) rfl (.bool (x_1 == 2)) (fun _ => hv_move rfl) ?_
                    rcases bool_or (x_1 == 2) with hg56 | hg56
                    · replace H := H.1 hg56
                      refine hp_pure (i := 9) rfl (wanted_y rfl rfl rfl hg56) rfl (.slice (some ⟨l_b, l_o, none⟩) l_n l_c) (fun _ => hv_move rfl) ?_
                      refine hp_pure (i := 10) rfl (wanted_y rfl rfl rfl hg56) rfl (.int .i64 k) (fun _ => hv_move rfl) ?_
                      refine hp_pure (i := 11) rfl (wanted_y rfl rfl rfl hg56) rfl (ptr l_b (l_o + (Int.toNat k) * 8)) (fun _ => hv_index TyShF.el22 rfl rfl hi53 hi54) ?_
                      refine hp_pure (i := 12) rfl (wanted_y rfl rfl rfl hg56) rfl (ptr l_b ((l_o + (Int.toNat k) * 8) + 1)) (fun _ => hv_field TyShF.fld31_1 (b := l_b) (o := l_o + (Int.toNat k) * 8) rfl) ?_
                      obtain ⟨x_2, hc59, H⟩ := H
                      refine hp_read (i := 13) rfl (wanted_y rfl rfl rfl hg56) rfl (.string x_2) (fun _ he => hv_load TyShF.agg9 rfl (Ext.cell he (Ext.cell xv39 hc59))) ?_
                      refine hp_pure (i := 14) rfl (wanted_y rfl rfl rfl hg56) rfl (ptr x 1) (fun _ => hv_field TyShF.fld31_1 (b := x) (o := 0) rfl) ?_
                      refine hp_read (i := 15) rfl (wanted_y rfl rfl rfl hg56) rfl (.string x_Key) (fun _ he => hv_load TyShF.agg9 rfl (Ext.cell he (rowcell hr35' rfl))) ?_
                      refine hp_pure (i := 16) rfl (wanted_y rfl rfl rfl hg56) rfl (.bool (decide (x_2 = x_Key))) (fun _ => hv_str rfl rfl rfl) ?_
                      refine hp_pure (i := 17) rfl (wanted_y rfl rfl rfl hg52) rfl (.bool (decide (x_2 = x_Key))) (fun _ => hv_pick_t rfl hg56 rfl) ?_
                      refine hp_pure (i := 18) rfl (wanted_y rfl rfl rfl hg52) rfl (.bool (decide (x_2 = x_Key))) (fun _ => hv_move rfl) ?_
                      rcases bool_or (decide (x_2 = x_Key)) with hg60 | hg60
                      · replace H := H.1 hg60
                        refine hp_pure (i := 19) rfl (wanted_y rfl rfl rfl hg60) rfl (.slice (some ⟨l_b, l_o, none⟩) l_n l_c) (fun _ => hv_move rfl) ?_
                        refine hp_pure (i := 20) rfl (wanted_y rfl rfl rfl hg60) rfl (.int .i64 k) (fun _ => hv_move rfl) ?_
                        refine hp_pure (i := 21) rfl (wanted_y rfl rfl rfl hg60) rfl (ptr l_b (l_o + (Int.toNat k) * 8)) (fun _ => hv_index TyShF.el22 rfl rfl hi53 hi54) ?_
                        refine hp_pure (i := 22) rfl (wanted_y rfl rfl rfl hg60) rfl (ptr l_b ((l_o + (Int.toNat k) * 8) + 2)) (fun _ => hv_field TyShF.fld31_2 (b := l_b) (o := l_o + (Int.toNat k) * 8) rfl) ?_
                        obtain ⟨x_3, hc63, H⟩ := H
                        refine hp_read (i := 23) rfl (wanted_y rfl rfl rfl hg60) rfl (.string x_3) (fun _ he => hv_load TyShF.agg9 rfl (Ext.cell he (Ext.cell xv39 hc63))) ?_
                        refine hp_pure (i := 24) rfl (wanted_y rfl rfl rfl hg60) rfl (ptr x 2) (fun _ => hv_field TyShF.fld31_2 (b := x) (o := 0) rfl) ?_
                        refine hp_read (i := 25) rfl (wanted_y rfl rfl rfl hg60) rfl (.string x_Value) (fun _ he => hv_load TyShF.agg9 rfl (Ext.cell he (rowcell hr35' rfl))) ?_
                        refine hp_pure (i := 26) rfl (wanted_y rfl rfl rfl hg60) rfl (.bool (decide (x_3 = x_Value))) (fun _ => hv_str rfl rfl rfl) ?_
                        refine hp_pure (i := 27) rfl (wanted_y rfl rfl rfl hg52) rfl (.bool (decide (x_3 = x_Value))) (fun _ => hv_pick_t rfl hg60 rfl) ?_
                        refine hp_pure (i := 28) rfl (wanted_0 rfl) rfl (.bool (decide (x_3 = x_Value))) (fun _ => hv_pick_f rfl hg52 rfl) ?_
                        refine hp_pure (i := 29) rfl (wanted_0 rfl) rfl (.bool (decide (x_3 = x_Value))) (fun _ => hv_assign rfl) ?_
                        refine hp_nil ?_
                        refine blockQ_n ?_
                        refine seqQ_n ?_
                        refine hx_region ?_
                        refine hl_val rfl rfl (v := (.int .i64 k)) (hv_move rfl) ?_
                        refine hl_val rfl rfl (v := (.int .i64 (IntKind.i64.wrap (k + 1)))) (hv_arith rfl rfl rfl) ?_
                        refine hl_val rfl rfl (v := (.int .i64 (IntKind.i64.wrap (k + 1)))) (hv_assign rfl) ?_
                        refine hl_nil ?_
                        refine seqQ_n ?_
                        exact ⟨(decide (x_3 = x_Value), IntKind.i64.wrap (k + 1)), ⟨⟨H.1, rfl⟩, H.2⟩, (has_cons rfl (has_cons rfl (has_cons rfl (has_cons rfl (has_cons rfl (has_cons rfl has_nil))))))⟩
                      · replace H := H.2 hg60
                        refine hp_no (i := 19) rfl (wanted_n rfl rfl rfl hg60) ?_
                        refine hp_no (i := 20) rfl (wanted_n rfl rfl rfl hg60) ?_
                        refine hp_no (i := 21) rfl (wanted_n rfl rfl rfl hg60) ?_
                        refine hp_no (i := 22) rfl (wanted_n rfl rfl rfl hg60) ?_
                        refine hp_no (i := 23) rfl (wanted_n rfl rfl rfl hg60) ?_
                        refine hp_no (i := 24) rfl (wanted_n rfl rfl rfl hg60) ?_
                        refine hp_no (i := 25) rfl (wanted_n rfl rfl rfl hg60) ?_
                        refine hp_no (i := 26) rfl (wanted_n rfl rfl rfl hg60) ?_
                        refine hp_pure (i := 27) rfl (wanted_y rfl rfl rfl hg52) rfl (.bool false) (fun _ => hv_pick_f rfl hg60 rfl) ?_
                        refine hp_pure (i := 28) rfl (wanted_0 rfl) rfl (.bool false) (fun _ => hv_pick_f rfl hg52 rfl) ?_
                        refine hp_pure (i := 29) rfl (wanted_0 rfl) rfl (.bool false) (fun _ => hv_assign rfl) ?_
                        refine hp_nil ?_
                        refine blockQ_n ?_
                        refine seqQ_n ?_
                        refine hx_region ?_
                        refine hl_val rfl rfl (v := (.int .i64 k)) (hv_move rfl) ?_
                        refine hl_val rfl rfl (v := (.int .i64 (IntKind.i64.wrap (k + 1)))) (hv_arith rfl rfl rfl) ?_
                        refine hl_val rfl rfl (v := (.int .i64 (IntKind.i64.wrap (k + 1)))) (hv_assign rfl) ?_
                        refine hl_nil ?_
                        refine seqQ_n ?_
                        exact ⟨(false, IntKind.i64.wrap (k + 1)), ⟨⟨H.1, rfl⟩, H.2⟩, (has_cons rfl (has_cons rfl (has_cons rfl (has_cons rfl (has_cons rfl (has_cons rfl has_nil))))))⟩
                    · replace H := H.2 hg56
                      refine hp_no (i := 9) rfl (wanted_n rfl rfl rfl hg56) ?_
                      refine hp_no (i := 10) rfl (wanted_n rfl rfl rfl hg56) ?_
                      refine hp_no (i := 11) rfl (wanted_n rfl rfl rfl hg56) ?_
                      refine hp_no (i := 12) rfl (wanted_n rfl rfl rfl hg56) ?_
                      refine hp_no (i := 13) rfl (wanted_n rfl rfl rfl hg56) ?_
                      refine hp_no (i := 14) rfl (wanted_n rfl rfl rfl hg56) ?_
                      refine hp_no (i := 15) rfl (wanted_n rfl rfl rfl hg56) ?_
                      refine hp_no (i := 16) rfl (wanted_n rfl rfl rfl hg56) ?_
                      refine hp_pure (i := 17) rfl (wanted_y rfl rfl rfl hg52) rfl (.bool false) (fun _ => hv_pick_f rfl hg56 rfl) ?_
                      refine hp_pure (i := 18) rfl (wanted_y rfl rfl rfl hg52) rfl (.bool false) (fun _ => hv_move rfl) ?_
                      refine hp_no (i := 19) rfl (wanted_n rfl rfl (c := false) rfl rfl) ?_
                      refine hp_no (i := 20) rfl (wanted_n rfl rfl (c := false) rfl rfl) ?_
                      refine hp_no (i := 21) rfl (wanted_n rfl rfl (c := false) rfl rfl) ?_
                      refine hp_no (i := 22) rfl (wanted_n rfl rfl (c := false) rfl rfl) ?_
                      refine hp_no (i := 23) rfl (wanted_n rfl rfl (c := false) rfl rfl) ?_
                      refine hp_no (i := 24) rfl (wanted_n rfl rfl (c := false) rfl rfl) ?_
                      refine hp_no (i := 25) rfl (wanted_n rfl rfl (c := false) rfl rfl) ?_
                      refine hp_no (i := 26) rfl (wanted_n rfl rfl (c := false) rfl rfl) ?_
                      refine hp_pure (i := 27) rfl (wanted_y rfl rfl rfl hg52) rfl (.bool false) (fun _ => hv_pick (t := false) rfl rfl) ?_
                      refine hp_pure (i := 28) rfl (wanted_0 rfl) rfl (.bool false) (fun _ => hv_pick_f rfl hg52 rfl) ?_
                      refine hp_pure (i := 29) rfl (wanted_0 rfl) rfl (.bool false) (fun _ => hv_assign rfl) ?_
                      refine hp_nil ?_
                      refine blockQ_n ?_
                      refine seqQ_n ?_
                      refine hx_region ?_
                      refine hl_val rfl rfl (v := (.int .i64 k)) (hv_move rfl) ?_
                      refine hl_val rfl rfl (v := (.int .i64 (IntKind.i64.wrap (k + 1)))) (hv_arith rfl rfl rfl) ?_
                      refine hl_val rfl rfl (v := (.int .i64 (IntKind.i64.wrap (k + 1)))) (hv_assign rfl) ?_
                      refine hl_nil ?_
                      refine seqQ_n ?_
                      exact ⟨(false, IntKind.i64.wrap (k + 1)), ⟨⟨H.1, rfl⟩, H.2⟩, (has_cons rfl (has_cons rfl (has_cons rfl (has_cons rfl (has_cons rfl (has_cons rfl has_nil))))))⟩
                · replace H := H.2 hb51
                  refine hx_exit ?_
                  refine seqQ_exit ?_
                  refine seqQ_exit ?_
                  refine blockQ_here ?_
                  refine seqQ_n ?_
                  refine hx_seq ?_
                  refine hx_region ?_
                  refine hl_val rfl rfl (v := (.bool found)) (hv_move rfl) ?_
                  refine hl_val rfl rfl (v := (.bool (!found))) (hv_not (b := found) rfl) ?_
                  refine hl_nil ?_
                  refine seqQ_n ?_
                  refine hx_cond (b := !found) rfl (fun hb64 => ?_) (fun hb64 => ?_)
                  · replace H := H.1 hb64
                    refine hx_seq ?_
                    refine hx_region ?_
                    refine hl_val rfl rfl (v := (.bool false)) (hv_assign rfl) ?_
                    refine hl_nil ?_
                    refine seqQ_n ?_
                    refine hx_ret ?_
                    refine blockQ_ret ?_
                    refine seqQ_ret ?_
                    refine seqQ_ret ?_
                    refine blockQ_ret ?_
                    refine seqQ_ret ?_
                    replace H := H h6 xv39
                    exact endQ_ret _ (res_one Try.results6 (rv_tmp rfl)) H
                  · replace H := H.2 hb64
                    refine hx_skip ?_
                    refine blockQ_n ?_
                    refine seqQ_n ?_
                    exact ⟨⟨H, xv39, trivial⟩, (has_cons rfl (has_cons rfl (has_cons rfl has_nil)))⟩
          · rintro ρ h4 ⟨⟨HA21, xv19, -⟩, hH⟩
            have H := Hy18 HA21; clear Hx17 Hy18
            refine hx_has _ hH ?_
            refine hx_region ?_
            refine hl_val rfl rfl (v := (.int .i64 i)) (hv_move rfl) ?_
            refine hl_val rfl rfl (v := (.int .i64 (IntKind.i64.wrap (i + 1)))) (hv_arith rfl rfl rfl) ?_
            refine hl_val rfl rfl (v := (.int .i64 (IntKind.i64.wrap (i + 1)))) (hv_assign rfl) ?_
            refine hl_nil ?_
            refine seqQ_n ?_
            exact ⟨IntKind.i64.wrap (i + 1), ⟨⟨H.1, xv19, trivial⟩, H.2⟩, (has_cons rfl (has_cons rfl (has_cons rfl has_nil)))⟩
        · replace H := H.2 hb16
          refine hx_exit ?_
          refine seqQ_exit ?_
          refine seqQ_exit ?_
          refine blockQ_here ?_
          refine seqQ_n ?_
          refine hx_seq ?_
          refine hx_region ?_
          refine hl_val rfl rfl (v := (.bool true)) (hv_assign rfl) ?_
          refine hl_nil ?_
          refine seqQ_n ?_
          refine hx_ret ?_
          replace H := H h3 xv10
          exact endQ_ret _ (res_one Try.results6 (rv_tmp rfl)) H

/-- cellar/cellarlaw23.ModelUnsure -/
theorem f7_sh (l : Option Addr) (l_n : Nat) (l_c : Nat) (atv : Int) (pending : Bool) (h : Heap) (R : Value → Heap → Prop)
    (H : (∀ (h1 : Heap), Ext h h1 → HC Try.prog 10 #[(.slice l l_n l_c)] h1 (fun vv h2 => ∃ r0 : Bool, ∃ r1 : Int, vv = (.tuple #[(.bool r0), (.int .i64 r1)]) ∧ (((((l_n : Int) == 0) || (!r0)) = true → R (.bool (r0 || ((decide (r1 ≥ 0)) && (decide (r1 < (l_n : Int)))))) h2) ∧ ((((l_n : Int) == 0) || (!r0)) = false → ((l_n : Int) ≠ 0 ∧ (∀ k : Int, k = (bif decide ((Int.tmod atv (l_n : Int)) < 0) then IntKind.i64.wrap ((Int.tmod atv (l_n : Int)) + (l_n : Int)) else Int.tmod atv (l_n : Int)) → (∀ nb h3, nb = Array.size h2 → h3 = Array.push h2 (.cells #[] 31) → HAppend Try.prog 22 22 (.slice (some ⟨nb, 0, none⟩) 0 0) (.slice l l_n l_c) h3 (fun vv h4 => ∃ ap : Option Addr, ∃ ap_n ap_c : Nat, vv = (.slice ap ap_n ap_c) ∧ (∃ j_1 : Bool, (∃ ap_b ap_o : Nat, ap = some ⟨ap_b, ap_o, none⟩ ∧ (0 : Int) ≤ k ∧ k < (ap_n : Int) ∧ (∃ x : Bool, hcell h4 ap_b ((ap_o + (Int.toNat k) * 8) + 4) = some (.bool x) ∧ ((x = true → (j_1 = true)) ∧ (x = false → (∃ x_1 : Int, hcell h4 ap_b ((ap_o + (Int.toNat k) * 8) + 3) = some (.int .i64 x_1) ∧ (j_1 = (x_1 != 0))))))) ∧ ((j_1 = true → R (.bool true) h4) ∧ (j_1 = false → (∃ A29 : Heap → Prop, ((pending = true → (∃ ap_b_1 ap_o_1 : Nat, ap = some ⟨ap_b_1, ap_o_1, none⟩ ∧ (0 : Int) ≤ k ∧ k < (ap_n : Int) ∧ (HW h4 ap_b_1 ((ap_o_1 + (Int.toNat k) * 8) + 7) ∧ ∀ h6, h6 = hset h4 ap_b_1 ((ap_o_1 + (Int.toNat k) * 8) + 7) (.int .i64 (-1)) → (A29 h6)))) ∧ (pending = false → (∃ ap_b_1 ap_o_1 : Nat, ap = some ⟨ap_b_1, ap_o_1, none⟩ ∧ (0 : Int) ≤ k ∧ k < (ap_n : Int) ∧ (HW h4 ap_b_1 ((ap_o_1 + (Int.toNat k) * 8) + 3) ∧ ∀ h7, h7 = hset h4 ap_b_1 ((ap_o_1 + (Int.toNat k) * 8) + 3) (.int .i64 5) → (A29 h7))))) ∧ (∀ (h5 : Heap), A29 h5 → HC Try.prog 10 #[(.slice ap ap_n ap_c)] h5 (fun vv h8 => ∃ r0_1 : Bool, ∃ r1_1 : Int, vv = (.tuple #[(.bool r0_1), (.int .i64 r1_1)]) ∧ R (.bool r0_1) h8))))))))))))))) :
    HC Try.prog 7 #[(.slice l l_n l_c), (.int .i64 atv), (.bool pending)] h R := by
  refine hc_of (args := [(.slice l l_n l_c), (.int .i64 atv), (.bool pending)]) Try.func7 rfl Try.ntmps7 (Nat.le_of_ble_eq_true rfl) ?_
  refine hx_seq ?_
  refine hx_region ?_
  refine hl_val rfl rfl (v := (.bool false)) (hv_assign rfl) ?_
  refine hl_nil ?_
  refine seqQ_n ?_
  refine hx_seq ?_
  refine hx_seq ?_
  refine hx_region ?_
  refine hl_step rfl rfl (hs_call TyShF.cb12 (vs := []) rfl (HC.mono (lives_c  _) ?_))
  rintro _ h1 ⟨rfl, xx1⟩
  refine hl_val rfl rfl (v := (.bool false)) (hv_not (b := true) rfl) ?_
  refine hl_nil ?_
  refine seqQ_n ?_
  refine hx_cond (b := false) rfl (fun hb => by cases hb) (fun _ => ?_)
  refine hx_skip ?_
  refine seqQ_n ?_
  refine hx_seq ?_
  refine hx_seq ?_
  refine hx_region ?_
  refine hl_val rfl rfl (v := (.slice l l_n l_c)) (hv_move rfl) ?_
  replace H := H h1 xx1
  refine hl_step rfl rfl (hs_call TyShF.cb10 (vs := [(.slice l l_n l_c)]) rfl (HC.mono H ?_))
  rintro _ h2 ⟨r0, r1, rfl, H⟩
  refine hl_val rfl rfl (v := (.tuple #[(.bool r0), (.int .i64 r1)])) (hv_move rfl) ?_
  refine hl_val rfl rfl (v := (.bool r0)) (hv_extract (vs := #[(.bool r0), (.int .i64 r1)]) rfl rfl) ?_
  refine hl_val rfl rfl (v := (.int .i64 r1)) (hv_extract (vs := #[(.bool r0), (.int .i64 r1)]) rfl rfl) ?_
  refine hl_val rfl rfl (v := (.bool r0)) (hv_assign rfl) ?_
  refine hl_val rfl rfl (v := (.int .i64 r1)) (hv_assign rfl) ?_
  refine hl_nil ?_
  refine seqQ_n ?_
  refine hx_cut (fun ρ h' => h2 = h' ∧ Has ρ [(0, (.slice l l_n l_c)), (1, (.int .i64 atv)), (2, (.bool pending)), (7, (.bool r0)), (8, (.int .i64 r1)), (26, (.bool (((l_n : Int) == 0) || (!r0))))]) ?_ ?_
  · refine hx_region ?_
    refine hl_val rfl rfl (v := (.slice l l_n l_c)) (hv_move rfl) ?_
    refine hl_val rfl rfl (v := (.int .i64 (l_n : Int))) (hv_len (n := l_n) TyShF.u22 rfl) ?_
    refine hl_val rfl rfl (v := (.bool ((l_n : Int) == 0))) (hv_arith rfl rfl rfl) ?_
    refine hl_val rfl rfl (v := (.bool ((l_n : Int) == 0))) (hv_move rfl) ?_
    rcases bool_or ((l_n : Int) == 0) with hg4 | hg4
    · refine hl_no (wanted_n rfl rfl rfl hg4) rfl ?_
      refine hl_no (wanted_n rfl rfl rfl hg4) rfl ?_
      refine hl_val rfl rfl (v := (.bool true)) (hv_pick_t rfl hg4 rfl) ?_
      refine hl_nil ?_
      refine seqQ_n ?_
      exact ⟨rfl, (has_cons rfl (has_cons rfl (has_cons rfl (has_cons rfl (has_cons rfl (has_cons (show ((.bool true) : Value) = (.bool (((l_n : Int) == 0) || (!r0))) from (by first | rfl | simp [hg4])) has_nil))))))⟩
    · refine hl_yes (wanted_y rfl rfl rfl hg4) rfl (HStep.of_val (v := (.bool r0)) (hv_move rfl) ?_)
      refine hl_yes (wanted_y rfl rfl rfl hg4) rfl (HStep.of_val (v := (.bool (!r0))) (hv_not (b := r0) rfl) ?_)
      refine hl_val rfl rfl (v := (.bool (!r0))) (hv_pick_f rfl hg4 rfl) ?_
      refine hl_nil ?_
      refine seqQ_n ?_
      exact ⟨rfl, (has_cons rfl (has_cons rfl (has_cons rfl (has_cons rfl (has_cons rfl (has_cons (show ((.bool (!r0)) : Value) = (.bool (((l_n : Int) == 0) || (!r0))) from (by first | rfl | simp [hg4])) has_nil))))))⟩
  · rintro ρ _ ⟨rfl, hH⟩
    refine hx_has _ hH ?_
    refine hx_cond (b := (((l_n : Int) == 0) || (!r0))) rfl (fun hb5 => ?_) (fun hb5 => ?_)
    · replace H := H.1 hb5
      refine hx_cut (fun ρ h' => h2 = h' ∧ Has ρ [(6, (.bool (r0 || ((decide (r1 ≥ 0)) && (decide (r1 < (l_n : Int)))))))]) ?_ ?_
      · refine hx_region ?_
        refine hl_val rfl rfl (v := (.bool r0)) (hv_move rfl) ?_
        refine hl_val rfl rfl (v := (.bool r0)) (hv_move rfl) ?_
        rcases bool_or (r0) with hg8 | hg8
        · refine hl_no (wanted_n rfl rfl rfl hg8) rfl ?_
          refine hl_no (wanted_n rfl rfl rfl hg8) rfl ?_
          refine hl_no (wanted_n rfl rfl rfl hg8) rfl ?_
          refine hl_no (wanted_u rfl rfl rfl) rfl ?_
          refine hl_no (wanted_u rfl rfl rfl) rfl ?_
          refine hl_no (wanted_u rfl rfl rfl) rfl ?_
          refine hl_no (wanted_u rfl rfl rfl) rfl ?_
          refine hl_no (wanted_n rfl rfl rfl hg8) rfl ?_
          refine hl_val rfl rfl (v := (.bool true)) (hv_pick_t rfl hg8 rfl) ?_
          refine hl_val rfl rfl (v := (.bool true)) (hv_assign rfl) ?_
          refine hl_nil ?_
          refine seqQ_n ?_
          exact ⟨rfl, (has_cons (show ((.bool true) : Value) = (.bool (r0 || ((decide (r1 ≥ 0)) && (decide (r1 < (l_n : Int)))))) from (by first | rfl | simp [hg8])) has_nil)⟩
        · refine hl_yes (wanted_y rfl rfl rfl hg8) rfl (HStep.of_val (v := (.int .i64 r1)) (hv_move rfl) ?_)
          refine hl_yes (wanted_y rfl rfl rfl hg8) rfl (HStep.of_val (v := (.bool (decide (r1 ≥ 0)))) (hv_arith rfl rfl rfl) ?_)
          refine hl_yes (wanted_y rfl rfl rfl hg8) rfl (HStep.of_val (v := (.bool (decide (r1 ≥ 0)))) (hv_move rfl) ?_)
          rcases bool_or (decide (r1 ≥ 0)) with hg9 | hg9
          · refine hl_yes (wanted_y rfl rfl rfl hg9) rfl (HStep.of_val (v := (.int .i64 r1)) (hv_move rfl) ?_)
            refine hl_yes (wanted_y rfl rfl rfl hg9) rfl (HStep.of_val (v := (.slice l l_n l_c)) (hv_move rfl) ?_)
            refine hl_yes (wanted_y rfl rfl rfl hg9) rfl (HStep.of_val (v := (.int .i64 (l_n : Int))) (hv_len (n := l_n) TyShF.u22 rfl) ?_)
            refine hl_yes (wanted_y rfl rfl rfl hg9) rfl (HStep.of_val (v := (.bool (decide (r1 < (l_n : Int))))) (hv_arith rfl rfl rfl) ?_)
            refine hl_yes (wanted_y rfl rfl rfl hg8) rfl (HStep.of_val (v := (.bool (decide (r1 < (l_n : Int))))) (hv_pick_t rfl hg9 rfl) ?_)
            refine hl_val rfl rfl (v := (.bool (decide (r1 < (l_n : Int))))) (hv_pick_f rfl hg8 rfl) ?_
            refine hl_val rfl rfl (v := (.bool (decide (r1 < (l_n : Int))))) (hv_assign rfl) ?_
            refine hl_nil ?_
            refine seqQ_n ?_
            exact ⟨rfl, (has_cons (show ((.bool (decide (r1 < (l_n : Int)))) : Value) = (.bool (r0 || ((decide (r1 ≥ 0)) && (decide (r1 < (l_n : Int)))))) from (by first | rfl | simp [hg8, hg9])) has_nil)⟩
          · refine hl_no (wanted_n rfl rfl rfl hg9) rfl ?_
            refine hl_no (wanted_n rfl rfl rfl hg9) rfl ?_
            refine hl_no (wanted_n rfl rfl rfl hg9) rfl ?_
            refine hl_no (wanted_n rfl rfl rfl hg9) rfl ?_
            refine hl_yes (wanted_y rfl rfl rfl hg8) rfl (HStep.of_val (v := (.bool false)) (hv_pick_f rfl hg9 rfl) ?_)
            refine hl_val rfl rfl (v := (.bool false)) (hv_pick_f rfl hg8 rfl) ?_
            refine hl_val rfl rfl (v := (.bool false)) (hv_assign rfl) ?_
            refine hl_nil ?_
            refine seqQ_n ?_
            exact ⟨rfl, (has_cons (show ((.bool false) : Value) = (.bool (r0 || ((decide (r1 ≥ 0)) && (decide (r1 < (l_n : Int)))))) from (by first | rfl | simp [hg8, hg9])) has_nil)⟩
      · rintro ρ _ ⟨rfl, hH⟩
        refine hx_has _ hH ?_
        refine hx_ret ?_
        refine seqQ_ret ?_
        exact endQ_ret _ (res_one Try.results7 (rv_tmp rfl)) H
    · replace H := H.2 hb5
      refine hx_skip ?_
      refine seqQ_n ?_
      refine hx_seq ?_
      refine hx_region ?_
      refine hl_val rfl rfl (v := (.int .i64 atv)) (hv_move rfl) ?_
      refine hl_val rfl rfl (v := (.slice l l_n l_c)) (hv_move rfl) ?_
      refine hl_val rfl rfl (v := (.int .i64 (l_n : Int))) (hv_len (n := l_n) TyShF.u22 rfl) ?_
      obtain ⟨hz40, H⟩ := H
      refine hl_val rfl rfl (v := (.int .i64 (Int.tmod atv (l_n : Int)))) (hv_rem rfl rfl hz40) ?_
      refine hl_val rfl rfl (v := (.int .i64 (Int.tmod atv (l_n : Int)))) (hv_assign rfl) ?_
      refine hl_nil ?_
      refine seqQ_n ?_
      obtain ⟨k, hq12⟩ : ∃ q : Int, q = (bif decide ((Int.tmod atv (l_n : Int)) < 0) then IntKind.i64.wrap ((Int.tmod atv (l_n : Int)) + (l_n : Int)) else Int.tmod atv (l_n : Int)) := ⟨_, rfl⟩
      replace H := H k hq12
      refine hx_cut (fun ρ h' => h2 = h' ∧ Has ρ [(0, (.slice l l_n l_c)), (2, (.bool pending)), (9, (.int .i64 k))]) ?_ ?_
      · refine hx_seq ?_
        refine hx_region ?_
        refine hl_val rfl rfl (v := (.int .i64 (Int.tmod atv (l_n : Int)))) (hv_move rfl) ?_
        refine hl_val rfl rfl (v := (.bool (decide ((Int.tmod atv (l_n : Int)) < 0)))) (hv_arith rfl rfl rfl) ?_
        refine hl_nil ?_
        refine seqQ_n ?_
        refine hx_cond (b := decide ((Int.tmod atv (l_n : Int)) < 0)) rfl (fun hb13 => ?_) (fun hb13 => ?_)
        · refine hx_region ?_
          refine hl_val rfl rfl (v := (.int .i64 (Int.tmod atv (l_n : Int)))) (hv_move rfl) ?_
          refine hl_val rfl rfl (v := (.slice l l_n l_c)) (hv_move rfl) ?_
          refine hl_val rfl rfl (v := (.int .i64 (l_n : Int))) (hv_len (n := l_n) TyShF.u22 rfl) ?_
          refine hl_val rfl rfl (v := (.int .i64 (IntKind.i64.wrap ((Int.tmod atv (l_n : Int)) + (l_n : Int))))) (hv_arith rfl rfl rfl) ?_
          refine hl_val rfl rfl (v := (.int .i64 (IntKind.i64.wrap ((Int.tmod atv (l_n : Int)) + (l_n : Int))))) (hv_assign rfl) ?_
          refine hl_nil ?_
          refine seqQ_n ?_
          exact ⟨rfl, (has_cons rfl (has_cons rfl (has_cons (show ((.int .i64 (IntKind.i64.wrap ((Int.tmod atv (l_n : Int)) + (l_n : Int)))) : Value) = (.int .i64 k) from (by first | rfl | simp [hb13, hq12])) has_nil)))⟩
        · refine hx_skip ?_
          refine seqQ_n ?_
          exact ⟨rfl, (has_cons rfl (has_cons rfl (has_cons (show ((.int .i64 (Int.tmod atv (l_n : Int))) : Value) = (.int .i64 k) from (by first | rfl | simp [hb13, hq12])) has_nil)))⟩
      · rintro ρ _ ⟨rfl, hH⟩
        refine hx_has _ hH ?_
        refine hx_seq ?_
        refine hx_region ?_
        refine hl_step rfl rfl (hn_buildSlice (n := 0) (vs := []) (cs := #[]) TyShF.u22 TyShF.sz31 TyShF.z31 rfl rfl (by kernel_rfl) ?_)
        intro nb h3 eb14 eh15
        replace H := H nb h3 eb14 eh15
        have xx16 : Ext h2 h3 := by rw [eh15]; exact Ext.push _ _
        refine hl_val rfl rfl (v := (.slice l l_n l_c)) (hv_move rfl) ?_
        refine hl_step rfl rfl (hs_append rfl rfl (HAppend.mono H ?_))
        rintro _ h4 ⟨ap, ap_n, ap_c, rfl, H⟩
        refine hl_val rfl rfl (v := (.slice ap ap_n ap_c)) (hv_assign rfl) ?_
        refine hl_nil ?_
        refine seqQ_n ?_
        refine hx_seq ?_
        obtain ⟨j_1, Hx17, Hy18⟩ := H
        refine hx_cut (fun ρ h' => h4 = h' ∧ Has ρ [(2, (.bool pending)), (9, (.int .i64 k)), (10, (.slice ap ap_n ap_c)), (63, (.bool j_1))]) ?_ ?_
        · have H := Hx17; clear Hx17 Hy18
          refine hx_region ?_
          refine hl_val rfl rfl (v := (.slice ap ap_n ap_c)) (hv_move rfl) ?_
          refine hl_val rfl rfl (v := (.int .i64 k)) (hv_move rfl) ?_
          obtain ⟨ap_b, ap_o, hqe, hi19, hi20, Hq⟩ := H
          subst hqe
          have H := Hq; clear Hq
          refine hl_val rfl rfl (v := (ptr ap_b (ap_o + (Int.toNat k) * 8))) (hv_index TyShF.el22 rfl rfl hi19 hi20) ?_
          refine hl_val rfl rfl (v := (ptr ap_b ((ap_o + (Int.toNat k) * 8) + 4))) (hv_field TyShF.fld31_4 (b := ap_b) (o := ap_o + (Int.toNat k) * 8) rfl) ?_
          obtain ⟨x, hc21, H⟩ := H
          refine hl_val rfl rfl (v := (.bool x)) (hv_load TyShF.agg4 rfl hc21) ?_
          refine hl_val rfl rfl (v := (.bool x)) (hv_move rfl) ?_
          rcases bool_or (x) with hg22 | hg22
          · replace H := H.1 hg22
            refine hl_no (wanted_n rfl rfl rfl hg22) rfl ?_
            refine hl_no (wanted_n rfl rfl rfl hg22) rfl ?_
            refine hl_no (wanted_n rfl rfl rfl hg22) rfl ?_
            refine hl_no (wanted_n rfl rfl rfl hg22) rfl ?_
            refine hl_no (wanted_n rfl rfl rfl hg22) rfl ?_
            refine hl_no (wanted_n rfl rfl rfl hg22) rfl ?_
            refine hl_val rfl rfl (v := (.bool true)) (hv_pick_t rfl hg22 rfl) ?_
            refine hl_nil ?_
            refine seqQ_n ?_
            obtain rfl := H
            exact ⟨rfl, (has_cons rfl (has_cons rfl (has_cons rfl (has_cons rfl has_nil))))⟩
          · replace H := H.2 hg22
            refine hl_yes (wanted_y rfl rfl rfl hg22) rfl (HStep.of_val (v := (.slice (some ⟨ap_b, ap_o, none⟩) ap_n ap_c)) (hv_move rfl) ?_)
            refine hl_yes (wanted_y rfl rfl rfl hg22) rfl (HStep.of_val (v := (.int .i64 k)) (hv_move rfl) ?_)
            refine hl_yes (wanted_y rfl rfl rfl hg22) rfl (HStep.of_val (v := (ptr ap_b (ap_o + (Int.toNat k) * 8))) (hv_index TyShF.el22 rfl rfl hi19 hi20) ?_)
            refine hl_yes (wanted_y rfl rfl rfl hg22) rfl (HStep.of_val (v := (ptr ap_b ((ap_o + (Int.toNat k) * 8) + 3))) (hv_field TyShF.fld31_3 (b := ap_b) (o := ap_o + (Int.toNat k) * 8) rfl) ?_)
            obtain ⟨x_1, hc25, H⟩ := H
            refine hl_yes (wanted_y rfl rfl rfl hg22) rfl (HStep.of_val (v := (.int .i64 x_1)) (hv_load TyShF.agg29 rfl hc25) ?_)
            refine hl_yes (wanted_y rfl rfl rfl hg22) rfl (HStep.of_val (v := (.bool (x_1 != 0))) (hv_arith rfl rfl rfl) ?_)
            refine hl_val rfl rfl (v := (.bool (x_1 != 0))) (hv_pick_f rfl hg22 rfl) ?_
            refine hl_nil ?_
            refine seqQ_n ?_
            obtain rfl := H
            exact ⟨rfl, (has_cons rfl (has_cons rfl (has_cons rfl (has_cons rfl has_nil))))⟩
        · have H := Hy18; clear Hx17 Hy18
          rintro ρ _ ⟨rfl, hH⟩
          refine hx_has _ hH ?_
          refine hx_cond (b := j_1) rfl (fun hb26 => ?_) (fun hb26 => ?_)
          · replace H := H.1 hb26
            refine hx_seq ?_
            refine hx_region ?_
            refine hl_val rfl rfl (v := (.bool true)) (hv_assign rfl) ?_
            refine hl_nil ?_
            refine seqQ_n ?_
            refine hx_ret ?_
            refine seqQ_ret ?_
            exact endQ_ret _ (res_one Try.results7 (rv_tmp rfl)) H
          · replace H := H.2 hb26
            refine hx_skip ?_
            refine seqQ_n ?_
            obtain ⟨A29, Hx27, Hy28⟩ := H
            refine hx_cut (fun ρ h' => (A29 h' ∧ True) ∧ Has ρ [(10, (.slice ap ap_n ap_c))]) ?_ ?_
            · have H := Hx27; clear Hx27 Hy28
              refine hx_seq ?_
              refine hx_region ?_
              refine hl_val rfl rfl (v := (.bool pending)) (hv_move rfl) ?_
              refine hl_nil ?_
              refine seqQ_n ?_
              refine hx_cond (b := pending) rfl (fun hb31 => ?_) (fun hb31 => ?_)
              · replace H := H.1 hb31
                refine hx_region ?_
                refine hl_val rfl rfl (v := (.slice ap ap_n ap_c)) (hv_move rfl) ?_
                refine hl_val rfl rfl (v := (.int .i64 k)) (hv_move rfl) ?_
                obtain ⟨ap_b_1, ap_o_1, hqe, hi32, hi33, Hq⟩ := H
                subst hqe
                have H := Hq; clear Hq
                refine hl_val rfl rfl (v := (ptr ap_b_1 (ap_o_1 + (Int.toNat k) * 8))) (hv_index TyShF.el22 rfl rfl hi32 hi33) ?_
                refine hl_val rfl rfl (v := (ptr ap_b_1 ((ap_o_1 + (Int.toNat k) * 8) + 7))) (hv_field TyShF.fld31_7 (b := ap_b_1) (o := ap_o_1 + (Int.toNat k) * 8) rfl) ?_
                obtain ⟨hw35, H⟩ := H
                refine hl_step rfl rfl (hn_store (v := (.int .i64 (-1))) rfl rfl TyShF.sz3 rfl hw35 ?_)
                intro h6 eh34
                replace H := H h6 eh34
                refine hl_nil ?_
                refine seqQ_n ?_
                exact ⟨⟨H, trivial⟩, (has_cons rfl has_nil)⟩
              · replace H := H.2 hb31
                refine hx_region ?_
                refine hl_val rfl rfl (v := (.slice ap ap_n ap_c)) (hv_move rfl) ?_
                refine hl_val rfl rfl (v := (.int .i64 k)) (hv_move rfl) ?_
                obtain ⟨ap_b_1, ap_o_1, hqe, hi36, hi37, Hq⟩ := H
                subst hqe
                have H := Hq; clear Hq
                refine hl_val rfl rfl (v := (ptr ap_b_1 (ap_o_1 + (Int.toNat k) * 8))) (hv_index TyShF.el22 rfl rfl hi36 hi37) ?_
                refine hl_val rfl rfl (v := (ptr ap_b_1 ((ap_o_1 + (Int.toNat k) * 8) + 3))) (hv_field TyShF.fld31_3 (b := ap_b_1) (o := ap_o_1 + (Int.toNat k) * 8) rfl) ?_
                obtain ⟨hw39, H⟩ := H
                refine hl_step rfl rfl (hn_store (v := (.int .i64 5)) rfl rfl TyShF.sz29 rfl hw39 ?_)
                intro h7 eh38
                replace H := H h7 eh38
                refine hl_nil ?_
                refine seqQ_n ?_
                exact ⟨⟨H, trivial⟩, (has_cons rfl has_nil)⟩
            · rintro ρ h5 ⟨⟨HA30, -⟩, hH⟩
              have H := Hy28 h5 HA30; clear Hx27 Hy28
              refine hx_has _ hH ?_
              refine hx_seq ?_
              refine hx_region ?_
              refine hl_val rfl rfl (v := (.slice ap ap_n ap_c)) (hv_move rfl) ?_
              refine hl_step rfl rfl (hs_call TyShF.cb10 (vs := [(.slice ap ap_n ap_c)]) rfl (HC.mono H ?_))
              rintro _ h8 ⟨r0_1, r1_1, rfl, H⟩
              refine hl_val rfl rfl (v := (.tuple #[(.bool r0_1), (.int .i64 r1_1)])) (hv_move rfl) ?_
              refine hl_val rfl rfl (v := (.bool r0_1)) (hv_extract (vs := #[(.bool r0_1), (.int .i64 r1_1)]) rfl rfl) ?_
              refine hl_val rfl rfl (v := (.int .i64 r1_1)) (hv_extract (vs := #[(.bool r0_1), (.int .i64 r1_1)]) rfl rfl) ?_
              refine hl_val rfl rfl (v := (.bool r0_1)) (hv_assign rfl) ?_
              refine hl_val rfl rfl (v := (.int .i64 r1_1)) (hv_assign rfl) ?_
              refine hl_nil ?_
              refine seqQ_n ?_
              refine hx_seq ?_
              refine hx_region ?_
              refine hl_val rfl rfl (v := (.bool r0_1)) (hv_move rfl) ?_
              refine hl_val rfl rfl (v := (.bool r0_1)) (hv_assign rfl) ?_
              refine hl_nil ?_
              refine seqQ_n ?_
              refine hx_ret ?_
              exact endQ_ret _ (res_one Try.results7 (rv_tmp rfl)) H

/-- cellar/cellarlaw23.ModelUnions -/
theorem f8_sh (a : Option Addr) (a_n : Nat) (a_c : Nat) (b : Option Addr) (b_n : Nat) (b_c : Nat) (m_Kind : Int) (m_Key : ByteArray) (m_Value : ByteArray) (m_Err : Int) (m_Hit : Bool) (m_Life : Int) (m_From : Int) (m_To : Int) (h : Heap) (R : Value → Heap → Prop)
    (H : (∀ (m : Nat) (h2 : Heap), Array.size h ≤ m → m < Array.size h2 → Ext h h2 → (∃ (I9 : Option Addr → Nat → Nat → Int → Heap → Prop) (mu10 : Option Addr → Nat → Nat → Int → Heap → Nat), I9 none 0 0 0 h2 ∧ (∀ (x : Option Addr) (x_n : Nat) (x_c : Nat) (i : Int) (h3 : Heap), I9 x x_n x_c i h3 → (((decide (i < (a_n : Int))) = true → (∃ a_b a_o : Nat, a = some ⟨a_b, a_o, none⟩ ∧ (0 : Int) ≤ i ∧ i < (a_n : Int) ∧ (∃ x_Has : Bool, ∃ x_Value : ByteArray, hcell h3 a_b (a_o + (Int.toNat i) * 2) = some (.bool x_Has) ∧ hcell h3 a_b ((a_o + (Int.toNat i) * 2) + 1) = some (.string x_Value) ∧ HC Try.prog 18 #[(.slice x x_n x_c), (.agg #[(.bool x_Has), (.string x_Value)])] h3 (fun vv h4 => Kp [m] h3 h4 ∧ ∃ r : Option Addr, ∃ r_n r_c : Nat, vv = (.slice r r_n r_c) ∧ (I9 r r_n r_c (IntKind.i64.wrap (i + 1)) h4 ∧ mu10 r r_n r_c (IntKind.i64.wrap (i + 1)) h4 < mu10 x x_n x_c i h3))))) ∧ ((decide (i < (a_n : Int))) = false → (∃ (I21 : Option Addr → Nat → Nat → Option Addr → Nat → Nat → Int → Heap → Prop) (mu22 : Option Addr → Nat → Nat → Option Addr → Nat → Nat → Int → Heap → Nat), I21 x x_n x_c none 0 0 0 h3 ∧ (∀ (all : Option Addr) (all_n : Nat) (all_c : Nat) (y : Option Addr) (y_n : Nat) (y_c : Nat) (i_1 : Int) (h5 : Heap), I21 all all_n all_c y y_n y_c i_1 h5 → (((decide (i_1 < (b_n : Int))) = true → (∃ b_b b_o : Nat, b = some ⟨b_b, b_o, none⟩ ∧ (0 : Int) ≤ i_1 ∧ i_1 < (b_n : Int) ∧ (∃ x_Has : Bool, ∃ x_Value : ByteArray, hcell h5 b_b (b_o + (Int.toNat i_1) * 2) = some (.bool x_Has) ∧ hcell h5 b_b ((b_o + (Int.toNat i_1) * 2) + 1) = some (.string x_Value) ∧ HC Try.prog 18 #[(.slice y y_n y_c), (.agg #[(.bool x_Has), (.string x_Value)])] h5 (fun vv h6 => Kp [m] h5 h6 ∧ ∃ r : Option Addr, ∃ r_n r_c : Nat, vv = (.slice r r_n r_c) ∧ (∃ x_Has_1 : Bool, ∃ x_Value_1 : ByteArray, hcell h6 b_b (b_o + (Int.toNat i_1) * 2) = some (.bool x_Has_1) ∧ hcell h6 b_b ((b_o + (Int.toNat i_1) * 2) + 1) = some (.string x_Value_1) ∧ HC Try.prog 18 #[(.slice all all_n all_c), (.agg #[(.bool x_Has_1), (.string x_Value_1)])] h6 (fun vv h7 => Kp [m] h6 h7 ∧ ∃ r_1 : Option Addr, ∃ r_n_1 r_c_1 : Nat, vv = (.slice r_1 r_n_1 r_c_1) ∧ (I21 r_1 r_n_1 r_c_1 r r_n r_c (IntKind.i64.wrap (i_1 + 1)) h7 ∧ mu22 r_1 r_n_1 r_c_1 r r_n r_c (IntKind.i64.wrap (i_1 + 1)) h7 < mu22 all all_n all_c y y_n y_c i_1 h5))))))) ∧ ((decide (i_1 < (b_n : Int))) = false → (∃ T37 : Heap → Heap → Prop, Fit T37 ∧ ((∀ hx, T37 h5 hx → Kp [m] h5 hx) ∧ HC Try.prog 19 #[(.slice x x_n x_c), (.agg #[(.int .i64 m_Kind), (.string m_Key), (.string m_Value), (.int .i64 m_Err), (.bool m_Hit), (.int .i64 m_Life), (.int .i64 m_From), (.int .i64 m_To)])] h5 (fun vv h8 => T37 h5 h8 ∧ Kp [m] h5 h8 ∧ ∃ r : Option Addr, ∃ r_n r_c : Nat, vv = (.slice r r_n r_c) ∧ HC Try.prog 19 #[(.slice y y_n y_c), (.agg #[(.int .i64 m_Kind), (.string m_Key), (.string m_Value), (.int .i64 m_Err), (.bool m_Hit), (.int .i64 m_Life), (.int .i64 m_From), (.int .i64 m_To)])] h8 (fun vv h9 => Kp [m] h8 h9 ∧ ∃ r_1 : Option Addr, ∃ r_n_1 r_c_1 : Nat, vv = (.slice r_1 r_n_1 r_c_1) ∧ HAppend Try.prog 27 27 (.slice r r_n r_c) (.slice r_1 r_n_1 r_c_1) h9 (fun vv h10 => Kp [m] h9 h10 ∧ ∃ ap : Option Addr, ∃ ap_n ap_c : Nat, vv = (.slice ap ap_n ap_c) ∧ (∃ (I44 : Option Addr → Nat → Nat → Int → Heap → Prop) (mu45 : Option Addr → Nat → Nat → Int → Heap → Nat), I44 none 0 0 0 h10 ∧ (∀ (want : Option Addr) (want_n : Nat) (want_c : Nat) (i_2 : Int) (h11 : Heap), I44 want want_n want_c i_2 h11 → (((decide (i_2 < (ap_n : Int))) = true → (∃ ap_b ap_o : Nat, ap = some ⟨ap_b, ap_o, none⟩ ∧ (0 : Int) ≤ i_2 ∧ i_2 < (ap_n : Int) ∧ (∃ x_Has : Bool, ∃ x_Value : ByteArray, hcell h11 ap_b (ap_o + (Int.toNat i_2) * 2) = some (.bool x_Has) ∧ hcell h11 ap_b ((ap_o + (Int.toNat i_2) * 2) + 1) = some (.string x_Value) ∧ HC Try.prog 18 #[(.slice want want_n want_c), (.agg #[(.bool x_Has), (.string x_Value)])] h11 (fun vv h12 => Kp [m] h11 h12 ∧ ∃ r_2 : Option Addr, ∃ r_n_2 r_c_2 : Nat, vv = (.slice r_2 r_n_2 r_c_2) ∧ (I44 r_2 r_n_2 r_c_2 (IntKind.i64.wrap (i_2 + 1)) h12 ∧ mu45 r_2 r_n_2 r_c_2 (IntKind.i64.wrap (i_2 + 1)) h12 < mu45 want want_n want_c i_2 h11))))) ∧ ((decide (i_2 < (ap_n : Int))) = false → HC Try.prog 19 #[(.slice all all_n all_c), (.agg #[(.int .i64 m_Kind), (.string m_Key), (.string m_Value), (.int .i64 m_Err), (.bool m_Hit), (.int .i64 m_Life), (.int .i64 m_From), (.int .i64 m_To)])] h11 (fun vv h13 => ∃ r_2 : Option Addr, ∃ r_n_2 r_c_2 : Nat, vv = (.slice r_2 r_n_2 r_c_2) ∧ HC Try.prog 13 #[(.slice r_2 r_n_2 r_c_2), (.slice want want_n want_c)] h13 (fun vv h14 => ∃ r_3 : Bool, vv = (.bool r_3) ∧ R (.bool r_3) h14))))))))))))))))))))) :
    HC Try.prog 8 #[(.slice a a_n a_c), (.slice b b_n b_c), (.agg #[(.int .i64 m_Kind), (.string m_Key), (.string m_Value), (.int .i64 m_Err), (.bool m_Hit), (.int .i64 m_Life), (.int .i64 m_From), (.int .i64 m_To)])] h R := by
  refine hc_of (args := [(.slice a a_n a_c), (.slice b b_n b_c), (.agg #[(.int .i64 m_Kind), (.string m_Key), (.string m_Value), (.int .i64 m_Err), (.bool m_Hit), (.int .i64 m_Life), (.int .i64 m_From), (.int .i64 m_To)])]) Try.func8 rfl Try.ntmps8 (Nat.le_of_ble_eq_true rfl) ?_
  refine hx_seq ?_
  refine hx_region ?_
  refine hl_step rfl rfl (hn_box (v := (.agg #[(.int .i64 m_Kind), (.string m_Key), (.string m_Value), (.int .i64 m_Err), (.bool m_Hit), (.int .i64 m_Life), (.int .i64 m_From), (.int .i64 m_To)])) rfl ?_)
  intro m h1 eb1 eh2
  have xx3 : Ext h h1 := by rw [eh2]; exact Ext.push _ _
  have lo5 : Array.size h ≤ m := Nat.le_of_eq (Eq.symm eb1)
  have hr4 : h1[m]? = some (.cells #[(.int .i64 m_Kind), (.string m_Key), (.string m_Value), (.int .i64 m_Err), (.bool m_Hit), (.int .i64 m_Life), (.int .i64 m_From), (.int .i64 m_To)] 31 (0, 0)) := by rw [eh2]; exact push_new eb1
  refine hl_val rfl rfl (v := (.bool false)) (hv_assign rfl) ?_
  refine hl_nil ?_
  refine seqQ_n ?_
  refine hx_seq ?_
  refine hx_seq ?_
  refine hx_region ?_
  refine hl_step rfl rfl (hs_call TyShF.cb12 (vs := []) rfl (HC.mono (lives_c  _) ?_))
  rintro _ h2 ⟨rfl, xx6⟩
  replace hr4 := Ext.row xx6 hr4
  have xv7 := Ext.trans xx3 xx6
  refine hl_val rfl rfl (v := (.bool false)) (hv_not (b := true) rfl) ?_
  refine hl_nil ?_
  refine seqQ_n ?_
  refine hx_cond (b := false) rfl (fun hb => by cases hb) (fun _ => ?_)
  refine hx_skip ?_
  refine seqQ_n ?_
  refine hx_seq ?_
  refine hx_region ?_
  refine hl_val rfl rfl (v := (.slice none 0 0)) (hv_assign rfl) ?_
  refine hl_nil ?_
  refine seqQ_n ?_
  refine hx_seq ?_
  refine hx_seq ?_
  refine hx_region ?_
  refine hl_val rfl rfl (v := (.int .i64 0)) (hv_assign rfl) ?_
  refine hl_nil ?_
  refine seqQ_n ?_
  refine hx_block ?_
  replace H := H m h2 lo5 (row_lt hr4) xv7
  obtain ⟨I9, mu10, Ha11, Hr12⟩ := H
  refine hx_loopT (σ := Option Addr × Nat × Nat × Int) (fun s => [(0, (.slice a a_n a_c)), (1, (.slice b b_n b_c)), (5, (ptr m 0)), (7, (.slice s.1 s.2.1 s.2.2.1)), (8, (.int .i64 s.2.2.2))]) (fun s h' => I9 s.1 s.2.1 s.2.2.1 s.2.2.2 h' ∧ h'[m]? = some (.cells #[(.int .i64 m_Kind), (.string m_Key), (.string m_Value), (.int .i64 m_Err), (.bool m_Hit), (.int .i64 m_Life), (.int .i64 m_From), (.int .i64 m_To)] 31 (0, 0)) ∧ True) (fun s h' => mu10 s.1 s.2.1 s.2.2.1 s.2.2.2 h') (none, 0, 0, 0) ⟨Ha11, hr4, trivial⟩ (has_cons rfl (has_cons rfl (has_cons rfl (has_cons rfl (has_cons rfl has_nil))))) ?_
  rintro ⟨x, x_n, x_c, i⟩ ρ h3 ⟨Hi13, hr8, -⟩
  have H := Hr12 x x_n x_c i h3 Hi13
  refine hx_seq ?_
  refine hx_seq ?_
  refine hx_region ?_
  refine hl_val rfl rfl (v := (.int .i64 i)) (hv_move rfl) ?_
  refine hl_val rfl rfl (v := (.slice a a_n a_c)) (hv_move rfl) ?_
  refine hl_val rfl rfl (v := (.int .i64 (a_n : Int))) (hv_len (n := a_n) TyShF.u27 rfl) ?_
  refine hl_val rfl rfl (v := (.bool (decide (i < (a_n : Int))))) (hv_arith rfl rfl rfl) ?_
  refine hl_nil ?_
  refine seqQ_n ?_
  refine hx_cond (b := decide (i < (a_n : Int))) rfl (fun hb14 => ?_) (fun hb14 => ?_)
  · replace H := H.1 hb14
    refine hx_skip ?_
    refine seqQ_n ?_
    refine hx_seq ?_
    refine hx_block ?_
    refine hx_region ?_
    refine hl_val rfl rfl (v := (.slice x x_n x_c)) (hv_move rfl) ?_
    refine hl_val rfl rfl (v := (.slice a a_n a_c)) (hv_move rfl) ?_
    refine hl_val rfl rfl (v := (.int .i64 i)) (hv_move rfl) ?_
    obtain ⟨a_b, a_o, hqe, hi15, hi16, Hq⟩ := H
    subst hqe
    have H := Hq; clear Hq
    refine hl_val rfl rfl (v := (ptr a_b (a_o + (Int.toNat i) * 2))) (hv_index TyShF.el27 rfl rfl hi15 hi16) ?_
    obtain ⟨x_Has, x_Value, hc17, hc18, H⟩ := H
    refine hl_val rfl rfl (v := (.agg #[(.bool x_Has), (.string x_Value)])) (hv_loads (vs := [(.bool x_Has), (.string x_Value)]) TyShF.agg40 TyShF.sz40 rfl (hcells_cons hc17 (hcells_cons hc18 hcells_nil))) ?_
    refine hl_step rfl rfl (hs_call TyShF.cb18 (vs := [(.slice x x_n x_c), (.agg #[(.bool x_Has), (.string x_Value)])]) rfl (HC.mono H ?_))
    rintro _ h4 ⟨kp19, r, r_n, r_c, rfl, H⟩
    replace hr8 := Kp.row kp19 (by simp) hr8
    refine hl_val rfl rfl (v := (.slice r r_n r_c)) (hv_assign rfl) ?_
    refine hl_nil ?_
    refine blockQ_n ?_
    refine seqQ_n ?_
    refine hx_region ?_
    refine hl_val rfl rfl (v := (.int .i64 i)) (hv_move rfl) ?_
    refine hl_val rfl rfl (v := (.int .i64 (IntKind.i64.wrap (i + 1)))) (hv_arith rfl rfl rfl) ?_
    refine hl_val rfl rfl (v := (.int .i64 (IntKind.i64.wrap (i + 1)))) (hv_assign rfl) ?_
    refine hl_nil ?_
    refine seqQ_n ?_
    exact ⟨(r, r_n, r_c, IntKind.i64.wrap (i + 1)), ⟨⟨H.1, hr8, trivial⟩, H.2⟩, (has_cons rfl (has_cons rfl (has_cons rfl (has_cons rfl (has_cons rfl has_nil)))))⟩
  · replace H := H.2 hb14
    refine hx_exit ?_
    refine seqQ_exit ?_
    refine seqQ_exit ?_
    refine blockQ_here ?_
    refine seqQ_n ?_
    refine hx_seq ?_
    refine hx_region ?_
    refine hl_val rfl rfl (v := (.slice x x_n x_c)) (hv_move rfl) ?_
    refine hl_val rfl rfl (v := (.slice x x_n x_c)) (hv_assign rfl) ?_
    refine hl_nil ?_
    refine seqQ_n ?_
    refine hx_seq ?_
    refine hx_region ?_
    refine hl_val rfl rfl (v := (.slice none 0 0)) (hv_assign rfl) ?_
    refine hl_nil ?_
    refine seqQ_n ?_
    refine hx_seq ?_
    refine hx_seq ?_
    refine hx_region ?_
    refine hl_val rfl rfl (v := (.int .i64 0)) (hv_assign rfl) ?_
    refine hl_nil ?_
    refine seqQ_n ?_
    refine hx_block ?_
    obtain ⟨I21, mu22, Ha23, Hr24⟩ := H
    refine hx_loopT (σ := Option Addr × Nat × Nat × Option Addr × Nat × Nat × Int) (fun s => [(1, (.slice b b_n b_c)), (5, (ptr m 0)), (7, (.slice x x_n x_c)), (9, (.slice s.1 s.2.1 s.2.2.1)), (10, (.slice s.2.2.2.1 s.2.2.2.2.1 s.2.2.2.2.2.1)), (11, (.int .i64 s.2.2.2.2.2.2))]) (fun s h' => I21 s.1 s.2.1 s.2.2.1 s.2.2.2.1 s.2.2.2.2.1 s.2.2.2.2.2.1 s.2.2.2.2.2.2 h' ∧ h'[m]? = some (.cells #[(.int .i64 m_Kind), (.string m_Key), (.string m_Value), (.int .i64 m_Err), (.bool m_Hit), (.int .i64 m_Life), (.int .i64 m_From), (.int .i64 m_To)] 31 (0, 0)) ∧ True) (fun s h' => mu22 s.1 s.2.1 s.2.2.1 s.2.2.2.1 s.2.2.2.2.1 s.2.2.2.2.2.1 s.2.2.2.2.2.2 h') (x, x_n, x_c, none, 0, 0, 0) ⟨Ha23, hr8, trivial⟩ (has_cons rfl (has_cons rfl (has_cons rfl (has_cons rfl (has_cons rfl (has_cons rfl has_nil)))))) ?_
    rintro ⟨all, all_n, all_c, y, y_n, y_c, i_1⟩ ρ h5 ⟨Hi25, hr20, -⟩
    have H := Hr24 all all_n all_c y y_n y_c i_1 h5 Hi25
    refine hx_seq ?_
    refine hx_seq ?_
    refine hx_region ?_
    refine hl_val rfl rfl (v := (.int .i64 i_1)) (hv_move rfl) ?_
    refine hl_val rfl rfl (v := (.slice b b_n b_c)) (hv_move rfl) ?_
    refine hl_val rfl rfl (v := (.int .i64 (b_n : Int))) (hv_len (n := b_n) TyShF.u27 rfl) ?_
    refine hl_val rfl rfl (v := (.bool (decide (i_1 < (b_n : Int))))) (hv_arith rfl rfl rfl) ?_
    refine hl_nil ?_
    refine seqQ_n ?_
    refine hx_cond (b := decide (i_1 < (b_n : Int))) rfl (fun hb26 => ?_) (fun hb26 => ?_)
    · replace H := H.1 hb26
      refine hx_skip ?_
      refine seqQ_n ?_
      refine hx_seq ?_
      refine hx_block ?_
      refine hx_seq ?_
      refine hx_region ?_
      refine hl_val rfl rfl (v := (.slice y y_n y_c)) (hv_move rfl) ?_
      refine hl_val rfl rfl (v := (.slice b b_n b_c)) (hv_move rfl) ?_
      refine hl_val rfl rfl (v := (.int .i64 i_1)) (hv_move rfl) ?_
      obtain ⟨b_b, b_o, hqe, hi27, hi28, Hq⟩ := H
      subst hqe
      have H := Hq; clear Hq
      refine hl_val rfl rfl (v := (ptr b_b (b_o + (Int.toNat i_1) * 2))) (hv_index TyShF.el27 rfl rfl hi27 hi28) ?_
      obtain ⟨x_Has, x_Value, hc29, hc30, H⟩ := H
      refine hl_val rfl rfl (v := (.agg #[(.bool x_Has), (.string x_Value)])) (hv_loads (vs := [(.bool x_Has), (.string x_Value)]) TyShF.agg40 TyShF.sz40 rfl (hcells_cons hc29 (hcells_cons hc30 hcells_nil))) ?_
      refine hl_step rfl rfl (hs_call TyShF.cb18 (vs := [(.slice y y_n y_c), (.agg #[(.bool x_Has), (.string x_Value)])]) rfl (HC.mono H ?_))
      rintro _ h6 ⟨kp31, r, r_n, r_c, rfl, H⟩
      replace hr20 := Kp.row kp31 (by simp) hr20
      refine hl_val rfl rfl (v := (.slice r r_n r_c)) (hv_assign rfl) ?_
      refine hl_nil ?_
      refine seqQ_n ?_
      refine hx_region ?_
      refine hl_val rfl rfl (v := (.slice all all_n all_c)) (hv_move rfl) ?_
      refine hl_val rfl rfl (v := (.slice (some ⟨b_b, b_o, none⟩) b_n b_c)) (hv_move rfl) ?_
      refine hl_val rfl rfl (v := (.int .i64 i_1)) (hv_move rfl) ?_
      refine hl_val rfl rfl (v := (ptr b_b (b_o + (Int.toNat i_1) * 2))) (hv_index TyShF.el27 rfl rfl hi27 hi28) ?_
      obtain ⟨x_Has_1, x_Value_1, hc34, hc35, H⟩ := H
      refine hl_val rfl rfl (v := (.agg #[(.bool x_Has_1), (.string x_Value_1)])) (hv_loads (vs := [(.bool x_Has_1), (.string x_Value_1)]) TyShF.agg40 TyShF.sz40 rfl (hcells_cons hc34 (hcells_cons hc35 hcells_nil))) ?_
      refine hl_step rfl rfl (hs_call TyShF.cb18 (vs := [(.slice all all_n all_c), (.agg #[(.bool x_Has_1), (.string x_Value_1)])]) rfl (HC.mono H ?_))
      rintro _ h7 ⟨kp36, r_1, r_n_1, r_c_1, rfl, H⟩
      replace hr20 := Kp.row kp36 (by simp) hr20
      refine hl_val rfl rfl (v := (.slice r_1 r_n_1 r_c_1)) (hv_assign rfl) ?_
      refine hl_nil ?_
      refine blockQ_n ?_
      refine seqQ_n ?_
      refine hx_region ?_
      refine hl_val rfl rfl (v := (.int .i64 i_1)) (hv_move rfl) ?_
      refine hl_val rfl rfl (v := (.int .i64 (IntKind.i64.wrap (i_1 + 1)))) (hv_arith rfl rfl rfl) ?_
      refine hl_val rfl rfl (v := (.int .i64 (IntKind.i64.wrap (i_1 + 1)))) (hv_assign rfl) ?_
      refine hl_nil ?_
      refine seqQ_n ?_
      exact ⟨(r_1, r_n_1, r_c_1, r, r_n, r_c, IntKind.i64.wrap (i_1 + 1)), ⟨⟨H.1, hr20, trivial⟩, H.2⟩, (has_cons rfl (has_cons rfl (has_cons rfl (has_cons rfl (has_cons rfl (has_cons rfl has_nil))))))⟩
    · replace H := H.2 hb26
      refine hx_exit ?_
      refine seqQ_exit ?_
      refine seqQ_exit ?_
      refine blockQ_here ?_
      refine seqQ_n ?_
      refine hx_seq ?_
      refine hx_region ?_
      refine hl_val rfl rfl (v := (.slice none 0 0)) (hv_assign rfl) ?_
      refine hl_nil ?_
      refine seqQ_n ?_
      refine hx_seq ?_
      obtain ⟨T37, hT38, H⟩ := H
      refine hx_drawT TyShF.mixed T37 hT38 [.pure, .read, .tame, .pure, .stay, .wild, .wild, .pure] [0, 1, 3, 4, 2, 5, 6, 7] (by kernel_rfl) ?_
      refine hp_pure (i := 0) rfl (wanted_0 rfl) rfl (.slice x x_n x_c) (fun _ => hv_move rfl) ?_
      refine hp_read (i := 1) rfl (wanted_0 rfl) rfl (.agg #[(.int .i64 m_Kind), (.string m_Key), (.string m_Value), (.int .i64 m_Err), (.bool m_Hit), (.int .i64 m_Life), (.int .i64 m_From), (.int .i64 m_To)]) (fun _ he => hv_loads (vs := [(.int .i64 m_Kind), (.string m_Key), (.string m_Value), (.int .i64 m_Err), (.bool m_Hit), (.int .i64 m_Life), (.int .i64 m_From), (.int .i64 m_To)]) TyShF.agg31 TyShF.sz31 rfl (hcells_cons (Ext.cell he (rowcell hr20 rfl)) (hcells_cons (Ext.cell he (rowcell hr20 rfl)) (hcells_cons (Ext.cell he (rowcell hr20 rfl)) (hcells_cons (Ext.cell he (rowcell hr20 rfl)) (hcells_cons (Ext.cell he (rowcell hr20 rfl)) (hcells_cons (Ext.cell he (rowcell hr20 rfl)) (hcells_cons (Ext.cell he (rowcell hr20 rfl)) (hcells_cons (Ext.cell he (rowcell hr20 rfl)) hcells_nil))))))))) ?_
      refine hp_pure (i := 3) rfl (wanted_0 rfl) rfl (.slice y y_n y_c) (fun _ => hv_move rfl) ?_
      obtain ⟨hk55, H⟩ := H
      refine hp_stay (i := 4) rfl (wanted_0 rfl) rfl (.agg #[(.int .i64 m_Kind), (.string m_Key), (.string m_Value), (.int .i64 m_Err), (.bool m_Hit), (.int .i64 m_Life), (.int .i64 m_From), (.int .i64 m_To)]) (fun _ he => hv_loads (vs := [(.int .i64 m_Kind), (.string m_Key), (.string m_Value), (.int .i64 m_Err), (.bool m_Hit), (.int .i64 m_Life), (.int .i64 m_From), (.int .i64 m_To)]) TyShF.agg31 TyShF.sz31 rfl (hcells_cons ((fun hx he => rowcell (Kp.row (hk55 hx he) (by simp) hr20) rfl) _ he) (hcells_cons ((fun hx he => rowcell (Kp.row (hk55 hx he) (by simp) hr20) rfl) _ he) (hcells_cons ((fun hx he => rowcell (Kp.row (hk55 hx he) (by simp) hr20) rfl) _ he) (hcells_cons ((fun hx he => rowcell (Kp.row (hk55 hx he) (by simp) hr20) rfl) _ he) (hcells_cons ((fun hx he => rowcell (Kp.row (hk55 hx he) (by simp) hr20) rfl) _ he) (hcells_cons ((fun hx he => rowcell (Kp.row (hk55 hx he) (by simp) hr20) rfl) _ he) (hcells_cons ((fun hx he => rowcell (Kp.row (hk55 hx he) (by simp) hr20) rfl) _ he) (hcells_cons ((fun hx he => rowcell (Kp.row (hk55 hx he) (by simp) hr20) rfl) _ he) hcells_nil))))))))) ?_
      refine hp_tame (i := 2) rfl (wanted_0 rfl) rfl (hs_call TyShF.cb19 (vs := [(.slice x x_n x_c), (.agg #[(.int .i64 m_Kind), (.string m_Key), (.string m_Value), (.int .i64 m_Err), (.bool m_Hit), (.int .i64 m_Life), (.int .i64 m_From), (.int .i64 m_To)])]) rfl (HC.mono H ?_))
      rintro _ h8 ⟨ht39, kp40, r, r_n, r_c, rfl, H⟩
      refine ⟨ht39, ?_⟩
      replace hr20 := Kp.row kp40 (by simp) hr20
      refine hp_wild (i := 5) rfl (wanted_0 rfl) rfl (hs_call TyShF.cb19 (vs := [(.slice y y_n y_c), (.agg #[(.int .i64 m_Kind), (.string m_Key), (.string m_Value), (.int .i64 m_Err), (.bool m_Hit), (.int .i64 m_Life), (.int .i64 m_From), (.int .i64 m_To)])]) rfl (HC.mono H ?_))
      rintro _ h9 ⟨kp41, r_1, r_n_1, r_c_1, rfl, H⟩
      replace hr20 := Kp.row kp41 (by simp) hr20
      refine hp_wild (i := 6) rfl (wanted_0 rfl) rfl (hs_append rfl rfl (HAppend.mono H ?_))
      rintro _ h10 ⟨kp42, ap, ap_n, ap_c, rfl, H⟩
      replace hr20 := Kp.row kp42 (by simp) hr20
      refine hp_pure (i := 7) rfl (wanted_0 rfl) rfl (.slice ap ap_n ap_c) (fun _ => hv_assign rfl) ?_
      refine hp_nil ?_
      refine seqQ_n ?_
      refine hx_seq ?_
      refine hx_seq ?_
      refine hx_region ?_
      refine hl_val rfl rfl (v := (.int .i64 0)) (hv_assign rfl) ?_
      refine hl_nil ?_
      refine seqQ_n ?_
      refine hx_block ?_
      obtain ⟨I44, mu45, Ha46, Hr47⟩ := H
      refine hx_loopT (σ := Option Addr × Nat × Nat × Int) (fun s => [(5, (ptr m 0)), (9, (.slice all all_n all_c)), (12, (.slice s.1 s.2.1 s.2.2.1)), (13, (.slice ap ap_n ap_c)), (14, (.int .i64 s.2.2.2))]) (fun s h' => I44 s.1 s.2.1 s.2.2.1 s.2.2.2 h' ∧ h'[m]? = some (.cells #[(.int .i64 m_Kind), (.string m_Key), (.string m_Value), (.int .i64 m_Err), (.bool m_Hit), (.int .i64 m_Life), (.int .i64 m_From), (.int .i64 m_To)] 31 (0, 0)) ∧ True) (fun s h' => mu45 s.1 s.2.1 s.2.2.1 s.2.2.2 h') (none, 0, 0, 0) ⟨Ha46, hr20, trivial⟩ (has_cons rfl (has_cons rfl (has_cons rfl (has_cons rfl (has_cons rfl has_nil))))) ?_
      rintro ⟨want, want_n, want_c, i_2⟩ ρ h11 ⟨Hi48, hr43, -⟩
      have H := Hr47 want want_n want_c i_2 h11 Hi48
      refine hx_seq ?_
      refine hx_seq ?_
      refine hx_region ?_
      refine hl_val rfl rfl (v := (.int .i64 i_2)) (hv_move rfl) ?_
      refine hl_val rfl rfl (v := (.slice ap ap_n ap_c)) (hv_move rfl) ?_
      refine hl_val rfl rfl (v := (.int .i64 (ap_n : Int))) (hv_len (n := ap_n) TyShF.u27 rfl) ?_
      refine hl_val rfl rfl (v := (.bool (decide (i_2 < (ap_n : Int))))) (hv_arith rfl rfl rfl) ?_
      refine hl_nil ?_
      refine seqQ_n ?_
      refine hx_cond (b := decide (i_2 < (ap_n : Int))) rfl (fun hb49 => ?_) (fun hb49 => ?_)
      · replace H := H.1 hb49
        refine hx_skip ?_
        refine seqQ_n ?_
        refine hx_seq ?_
        refine hx_block ?_
        refine hx_region ?_
        refine hl_val rfl rfl (v := (.slice want want_n want_c)) (hv_move rfl) ?_
        refine hl_val rfl rfl (v := (.slice ap ap_n ap_c)) (hv_move rfl) ?_
        refine hl_val rfl rfl (v := (.int .i64 i_2)) (hv_move rfl) ?_
        obtain ⟨ap_b, ap_o, hqe, hi50, hi51, Hq⟩ := H
        subst hqe
        have H := Hq; clear Hq
        refine hl_val rfl rfl (v := (ptr ap_b (ap_o + (Int.toNat i_2) * 2))) (hv_index TyShF.el27 rfl rfl hi50 hi51) ?_
        obtain ⟨x_Has, x_Value, hc52, hc53, H⟩ := H
        refine hl_val rfl rfl (v := (.agg #[(.bool x_Has), (.string x_Value)])) (hv_loads (vs := [(.bool x_Has), (.string x_Value)]) TyShF.agg40 TyShF.sz40 rfl (hcells_cons hc52 (hcells_cons hc53 hcells_nil))) ?_
        refine hl_step rfl rfl (hs_call TyShF.cb18 (vs := [(.slice want want_n want_c), (.agg #[(.bool x_Has), (.string x_Value)])]) rfl (HC.mono H ?_))
        rintro _ h12 ⟨kp54, r_2, r_n_2, r_c_2, rfl, H⟩
        replace hr43 := Kp.row kp54 (by simp) hr43
        refine hl_val rfl rfl (v := (.slice r_2 r_n_2 r_c_2)) (hv_assign rfl) ?_
        refine hl_nil ?_
        refine blockQ_n ?_
        refine seqQ_n ?_
        refine hx_region ?_
        refine hl_val rfl rfl (v := (.int .i64 i_2)) (hv_move rfl) ?_
        refine hl_val rfl rfl (v := (.int .i64 (IntKind.i64.wrap (i_2 + 1)))) (hv_arith rfl rfl rfl) ?_
        refine hl_val rfl rfl (v := (.int .i64 (IntKind.i64.wrap (i_2 + 1)))) (hv_assign rfl) ?_
        refine hl_nil ?_
        refine seqQ_n ?_
        exact ⟨(r_2, r_n_2, r_c_2, IntKind.i64.wrap (i_2 + 1)), ⟨⟨H.1, hr43, trivial⟩, H.2⟩, (has_cons rfl (has_cons rfl (has_cons rfl (has_cons rfl (has_cons rfl has_nil)))))⟩
      · replace H := H.2 hb49
        refine hx_exit ?_
        refine seqQ_exit ?_
        refine seqQ_exit ?_
        refine blockQ_here ?_
        refine seqQ_n ?_
        refine hx_seq ?_
        refine hx_region ?_
        refine hl_val rfl rfl (v := (.slice all all_n all_c)) (hv_move rfl) ?_
        refine hl_val rfl rfl (v := (.agg #[(.int .i64 m_Kind), (.string m_Key), (.string m_Value), (.int .i64 m_Err), (.bool m_Hit), (.int .i64 m_Life), (.int .i64 m_From), (.int .i64 m_To)])) (hv_loads (vs := [(.int .i64 m_Kind), (.string m_Key), (.string m_Value), (.int .i64 m_Err), (.bool m_Hit), (.int .i64 m_Life), (.int .i64 m_From), (.int .i64 m_To)]) TyShF.agg31 TyShF.sz31 rfl (hcells_cons (rowcell hr43 rfl) (hcells_cons (rowcell hr43 rfl) (hcells_cons (rowcell hr43 rfl) (hcells_cons (rowcell hr43 rfl) (hcells_cons (rowcell hr43 rfl) (hcells_cons (rowcell hr43 rfl) (hcells_cons (rowcell hr43 rfl) (hcells_cons (rowcell hr43 rfl) hcells_nil))))))))) ?_
        refine hl_step rfl rfl (hs_call TyShF.cb19 (vs := [(.slice all all_n all_c), (.agg #[(.int .i64 m_Kind), (.string m_Key), (.string m_Value), (.int .i64 m_Err), (.bool m_Hit), (.int .i64 m_Life), (.int .i64 m_From), (.int .i64 m_To)])]) rfl (HC.mono H ?_))
        rintro _ h13 ⟨r_2, r_n_2, r_c_2, rfl, H⟩
        refine hl_val rfl rfl (v := (.slice want want_n want_c)) (hv_move rfl) ?_
        refine hl_step rfl rfl (hs_call TyShF.cb13 (vs := [(.slice r_2 r_n_2 r_c_2), (.slice want want_n want_c)]) rfl (HC.mono H ?_))
        rintro _ h14 ⟨r_3, rfl, H⟩
        refine hl_val rfl rfl (v := (.bool r_3)) (hv_assign rfl) ?_
        refine hl_nil ?_
        refine seqQ_n ?_
        refine hx_ret ?_
        exact endQ_ret _ (res_one Try.results8 (rv_tmp rfl)) H

/-- cellar/cellarlaw23.ModelChecks -/
theorem f9_sh (m_Kind : Int) (m_Key : ByteArray) (m_Value : ByteArray) (m_Err : Int) (m_Hit : Bool) (m_Life : Int) (m_From : Int) (m_To : Int) (h : Heap) (R : Value → Heap → Prop)
    (H : (∀ (h4 : Heap), Ext h h4 → R (.bool ((Ml.check ⟨m_Kind, m_Key, m_Value, m_Err, m_Hit, m_Life, m_From, m_To⟩) == (Ml.check ⟨m_Kind, m_Key, m_Value, m_Err, m_Hit, m_Life, m_From, m_To⟩))) h4)) :
    HC Try.prog 9 #[(.agg #[(.int .i64 m_Kind), (.string m_Key), (.string m_Value), (.int .i64 m_Err), (.bool m_Hit), (.int .i64 m_Life), (.int .i64 m_From), (.int .i64 m_To)])] h R := by
  refine hc_of (args := [(.agg #[(.int .i64 m_Kind), (.string m_Key), (.string m_Value), (.int .i64 m_Err), (.bool m_Hit), (.int .i64 m_Life), (.int .i64 m_From), (.int .i64 m_To)])]) Try.func9 rfl Try.ntmps9 (Nat.le_of_ble_eq_true rfl) ?_
  refine hx_seq ?_
  refine hx_region ?_
  refine hl_step rfl rfl (hn_box (v := (.agg #[(.int .i64 m_Kind), (.string m_Key), (.string m_Value), (.int .i64 m_Err), (.bool m_Hit), (.int .i64 m_Life), (.int .i64 m_From), (.int .i64 m_To)])) rfl ?_)
  intro m h1 eb1 eh2
  have xx3 : Ext h h1 := by rw [eh2]; exact Ext.push _ _
  have lo5 : Array.size h ≤ m := Nat.le_of_eq (Eq.symm eb1)
  have hr4 : h1[m]? = some (.cells #[(.int .i64 m_Kind), (.string m_Key), (.string m_Value), (.int .i64 m_Err), (.bool m_Hit), (.int .i64 m_Life), (.int .i64 m_From), (.int .i64 m_To)] 31 (0, 0)) := by rw [eh2]; exact push_new eb1
  refine hl_val rfl rfl (v := (.bool false)) (hv_assign rfl) ?_
  refine hl_nil ?_
  refine seqQ_n ?_
  refine hx_seq ?_
  refine hx_draw TyShF.mixed [.ext, .pure, .read, .ext, .read, .ext, .pure, .pure, .pure] [0, 1, 2, 4, 3, 5, 6, 7, 8] (by kernel_rfl) ?_
  refine hp_ext (i := 0) rfl (wanted_0 rfl) rfl (hs_call TyShF.cb12 (vs := []) rfl (HC.mono (lives_c  _) ?_))
  rintro _ h2 ⟨rfl, xx6⟩
  refine ⟨xx6, ?_⟩
  replace hr4 := Ext.row xx6 hr4
  have xv7 := Ext.trans xx3 xx6
  refine hp_pure (i := 1) rfl (wanted_0 rfl) rfl (.bool true) (fun _ => hv_move rfl) ?_
  refine hp_read (i := 2) rfl (wanted_y rfl rfl (c := true) rfl rfl) rfl (.agg #[(.int .i64 m_Kind), (.string m_Key), (.string m_Value), (.int .i64 m_Err), (.bool m_Hit), (.int .i64 m_Life), (.int .i64 m_From), (.int .i64 m_To)]) (fun _ he => hv_loads (vs := [(.int .i64 m_Kind), (.string m_Key), (.string m_Value), (.int .i64 m_Err), (.bool m_Hit), (.int .i64 m_Life), (.int .i64 m_From), (.int .i64 m_To)]) TyShF.agg31 TyShF.sz31 rfl (hcells_cons (Ext.cell he (rowcell hr4 rfl)) (hcells_cons (Ext.cell he (rowcell hr4 rfl)) (hcells_cons (Ext.cell he (rowcell hr4 rfl)) (hcells_cons (Ext.cell he (rowcell hr4 rfl)) (hcells_cons (Ext.cell he (rowcell hr4 rfl)) (hcells_cons (Ext.cell he (rowcell hr4 rfl)) (hcells_cons (Ext.cell he (rowcell hr4 rfl)) (hcells_cons (Ext.cell he (rowcell hr4 rfl)) hcells_nil))))))))) ?_
  refine hp_read (i := 4) rfl (wanted_y rfl rfl (c := true) rfl rfl) rfl (.agg #[(.int .i64 m_Kind), (.string m_Key), (.string m_Value), (.int .i64 m_Err), (.bool m_Hit), (.int .i64 m_Life), (.int .i64 m_From), (.int .i64 m_To)]) (fun _ he => hv_loads (vs := [(.int .i64 m_Kind), (.string m_Key), (.string m_Value), (.int .i64 m_Err), (.bool m_Hit), (.int .i64 m_Life), (.int .i64 m_From), (.int .i64 m_To)]) TyShF.agg31 TyShF.sz31 rfl (hcells_cons (Ext.cell he (rowcell hr4 rfl)) (hcells_cons (Ext.cell he (rowcell hr4 rfl)) (hcells_cons (Ext.cell he (rowcell hr4 rfl)) (hcells_cons (Ext.cell he (rowcell hr4 rfl)) (hcells_cons (Ext.cell he (rowcell hr4 rfl)) (hcells_cons (Ext.cell he (rowcell hr4 rfl)) (hcells_cons (Ext.cell he (rowcell hr4 rfl)) (hcells_cons (Ext.cell he (rowcell hr4 rfl)) hcells_nil))))))))) ?_
  refine hp_ext (i := 3) rfl (wanted_y rfl rfl (c := true) rfl rfl) rfl (hs_call TyShF.cb20 (vs := [(.agg #[(.int .i64 m_Kind), (.string m_Key), (.string m_Value), (.int .i64 m_Err), (.bool m_Hit), (.int .i64 m_Life), (.int .i64 m_From), (.int .i64 m_To)])]) rfl (HC.mono (check_c (⟨m_Kind, m_Key, m_Value, m_Err, m_Hit, m_Life, m_From, m_To⟩) _) ?_))
  rintro _ h3 ⟨rfl, xx8⟩
  refine ⟨xx8, ?_⟩
  replace hr4 := Ext.row xx8 hr4
  have xv9 := Ext.trans xv7 xx8
  refine hp_ext (i := 5) rfl (wanted_y rfl rfl (c := true) rfl rfl) rfl (hs_call TyShF.cb21 (vs := [(.agg #[(.int .i64 m_Kind), (.string m_Key), (.string m_Value), (.int .i64 m_Err), (.bool m_Hit), (.int .i64 m_Life), (.int .i64 m_From), (.int .i64 m_To)])]) rfl (HC.mono (rcheck_c (⟨m_Kind, m_Key, m_Value, m_Err, m_Hit, m_Life, m_From, m_To⟩) _) ?_))
  rintro _ h4 ⟨rfl, xx10⟩
  refine ⟨xx10, ?_⟩
  replace hr4 := Ext.row xx10 hr4
  have xv11 := Ext.trans xv9 xx10
  refine hp_pure (i := 6) rfl (wanted_y rfl rfl (c := true) rfl rfl) rfl (.bool ((Ml.check ⟨m_Kind, m_Key, m_Value, m_Err, m_Hit, m_Life, m_From, m_To⟩) == (Ml.check ⟨m_Kind, m_Key, m_Value, m_Err, m_Hit, m_Life, m_From, m_To⟩))) (fun _ => hv_arith rfl rfl rfl) ?_
  refine hp_pure (i := 7) rfl (wanted_0 rfl) rfl (.bool ((Ml.check ⟨m_Kind, m_Key, m_Value, m_Err, m_Hit, m_Life, m_From, m_To⟩) == (Ml.check ⟨m_Kind, m_Key, m_Value, m_Err, m_Hit, m_Life, m_From, m_To⟩))) (fun _ => hv_pick (t := true) rfl rfl) ?_
  refine hp_pure (i := 8) rfl (wanted_0 rfl) rfl (.bool ((Ml.check ⟨m_Kind, m_Key, m_Value, m_Err, m_Hit, m_Life, m_From, m_To⟩) == (Ml.check ⟨m_Kind, m_Key, m_Value, m_Err, m_Hit, m_Life, m_From, m_To⟩))) (fun _ => hv_assign rfl) ?_
  refine hp_nil ?_
  refine seqQ_n ?_
  refine hx_ret ?_
  replace H := H h4 xv11
  exact endQ_ret _ (res_one Try.results9 (rv_tmp rfl)) H

end Go.Proofs.Ytmdgfbhmogjklaa
