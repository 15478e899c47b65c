/-
Shallow forms, written by gen2.py (a program of ours) out of the print of the program.
-/
import Derived.Test.YtkecmljalcfhoaaShJ
import Derived.Test.YtkecmljalcfhoaaPrv
import Derived.Test.YtkecmljalcfhoaaSrt
import Derived.Test.YtkecmljalcfhoaaRng
import Derived.Test.YtkecmljalcfhoaaMor
import Derived.Test.YtkecmljalcfhoaaProg
namespace Go.Proofs.Ytkecmljalcfhoaa
open Go
set_option maxRecDepth 100000
set_option maxHeartbeats 4000000

theorem TyShK.agg22 : aggB Try.prog 22 = some false := by kernel_rfl
theorem TyShK.agg24 : aggB Try.prog 24 = some true := by kernel_rfl
theorem TyShK.agg29 : aggB Try.prog 29 = some false := by kernel_rfl
theorem TyShK.agg3 : aggB Try.prog 3 = some false := by kernel_rfl
theorem TyShK.agg31 : aggB Try.prog 31 = some true := by kernel_rfl
theorem TyShK.agg33 : aggB Try.prog 33 = some true := by kernel_rfl
theorem TyShK.agg4 : aggB Try.prog 4 = some false := by kernel_rfl
theorem TyShK.agg47 : aggB Try.prog 47 = some false := by kernel_rfl
theorem TyShK.agg78 : aggB Try.prog 78 = some false := by kernel_rfl
theorem TyShK.cb10 : CallB Try.prog 10 := fun _ _ => Try.call10 _ _
theorem TyShK.cb11 : CallB Try.prog 11 := fun _ _ => Try.call11 _ _
theorem TyShK.cb13 : CallB Try.prog 13 := fun _ _ => Try.call13 _ _
theorem TyShK.cb14 : CallB Try.prog 14 := fun _ _ => Try.call14 _ _
theorem TyShK.cb17 : CallB Try.prog 17 := fun _ _ => Try.call17 _ _
theorem TyShK.cb18 : CallB Try.prog 18 := fun _ _ => Try.call18 _ _
theorem TyShK.cb19 : CallB Try.prog 19 := fun _ _ => Try.call19 _ _
theorem TyShK.cb22 : CallB Try.prog 22 := fun _ _ => Try.call22 _ _
theorem TyShK.cb23 : CallB Try.prog 23 := fun _ _ => Try.call23 _ _
theorem TyShK.cb24 : CallB Try.prog 24 := fun _ _ => Try.call24 _ _
theorem TyShK.cb25 : CallB Try.prog 25 := fun _ _ => Try.call25 _ _
theorem TyShK.cb26 : CallB Try.prog 26 := fun _ _ => Try.call26 _ _
theorem TyShK.cb29 : CallB Try.prog 29 := fun _ _ => Try.call29 _ _
theorem TyShK.cb30 : CallB Try.prog 30 := fun _ _ => Try.call30 _ _
theorem TyShK.cb31 : CallB Try.prog 31 := fun _ _ => Try.call31 _ _
theorem TyShK.cb32 : CallB Try.prog 32 := fun _ _ => Try.call32 _ _
theorem TyShK.cb33 : CallB Try.prog 33 := fun _ _ => Try.call33 _ _
theorem TyShK.cb34 : CallB Try.prog 34 := fun _ _ => Try.call34 _ _
theorem TyShK.cb35 : CallB Try.prog 35 := fun _ _ => Try.call35 _ _
theorem TyShK.cb36 : CallB Try.prog 36 := fun _ _ => Try.call36 _ _
theorem TyShK.cb37 : CallB Try.prog 37 := fun _ _ => Try.call37 _ _
theorem TyShK.cb38 : CallB Try.prog 38 := fun _ _ => Try.call38 _ _
theorem TyShK.cb39 : CallB Try.prog 39 := fun _ _ => Try.call39 _ _
theorem TyShK.cb40 : CallB Try.prog 40 := fun _ _ => Try.call40 _ _
theorem TyShK.cb41 : CallB Try.prog 41 := fun _ _ => Try.call41 _ _
theorem TyShK.cb42 : CallB Try.prog 42 := fun _ _ => Try.call42 _ _
theorem TyShK.cb43 : CallB Try.prog 43 := fun _ _ => Try.call43 _ _
theorem TyShK.cb54 : CallB Try.prog 54 := fun _ _ => Try.call54 _ _
theorem TyShK.el22 : elB Try.prog 22 = some 8 := by kernel_rfl
theorem TyShK.el47 : elB Try.prog 47 = some 4 := by kernel_rfl
theorem TyShK.fld24_0 : fldB Try.prog 24 0 = some 0 := by kernel_rfl
theorem TyShK.fld24_1 : fldB Try.prog 24 1 = some 1 := by kernel_rfl
theorem TyShK.fld24_2 : fldB Try.prog 24 2 = some 2 := by kernel_rfl
theorem TyShK.fld24_3 : fldB Try.prog 24 3 = some 3 := by kernel_rfl
theorem TyShK.fld31_0 : fldB Try.prog 31 0 = some 0 := by kernel_rfl
theorem TyShK.fld31_1 : fldB Try.prog 31 1 = some 1 := by kernel_rfl
theorem TyShK.fld33_0 : fldB Try.prog 33 0 = some 0 := by kernel_rfl
theorem TyShK.fld33_1 : fldB Try.prog 33 1 = some 1 := by kernel_rfl
theorem TyShK.fld33_2 : fldB Try.prog 33 2 = some 5 := by kernel_rfl
theorem TyShK.fld33_3 : fldB Try.prog 33 3 = some 6 := by kernel_rfl
theorem TyShK.fld33_4 : fldB Try.prog 33 4 = some 7 := by kernel_rfl
theorem TyShK.fld80_1 : fldB Try.prog 80 1 = some 1 := by kernel_rfl
theorem TyShK.mixed : Try.prog.follows .mixedOrders = true := by kernel_rfl
theorem TyShK.pl31 : plB Try.prog 31 = some [(0, 1), (1, 1), (2, 1), (3, 1)] := by kernel_rfl
theorem TyShK.se31 : seB Try.prog 31 = some [(29, 0), (29, 1), (29, 2), (5, 3)] := by kernel_rfl
theorem TyShK.sz24 : szB Try.prog 24 = some 4 := by kernel_rfl
theorem TyShK.sz3 : szB Try.prog 3 = some 1 := by kernel_rfl
theorem TyShK.sz31 : szB Try.prog 31 = some 4 := by kernel_rfl
theorem TyShK.sz33 : szB Try.prog 33 = some 8 := by kernel_rfl
theorem TyShK.sz4 : szB Try.prog 4 = some 1 := by kernel_rfl
theorem TyShK.sz47 : szB Try.prog 47 = some 1 := by kernel_rfl
theorem TyShK.u22 : Try.prog.underlying 22 = some (.slice 33) := by kernel_rfl
theorem TyShK.u4 : Try.prog.underlying 4 = some (.bool) := by kernel_rfl
theorem TyShK.u47 : Try.prog.underlying 47 = some (.slice 31) := by kernel_rfl
theorem TyShK.u78 : Try.prog.underlying 78 = some (.slice 47) := by kernel_rfl
theorem TyShK.up25 : Try.prog.underlying 25 = some (.pointer 61) := by kernel_rfl
theorem TyShK.up26 : Try.prog.underlying 26 = some (.pointer 80) := by kernel_rfl
theorem TyShK.z3 : zeroB Try.prog 3 (.int .i64 0) := by unfold zeroB; kernel_rfl
theorem TyShK.z31 : zeroB Try.prog 31 (.agg #[(.int .u64 0), (.int .u64 0), (.int .u64 0), (.int .u8 0)]) := by unfold zeroB; kernel_rfl
theorem TyShK.z33 : zeroB Try.prog 33 (.agg #[(.int .i64 0), (.int .u64 0), (.int .u64 0), (.int .u64 0), (.int .u8 0), (.int .u64 0), (.int .i64 0), (.int .i64 0)]) := by unfold zeroB; kernel_rfl
theorem TyShK.z4 : zeroB Try.prog 4 (.bool false) := by unfold zeroB; kernel_rfl
theorem TyShK.z47 : zeroB Try.prog 47 (.slice none 0 0) := by unfold zeroB; kernel_rfl

/-- cellar/cellarlaw12.awake -/
theorem f22_sh  (h : Heap) (R : Value → Heap → Prop)
    (H : HC Try.prog 25 #[(.int .i64 2), (.int .i64 2), (.int .i64 4)] h (fun vv h1 => ∃ r0 : Option Addr, ∃ r1 : Int, vv = (.tuple #[(.pointer r0), (.int .i64 r1)]) ∧ ((((r1 != 0) || r0.isNone) = true → R (.bool false) h1) ∧ (((r1 != 0) || r0.isNone) = false → HC Try.prog 29 #[(.pointer r0), (.agg #[(.int .u64 5), (.int .u64 281474976710656), (.int .u64 3), (.int .u8 0)])] h1 (fun vv h2 => ∃ r0_Hash r0_At r0_Version r0_Hits : Int, ∃ r1_1 : Bool, ∃ r2 : Int, vv = (.tuple #[(.agg #[(.int .u64 r0_Hash), (.int .u64 r0_At), (.int .u64 r0_Version), (.int .u8 r0_Hits)]), (.bool r1_1), (.int .i64 r2)]) ∧ (∀ (h4 : Heap), Ext h2 h4 → HC Try.prog 29 #[(.pointer r0), (.agg #[(.int .u64 5), (.int .u64 562949953421312), (.int .u64 2), (.int .u8 0)])] h4 (fun vv h5 => ∃ r0_Hash_1 r0_At_1 r0_Version_1 r0_Hits_1 : Int, ∃ r1_2 : Bool, ∃ r2_1 : Int, vv = (.tuple #[(.agg #[(.int .u64 r0_Hash_1), (.int .u64 r0_At_1), (.int .u64 r0_Version_1), (.int .u8 r0_Hits_1)]), (.bool r1_2), (.int .i64 r2_1)]) ∧ (∀ (h7 : Heap), Ext h5 h7 → HC Try.prog 11 #[(.pointer r0), (.int .u64 5)] h7 (fun vv h8 => ∃ r0_Hash_2 r0_At_2 r0_Version_2 r0_Hits_2 : Int, ∃ r1_3 : Bool, vv = (.tuple #[(.agg #[(.int .u64 r0_Hash_2), (.int .u64 r0_At_2), (.int .u64 r0_Version_2), (.int .u8 r0_Hits_2)]), (.bool r1_3)]) ∧ (∃ j_1 : Bool, (((!r1_1) = true → (((r2 == 0) = true → (((r2_1 == 120) = true → ((r1_3 = true → (((r0_At_2 == 281474976710656) = true → (∀ (h10 : Heap), Ext h8 h10 → (∃ r : Int, HC Try.prog 24 #[(.pointer r0), (.int .u64 5)] h10 (fun vv h' => vv = (.int .i64 r) ∧ h' = h10) ∧ (((r == 1) = true → (∃ r_1 : Int, HC Try.prog 23 #[(.pointer r0), (.int .i64 1)] h10 (fun vv h' => vv = (.int .i64 r_1) ∧ h' = h10) ∧ (j_1 = (r_1 == 1)))) ∧ ((r == 1) = false → (j_1 = false)))))) ∧ ((r0_At_2 == 281474976710656) = false → (j_1 = false)))) ∧ (r1_3 = false → (j_1 = false)))) ∧ ((r2_1 == 120) = false → (j_1 = false)))) ∧ ((r2 == 0) = false → (j_1 = false)))) ∧ ((!r1_1) = false → (j_1 = false))) ∧ (∀ (h10 : Heap), Ext h8 h10 → R (.bool j_1) h10))))))))))) :
    HC Try.prog 22 #[] h R := by
  refine hc_of (args := []) Try.func22 rfl Try.ntmps22 (Nat.le_of_ble_eq_true rfl) ?_
  refine hx_seq ?_
  refine hx_region ?_
  refine hl_val rfl rfl (v := (.bool false)) (hv_assign rfl) ?_
  refine hl_nil ?_
  refine seqQ_n ?_
  refine hx_seq ?_
  refine hx_region ?_
  refine hl_step rfl rfl (hs_call TyShK.cb25 (vs := [(.int .i64 2), (.int .i64 2), (.int .i64 4)]) rfl (HC.mono H ?_))
  rintro _ h1 ⟨r0, r1, rfl, H⟩
  refine hl_val rfl rfl (v := (.tuple #[(.pointer r0), (.int .i64 r1)])) (hv_move rfl) ?_
  refine hl_val rfl rfl (v := (.pointer r0)) (hv_extract (vs := #[(.pointer r0), (.int .i64 r1)]) rfl rfl) ?_
  refine hl_val rfl rfl (v := (.int .i64 r1)) (hv_extract (vs := #[(.pointer r0), (.int .i64 r1)]) rfl rfl) ?_
  refine hl_val rfl rfl (v := (.pointer r0)) (hv_assign rfl) ?_
  refine hl_val rfl rfl (v := (.int .i64 r1)) (hv_assign rfl) ?_
  refine hl_nil ?_
  refine seqQ_n ?_
  refine hx_seq ?_
  refine hx_cut (fun ρ h' => h1 = h' ∧ Has ρ [(1, (.pointer r0)), (19, (.bool ((r1 != 0) || r0.isNone)))]) ?_ ?_
  · refine hx_region ?_
    refine hl_val rfl rfl (v := (.int .i64 r1)) (hv_move rfl) ?_
    refine hl_val rfl rfl (v := (.bool (r1 != 0))) (hv_arith rfl rfl rfl) ?_
    refine hl_val rfl rfl (v := (.bool (r1 != 0))) (hv_move rfl) ?_
    rcases bool_or (r1 != 0) with hg3 | hg3
    · refine hl_no (wanted_n rfl rfl rfl hg3) rfl ?_
      refine hl_no (wanted_n rfl rfl rfl hg3) rfl ?_
      refine hl_val rfl rfl (v := (.bool true)) (hv_pick_t rfl hg3 rfl) ?_
      refine hl_nil ?_
      refine seqQ_n ?_
      exact ⟨rfl, (has_cons rfl (has_cons (show ((.bool true) : Value) = (.bool ((r1 != 0) || r0.isNone)) from (by first | rfl | (try rw [hg3]; all_goals first | rfl | (simp only [Bool.true_or, Bool.or_true, Bool.false_or, Bool.or_false, Bool.true_and, Bool.and_true, Bool.false_and, Bool.and_false, Bool.not_true, Bool.not_false, Bool.cond_true, Bool.cond_false]; done)) | simp [hg3])) has_nil))⟩
    · refine hl_yes (wanted_y rfl rfl rfl hg3) rfl (HStep.of_val (v := (.pointer r0)) (hv_move rfl) ?_)
      refine hl_yes (wanted_y rfl rfl rfl hg3) rfl (HStep.of_val (v := (.bool r0.isNone)) (hv_ptrNil TyShK.up25 rfl rfl) ?_)
      refine hl_val rfl rfl (v := (.bool r0.isNone)) (hv_pick_f rfl hg3 rfl) ?_
      refine hl_nil ?_
      refine seqQ_n ?_
      exact ⟨rfl, (has_cons rfl (has_cons (show ((.bool r0.isNone) : Value) = (.bool ((r1 != 0) || r0.isNone)) from (by first | rfl | (try rw [hg3]; all_goals first | rfl | (simp only [Bool.true_or, Bool.or_true, Bool.false_or, Bool.or_false, Bool.true_and, Bool.and_true, Bool.false_and, Bool.and_false, Bool.not_true, Bool.not_false, Bool.cond_true, Bool.cond_false]; done)) | simp [hg3])) has_nil))⟩
  · rintro ρ _ ⟨rfl, hH⟩
    refine hx_has _ hH ?_
    refine hx_cond (b := ((r1 != 0) || r0.isNone)) rfl (fun hb4 => ?_) (fun hb4 => ?_)
    · replace H := H.1 hb4
      refine hx_seq ?_
      refine hx_region ?_
      refine hl_val rfl rfl (v := (.bool false)) (hv_assign rfl) ?_
      refine hl_nil ?_
      refine seqQ_n ?_
      refine hx_ret ?_
      refine seqQ_ret ?_
      exact endQ_ret _ (res_one Try.results22 (rv_tmp rfl)) H
    · replace H := H.2 hb4
      refine hx_skip ?_
      refine seqQ_n ?_
      refine hx_seq ?_
      refine hx_region ?_
      refine hl_val rfl rfl (v := (.pointer r0)) (hv_move rfl) ?_
      refine hl_val rfl rfl (v := (.agg #[(.int .u64 5), (.int .u64 281474976710656), (.int .u64 3), (.int .u8 0)])) (hv_build (vs := [(0, (.int .u64 5)), (1, (.int .u64 281474976710656)), (2, (.int .u64 3))]) (cs := #[(.int .u64 5), (.int .u64 281474976710656), (.int .u64 3), (.int .u8 0)]) TyShK.z31 TyShK.pl31 rfl (by kernel_rfl)) ?_
      refine hl_step rfl rfl (hs_call TyShK.cb29 (vs := [(.pointer r0), (.agg #[(.int .u64 5), (.int .u64 281474976710656), (.int .u64 3), (.int .u8 0)])]) rfl (HC.mono H ?_))
      rintro _ h2 ⟨r0_Hash, r0_At, r0_Version, r0_Hits, r1_1, r2, rfl, H⟩
      refine hl_val rfl rfl (v := (.tuple #[(.agg #[(.int .u64 r0_Hash), (.int .u64 r0_At), (.int .u64 r0_Version), (.int .u8 r0_Hits)]), (.bool r1_1), (.int .i64 r2)])) (hv_move rfl) ?_
      refine hl_val rfl rfl (v := (.agg #[(.int .u64 r0_Hash), (.int .u64 r0_At), (.int .u64 r0_Version), (.int .u8 r0_Hits)])) (hv_extract (vs := #[(.agg #[(.int .u64 r0_Hash), (.int .u64 r0_At), (.int .u64 r0_Version), (.int .u8 r0_Hits)]), (.bool r1_1), (.int .i64 r2)]) rfl rfl) ?_
      refine hl_val rfl rfl (v := (.bool r1_1)) (hv_extract (vs := #[(.agg #[(.int .u64 r0_Hash), (.int .u64 r0_At), (.int .u64 r0_Version), (.int .u8 r0_Hits)]), (.bool r1_1), (.int .i64 r2)]) rfl rfl) ?_
      refine hl_val rfl rfl (v := (.int .i64 r2)) (hv_extract (vs := #[(.agg #[(.int .u64 r0_Hash), (.int .u64 r0_At), (.int .u64 r0_Version), (.int .u8 r0_Hits)]), (.bool r1_1), (.int .i64 r2)]) rfl rfl) ?_
      refine hl_step rfl rfl (hn_alloc TyShK.z31 ?_)
      intro x h3 eb5 eh6
      have xx7 : Ext h2 h3 := by rw [eh6]; exact Ext.push _ _
      have lo9 : Array.size h2 ≤ x := Nat.le_of_eq (Eq.symm eb5)
      have hr8 : h3[x]? = some (.cells #[(.int .u64 0), (.int .u64 0), (.int .u64 0), (.int .u8 0)] 31 (0, 0)) := by rw [eh6]; exact push_new eb5
      refine hl_step rfl rfl (hn_stores (vs := [(.int .u64 r0_Hash), (.int .u64 r0_At), (.int .u64 r0_Version), (.int .u8 r0_Hits)]) rfl rfl TyShK.sz31 rfl (HWs_row hr8 (by simp)) ?_)
      intro h4 eh10
      have hr8' : h4[x]? = some (.cells #[(.int .u64 r0_Hash), (.int .u64 r0_At), (.int .u64 r0_Version), (.int .u8 r0_Hits)] 31 (0, 0)) := row_hsets_eq eh10 hr8 rfl
      have xv11 := ext_hsets eh10 xx7 lo9
      refine hl_val rfl rfl (v := (.bool r1_1)) (hv_assign rfl) ?_
      refine hl_val rfl rfl (v := (.int .i64 r2)) (hv_assign rfl) ?_
      refine hl_nil ?_
      refine seqQ_n ?_
      refine hx_seq ?_
      refine hx_region ?_
      refine hl_val rfl rfl (v := (.pointer r0)) (hv_move rfl) ?_
      refine hl_val rfl rfl (v := (.agg #[(.int .u64 5), (.int .u64 562949953421312), (.int .u64 2), (.int .u8 0)])) (hv_build (vs := [(0, (.int .u64 5)), (1, (.int .u64 562949953421312)), (2, (.int .u64 2))]) (cs := #[(.int .u64 5), (.int .u64 562949953421312), (.int .u64 2), (.int .u8 0)]) TyShK.z31 TyShK.pl31 rfl (by kernel_rfl)) ?_
      replace H := H h4 xv11
      refine hl_step rfl rfl (hs_call TyShK.cb29 (vs := [(.pointer r0), (.agg #[(.int .u64 5), (.int .u64 562949953421312), (.int .u64 2), (.int .u8 0)])]) rfl (HC.mono H ?_))
      rintro _ h5 ⟨r0_Hash_1, r0_At_1, r0_Version_1, r0_Hits_1, r1_2, r2_1, rfl, H⟩
      refine hl_val rfl rfl (v := (.tuple #[(.agg #[(.int .u64 r0_Hash_1), (.int .u64 r0_At_1), (.int .u64 r0_Version_1), (.int .u8 r0_Hits_1)]), (.bool r1_2), (.int .i64 r2_1)])) (hv_move rfl) ?_
      refine hl_val rfl rfl (v := (.agg #[(.int .u64 r0_Hash_1), (.int .u64 r0_At_1), (.int .u64 r0_Version_1), (.int .u8 r0_Hits_1)])) (hv_extract (vs := #[(.agg #[(.int .u64 r0_Hash_1), (.int .u64 r0_At_1), (.int .u64 r0_Version_1), (.int .u8 r0_Hits_1)]), (.bool r1_2), (.int .i64 r2_1)]) rfl rfl) ?_
      refine hl_val rfl rfl (v := (.bool r1_2)) (hv_extract (vs := #[(.agg #[(.int .u64 r0_Hash_1), (.int .u64 r0_At_1), (.int .u64 r0_Version_1), (.int .u8 r0_Hits_1)]), (.bool r1_2), (.int .i64 r2_1)]) rfl rfl) ?_
      refine hl_val rfl rfl (v := (.int .i64 r2_1)) (hv_extract (vs := #[(.agg #[(.int .u64 r0_Hash_1), (.int .u64 r0_At_1), (.int .u64 r0_Version_1), (.int .u8 r0_Hits_1)]), (.bool r1_2), (.int .i64 r2_1)]) rfl rfl) ?_
      refine hl_step rfl rfl (hn_alloc TyShK.z31 ?_)
      intro x_1 h6 eb12 eh13
      have xx14 : Ext h5 h6 := by rw [eh13]; exact Ext.push _ _
      have lo16 : Array.size h5 ≤ x_1 := Nat.le_of_eq (Eq.symm eb12)
      have hr15 : h6[x_1]? = some (.cells #[(.int .u64 0), (.int .u64 0), (.int .u64 0), (.int .u8 0)] 31 (0, 0)) := by rw [eh13]; exact push_new eb12
      refine hl_step rfl rfl (hn_stores (vs := [(.int .u64 r0_Hash_1), (.int .u64 r0_At_1), (.int .u64 r0_Version_1), (.int .u8 r0_Hits_1)]) rfl rfl TyShK.sz31 rfl (HWs_row hr15 (by simp)) ?_)
      intro h7 eh17
      have hr15' : h7[x_1]? = some (.cells #[(.int .u64 r0_Hash_1), (.int .u64 r0_At_1), (.int .u64 r0_Version_1), (.int .u8 r0_Hits_1)] 31 (0, 0)) := row_hsets_eq eh17 hr15 rfl
      have xv18 := ext_hsets eh17 xx14 lo16
      refine hl_val rfl rfl (v := (.bool r1_2)) (hv_assign rfl) ?_
      refine hl_val rfl rfl (v := (.int .i64 r2_1)) (hv_assign rfl) ?_
      refine hl_nil ?_
      refine seqQ_n ?_
      refine hx_seq ?_
      refine hx_region ?_
      refine hl_val rfl rfl (v := (.pointer r0)) (hv_move rfl) ?_
      replace H := H h7 xv18
      refine hl_step rfl rfl (hs_call TyShK.cb11 (vs := [(.pointer r0), (.int .u64 5)]) rfl (HC.mono H ?_))
      rintro _ h8 ⟨r0_Hash_2, r0_At_2, r0_Version_2, r0_Hits_2, r1_3, rfl, H⟩
      refine hl_val rfl rfl (v := (.tuple #[(.agg #[(.int .u64 r0_Hash_2), (.int .u64 r0_At_2), (.int .u64 r0_Version_2), (.int .u8 r0_Hits_2)]), (.bool r1_3)])) (hv_move rfl) ?_
      refine hl_val rfl rfl (v := (.agg #[(.int .u64 r0_Hash_2), (.int .u64 r0_At_2), (.int .u64 r0_Version_2), (.int .u8 r0_Hits_2)])) (hv_extract (vs := #[(.agg #[(.int .u64 r0_Hash_2), (.int .u64 r0_At_2), (.int .u64 r0_Version_2), (.int .u8 r0_Hits_2)]), (.bool r1_3)]) rfl rfl) ?_
      refine hl_val rfl rfl (v := (.bool r1_3)) (hv_extract (vs := #[(.agg #[(.int .u64 r0_Hash_2), (.int .u64 r0_At_2), (.int .u64 r0_Version_2), (.int .u8 r0_Hits_2)]), (.bool r1_3)]) rfl rfl) ?_
      refine hl_step rfl rfl (hn_alloc TyShK.z31 ?_)
      intro got h9 eb19 eh20
      have xx21 : Ext h8 h9 := by rw [eh20]; exact Ext.push _ _
      have lo23 : Array.size h8 ≤ got := Nat.le_of_eq (Eq.symm eb19)
      have hr22 : h9[got]? = some (.cells #[(.int .u64 0), (.int .u64 0), (.int .u64 0), (.int .u8 0)] 31 (0, 0)) := by rw [eh20]; exact push_new eb19
      refine hl_step rfl rfl (hn_stores (vs := [(.int .u64 r0_Hash_2), (.int .u64 r0_At_2), (.int .u64 r0_Version_2), (.int .u8 r0_Hits_2)]) rfl rfl TyShK.sz31 rfl (HWs_row hr22 (by simp)) ?_)
      intro h10 eh24
      have hr22' : h10[got]? = some (.cells #[(.int .u64 r0_Hash_2), (.int .u64 r0_At_2), (.int .u64 r0_Version_2), (.int .u8 r0_Hits_2)] 31 (0, 0)) := row_hsets_eq eh24 hr22 rfl
      have xv25 := ext_hsets eh24 xx21 lo23
      refine hl_val rfl rfl (v := (.bool r1_3)) (hv_assign rfl) ?_
      refine hl_nil ?_
      refine seqQ_n ?_
      obtain ⟨j_1, Hx26, Hy27⟩ := H
      refine hx_cut (fun ρ h' => h10 = h' ∧ Has ρ [(0, (.bool j_1))]) ?_ ?_
      · have H := Hx26; clear Hx26 Hy27
        refine hx_region ?_
        refine hl_val rfl rfl (v := (.bool r1_1)) (hv_move rfl) ?_
        refine hl_val rfl rfl (v := (.bool (!r1_1))) (hv_not (b := r1_1) rfl) ?_
        refine hl_val rfl rfl (v := (.bool (!r1_1))) (hv_move rfl) ?_
        rcases bool_or (!r1_1) with hg28 | hg28
        · replace H := H.1 hg28
          refine hl_yes (wanted_y rfl rfl rfl hg28) rfl (HStep.of_val (v := (.int .i64 r2)) (hv_move rfl) ?_)
          refine hl_yes (wanted_y rfl rfl rfl hg28) rfl (HStep.of_val (v := (.bool (r2 == 0))) (hv_arith rfl rfl rfl) ?_)
          refine hl_val rfl rfl (v := (.bool (r2 == 0))) (hv_pick_t rfl hg28 rfl) ?_
          refine hl_val rfl rfl (v := (.bool (r2 == 0))) (hv_move rfl) ?_
          rcases bool_or (r2 == 0) with hg29 | hg29
          · replace H := H.1 hg29
            refine hl_yes (wanted_y rfl rfl rfl hg29) rfl (HStep.of_val (v := (.int .i64 r2_1)) (hv_move rfl) ?_)
            refine hl_yes (wanted_y rfl rfl rfl hg29) rfl (HStep.of_val (v := (.bool (r2_1 == 120))) (hv_arith rfl rfl rfl) ?_)
            refine hl_val rfl rfl (v := (.bool (r2_1 == 120))) (hv_pick_t rfl hg29 rfl) ?_
            refine hl_val rfl rfl (v := (.bool (r2_1 == 120))) (hv_move rfl) ?_
            rcases bool_or (r2_1 == 120) with hg30 | hg30
            · replace H := H.1 hg30
              refine hl_yes (wanted_y rfl rfl rfl hg30) rfl (HStep.of_val (v := (.bool r1_3)) (hv_move rfl) ?_)
              refine hl_val rfl rfl (v := (.bool r1_3)) (hv_pick_t rfl hg30 rfl) ?_
              refine hl_val rfl rfl (v := (.bool r1_3)) (hv_move rfl) ?_
              rcases bool_or (r1_3) with hg31 | hg31
              · replace H := H.1 hg31
                refine hl_yes (wanted_y rfl rfl rfl hg31) rfl (HStep.of_val (v := (ptr got 1)) (hv_field TyShK.fld31_1 (b := got) (o := 0) rfl) ?_)
                refine hl_yes (wanted_y rfl rfl rfl hg31) rfl (HStep.of_val (v := (.int .u64 r0_At_2)) (hv_load TyShK.agg29 rfl (rowcell hr22' rfl)) ?_)
                refine hl_yes (wanted_y rfl rfl rfl hg31) rfl (HStep.of_val (v := (.bool (r0_At_2 == 281474976710656))) (hv_arith rfl rfl rfl) ?_)
                refine hl_val rfl rfl (v := (.bool (r0_At_2 == 281474976710656))) (hv_pick_t rfl hg31 rfl) ?_
                refine hl_val rfl rfl (v := (.bool (r0_At_2 == 281474976710656))) (hv_move rfl) ?_
                rcases bool_or (r0_At_2 == 281474976710656) with hg32 | hg32
                · replace H := H.1 hg32
                  refine hl_yes (wanted_y rfl rfl rfl hg32) rfl (HStep.of_val (v := (.pointer r0)) (hv_move rfl) ?_)
                  replace H := H h10 xv25
                  obtain ⟨r, hr33, H⟩ := H
                  refine hl_yes (wanted_y rfl rfl rfl hg32) rfl (HStep.of_val (v := (.int .i64 r)) (hv_call TyShK.cb24 (vs := [(.pointer r0), (.int .u64 5)]) rfl hr33) ?_)
                  refine hl_yes (wanted_y rfl rfl rfl hg32) rfl (HStep.of_val (v := (.bool (r == 1))) (hv_arith rfl rfl rfl) ?_)
                  refine hl_val rfl rfl (v := (.bool (r == 1))) (hv_pick_t rfl hg32 rfl) ?_
                  refine hl_val rfl rfl (v := (.bool (r == 1))) (hv_move rfl) ?_
                  rcases bool_or (r == 1) with hg34 | hg34
                  · replace H := H.1 hg34
                    refine hl_yes (wanted_y rfl rfl rfl hg34) rfl (HStep.of_val (v := (.pointer r0)) (hv_move rfl) ?_)
                    obtain ⟨r_1, hr35, H⟩ := H
                    refine hl_yes (wanted_y rfl rfl rfl hg34) rfl (HStep.of_val (v := (.int .i64 r_1)) (hv_call TyShK.cb23 (vs := [(.pointer r0), (.int .i64 1)]) rfl hr35) ?_)
                    refine hl_yes (wanted_y rfl rfl rfl hg34) rfl (HStep.of_val (v := (.bool (r_1 == 1))) (hv_arith rfl rfl rfl) ?_)
                    refine hl_val rfl rfl (v := (.bool (r_1 == 1))) (hv_pick_t rfl hg34 rfl) ?_
                    refine hl_val rfl rfl (v := (.bool (r_1 == 1))) (hv_assign rfl) ?_
                    refine hl_nil ?_
                    refine seqQ_n ?_
                    obtain rfl := H
                    exact ⟨rfl, (has_cons rfl has_nil)⟩
                  · replace H := H.2 hg34
                    refine hl_no (wanted_n rfl rfl rfl hg34) rfl ?_
                    refine hl_no (wanted_n rfl rfl rfl hg34) rfl ?_
                    refine hl_no (wanted_n rfl rfl rfl hg34) rfl ?_
                    refine hl_val rfl rfl (v := (.bool false)) (hv_pick_f rfl hg34 rfl) ?_
                    refine hl_val rfl rfl (v := (.bool false)) (hv_assign rfl) ?_
                    refine hl_nil ?_
                    refine seqQ_n ?_
                    obtain rfl := H
                    exact ⟨rfl, (has_cons rfl has_nil)⟩
                · replace H := H.2 hg32
                  refine hl_no (wanted_n rfl rfl rfl hg32) rfl ?_
                  refine hl_no (wanted_n rfl rfl rfl hg32) rfl ?_
                  refine hl_no (wanted_n rfl rfl rfl hg32) rfl ?_
                  refine hl_val rfl rfl (v := (.bool false)) (hv_pick_f rfl hg32 rfl) ?_
                  refine hl_val rfl rfl (v := (.bool false)) (hv_move rfl) ?_
                  refine hl_no (wanted_n rfl rfl (c := false) rfl rfl) rfl ?_
                  refine hl_no (wanted_n rfl rfl (c := false) rfl rfl) rfl ?_
                  refine hl_no (wanted_n rfl rfl (c := false) rfl rfl) rfl ?_
                  refine hl_val rfl rfl (v := (.bool false)) (hv_pick (t := false) rfl rfl) ?_
                  refine hl_val rfl rfl (v := (.bool false)) (hv_assign rfl) ?_
                  refine hl_nil ?_
                  refine seqQ_n ?_
                  obtain rfl := H
                  exact ⟨rfl, (has_cons rfl has_nil)⟩
              · replace H := H.2 hg31
                refine hl_no (wanted_n rfl rfl rfl hg31) rfl ?_
                refine hl_no (wanted_n rfl rfl rfl hg31) rfl ?_
                refine hl_no (wanted_n rfl rfl rfl hg31) rfl ?_
                refine hl_val rfl rfl (v := (.bool false)) (hv_pick_f rfl hg31 rfl) ?_
                refine hl_val rfl rfl (v := (.bool false)) (hv_move rfl) ?_
                refine hl_no (wanted_n rfl rfl (c := false) rfl rfl) rfl ?_
                refine hl_no (wanted_n rfl rfl (c := false) rfl rfl) rfl ?_
                refine hl_no (wanted_n rfl rfl (c := false) rfl rfl) rfl ?_
                refine hl_val rfl rfl (v := (.bool false)) (hv_pick (t := false) rfl rfl) ?_
                refine hl_val rfl rfl (v := (.bool false)) (hv_move rfl) ?_
                refine hl_no (wanted_n rfl rfl (c := false) rfl rfl) rfl ?_
                refine hl_no (wanted_n rfl rfl (c := false) rfl rfl) rfl ?_
                refine hl_no (wanted_n rfl rfl (c := false) rfl rfl) rfl ?_
                refine hl_val rfl rfl (v := (.bool false)) (hv_pick (t := false) rfl rfl) ?_
                refine hl_val rfl rfl (v := (.bool false)) (hv_assign rfl) ?_
                refine hl_nil ?_
                refine seqQ_n ?_
                obtain rfl := H
                exact ⟨rfl, (has_cons rfl has_nil)⟩
            · replace H := H.2 hg30
              refine hl_no (wanted_n rfl rfl rfl hg30) rfl ?_
              refine hl_val rfl rfl (v := (.bool false)) (hv_pick_f rfl hg30 rfl) ?_
              refine hl_val rfl rfl (v := (.bool false)) (hv_move rfl) ?_
              refine hl_no (wanted_n rfl rfl (c := false) rfl rfl) rfl ?_
              refine hl_no (wanted_n rfl rfl (c := false) rfl rfl) rfl ?_
              refine hl_no (wanted_n rfl rfl (c := false) rfl rfl) rfl ?_
              refine hl_val rfl rfl (v := (.bool false)) (hv_pick (t := false) rfl rfl) ?_
              refine hl_val rfl rfl (v := (.bool false)) (hv_move rfl) ?_
              refine hl_no (wanted_n rfl rfl (c := false) rfl rfl) rfl ?_
              refine hl_no (wanted_n rfl rfl (c := false) rfl rfl) rfl ?_
              refine hl_no (wanted_n rfl rfl (c := false) rfl rfl) rfl ?_
              refine hl_val rfl rfl (v := (.bool false)) (hv_pick (t := false) rfl rfl) ?_
              refine hl_val rfl rfl (v := (.bool false)) (hv_move rfl) ?_
              refine hl_no (wanted_n rfl rfl (c := false) rfl rfl) rfl ?_
              refine hl_no (wanted_n rfl rfl (c := false) rfl rfl) rfl ?_
              refine hl_no (wanted_n rfl rfl (c := false) rfl rfl) rfl ?_
              refine hl_val rfl rfl (v := (.bool false)) (hv_pick (t := false) rfl rfl) ?_
              refine hl_val rfl rfl (v := (.bool false)) (hv_assign rfl) ?_
              refine hl_nil ?_
              refine seqQ_n ?_
              obtain rfl := H
              exact ⟨rfl, (has_cons rfl has_nil)⟩
          · replace H := H.2 hg29
            refine hl_no (wanted_n rfl rfl rfl hg29) rfl ?_
            refine hl_no (wanted_n rfl rfl rfl hg29) rfl ?_
            refine hl_val rfl rfl (v := (.bool false)) (hv_pick_f rfl hg29 rfl) ?_
            refine hl_val rfl rfl (v := (.bool false)) (hv_move rfl) ?_
            refine hl_no (wanted_n rfl rfl (c := false) rfl rfl) rfl ?_
            refine hl_val rfl rfl (v := (.bool false)) (hv_pick (t := false) rfl rfl) ?_
            refine hl_val rfl rfl (v := (.bool false)) (hv_move rfl) ?_
            refine hl_no (wanted_n rfl rfl (c := false) rfl rfl) rfl ?_
            refine hl_no (wanted_n rfl rfl (c := false) rfl rfl) rfl ?_
            refine hl_no (wanted_n rfl rfl (c := false) rfl rfl) rfl ?_
            refine hl_val rfl rfl (v := (.bool false)) (hv_pick (t := false) rfl rfl) ?_
            refine hl_val rfl rfl (v := (.bool false)) (hv_move rfl) ?_
            refine hl_no (wanted_n rfl rfl (c := false) rfl rfl) rfl ?_
            refine hl_no (wanted_n rfl rfl (c := false) rfl rfl) rfl ?_
            refine hl_no (wanted_n rfl rfl (c := false) rfl rfl) rfl ?_
            refine hl_val rfl rfl (v := (.bool false)) (hv_pick (t := false) rfl rfl) ?_
            refine hl_val rfl rfl (v := (.bool false)) (hv_move rfl) ?_
            refine hl_no (wanted_n rfl rfl (c := false) rfl rfl) rfl ?_
            refine hl_no (wanted_n rfl rfl (c := false) rfl rfl) rfl ?_
            refine hl_no (wanted_n rfl rfl (c := false) rfl rfl) rfl ?_
            refine hl_val rfl rfl (v := (.bool false)) (hv_pick (t := false) rfl rfl) ?_
            refine hl_val rfl rfl (v := (.bool false)) (hv_assign rfl) ?_
            refine hl_nil ?_
            refine seqQ_n ?_
            obtain rfl := H
            exact ⟨rfl, (has_cons rfl has_nil)⟩
        · replace H := H.2 hg28
          refine hl_no (wanted_n rfl rfl rfl hg28) rfl ?_
          refine hl_no (wanted_n rfl rfl rfl hg28) rfl ?_
          refine hl_val rfl rfl (v := (.bool false)) (hv_pick_f rfl hg28 rfl) ?_
          refine hl_val rfl rfl (v := (.bool false)) (hv_move rfl) ?_
          refine hl_no (wanted_n rfl rfl (c := false) rfl rfl) rfl ?_
          refine hl_no (wanted_n rfl rfl (c := false) rfl rfl) rfl ?_
          refine hl_val rfl rfl (v := (.bool false)) (hv_pick (t := false) rfl rfl) ?_
          refine hl_val rfl rfl (v := (.bool false)) (hv_move rfl) ?_
          refine hl_no (wanted_n rfl rfl (c := false) rfl rfl) rfl ?_
          refine hl_val rfl rfl (v := (.bool false)) (hv_pick (t := false) rfl rfl) ?_
          refine hl_val rfl rfl (v := (.bool false)) (hv_move rfl) ?_
          refine hl_no (wanted_n rfl rfl (c := false) rfl rfl) rfl ?_
          refine hl_no (wanted_n rfl rfl (c := false) rfl rfl) rfl ?_
          refine hl_no (wanted_n rfl rfl (c := false) rfl rfl) rfl ?_
          refine hl_val rfl rfl (v := (.bool false)) (hv_pick (t := false) rfl rfl) ?_
          refine hl_val rfl rfl (v := (.bool false)) (hv_move rfl) ?_
          refine hl_no (wanted_n rfl rfl (c := false) rfl rfl) rfl ?_
          refine hl_no (wanted_n rfl rfl (c := false) rfl rfl) rfl ?_
          refine hl_no (wanted_n rfl rfl (c := false) rfl rfl) rfl ?_
          refine hl_val rfl rfl (v := (.bool false)) (hv_pick (t := false) rfl rfl) ?_
          refine hl_val rfl rfl (v := (.bool false)) (hv_move rfl) ?_
          refine hl_no (wanted_n rfl rfl (c := false) rfl rfl) rfl ?_
          refine hl_no (wanted_n rfl rfl (c := false) rfl rfl) rfl ?_
          refine hl_no (wanted_n rfl rfl (c := false) rfl rfl) rfl ?_
          refine hl_val rfl rfl (v := (.bool false)) (hv_pick (t := false) rfl rfl) ?_
          refine hl_val rfl rfl (v := (.bool false)) (hv_assign rfl) ?_
          refine hl_nil ?_
          refine seqQ_n ?_
          obtain rfl := H
          exact ⟨rfl, (has_cons rfl has_nil)⟩
      · have H := Hy27; clear Hx26 Hy27
        rintro ρ _ ⟨rfl, hH⟩
        refine hx_has _ hH ?_
        refine hx_ret ?_
        replace H := H h10 xv25
        exact endQ_ret _ (res_one Try.results22 (rv_tmp rfl)) H

/-- cellar/cellarlaw12.begin -/
theorem f10_sh (s_Stripes : Int) (s_Bits : Int) (s_Most : Int) (s_Do : Option Addr) (s_Do_n : Nat) (s_Do_c : Nat) (h : Heap) (R : Value → Heap → Prop)
    (H : (∀ (sv : Nat) (h1 : Heap), Array.size h ≤ sv → sv < Array.size h1 → Ext h h1 → HC Try.prog 25 #[(.int .i64 s_Stripes), (.int .i64 s_Bits), (.int .i64 s_Most)] h1 (fun vv h2 => Kp [sv] h1 h2 ∧ ∃ r0 : Option Addr, ∃ r1 : Int, vv = (.tuple #[(.pointer r0), (.int .i64 r1)]) ∧ HC Try.prog 26 #[(.int .i64 s_Stripes), (.int .i64 s_Bits), (.int .i64 s_Most)] h2 (fun vv h3 => ∃ r0_1 : Option Addr, ∃ r1_1 : Int, vv = (.tuple #[(.pointer r0_1), (.int .i64 r1_1)]) ∧ (∃ A9 : Bool → Heap → Prop, HC Try.prog 22 #[] h3 (fun vv h5 => ∃ r : Bool, vv = (.bool r) ∧ ((r = true → (((r1 == r1_1) = true → (A9 (r0.isSome == r0_1.isSome) h5)) ∧ ((r1 == r1_1) = false → (A9 false h5)))) ∧ (r = false → (A9 false h5)))) ∧ (∀ (ok : Bool) (h4 : Heap), A9 ok h4 → R (.tuple #[(.pointer r0), (.pointer r0_1), (.bool ok)]) h4)))))) :
    HC Try.prog 10 #[(.agg #[(.int .i64 s_Stripes), (.int .i64 s_Bits), (.int .i64 s_Most), (.slice s_Do s_Do_n s_Do_c)])] h R := by
  refine hc_of (args := [(.agg #[(.int .i64 s_Stripes), (.int .i64 s_Bits), (.int .i64 s_Most), (.slice s_Do s_Do_n s_Do_c)])]) Try.func10 rfl Try.ntmps10 (Nat.le_of_ble_eq_true rfl) ?_
  refine hx_seq ?_
  refine hx_region ?_
  refine hl_step rfl rfl (hn_box (v := (.agg #[(.int .i64 s_Stripes), (.int .i64 s_Bits), (.int .i64 s_Most), (.slice s_Do s_Do_n s_Do_c)])) rfl ?_)
  intro sv h1 eb1 eh2
  have xx3 : Ext h h1 := by rw [eh2]; exact Ext.push _ _
  have lo5 : Array.size h ≤ sv := Nat.le_of_eq (Eq.symm eb1)
  have hr4 : h1[sv]? = some (.cells #[(.int .i64 s_Stripes), (.int .i64 s_Bits), (.int .i64 s_Most), (.slice s_Do s_Do_n s_Do_c)] 24 (0, 0)) := by rw [eh2]; exact push_new eb1
  refine hl_val rfl rfl (v := (.pointer none)) (hv_assign rfl) ?_
  refine hl_val rfl rfl (v := (.pointer none)) (hv_assign rfl) ?_
  refine hl_val rfl rfl (v := (.bool false)) (hv_assign rfl) ?_
  refine hl_nil ?_
  refine seqQ_n ?_
  refine hx_seq ?_
  refine hx_region ?_
  refine hl_val rfl rfl (v := (ptr sv 0)) (hv_field TyShK.fld24_0 (b := sv) (o := 0) rfl) ?_
  refine hl_val rfl rfl (v := (.int .i64 s_Stripes)) (hv_load TyShK.agg3 rfl (rowcell hr4 rfl)) ?_
  refine hl_val rfl rfl (v := (ptr sv 1)) (hv_field TyShK.fld24_1 (b := sv) (o := 0) rfl) ?_
  refine hl_val rfl rfl (v := (.int .i64 s_Bits)) (hv_load TyShK.agg3 rfl (rowcell hr4 rfl)) ?_
  refine hl_val rfl rfl (v := (ptr sv 2)) (hv_field TyShK.fld24_2 (b := sv) (o := 0) rfl) ?_
  refine hl_val rfl rfl (v := (.int .i64 s_Most)) (hv_load TyShK.agg3 rfl (rowcell hr4 rfl)) ?_
  replace H := H sv h1 lo5 (row_lt hr4) xx3
  refine hl_step rfl rfl (hs_call TyShK.cb25 (vs := [(.int .i64 s_Stripes), (.int .i64 s_Bits), (.int .i64 s_Most)]) rfl (HC.mono H ?_))
  rintro _ h2 ⟨kp6, r0, r1, rfl, H⟩
  replace hr4 := Kp.row kp6 (by simp) hr4
  refine hl_val rfl rfl (v := (.tuple #[(.pointer r0), (.int .i64 r1)])) (hv_move rfl) ?_
  refine hl_val rfl rfl (v := (.pointer r0)) (hv_extract (vs := #[(.pointer r0), (.int .i64 r1)]) rfl rfl) ?_
  refine hl_val rfl rfl (v := (.int .i64 r1)) (hv_extract (vs := #[(.pointer r0), (.int .i64 r1)]) rfl rfl) ?_
  refine hl_val rfl rfl (v := (.pointer r0)) (hv_assign rfl) ?_
  refine hl_val rfl rfl (v := (.int .i64 r1)) (hv_assign rfl) ?_
  refine hl_nil ?_
  refine seqQ_n ?_
  refine hx_seq ?_
  refine hx_region ?_
  refine hl_val rfl rfl (v := (ptr sv 0)) (hv_field TyShK.fld24_0 (b := sv) (o := 0) rfl) ?_
  refine hl_val rfl rfl (v := (.int .i64 s_Stripes)) (hv_load TyShK.agg3 rfl (rowcell hr4 rfl)) ?_
  refine hl_val rfl rfl (v := (ptr sv 1)) (hv_field TyShK.fld24_1 (b := sv) (o := 0) rfl) ?_
  refine hl_val rfl rfl (v := (.int .i64 s_Bits)) (hv_load TyShK.agg3 rfl (rowcell hr4 rfl)) ?_
  refine hl_val rfl rfl (v := (ptr sv 2)) (hv_field TyShK.fld24_2 (b := sv) (o := 0) rfl) ?_
  refine hl_val rfl rfl (v := (.int .i64 s_Most)) (hv_load TyShK.agg3 rfl (rowcell hr4 rfl)) ?_
  refine hl_step rfl rfl (hs_call TyShK.cb26 (vs := [(.int .i64 s_Stripes), (.int .i64 s_Bits), (.int .i64 s_Most)]) rfl (HC.mono H ?_))
  rintro _ h3 ⟨r0_1, r1_1, rfl, H⟩
  refine hl_val rfl rfl (v := (.tuple #[(.pointer r0_1), (.int .i64 r1_1)])) (hv_move rfl) ?_
  refine hl_val rfl rfl (v := (.pointer r0_1)) (hv_extract (vs := #[(.pointer r0_1), (.int .i64 r1_1)]) rfl rfl) ?_
  refine hl_val rfl rfl (v := (.int .i64 r1_1)) (hv_extract (vs := #[(.pointer r0_1), (.int .i64 r1_1)]) rfl rfl) ?_
  refine hl_val rfl rfl (v := (.pointer r0_1)) (hv_assign rfl) ?_
  refine hl_val rfl rfl (v := (.int .i64 r1_1)) (hv_assign rfl) ?_
  refine hl_nil ?_
  refine seqQ_n ?_
  obtain ⟨A9, Hx7, Hy8⟩ := H
  refine hx_cut (fun ρ h' => ∃ ok : Bool, (A9 ok h' ∧ True) ∧ Has ρ [(2, (.pointer r0)), (3, (.pointer r0_1)), (4, (.bool ok))]) ?_ ?_
  · have H := Hx7; clear Hx7 Hy8
    refine hx_region ?_
    refine hl_val rfl rfl (v := (.pointer r0)) (hv_move rfl) ?_
    refine hl_val rfl rfl (v := (.pointer r0_1)) (hv_move rfl) ?_
    refine hl_step rfl rfl (hs_call TyShK.cb22 (vs := []) rfl (HC.mono H ?_))
    rintro _ h5 ⟨r, rfl, H⟩
    refine hl_val rfl rfl (v := (.bool r)) (hv_move rfl) ?_
    rcases bool_or (r) with hg11 | hg11
    · replace H := H.1 hg11
      refine hl_yes (wanted_y rfl rfl rfl hg11) rfl (HStep.of_val (v := (.int .i64 r1)) (hv_move rfl) ?_)
      refine hl_yes (wanted_y rfl rfl rfl hg11) rfl (HStep.of_val (v := (.int .i64 r1_1)) (hv_move rfl) ?_)
      refine hl_yes (wanted_y rfl rfl rfl hg11) rfl (HStep.of_val (v := (.bool (r1 == r1_1))) (hv_arith rfl rfl rfl) ?_)
      refine hl_val rfl rfl (v := (.bool (r1 == r1_1))) (hv_pick_t rfl hg11 rfl) ?_
      refine hl_val rfl rfl (v := (.bool (r1 == r1_1))) (hv_move rfl) ?_
      rcases bool_or (r1 == r1_1) with hg12 | hg12
      · replace H := H.1 hg12
        refine hl_yes (wanted_y rfl rfl rfl hg12) rfl (HStep.of_val (v := (.pointer r0)) (hv_move rfl) ?_)
        refine hl_yes (wanted_y rfl rfl rfl hg12) rfl (HStep.of_val (v := (.bool r0.isSome)) (hv_ptrNil TyShK.up25 rfl rfl) ?_)
        refine hl_yes (wanted_y rfl rfl rfl hg12) rfl (HStep.of_val (v := (.pointer r0_1)) (hv_move rfl) ?_)
        refine hl_yes (wanted_y rfl rfl rfl hg12) rfl (HStep.of_val (v := (.bool r0_1.isSome)) (hv_ptrNil TyShK.up26 rfl rfl) ?_)
        refine hl_yes (wanted_y rfl rfl rfl hg12) rfl (HStep.of_val (v := (.bool (r0.isSome == r0_1.isSome))) (hv_eqBool TyShK.u4 rfl rfl rfl) ?_)
        refine hl_val rfl rfl (v := (.bool (r0.isSome == r0_1.isSome))) (hv_pick_t rfl hg12 rfl) ?_
        refine hl_val rfl rfl (v := (.pointer r0)) (hv_assign rfl) ?_
        refine hl_val rfl rfl (v := (.pointer r0_1)) (hv_assign rfl) ?_
        refine hl_val rfl rfl (v := (.bool (r0.isSome == r0_1.isSome))) (hv_assign rfl) ?_
        refine hl_nil ?_
        refine seqQ_n ?_
        exact ⟨_, ⟨H, trivial⟩, (has_cons rfl (has_cons rfl (has_cons rfl has_nil)))⟩
      · replace H := H.2 hg12
        refine hl_no (wanted_n rfl rfl rfl hg12) rfl ?_
        refine hl_no (wanted_n rfl rfl rfl hg12) rfl ?_
        refine hl_no (wanted_n rfl rfl rfl hg12) rfl ?_
        refine hl_no (wanted_n rfl rfl rfl hg12) rfl ?_
        refine hl_no (wanted_n rfl rfl rfl hg12) rfl ?_
        refine hl_val rfl rfl (v := (.bool false)) (hv_pick_f rfl hg12 rfl) ?_
        refine hl_val rfl rfl (v := (.pointer r0)) (hv_assign rfl) ?_
        refine hl_val rfl rfl (v := (.pointer r0_1)) (hv_assign rfl) ?_
        refine hl_val rfl rfl (v := (.bool false)) (hv_assign rfl) ?_
        refine hl_nil ?_
        refine seqQ_n ?_
        exact ⟨_, ⟨H, trivial⟩, (has_cons rfl (has_cons rfl (has_cons rfl has_nil)))⟩
    · replace H := H.2 hg11
      refine hl_no (wanted_n rfl rfl rfl hg11) rfl ?_
      refine hl_no (wanted_n rfl rfl rfl hg11) rfl ?_
      refine hl_no (wanted_n rfl rfl rfl hg11) rfl ?_
      refine hl_val rfl rfl (v := (.bool false)) (hv_pick_f rfl hg11 rfl) ?_
      refine hl_val rfl rfl (v := (.bool false)) (hv_move rfl) ?_
      refine hl_no (wanted_n rfl rfl (c := false) rfl rfl) rfl ?_
      refine hl_no (wanted_n rfl rfl (c := false) rfl rfl) rfl ?_
      refine hl_no (wanted_n rfl rfl (c := false) rfl rfl) rfl ?_
      refine hl_no (wanted_n rfl rfl (c := false) rfl rfl) rfl ?_
      refine hl_no (wanted_n rfl rfl (c := false) rfl rfl) rfl ?_
      refine hl_val rfl rfl (v := (.bool false)) (hv_pick (t := false) rfl rfl) ?_
      refine hl_val rfl rfl (v := (.pointer r0)) (hv_assign rfl) ?_
      refine hl_val rfl rfl (v := (.pointer r0_1)) (hv_assign rfl) ?_
      refine hl_val rfl rfl (v := (.bool false)) (hv_assign rfl) ?_
      refine hl_nil ?_
      refine seqQ_n ?_
      exact ⟨_, ⟨H, trivial⟩, (has_cons rfl (has_cons rfl (has_cons rfl has_nil)))⟩
  · rintro ρ h4 ⟨ok, ⟨HA10, -⟩, hH⟩
    have H := Hy8 ok h4 HA10; clear Hx7 Hy8
    refine hx_has _ hH ?_
    refine hx_ret ?_
    exact endQ_ret _ (res_three Try.results10 (rv_tmp rfl) (rv_tmp rfl) (rv_tmp rfl)) H

/-- cellar/cellarlaw12.all -/
theorem f42_sh (x_b : Nat) (x_o : Nat) (r_b : Nat) (r_o : Nat) (stripe : Int) (stop : Int) (h : Heap) (R : Value → Heap → Prop)
    (H : (∀ stop_1 h1, stop_1 = Array.size h → h1 = Array.push h (.cells #[(.int .i64 stop)] 3) → (∀ nb h2, nb = Array.size h1 → h2 = Array.push h1 (.cells #[(.bool false)] 4) → HC Try.prog 54 #[(ptr r_b r_o), (.int .i64 stripe)] h2 (fun vv h3 => ∃ r : Option Addr, ∃ r_n r_c : Nat, vv = (.slice r r_n r_c) ∧ (∀ want h4, want = Array.size h3 → h4 = Array.push h3 (.cells #[(.slice none 0 0)] 47) → (HW h4 want 0 ∧ ∀ h5, h5 = hset h4 want 0 (.slice r r_n r_c) → HC Try.prog 18 #[(ptr x_b x_o), (.int .i64 stripe)] h5 (fun vv h6 => ∃ r_1 : Value, vv = r_1 ∧ (∀ round h7, round = Array.size h6 → h7 = Array.push h6 (.cells #[(.int .i64 0)] 3) → (HW h7 round 0 ∧ ∀ h8, h8 = hset h7 round 0 (.int .i64 0) → (∃ (I17 : Nat → Nat → Heap → Prop) (mu18 : Nat → Nat → Heap → Nat), I17 round 0 h8 ∧ (∀ (round_b : Nat) (round_o : Nat) (h9 : Heap), I17 round_b round_o h9 → (∃ x : Int, hcell h9 round_b round_o = some (.int .i64 x) ∧ (((decide (x < 2)) = true → (∀ i h10, i = Array.size h9 → h10 = Array.push h9 (.cells #[(.int .i64 0)] 3) → (HW h10 i 0 ∧ ∀ h11, h11 = hset h10 i 0 (.int .i64 0) → (∃ A31 : Heap → Prop, (∀ (Lp33 : LoopState → Option Code → Heap → Prop) (l : Nat) (h13 : Heap) (y : Value), (∀ s p h h', Lp33 s p h → h'[l]? = h[l]? → Lp33 s p h') → l = Array.size h11 + 1 → Ext h11 h13 → Array.size h13 = Array.size h11 + 2 → Lp33 .ready none h13 → (∀ (it_Hash : Int) (it_At : Int) (it_Version : Int) (it_Hits : Int) (h14 : Heap) (K41 : Value → Heap → Prop), Lp33 .ready none h14 → (∀ e h17, e = Array.size h14 → h17 = Array.push h14 (.cells #[(.int .u64 0), (.int .u64 0), (.int .u64 0), (.int .u8 0)] 31) → (HWs h17 e 0 4 ∧ ∀ h18, h18 = hsets h17 e 0 [(.int .u64 it_Hash), (.int .u64 it_At), (.int .u64 it_Version), (.int .u8 it_Hits)] → (Lp33 .ready none h18 ∧ ∀ h19, Only l h18 h19 → Lp33 .busy none h19 → (∃ j : Bool, (∃ x_1 : Int, hcell h19 i 0 = some (.int .i64 x_1) ∧ (∃ x_2 : Option Addr, ∃ x_n x_c : Nat, hcell h19 want 0 = some (.slice x_2 x_n x_c) ∧ (((decide (x_1 ≥ (x_n : Int))) = true → (j = true)) ∧ ((decide (x_1 ≥ (x_n : Int))) = false → (∃ x_Hash x_At x_Version x_Hits : Int, hcell h19 e 0 = some (.int .u64 x_Hash) ∧ hcell h19 e 1 = some (.int .u64 x_At) ∧ hcell h19 e 2 = some (.int .u64 x_Version) ∧ hcell h19 e 3 = some (.int .u8 x_Hits) ∧ (∃ x_2_b x_2_o : Nat, x_2 = some ⟨x_2_b, x_2_o, none⟩ ∧ (0 : Int) ≤ x_1 ∧ x_1 < (x_n : Int) ∧ (∃ x_Hash_1 x_At_1 x_Version_1 x_Hits_1 : Int, hcell h19 x_2_b (x_2_o + (Int.toNat x_1) * 4) = some (.int .u64 x_Hash_1) ∧ hcell h19 x_2_b ((x_2_o + (Int.toNat x_1) * 4) + 1) = some (.int .u64 x_At_1) ∧ hcell h19 x_2_b ((x_2_o + (Int.toNat x_1) * 4) + 2) = some (.int .u64 x_Version_1) ∧ hcell h19 x_2_b ((x_2_o + (Int.toNat x_1) * 4) + 3) = some (.int .u8 x_Hits_1) ∧ (j = (!((x_Hash == x_Hash_1 && (x_At == x_At_1 && (x_Version == x_Version_1 && (x_Hits == x_Hits_1 && true)))))))))))))) ∧ ((j = true → (HW h19 nb 0 ∧ ∀ h20, h20 = hset h19 nb 0 (.bool false) → (Lp33 .busy none h20 ∧ ∀ h21, Only l h20 h21 → Lp33 .done (some .ret) h21 → K41 (.bool false) h21))) ∧ (j = false → (∃ x_3 : Int, hcell h19 i 0 = some (.int .i64 x_3) ∧ (HW h19 i 0 ∧ ∀ h22, h22 = hset h19 i 0 (.int .i64 (IntKind.i64.wrap (x_3 + 1))) → (∃ j_1 : Bool, (∃ x_4 : Int, hcell h22 round_b round_o = some (.int .i64 x_4) ∧ (((x_4 == 0) = true → (∃ x_5 : Int, hcell h22 i 0 = some (.int .i64 x_5) ∧ (∃ x_6 : Int, hcell h22 stop_1 0 = some (.int .i64 x_6) ∧ (j_1 = (x_5 == x_6))))) ∧ ((x_4 == 0) = false → (j_1 = false)))) ∧ ((j_1 = true → (Lp33 .busy none h22 ∧ ∀ h23, Only l h22 h23 → Lp33 .done (some (.exit 2)) h23 → K41 (.bool false) h23)) ∧ (j_1 = false → (Lp33 .busy none h22 ∧ ∀ h24, Only l h22 h24 → Lp33 .ready none h24 → K41 (.bool true) h24)))))))))))) → HCV Try.prog y [(.agg #[(.int .u64 it_Hash), (.int .u64 it_At), (.int .u64 it_Version), (.int .u8 it_Hits)])] h14 K41) → HCF Try.prog r_1 [y] h13 (fun _ h15 => ∃ (st : LoopState) (pend : Option Code), Lp33 st pend h15 ∧ st ≠ .busy ∧ ∀ h16, Only l h15 h16 → Lp33 .exhausted pend h16 → ((pend = none ∧ (A31 h16)) ∨ (pend = some .ret ∧ (∃ res : Bool, hcell h16 nb 0 = some (.bool res) ∧ (∀ h25, Shut' (Array.size h) h16 h25 → R (.bool res) h25))) ∨ (pend = some (.exit 2) ∧ (A31 h16))))) ∧ (∀ (h12 : Heap), A31 h12 → (∃ j_2 : Bool, (∃ x_7 : Int, hcell h12 i 0 = some (.int .i64 x_7) ∧ (∃ x_8 : Option Addr, ∃ x_n_1 x_c_1 : Nat, hcell h12 want 0 = some (.slice x_8 x_n_1 x_c_1) ∧ (((x_7 != (x_n_1 : Int)) = true → (∃ x_9 : Int, hcell h12 round_b round_o = some (.int .i64 x_9) ∧ (((x_9 != 0) = true → (j_2 = true)) ∧ ((x_9 != 0) = false → (∃ x_10 : Int, hcell h12 stop_1 0 = some (.int .i64 x_10) ∧ (j_2 = (x_7 != x_10))))))) ∧ ((x_7 != (x_n_1 : Int)) = false → (j_2 = false))))) ∧ ((j_2 = true → (HW h12 nb 0 ∧ ∀ h26, h26 = hset h12 nb 0 (.bool false) → (∃ res_1 : Bool, hcell h26 nb 0 = some (.bool res_1) ∧ (∀ h27, Shut' (Array.size h) h26 h27 → R (.bool res_1) h27)))) ∧ (j_2 = false → (∃ x_11 : Int, hcell h12 round_b round_o = some (.int .i64 x_11) ∧ (∀ round_1 h28, round_1 = Array.size h12 → h28 = Array.push h12 (.cells #[(.int .i64 0)] 3) → (HW h28 round_1 0 ∧ ∀ h29, h29 = hset h28 round_1 0 (.int .i64 x_11) → (∃ x_12 : Int, hcell h29 round_1 0 = some (.int .i64 x_12) ∧ (HW h29 round_1 0 ∧ ∀ h30, h30 = hset h29 round_1 0 (.int .i64 (IntKind.i64.wrap (x_12 + 1))) → (I17 round_1 0 h30 ∧ mu18 round_1 0 h30 < mu18 round_b round_o h9)))))))))))))) ∧ ((decide (x < 2)) = false → (HW h9 nb 0 ∧ ∀ h31, h31 = hset h9 nb 0 (.bool true) → (∃ res : Bool, hcell h31 nb 0 = some (.bool res) ∧ (∀ h32, Shut' (Array.size h) h31 h32 → R (.bool res) h32))))))))))))))))) :
    HC Try.prog 42 #[(ptr x_b x_o), (ptr r_b r_o), (.int .i64 stripe), (.int .i64 stop)] h R := by
  refine hc_ofM (args := [(ptr x_b x_o), (ptr r_b r_o), (.int .i64 stripe), (.int .i64 stop)]) Try.func42 rfl Try.ntmps42 (Nat.le_of_ble_eq_true rfl) ?_
  refine hx_seq ?_
  refine hx_region ?_
  refine hl_step rfl rfl (hn_box (v := (.int .i64 stop)) rfl ?_)
  intro stop_1 h1 eb1 eh2
  replace H := H stop_1 h1 eb1 eh2
  have xx3 : Ext h h1 := by rw [eh2]; exact Ext.push _ _
  refine hl_step rfl rfl (hn_alloc TyShK.z4 ?_)
  intro nb h2 eb4 eh5
  replace H := H nb h2 eb4 eh5
  have xx6 : Ext h1 h2 := by rw [eh5]; exact Ext.push _ _
  refine hl_nil ?_
  refine seqQ_n ?_
  refine hx_seq ?_
  refine hx_region ?_
  refine hl_val rfl rfl (v := (ptr r_b r_o)) (hv_move rfl) ?_
  refine hl_val rfl rfl (v := (.int .i64 stripe)) (hv_move rfl) ?_
  refine hl_step rfl rfl (hs_call TyShK.cb54 (vs := [(ptr r_b r_o), (.int .i64 stripe)]) rfl (HC.mono H ?_))
  rintro _ h3 ⟨r, r_n, r_c, rfl, H⟩
  refine hl_step rfl rfl (hn_alloc TyShK.z47 ?_)
  intro want h4 eb7 eh8
  replace H := H want h4 eb7 eh8
  have xx9 : Ext h3 h4 := by rw [eh8]; exact Ext.push _ _
  obtain ⟨hw11, H⟩ := H
  refine hl_step rfl rfl (hn_store (v := (.slice r r_n r_c)) rfl rfl TyShK.sz47 rfl hw11 ?_)
  intro h5 eh10
  replace H := H h5 eh10
  refine hl_nil ?_
  refine seqQ_n ?_
  refine hx_seq ?_
  refine hx_region ?_
  refine hl_val rfl rfl (v := (ptr x_b x_o)) (hv_move rfl) ?_
  refine hl_val rfl rfl (v := (.int .i64 stripe)) (hv_move rfl) ?_
  refine hl_step rfl rfl (hs_call TyShK.cb18 (vs := [(ptr x_b x_o), (.int .i64 stripe)]) rfl (HC.mono H ?_))
  rintro r_1 h6 ⟨_, rfl, H⟩
  refine hl_val rfl rfl (v := r_1) (hv_assign rfl) ?_
  refine hl_nil ?_
  refine seqQ_n ?_
  refine hx_seq ?_
  refine hx_seq ?_
  refine hx_region ?_
  refine hl_step rfl rfl (hn_alloc TyShK.z3 ?_)
  intro round h7 eb12 eh13
  replace H := H round h7 eb12 eh13
  have xx14 : Ext h6 h7 := by rw [eh13]; exact Ext.push _ _
  obtain ⟨hw16, H⟩ := H
  refine hl_step rfl rfl (hn_store (v := (.int .i64 0)) rfl rfl TyShK.sz3 rfl hw16 ?_)
  intro h8 eh15
  replace H := H h8 eh15
  refine hl_nil ?_
  refine seqQ_n ?_
  refine hx_block ?_
  obtain ⟨I17, mu18, Ha19, Hr20⟩ := H
  refine hx_loopT (σ := Nat × Nat) (fun s => [(7, (ptr stop_1 0)), (8, (ptr nb 0)), (9, (ptr want 0)), (10, r_1), (11, (ptr s.1 s.2))]) (fun s h' => I17 s.1 s.2 h' ∧ True) (fun s h' => mu18 s.1 s.2 h') (round, 0) ⟨Ha19, trivial⟩ (has_cons rfl (has_cons rfl (has_cons rfl (has_cons rfl (has_cons rfl has_nil))))) ?_
  rintro ⟨round_b, round_o⟩ ρ h9 ⟨Hi21, -⟩
  have H := Hr20 round_b round_o h9 Hi21
  refine hx_seq ?_
  refine hx_seq ?_
  refine hx_region ?_
  obtain ⟨x, hc22, H⟩ := H
  refine hl_val rfl rfl (v := (.int .i64 x)) (hv_load TyShK.agg3 rfl hc22) ?_
  refine hl_val rfl rfl (v := (.bool (decide (x < 2)))) (hv_arith rfl rfl rfl) ?_
  refine hl_nil ?_
  refine seqQ_n ?_
  refine hx_cond (b := decide (x < 2)) rfl (fun hb23 => ?_) (fun hb23 => ?_)
  · replace H := H.1 hb23
    refine hx_skip ?_
    refine seqQ_n ?_
    refine hx_seq ?_
    refine hx_block ?_
    refine hx_seq ?_
    refine hx_region ?_
    refine hl_step rfl rfl (hn_alloc TyShK.z3 ?_)
    intro i h10 eb24 eh25
    replace H := H i h10 eb24 eh25
    have xx26 : Ext h9 h10 := by rw [eh25]; exact Ext.push _ _
    obtain ⟨hw28, H⟩ := H
    refine hl_step rfl rfl (hn_store (v := (.int .i64 0)) rfl rfl TyShK.sz3 rfl hw28 ?_)
    intro h11 eh27
    replace H := H h11 eh27
    refine hl_nil ?_
    refine seqQ_n ?_
    obtain ⟨A31, Hx29, Hy30⟩ := H
    refine hx_cut (fun ρ h' => (A31 h' ∧ True) ∧ Has ρ [(7, (ptr stop_1 0)), (8, (ptr nb 0)), (9, (ptr want 0)), (10, r_1), (11, (ptr round_b round_o)), (12, (ptr i 0))]) ?_ ?_
    · have H := Hx29; clear Hx29 Hy30
      refine hx_seq ?_
      refine hx_region ?_
      refine hl_val rfl rfl (v := r_1) (hv_move rfl) ?_
      refine hl_nil ?_
      refine seqQ_n ?_
      refine hx_block ?_
      refine hx_range rfl rfl rfl (fun h13 l le34 lx35 lz36 La37 => ?_)
      refine HCF.mono (H (fun st p h => LoopAt h l _ _ _ _ _ st p) l h13 _ (fun s p h h' k e => k.same e) le34 lx35 lz36 La37 ?_) ?_
      · intro it_Hash it_At it_Version it_Hits h14 K41 Lb38 H
        refine hcv_yield Lb38 rfl rfl ?_
        refine hx_region ?_
        refine hl_step rfl rfl (hn_alloc TyShK.z31 ?_)
        intro e h17 eb44 eh45
        replace H := H e h17 eb44 eh45
        have xx46 : Ext h14 h17 := by rw [eh45]; exact Ext.push _ _
        obtain ⟨hw48, H⟩ := H
        refine hl_step rfl rfl (hn_stores (vs := [(.int .u64 it_Hash), (.int .u64 it_At), (.int .u64 it_Version), (.int .u8 it_Hits)]) rfl rfl TyShK.sz31 rfl hw48 ?_)
        intro h18 eh47
        replace H := H h18 eh47
        refine hl_nil ?_
        obtain ⟨Lf51, H⟩ := H
        refine ⟨rfl, Lf51, ?_⟩
        intro h19 lo49 Le50
        replace H := H h19 lo49 Le50
        refine hx_block ?_
        refine hx_seq ?_
        obtain ⟨j, Hx52, Hy53⟩ := H
        refine hx_cut (fun ρ h' => h19 = h' ∧ Has ρ [(7, (ptr stop_1 0)), (8, (ptr nb 0)), (11, (ptr round_b round_o)), (12, (ptr i 0)), (37, (.bool j))]) ?_ ?_
        · have H := Hx52; clear Hx52 Hy53
          refine hx_draw TyShK.mixed [.read, .read, .pure, .pure, .pure, .read, .read, .read, .pure, .read, .pure, .pure] [0, 1, 2, 3, 4, 5, 6, 7, 8, 9, 10, 11] (by kernel_rfl) ?_
          obtain ⟨x_1, hc54, H⟩ := H
          refine hp_read (i := 0) rfl (wanted_0 rfl) rfl (.int .i64 x_1) (fun _ he => hv_load TyShK.agg3 rfl (Ext.cell he hc54)) ?_
          obtain ⟨x_2, x_n, x_c, hc55, H⟩ := H
          refine hp_read (i := 1) rfl (wanted_0 rfl) rfl (.slice x_2 x_n x_c) (fun _ he => hv_load TyShK.agg47 rfl (Ext.cell he hc55)) ?_
          refine hp_pure (i := 2) rfl (wanted_0 rfl) rfl (.int .i64 (x_n : Int)) (fun _ => hv_len (n := x_n) TyShK.u47 rfl) ?_
          refine hp_pure (i := 3) rfl (wanted_0 rfl) rfl (.bool (decide (x_1 ≥ (x_n : Int)))) (fun _ => hv_arith rfl rfl rfl) ?_
          refine hp_pure (i := 4) rfl (wanted_0 rfl) rfl (.bool (decide (x_1 ≥ (x_n : Int)))) (fun _ => hv_move rfl) ?_
          rcases bool_or (decide (x_1 ≥ (x_n : Int))) with hg56 | hg56
          · replace H := H.1 hg56
            refine hp_no (i := 5) rfl (wanted_n rfl rfl rfl hg56) ?_
            refine hp_no (i := 6) rfl (wanted_n rfl rfl rfl hg56) ?_
            refine hp_no (i := 7) rfl (wanted_n rfl rfl rfl hg56) ?_
            refine hp_no (i := 8) rfl (wanted_n rfl rfl rfl hg56) ?_
            refine hp_no (i := 9) rfl (wanted_n rfl rfl rfl hg56) ?_
            refine hp_no (i := 10) rfl (wanted_n rfl rfl rfl hg56) ?_
            refine hp_pure (i := 11) rfl (wanted_0 rfl) rfl (.bool true) (fun _ => hv_pick_t rfl hg56 rfl) ?_
            refine hp_nil ?_
            refine seqQ_n ?_
            obtain rfl := H
            exact ⟨rfl, (has_cons rfl (has_cons rfl (has_cons rfl (has_cons rfl (has_cons rfl has_nil)))))⟩
          · replace H := H.2 hg56
            obtain ⟨x_Hash, x_At, x_Version, x_Hits, hc57, hc58, hc59, hc60, H⟩ := H
            refine hp_read (i := 5) rfl (wanted_y rfl rfl rfl hg56) rfl (.agg #[(.int .u64 x_Hash), (.int .u64 x_At), (.int .u64 x_Version), (.int .u8 x_Hits)]) (fun _ he => hv_loads (vs := [(.int .u64 x_Hash), (.int .u64 x_At), (.int .u64 x_Version), (.int .u8 x_Hits)]) TyShK.agg31 TyShK.sz31 rfl (hcells_cons (Ext.cell he hc57) (hcells_cons (Ext.cell he hc58) (hcells_cons (Ext.cell he hc59) (hcells_cons (Ext.cell he hc60) hcells_nil))))) ?_
            refine hp_read (i := 6) rfl (wanted_y rfl rfl rfl hg56) rfl (.slice x_2 x_n x_c) (fun _ he => hv_load TyShK.agg47 rfl (Ext.cell he hc55)) ?_
            refine hp_read (i := 7) rfl (wanted_y rfl rfl rfl hg56) rfl (.int .i64 x_1) (fun _ he => hv_load TyShK.agg3 rfl (Ext.cell he hc54)) ?_
            obtain ⟨x_2_b, x_2_o, hqe, hi61, hi62, Hq⟩ := H
            subst hqe
            have H := Hq; clear Hq
            refine hp_pure (i := 8) rfl (wanted_y rfl rfl rfl hg56) rfl (ptr x_2_b (x_2_o + (Int.toNat x_1) * 4)) (fun _ => hv_index TyShK.el47 rfl rfl hi61 hi62) ?_
            obtain ⟨x_Hash_1, x_At_1, x_Version_1, x_Hits_1, hc63, hc64, hc65, hc66, H⟩ := H
            refine hp_read (i := 9) rfl (wanted_y rfl rfl rfl hg56) rfl (.agg #[(.int .u64 x_Hash_1), (.int .u64 x_At_1), (.int .u64 x_Version_1), (.int .u8 x_Hits_1)]) (fun _ he => hv_loads (vs := [(.int .u64 x_Hash_1), (.int .u64 x_At_1), (.int .u64 x_Version_1), (.int .u8 x_Hits_1)]) TyShK.agg31 TyShK.sz31 rfl (hcells_cons (Ext.cell he hc63) (hcells_cons (Ext.cell he hc64) (hcells_cons (Ext.cell he hc65) (hcells_cons (Ext.cell he hc66) hcells_nil))))) ?_
            refine hp_pure (i := 10) rfl (wanted_y rfl rfl rfl hg56) rfl (.bool (!((x_Hash == x_Hash_1 && (x_At == x_At_1 && (x_Version == x_Version_1 && (x_Hits == x_Hits_1 && true))))))) (fun _ => hv_structEq (xs := [(.int .u64 x_Hash), (.int .u64 x_At), (.int .u64 x_Version), (.int .u8 x_Hits)]) (ys := [(.int .u64 x_Hash_1), (.int .u64 x_At_1), (.int .u64 x_Version_1), (.int .u8 x_Hits_1)]) (b := (x_Hash == x_Hash_1 && (x_At == x_At_1 && (x_Version == x_Version_1 && (x_Hits == x_Hits_1 && true))))) TyShK.se31 rfl rfl (by kernel_rfl) rfl) ?_
            refine hp_pure (i := 11) rfl (wanted_0 rfl) rfl (.bool (!((x_Hash == x_Hash_1 && (x_At == x_At_1 && (x_Version == x_Version_1 && (x_Hits == x_Hits_1 && true))))))) (fun _ => hv_pick_f rfl hg56 rfl) ?_
            refine hp_nil ?_
            refine seqQ_n ?_
            obtain rfl := H
            exact ⟨rfl, (has_cons rfl (has_cons rfl (has_cons rfl (has_cons rfl (has_cons rfl has_nil)))))⟩
        · have H := Hy53; clear Hx52 Hy53
          rintro ρ _ ⟨rfl, hH⟩
          refine hx_has _ hH ?_
          refine hx_cond (b := j) rfl (fun hb67 => ?_) (fun hb67 => ?_)
          · replace H := H.1 hb67
            refine hx_seq ?_
            refine hx_region ?_
            obtain ⟨hw69, H⟩ := H
            refine hl_step rfl rfl (hn_store (v := (.bool false)) rfl rfl TyShK.sz4 rfl hw69 ?_)
            intro h20 eh68
            replace H := H h20 eh68
            refine hl_nil ?_
            refine seqQ_n ?_
            refine hx_ret ?_
            refine seqQ_ret ?_
            refine blockQ_ret ?_
            exact H
          · replace H := H.2 hb67
            refine hx_skip ?_
            refine seqQ_n ?_
            refine hx_seq ?_
            refine hx_region ?_
            obtain ⟨x_3, hc70, H⟩ := H
            refine hl_val rfl rfl (v := (.int .i64 x_3)) (hv_load TyShK.agg3 rfl hc70) ?_
            refine hl_val rfl rfl (v := (.int .i64 (IntKind.i64.wrap (x_3 + 1)))) (hv_arith rfl rfl rfl) ?_
            obtain ⟨hw72, H⟩ := H
            refine hl_step rfl rfl (hn_store (v := (.int .i64 (IntKind.i64.wrap (x_3 + 1)))) rfl rfl TyShK.sz3 rfl hw72 ?_)
            intro h22 eh71
            replace H := H h22 eh71
            refine hl_nil ?_
            refine seqQ_n ?_
            obtain ⟨j_1, Hx73, Hy74⟩ := H
            refine hx_cut (fun ρ h' => h22 = h' ∧ Has ρ [(46, (.bool j_1))]) ?_ ?_
            · have H := Hx73; clear Hx73 Hy74
              refine hx_region ?_
              obtain ⟨x_4, hc75, H⟩ := H
              refine hl_val rfl rfl (v := (.int .i64 x_4)) (hv_load TyShK.agg3 rfl hc75) ?_
              refine hl_val rfl rfl (v := (.bool (x_4 == 0))) (hv_arith rfl rfl rfl) ?_
              refine hl_val rfl rfl (v := (.bool (x_4 == 0))) (hv_move rfl) ?_
              rcases bool_or (x_4 == 0) with hg76 | hg76
              · replace H := H.1 hg76
                obtain ⟨x_5, hc77, H⟩ := H
                refine hl_yes (wanted_y rfl rfl rfl hg76) rfl (HStep.of_val (v := (.int .i64 x_5)) (hv_load TyShK.agg3 rfl hc77) ?_)
                obtain ⟨x_6, hc78, H⟩ := H
                refine hl_yes (wanted_y rfl rfl rfl hg76) rfl (HStep.of_val (v := (.int .i64 x_6)) (hv_load TyShK.agg3 rfl hc78) ?_)
                refine hl_yes (wanted_y rfl rfl rfl hg76) rfl (HStep.of_val (v := (.bool (x_5 == x_6))) (hv_arith rfl rfl rfl) ?_)
                refine hl_val rfl rfl (v := (.bool (x_5 == x_6))) (hv_pick_t rfl hg76 rfl) ?_
                refine hl_nil ?_
                refine seqQ_n ?_
                obtain rfl := H
                exact ⟨rfl, (has_cons rfl has_nil)⟩
              · replace H := H.2 hg76
                refine hl_no (wanted_n rfl rfl rfl hg76) rfl ?_
                refine hl_no (wanted_n rfl rfl rfl hg76) rfl ?_
                refine hl_no (wanted_n rfl rfl rfl hg76) rfl ?_
                refine hl_val rfl rfl (v := (.bool false)) (hv_pick_f rfl hg76 rfl) ?_
                refine hl_nil ?_
                refine seqQ_n ?_
                obtain rfl := H
                exact ⟨rfl, (has_cons rfl has_nil)⟩
            · have H := Hy74; clear Hx73 Hy74
              rintro ρ _ ⟨rfl, hH⟩
              refine hx_has _ hH ?_
              refine hx_cond (b := j_1) rfl (fun hb79 => ?_) (fun hb79 => ?_)
              · replace H := H.1 hb79
                refine hx_exit ?_
                refine blockQ_past rfl ?_
                exact H
              · replace H := H.2 hb79
                refine hx_skip ?_
                refine blockQ_n ?_
                exact H
      · rintro _ h15 ⟨st, pend, Lc39, hst43, H⟩
        refine ⟨st, pend, Lc39, hst43, ?_⟩
        intro h16 lo42 Ld40
        replace H := H h16 lo42 Ld40
        rcases H with ⟨rfl, H⟩ | ⟨rfl, H⟩ | ⟨rfl, H⟩
        · refine jumpQ_n ?_
          refine blockQ_n ?_
          refine seqQ_n ?_
          exact ⟨⟨H, trivial⟩, (has_cons rfl (has_cons rfl (has_cons rfl (has_cons rfl (has_cons rfl (has_cons rfl has_nil))))))⟩
        · refine jumpQ_ret ?_
          refine blockQ_ret ?_
          refine seqQ_ret ?_
          refine blockQ_ret ?_
          refine seqQ_ret ?_
          refine seqQ_ret ?_
          refine blockQ_ret ?_
          refine seqQ_ret ?_
          obtain ⟨res, hc80, H⟩ := H
          exact endQM_ret _ (fun h' hs => ⟨res_one Try.results42 (rv_cell1 TyShK.agg4 rfl (shut_cell hs hc80)), H h' hs⟩)
        · refine jumpQ_exit ?_
          refine blockQ_here ?_
          refine seqQ_n ?_
          exact ⟨⟨H, trivial⟩, (has_cons rfl (has_cons rfl (has_cons rfl (has_cons rfl (has_cons rfl (has_cons rfl has_nil))))))⟩
    · rintro ρ h12 ⟨⟨HA32, -⟩, hH⟩
      have H := Hy30 h12 HA32; clear Hx29 Hy30
      refine hx_has _ hH ?_
      obtain ⟨j_2, Hx81, Hy82⟩ := H
      refine hx_cut (fun ρ h' => h12 = h' ∧ Has ρ [(7, (ptr stop_1 0)), (8, (ptr nb 0)), (9, (ptr want 0)), (10, r_1), (11, (ptr round_b round_o)), (59, (.bool j_2))]) ?_ ?_
      · have H := Hx81; clear Hx81 Hy82
        refine hx_region ?_
        obtain ⟨x_7, hc83, H⟩ := H
        refine hl_val rfl rfl (v := (.int .i64 x_7)) (hv_load TyShK.agg3 rfl hc83) ?_
        obtain ⟨x_8, x_n_1, x_c_1, hc84, H⟩ := H
        refine hl_val rfl rfl (v := (.slice x_8 x_n_1 x_c_1)) (hv_load TyShK.agg47 rfl hc84) ?_
        refine hl_val rfl rfl (v := (.int .i64 (x_n_1 : Int))) (hv_len (n := x_n_1) TyShK.u47 rfl) ?_
        refine hl_val rfl rfl (v := (.bool (x_7 != (x_n_1 : Int)))) (hv_arith rfl rfl rfl) ?_
        refine hl_val rfl rfl (v := (.bool (x_7 != (x_n_1 : Int)))) (hv_move rfl) ?_
        rcases bool_or (x_7 != (x_n_1 : Int)) with hg85 | hg85
        · replace H := H.1 hg85
          obtain ⟨x_9, hc86, H⟩ := H
          refine hl_yes (wanted_y rfl rfl rfl hg85) rfl (HStep.of_val (v := (.int .i64 x_9)) (hv_load TyShK.agg3 rfl hc86) ?_)
          refine hl_yes (wanted_y rfl rfl rfl hg85) rfl (HStep.of_val (v := (.bool (x_9 != 0))) (hv_arith rfl rfl rfl) ?_)
          refine hl_yes (wanted_y rfl rfl rfl hg85) rfl (HStep.of_val (v := (.bool (x_9 != 0))) (hv_move rfl) ?_)
          rcases bool_or (x_9 != 0) with hg87 | hg87
          · replace H := H.1 hg87
            refine hl_no (wanted_n rfl rfl rfl hg87) rfl ?_
            refine hl_no (wanted_n rfl rfl rfl hg87) rfl ?_
            refine hl_no (wanted_n rfl rfl rfl hg87) rfl ?_
            refine hl_yes (wanted_y rfl rfl rfl hg85) rfl (HStep.of_val (v := (.bool true)) (hv_pick_t rfl hg87 rfl) ?_)
            refine hl_val rfl rfl (v := (.bool true)) (hv_pick_t rfl hg85 rfl) ?_
            refine hl_nil ?_
            refine seqQ_n ?_
            obtain rfl := H
            exact ⟨rfl, (has_cons rfl (has_cons rfl (has_cons rfl (has_cons rfl (has_cons rfl (has_cons rfl has_nil))))))⟩
          · replace H := H.2 hg87
            refine hl_yes (wanted_y rfl rfl rfl hg87) rfl (HStep.of_val (v := (.int .i64 x_7)) (hv_load TyShK.agg3 rfl hc83) ?_)
            obtain ⟨x_10, hc88, H⟩ := H
            refine hl_yes (wanted_y rfl rfl rfl hg87) rfl (HStep.of_val (v := (.int .i64 x_10)) (hv_load TyShK.agg3 rfl hc88) ?_)
            refine hl_yes (wanted_y rfl rfl rfl hg87) rfl (HStep.of_val (v := (.bool (x_7 != x_10))) (hv_arith rfl rfl rfl) ?_)
            refine hl_yes (wanted_y rfl rfl rfl hg85) rfl (HStep.of_val (v := (.bool (x_7 != x_10))) (hv_pick_f rfl hg87 rfl) ?_)
            refine hl_val rfl rfl (v := (.bool (x_7 != x_10))) (hv_pick_t rfl hg85 rfl) ?_
            refine hl_nil ?_
            refine seqQ_n ?_
            obtain rfl := H
            exact ⟨rfl, (has_cons rfl (has_cons rfl (has_cons rfl (has_cons rfl (has_cons rfl (has_cons rfl has_nil))))))⟩
        · replace H := H.2 hg85
          refine hl_no (wanted_n rfl rfl rfl hg85) rfl ?_
          refine hl_no (wanted_n rfl rfl rfl hg85) rfl ?_
          refine hl_no (wanted_n rfl rfl rfl hg85) rfl ?_
          refine hl_no (wanted_u rfl rfl rfl) rfl ?_
          refine hl_no (wanted_u rfl rfl rfl) rfl ?_
          refine hl_no (wanted_u rfl rfl rfl) rfl ?_
          refine hl_no (wanted_n rfl rfl rfl hg85) rfl ?_
          refine hl_val rfl rfl (v := (.bool false)) (hv_pick_f rfl hg85 rfl) ?_
          refine hl_nil ?_
          refine seqQ_n ?_
          obtain rfl := H
          exact ⟨rfl, (has_cons rfl (has_cons rfl (has_cons rfl (has_cons rfl (has_cons rfl (has_cons rfl has_nil))))))⟩
      · have H := Hy82; clear Hx81 Hy82
        rintro ρ _ ⟨rfl, hH⟩
        refine hx_has _ hH ?_
        refine hx_cond (b := j_2) rfl (fun hb89 => ?_) (fun hb89 => ?_)
        · replace H := H.1 hb89
          refine hx_seq ?_
          refine hx_region ?_
          obtain ⟨hw91, H⟩ := H
          refine hl_step rfl rfl (hn_store (v := (.bool false)) rfl rfl TyShK.sz4 rfl hw91 ?_)
          intro h26 eh90
          replace H := H h26 eh90
          refine hl_nil ?_
          refine seqQ_n ?_
          refine hx_ret ?_
          refine blockQ_ret ?_
          refine seqQ_ret ?_
          refine seqQ_ret ?_
          refine blockQ_ret ?_
          refine seqQ_ret ?_
          obtain ⟨res_1, hc92, H⟩ := H
          exact endQM_ret _ (fun h' hs => ⟨res_one Try.results42 (rv_cell1 TyShK.agg4 rfl (shut_cell hs hc92)), H h' hs⟩)
        · replace H := H.2 hb89
          refine hx_skip ?_
          refine blockQ_n ?_
          refine seqQ_n ?_
          refine hx_seq ?_
          refine hx_seq ?_
          refine hx_region ?_
          obtain ⟨x_11, hc93, H⟩ := H
          refine hl_val rfl rfl (v := (.int .i64 x_11)) (hv_load TyShK.agg3 rfl hc93) ?_
          refine hl_nil ?_
          refine seqQ_n ?_
          refine hx_region ?_
          refine hl_step rfl rfl (hn_alloc TyShK.z3 ?_)
          intro round_1 h28 eb94 eh95
          replace H := H round_1 h28 eb94 eh95
          have xx96 : Ext h12 h28 := by rw [eh95]; exact Ext.push _ _
          obtain ⟨hw98, H⟩ := H
          refine hl_step rfl rfl (hn_store (v := (.int .i64 x_11)) rfl rfl TyShK.sz3 rfl hw98 ?_)
          intro h29 eh97
          replace H := H h29 eh97
          refine hl_nil ?_
          refine seqQ_n ?_
          refine hx_region ?_
          obtain ⟨x_12, hc99, H⟩ := H
          refine hl_val rfl rfl (v := (.int .i64 x_12)) (hv_load TyShK.agg3 rfl hc99) ?_
          refine hl_val rfl rfl (v := (.int .i64 (IntKind.i64.wrap (x_12 + 1)))) (hv_arith rfl rfl rfl) ?_
          obtain ⟨hw101, H⟩ := H
          refine hl_step rfl rfl (hn_store (v := (.int .i64 (IntKind.i64.wrap (x_12 + 1)))) rfl rfl TyShK.sz3 rfl hw101 ?_)
          intro h30 eh100
          replace H := H h30 eh100
          refine hl_nil ?_
          refine seqQ_n ?_
          exact ⟨(round_1, 0), ⟨⟨H.1, trivial⟩, H.2⟩, (has_cons rfl (has_cons rfl (has_cons rfl (has_cons rfl (has_cons rfl has_nil)))))⟩
  · replace H := H.2 hb23
    refine hx_exit ?_
    refine seqQ_exit ?_
    refine seqQ_exit ?_
    refine blockQ_here ?_
    refine seqQ_n ?_
    refine hx_seq ?_
    refine hx_region ?_
    obtain ⟨hw103, H⟩ := H
    refine hl_step rfl rfl (hn_store (v := (.bool true)) rfl rfl TyShK.sz4 rfl hw103 ?_)
    intro h31 eh102
    replace H := H h31 eh102
    refine hl_nil ?_
    refine seqQ_n ?_
    refine hx_ret ?_
    obtain ⟨res, hc104, H⟩ := H
    exact endQM_ret _ (fun h' hs => ⟨res_one Try.results42 (rv_cell1 TyShK.agg4 rfl (shut_cell hs hc104)), H h' hs⟩)

/-- cellar/cellarlaw12.same -/
theorem f14_sh (x_b : Nat) (x_o : Nat) (r_b : Nat) (r_o : Nat) (h : Heap) (R : Value → Heap → Prop)
    (H : (∃ (I1 : Int → Heap → Prop) (mu2 : Int → Heap → Nat), I1 (-1) h ∧ (∀ (sv : Int) (h1 : Heap), I1 sv h1 → (∃ x : Option Addr, ∃ x_n x_c : Nat, hcell h1 r_b (r_o + 1) = some (.slice x x_n x_c) ∧ (((decide (sv ≤ (x_n : Int))) = true → (∃ A10 : Bool → Heap → Prop, HC Try.prog 42 #[(ptr x_b x_o), (ptr r_b r_o), (.int .i64 sv), (.int .i64 1)] h1 (fun vv h3 => ∃ r : Bool, vv = (.bool r) ∧ (((!r) = true → (A10 true h3)) ∧ ((!r) = false → (∃ r_1 : Int, HC Try.prog 23 #[(ptr x_b x_o), (.int .i64 sv)] h3 (fun vv h' => vv = (.int .i64 r_1) ∧ h' = h3) ∧ (∃ r_2 : Int, HC Try.prog 43 #[(ptr r_b r_o), (.int .i64 sv)] h3 (fun vv h' => vv = (.int .i64 r_2) ∧ h' = h3) ∧ (A10 (r_1 != r_2) h3)))))) ∧ (∀ (j : Bool) (h2 : Heap), A10 j h2 → ((j = true → R (.bool false) h2) ∧ (j = false → (I1 (IntKind.i64.wrap (sv + 1)) h2 ∧ mu2 (IntKind.i64.wrap (sv + 1)) h2 < mu2 sv h1)))))) ∧ ((decide (sv ≤ (x_n : Int))) = false → R (.bool true) h1)))))) :
    HC Try.prog 14 #[(ptr x_b x_o), (ptr r_b r_o)] h R := by
  refine hc_of (args := [(ptr x_b x_o), (ptr r_b r_o)]) Try.func14 rfl Try.ntmps14 (Nat.le_of_ble_eq_true rfl) ?_
  refine hx_seq ?_
  refine hx_region ?_
  refine hl_val rfl rfl (v := (.bool false)) (hv_assign rfl) ?_
  refine hl_nil ?_
  refine seqQ_n ?_
  refine hx_seq ?_
  refine hx_seq ?_
  refine hx_region ?_
  refine hl_val rfl rfl (v := (.int .i64 (-1))) (hv_assign rfl) ?_
  refine hl_nil ?_
  refine seqQ_n ?_
  refine hx_block ?_
  obtain ⟨I1, mu2, Ha3, Hr4⟩ := H
  refine hx_loopT (σ := Int) (fun s => [(0, (ptr x_b x_o)), (1, (ptr r_b r_o)), (5, (.int .i64 s))]) (fun s h' => I1 s h' ∧ True) (fun s h' => mu2 s h') (-1) ⟨Ha3, trivial⟩ (has_cons rfl (has_cons rfl (has_cons rfl has_nil))) ?_
  rintro sv ρ h1 ⟨Hi5, -⟩
  have H := Hr4 sv h1 Hi5
  refine hx_seq ?_
  refine hx_seq ?_
  refine hx_region ?_
  refine hl_val rfl rfl (v := (.int .i64 sv)) (hv_move rfl) ?_
  refine hl_val rfl rfl (v := (ptr r_b r_o)) (hv_move rfl) ?_
  refine hl_val rfl rfl (v := (ptr r_b r_o)) (hv_nil rfl) ?_
  refine hl_val rfl rfl (v := (ptr r_b (r_o + 1))) (hv_field TyShK.fld80_1 (b := r_b) (o := r_o) rfl) ?_
  obtain ⟨x, x_n, x_c, hc6, H⟩ := H
  refine hl_val rfl rfl (v := (.slice x x_n x_c)) (hv_load TyShK.agg78 rfl hc6) ?_
  refine hl_val rfl rfl (v := (.int .i64 (x_n : Int))) (hv_len (n := x_n) TyShK.u78 rfl) ?_
  refine hl_val rfl rfl (v := (.bool (decide (sv ≤ (x_n : Int))))) (hv_arith rfl rfl rfl) ?_
  refine hl_nil ?_
  refine seqQ_n ?_
  refine hx_cond (b := decide (sv ≤ (x_n : Int))) rfl (fun hb7 => ?_) (fun hb7 => ?_)
  · replace H := H.1 hb7
    refine hx_skip ?_
    refine seqQ_n ?_
    refine hx_seq ?_
    refine hx_block ?_
    obtain ⟨A10, Hx8, Hy9⟩ := H
    refine hx_cut (fun ρ h' => ∃ j : Bool, (A10 j h' ∧ True) ∧ Has ρ [(0, (ptr x_b x_o)), (1, (ptr r_b r_o)), (5, (.int .i64 sv)), (28, (.bool j))]) ?_ ?_
    · have H := Hx8; clear Hx8 Hy9
      refine hx_region ?_
      refine hl_val rfl rfl (v := (ptr x_b x_o)) (hv_move rfl) ?_
      refine hl_val rfl rfl (v := (ptr r_b r_o)) (hv_move rfl) ?_
      refine hl_val rfl rfl (v := (.int .i64 sv)) (hv_move rfl) ?_
      refine hl_step rfl rfl (hs_call TyShK.cb42 (vs := [(ptr x_b x_o), (ptr r_b r_o), (.int .i64 sv), (.int .i64 1)]) rfl (HC.mono H ?_))
      rintro _ h3 ⟨r, rfl, H⟩
      refine hl_val rfl rfl (v := (.bool (!r))) (hv_not (b := r) rfl) ?_
      refine hl_val rfl rfl (v := (.bool (!r))) (hv_move rfl) ?_
      rcases bool_or (!r) with hg12 | hg12
      · replace H := H.1 hg12
        refine hl_no (wanted_n rfl rfl rfl hg12) rfl ?_
        refine hl_no (wanted_n rfl rfl rfl hg12) rfl ?_
        refine hl_no (wanted_n rfl rfl rfl hg12) rfl ?_
        refine hl_no (wanted_n rfl rfl rfl hg12) rfl ?_
        refine hl_no (wanted_n rfl rfl rfl hg12) rfl ?_
        refine hl_no (wanted_n rfl rfl rfl hg12) rfl ?_
        refine hl_no (wanted_n rfl rfl rfl hg12) rfl ?_
        refine hl_val rfl rfl (v := (.bool true)) (hv_pick_t rfl hg12 rfl) ?_
        refine hl_nil ?_
        refine seqQ_n ?_
        exact ⟨_, ⟨H, trivial⟩, (has_cons rfl (has_cons rfl (has_cons rfl (has_cons rfl has_nil))))⟩
      · replace H := H.2 hg12
        refine hl_yes (wanted_y rfl rfl rfl hg12) rfl (HStep.of_val (v := (ptr x_b x_o)) (hv_move rfl) ?_)
        refine hl_yes (wanted_y rfl rfl rfl hg12) rfl (HStep.of_val (v := (.int .i64 sv)) (hv_move rfl) ?_)
        obtain ⟨r_1, hr13, H⟩ := H
        refine hl_yes (wanted_y rfl rfl rfl hg12) rfl (HStep.of_val (v := (.int .i64 r_1)) (hv_call TyShK.cb23 (vs := [(ptr x_b x_o), (.int .i64 sv)]) rfl hr13) ?_)
        refine hl_yes (wanted_y rfl rfl rfl hg12) rfl (HStep.of_val (v := (ptr r_b r_o)) (hv_move rfl) ?_)
        refine hl_yes (wanted_y rfl rfl rfl hg12) rfl (HStep.of_val (v := (.int .i64 sv)) (hv_move rfl) ?_)
        obtain ⟨r_2, hr14, H⟩ := H
        refine hl_yes (wanted_y rfl rfl rfl hg12) rfl (HStep.of_val (v := (.int .i64 r_2)) (hv_call TyShK.cb43 (vs := [(ptr r_b r_o), (.int .i64 sv)]) rfl hr14) ?_)
        refine hl_yes (wanted_y rfl rfl rfl hg12) rfl (HStep.of_val (v := (.bool (r_1 != r_2))) (hv_arith rfl rfl rfl) ?_)
        refine hl_val rfl rfl (v := (.bool (r_1 != r_2))) (hv_pick_f rfl hg12 rfl) ?_
        refine hl_nil ?_
        refine seqQ_n ?_
        exact ⟨_, ⟨H, trivial⟩, (has_cons rfl (has_cons rfl (has_cons rfl (has_cons rfl has_nil))))⟩
    · rintro ρ h2 ⟨j, ⟨HA11, -⟩, hH⟩
      have H := Hy9 j h2 HA11; clear Hx8 Hy9
      refine hx_has _ hH ?_
      refine hx_cond (b := j) rfl (fun hb15 => ?_) (fun hb15 => ?_)
      · replace H := H.1 hb15
        refine hx_seq ?_
        refine hx_region ?_
        refine hl_val rfl rfl (v := (.bool false)) (hv_assign rfl) ?_
        refine hl_nil ?_
        refine seqQ_n ?_
        refine hx_ret ?_
        refine blockQ_ret ?_
        refine seqQ_ret ?_
        refine seqQ_ret ?_
        refine blockQ_ret ?_
        refine seqQ_ret ?_
        exact endQ_ret _ (res_one Try.results14 (rv_tmp rfl)) H
      · replace H := H.2 hb15
        refine hx_skip ?_
        refine blockQ_n ?_
        refine seqQ_n ?_
        refine hx_region ?_
        refine hl_val rfl rfl (v := (.int .i64 sv)) (hv_move rfl) ?_
        refine hl_val rfl rfl (v := (.int .i64 (IntKind.i64.wrap (sv + 1)))) (hv_arith rfl rfl rfl) ?_
        refine hl_val rfl rfl (v := (.int .i64 (IntKind.i64.wrap (sv + 1)))) (hv_assign rfl) ?_
        refine hl_nil ?_
        refine seqQ_n ?_
        exact ⟨IntKind.i64.wrap (sv + 1), ⟨⟨H.1, trivial⟩, H.2⟩, (has_cons rfl (has_cons rfl (has_cons rfl has_nil)))⟩
  · replace H := H.2 hb7
    refine hx_exit ?_
    refine seqQ_exit ?_
    refine seqQ_exit ?_
    refine blockQ_here ?_
    refine seqQ_n ?_
    refine hx_seq ?_
    refine hx_region ?_
    refine hl_val rfl rfl (v := (.bool true)) (hv_assign rfl) ?_
    refine hl_nil ?_
    refine seqQ_n ?_
    refine hx_ret ?_
    exact endQ_ret _ (res_one Try.results14 (rv_tmp rfl)) H

/-- cellar/cellarlaw12.does -/
theorem f13_sh (x_b : Nat) (x_o : Nat) (r_b : Nat) (r_o : Nat) (o_Kind : Int) (o_Entry_Hash : Int) (o_Entry_At : Int) (o_Entry_Version : Int) (o_Entry_Hits : Int) (o_At : Int) (o_N : Int) (o_M : Int) (h : Heap) (R : Value → Heap → Prop)
    (H : (((o_Kind == 0) = true → (∀ (o : Nat) (h1 : Heap), Array.size h ≤ o → o < Array.size h1 → Ext h h1 → HC Try.prog 29 #[(ptr x_b x_o), (.agg #[(.int .u64 o_Entry_Hash), (.int .u64 o_Entry_At), (.int .u64 o_Entry_Version), (.int .u8 o_Entry_Hits)])] h1 (fun vv h2 => Kp [o] h1 h2 ∧ ∃ r0_Hash r0_At r0_Version r0_Hits : Int, ∃ r1 : Bool, ∃ r2 : Int, vv = (.tuple #[(.agg #[(.int .u64 r0_Hash), (.int .u64 r0_At), (.int .u64 r0_Version), (.int .u8 r0_Hits)]), (.bool r1), (.int .i64 r2)]) ∧ (∀ (a : Nat) (h4 : Heap), Array.size h2 ≤ a → a < Array.size h4 → Ext h2 h4 → HC Try.prog 34 #[(ptr r_b r_o), (.agg #[(.int .u64 o_Entry_Hash), (.int .u64 o_Entry_At), (.int .u64 o_Entry_Version), (.int .u8 o_Entry_Hits)])] h4 (fun vv h5 => Kp [o, a] h4 h5 ∧ ∃ r0_Hash_1 r0_At_1 r0_Version_1 r0_Hits_1 : Int, ∃ r1_1 : Bool, ∃ r2_1 : Int, vv = (.tuple #[(.agg #[(.int .u64 r0_Hash_1), (.int .u64 r0_At_1), (.int .u64 r0_Version_1), (.int .u8 r0_Hits_1)]), (.bool r1_1), (.int .i64 r2_1)]) ∧ (∀ (h7 : Heap), Ext h5 h7 → R (.bool (((r0_Hash == r0_Hash_1 && (r0_At == r0_At_1 && (r0_Version == r0_Version_1 && (r0_Hits == r0_Hits_1 && true))))) && ((r1 == r1_1) && (r2 == r2_1)))) h7)))))) ∧ ((o_Kind == 0) = false → (((o_Kind == 1) = true → (∀ (o : Nat) (h1 : Heap), Array.size h ≤ o → o < Array.size h1 → Ext h h1 → HC Try.prog 11 #[(ptr x_b x_o), (.int .u64 o_Entry_Hash)] h1 (fun vv h8 => Kp [o] h1 h8 ∧ ∃ r0_Hash r0_At r0_Version r0_Hits : Int, ∃ r1 : Bool, vv = (.tuple #[(.agg #[(.int .u64 r0_Hash), (.int .u64 r0_At), (.int .u64 r0_Version), (.int .u8 r0_Hits)]), (.bool r1)]) ∧ (∀ (a : Nat) (h10 : Heap), Array.size h8 ≤ a → a < Array.size h10 → Ext h8 h10 → HC Try.prog 35 #[(ptr r_b r_o), (.int .u64 o_Entry_Hash)] h10 (fun vv h11 => Kp [o, a] h10 h11 ∧ ∃ r0_Hash_1 r0_At_1 r0_Version_1 r0_Hits_1 : Int, ∃ r1_1 : Bool, vv = (.tuple #[(.agg #[(.int .u64 r0_Hash_1), (.int .u64 r0_At_1), (.int .u64 r0_Version_1), (.int .u8 r0_Hits_1)]), (.bool r1_1)]) ∧ (∃ j : Bool, ((((r0_Hash == r0_Hash_1 && (r0_At == r0_At_1 && (r0_Version == r0_Version_1 && (r0_Hits == r0_Hits_1 && true))))) = true → (((r1 == r1_1) = true → (∀ (h13 : Heap), Ext h11 h13 → (∃ r : Int, (∀ h15, Ext h13 h15 → HC Try.prog 24 #[(ptr x_b x_o), (.int .u64 o_Entry_Hash)] h15 (fun vv h' => vv = (.int .i64 r) ∧ h' = h15)) ∧ (∃ r_1 : Int, (∀ h14, Ext h13 h14 → HC Try.prog 36 #[(ptr r_b r_o), (.int .u64 o_Entry_Hash)] h14 (fun vv h' => vv = (.int .i64 r_1) ∧ h' = h14)) ∧ (j = (r == r_1)))))) ∧ ((r1 == r1_1) = false → (j = false)))) ∧ (((r0_Hash == r0_Hash_1 && (r0_At == r0_At_1 && (r0_Version == r0_Version_1 && (r0_Hits == r0_Hits_1 && true))))) = false → (j = false))) ∧ (∀ (h13 : Heap), Ext h11 h13 → R (.bool j) h13))))))) ∧ ((o_Kind == 1) = false → (((o_Kind == 2) = true → (∀ (o : Nat) (h1 : Heap), Array.size h ≤ o → o < Array.size h1 → Ext h h1 → HC Try.prog 30 #[(ptr x_b x_o), (.int .u64 o_Entry_Hash)] h1 (fun vv h16 => Kp [o] h1 h16 ∧ ∃ r0_Hash r0_At r0_Version r0_Hits : Int, ∃ r1 : Bool, vv = (.tuple #[(.agg #[(.int .u64 r0_Hash), (.int .u64 r0_At), (.int .u64 r0_Version), (.int .u8 r0_Hits)]), (.bool r1)]) ∧ (∀ (a : Nat) (h18 : Heap), Array.size h16 ≤ a → a < Array.size h18 → Ext h16 h18 → HC Try.prog 37 #[(ptr r_b r_o), (.int .u64 o_Entry_Hash)] h18 (fun vv h19 => Kp [o, a] h18 h19 ∧ ∃ r0_Hash_1 r0_At_1 r0_Version_1 r0_Hits_1 : Int, ∃ r1_1 : Bool, vv = (.tuple #[(.agg #[(.int .u64 r0_Hash_1), (.int .u64 r0_At_1), (.int .u64 r0_Version_1), (.int .u8 r0_Hits_1)]), (.bool r1_1)]) ∧ (∀ (h21 : Heap), Ext h19 h21 → R (.bool (((r0_Hash == r0_Hash_1 && (r0_At == r0_At_1 && (r0_Version == r0_Version_1 && (r0_Hits == r0_Hits_1 && true))))) && (r1 == r1_1))) h21)))))) ∧ ((o_Kind == 2) = false → (((o_Kind == 3) = true → (∃ T80 : Heap → Heap → Prop, Fit T80 ∧ (∀ (o : Nat) (h1 : Heap), Array.size h ≤ o → o < Array.size h1 → Ext h h1 → ((∀ hx, T80 h1 hx → Kp [o] h1 hx) ∧ ((∀ hx, T80 h1 hx → Kp [o] h1 hx) ∧ HC Try.prog 31 #[(ptr x_b x_o), (.int .u64 o_Entry_Hash), (.int .u64 o_At)] h1 (fun vv h26 => T80 h1 h26 ∧ Kp [o] h1 h26 ∧ ∃ r_4 : Bool, vv = (.bool r_4) ∧ HC Try.prog 38 #[(ptr r_b r_o), (.int .u64 o_Entry_Hash), (.int .u64 o_At)] h26 (fun vv h27 => Kp [o] h26 h27 ∧ ∃ r_5 : Bool, vv = (.bool r_5) ∧ R (.bool (r_4 == r_5)) h27))))))) ∧ ((o_Kind == 3) = false → (((o_Kind == 4) = true → (∃ T97 : Heap → Heap → Prop, Fit T97 ∧ (∀ (o : Nat) (h1 : Heap), Array.size h ≤ o → o < Array.size h1 → Ext h h1 → ((∀ hx, T97 h1 hx → Kp [o] h1 hx) ∧ ((∀ hx, T97 h1 hx → Kp [o] h1 hx) ∧ ((∀ hx, T97 h1 hx → Kp [o] h1 hx) ∧ HC Try.prog 32 #[(ptr x_b x_o), (.int .u64 o_Entry_Hash), (.int .u64 o_At), (.int .u64 o_Entry_At)] h1 (fun vv h34 => T97 h1 h34 ∧ Kp [o] h1 h34 ∧ ∃ r_6 : Bool, vv = (.bool r_6) ∧ HC Try.prog 39 #[(ptr r_b r_o), (.int .u64 o_Entry_Hash), (.int .u64 o_At), (.int .u64 o_Entry_At)] h34 (fun vv h35 => Kp [o] h34 h35 ∧ ∃ r_7 : Bool, vv = (.bool r_7) ∧ R (.bool (r_6 == r_7)) h35)))))))) ∧ ((o_Kind == 4) = false → (((o_Kind == 5) = true → (∃ T121 : Heap → Heap → Prop, Fit T121 ∧ (∀ (o : Nat) (h1 : Heap), Array.size h ≤ o → o < Array.size h1 → Ext h h1 → ((∀ hx, T121 h1 hx → Kp [o] h1 hx) ∧ HC Try.prog 33 #[(ptr x_b x_o), (.int .u64 o_Entry_Hash)] h1 (fun vv h38 => T121 h1 h38 ∧ Kp [o] h1 h38 ∧ ∃ r_2 : Bool, vv = (.bool r_2) ∧ HC Try.prog 40 #[(ptr r_b r_o), (.int .u64 o_Entry_Hash)] h38 (fun vv h39 => Kp [o] h38 h39 ∧ ∃ r_3 : Bool, vv = (.bool r_3) ∧ R (.bool (r_2 == r_3)) h39)))))) ∧ ((o_Kind == 5) = false → (((o_Kind == 6) = true → (∃ T132 : Heap → Heap → Prop, Fit T132 ∧ (∀ (o : Nat) (h1 : Heap), Array.size h ≤ o → o < Array.size h1 → Ext h h1 → ((∀ hx, T132 h1 hx → Kp [o] h1 hx) ∧ ((∀ hx, T132 h1 hx → Kp [o] h1 hx) ∧ HC Try.prog 19 #[(ptr x_b x_o), (.int .i64 o_N), (.int .i64 o_M)] h1 (fun vv h44 => T132 h1 h44 ∧ Kp [o] h1 h44 ∧ ∃ r_4 : Int, vv = (.int .i64 r_4) ∧ HC Try.prog 41 #[(ptr r_b r_o), (.int .i64 o_N), (.int .i64 o_M)] h44 (fun vv h45 => Kp [o] h44 h45 ∧ ∃ r_5 : Int, vv = (.int .i64 r_5) ∧ R (.bool (r_4 == r_5)) h45))))))) ∧ ((o_Kind == 6) = false → (((o_Kind == 7) = true → (∀ (o : Nat) (h1 : Heap), Array.size h ≤ o → o < Array.size h1 → Ext h h1 → HC Try.prog 42 #[(ptr x_b x_o), (ptr r_b r_o), (.int .i64 o_N), (.int .i64 o_M)] h1 (fun vv h46 => Kp [o] h1 h46 ∧ ∃ r : Bool, vv = (.bool r) ∧ R (.bool r) h46))) ∧ ((o_Kind == 7) = false → (((o_Kind == 8) = true → (∃ j : Bool, (∀ (o : Nat) (h1 : Heap), Array.size h ≤ o → o < Array.size h1 → Ext h h1 → (∃ r : Int, (∀ h49, Ext h1 h49 → HC Try.prog 23 #[(ptr x_b x_o), (.int .i64 o_N)] h49 (fun vv h' => vv = (.int .i64 r) ∧ h' = h49)) ∧ (∃ r_1 : Int, (∀ h48, Ext h1 h48 → HC Try.prog 43 #[(ptr r_b r_o), (.int .i64 o_N)] h48 (fun vv h' => vv = (.int .i64 r_1) ∧ h' = h48)) ∧ (((r == r_1) = true → (∃ r_2 : Int, (∀ h47, Ext h1 h47 → HC Try.prog 17 #[(ptr x_b x_o)] h47 (fun vv h' => vv = (.int .i64 r_2) ∧ h' = h47)) ∧ (∃ x : Option Addr, ∃ x_n x_c : Nat, hcell h1 r_b (r_o + 1) = some (.slice x x_n x_c) ∧ (j = (r_2 == (x_n : Int)))))) ∧ ((r == r_1) = false → (j = false)))))) ∧ (∀ (h1 : Heap), Ext h h1 → R (.bool j) h1))) ∧ ((o_Kind == 8) = false → (∀ (h1 : Heap), Ext h h1 → R (.bool true) h1)))))))))))))))))))) :
    HC Try.prog 13 #[(ptr x_b x_o), (ptr r_b r_o), (.agg #[(.int .i64 o_Kind), (.int .u64 o_Entry_Hash), (.int .u64 o_Entry_At), (.int .u64 o_Entry_Version), (.int .u8 o_Entry_Hits), (.int .u64 o_At), (.int .i64 o_N), (.int .i64 o_M)])] h R := by
  refine hc_of (args := [(ptr x_b x_o), (ptr r_b r_o), (.agg #[(.int .i64 o_Kind), (.int .u64 o_Entry_Hash), (.int .u64 o_Entry_At), (.int .u64 o_Entry_Version), (.int .u8 o_Entry_Hits), (.int .u64 o_At), (.int .i64 o_N), (.int .i64 o_M)])]) Try.func13 rfl Try.ntmps13 (Nat.le_of_ble_eq_true rfl) ?_
  refine hx_seq ?_
  refine hx_region ?_
  refine hl_step rfl rfl (hn_box (v := (.agg #[(.int .i64 o_Kind), (.int .u64 o_Entry_Hash), (.int .u64 o_Entry_At), (.int .u64 o_Entry_Version), (.int .u8 o_Entry_Hits), (.int .u64 o_At), (.int .i64 o_N), (.int .i64 o_M)])) rfl ?_)
  intro o h1 eb1 eh2
  have xx3 : Ext h h1 := by rw [eh2]; exact Ext.push _ _
  have lo5 : Array.size h ≤ o := Nat.le_of_eq (Eq.symm eb1)
  have hr4 : h1[o]? = some (.cells #[(.int .i64 o_Kind), (.int .u64 o_Entry_Hash), (.int .u64 o_Entry_At), (.int .u64 o_Entry_Version), (.int .u8 o_Entry_Hits), (.int .u64 o_At), (.int .i64 o_N), (.int .i64 o_M)] 33 (0, 0)) := by rw [eh2]; exact push_new eb1
  refine hl_val rfl rfl (v := (.bool false)) (hv_assign rfl) ?_
  refine hl_nil ?_
  refine seqQ_n ?_
  refine hx_seq ?_
  refine hx_seq ?_
  refine hx_region ?_
  refine hl_val rfl rfl (v := (ptr o 0)) (hv_field TyShK.fld33_0 (b := o) (o := 0) rfl) ?_
  refine hl_val rfl rfl (v := (.int .i64 o_Kind)) (hv_load TyShK.agg3 rfl (rowcell hr4 rfl)) ?_
  refine hl_nil ?_
  refine seqQ_n ?_
  refine hx_block ?_
  refine hx_seq ?_
  refine hx_region ?_
  refine hl_val rfl rfl (v := (.bool (o_Kind == 0))) (hv_arith rfl rfl rfl) ?_
  refine hl_val rfl rfl (v := (.bool (o_Kind == 0))) (hv_assign rfl) ?_
  refine hl_nil ?_
  refine seqQ_n ?_
  refine hx_cond (b := o_Kind == 0) rfl (fun hb6 => ?_) (fun hb6 => ?_)
  · replace H := H.1 hb6
    refine hx_seq ?_
    refine hx_region ?_
    refine hl_val rfl rfl (v := (ptr x_b x_o)) (hv_move rfl) ?_
    refine hl_val rfl rfl (v := (ptr o 1)) (hv_field TyShK.fld33_1 (b := o) (o := 0) rfl) ?_
    refine hl_val rfl rfl (v := (.agg #[(.int .u64 o_Entry_Hash), (.int .u64 o_Entry_At), (.int .u64 o_Entry_Version), (.int .u8 o_Entry_Hits)])) (hv_loads (vs := [(.int .u64 o_Entry_Hash), (.int .u64 o_Entry_At), (.int .u64 o_Entry_Version), (.int .u8 o_Entry_Hits)]) TyShK.agg31 TyShK.sz31 rfl (hcells_cons (rowcell hr4 rfl) (hcells_cons (rowcell hr4 rfl) (hcells_cons (rowcell hr4 rfl) (hcells_cons (rowcell hr4 rfl) hcells_nil))))) ?_
    replace H := H o h1 lo5 (row_lt hr4) xx3
    refine hl_step rfl rfl (hs_call TyShK.cb29 (vs := [(ptr x_b x_o), (.agg #[(.int .u64 o_Entry_Hash), (.int .u64 o_Entry_At), (.int .u64 o_Entry_Version), (.int .u8 o_Entry_Hits)])]) rfl (HC.mono H ?_))
    rintro _ h2 ⟨kp7, r0_Hash, r0_At, r0_Version, r0_Hits, r1, r2, rfl, H⟩
    replace hr4 := Kp.row kp7 (by simp) hr4
    refine hl_val rfl rfl (v := (.tuple #[(.agg #[(.int .u64 r0_Hash), (.int .u64 r0_At), (.int .u64 r0_Version), (.int .u8 r0_Hits)]), (.bool r1), (.int .i64 r2)])) (hv_move rfl) ?_
    refine hl_val rfl rfl (v := (.agg #[(.int .u64 r0_Hash), (.int .u64 r0_At), (.int .u64 r0_Version), (.int .u8 r0_Hits)])) (hv_extract (vs := #[(.agg #[(.int .u64 r0_Hash), (.int .u64 r0_At), (.int .u64 r0_Version), (.int .u8 r0_Hits)]), (.bool r1), (.int .i64 r2)]) rfl rfl) ?_
    refine hl_val rfl rfl (v := (.bool r1)) (hv_extract (vs := #[(.agg #[(.int .u64 r0_Hash), (.int .u64 r0_At), (.int .u64 r0_Version), (.int .u8 r0_Hits)]), (.bool r1), (.int .i64 r2)]) rfl rfl) ?_
    refine hl_val rfl rfl (v := (.int .i64 r2)) (hv_extract (vs := #[(.agg #[(.int .u64 r0_Hash), (.int .u64 r0_At), (.int .u64 r0_Version), (.int .u8 r0_Hits)]), (.bool r1), (.int .i64 r2)]) rfl rfl) ?_
    refine hl_step rfl rfl (hn_alloc TyShK.z31 ?_)
    intro a h3 eb8 eh9
    have xx10 : Ext h2 h3 := by rw [eh9]; exact Ext.push _ _
    have ne13 := Nat.ne_of_lt (Nat.lt_of_lt_of_eq (row_lt hr4) (Eq.symm eb8))
    have lo12 : Array.size h2 ≤ a := Nat.le_of_eq (Eq.symm eb8)
    have hr11 : h3[a]? = some (.cells #[(.int .u64 0), (.int .u64 0), (.int .u64 0), (.int .u8 0)] 31 (0, 0)) := by rw [eh9]; exact push_new eb8
    replace hr4 := Ext.row xx10 hr4
    refine hl_step rfl rfl (hn_stores (vs := [(.int .u64 r0_Hash), (.int .u64 r0_At), (.int .u64 r0_Version), (.int .u8 r0_Hits)]) rfl rfl TyShK.sz31 rfl (HWs_row hr11 (by simp)) ?_)
    intro h4 eh14
    replace hr4 := row_hsets_ne eh14 ne13 hr4
    have hr11' : h4[a]? = some (.cells #[(.int .u64 r0_Hash), (.int .u64 r0_At), (.int .u64 r0_Version), (.int .u8 r0_Hits)] 31 (0, 0)) := row_hsets_eq eh14 hr11 rfl
    have xv15 := ext_hsets eh14 xx10 lo12
    refine hl_val rfl rfl (v := (.bool r1)) (hv_assign rfl) ?_
    refine hl_val rfl rfl (v := (.int .i64 r2)) (hv_assign rfl) ?_
    refine hl_nil ?_
    refine seqQ_n ?_
    refine hx_seq ?_
    refine hx_region ?_
    refine hl_val rfl rfl (v := (ptr r_b r_o)) (hv_move rfl) ?_
    refine hl_val rfl rfl (v := (ptr o 1)) (hv_field TyShK.fld33_1 (b := o) (o := 0) rfl) ?_
    refine hl_val rfl rfl (v := (.agg #[(.int .u64 o_Entry_Hash), (.int .u64 o_Entry_At), (.int .u64 o_Entry_Version), (.int .u8 o_Entry_Hits)])) (hv_loads (vs := [(.int .u64 o_Entry_Hash), (.int .u64 o_Entry_At), (.int .u64 o_Entry_Version), (.int .u8 o_Entry_Hits)]) TyShK.agg31 TyShK.sz31 rfl (hcells_cons (rowcell hr4 rfl) (hcells_cons (rowcell hr4 rfl) (hcells_cons (rowcell hr4 rfl) (hcells_cons (rowcell hr4 rfl) hcells_nil))))) ?_
    replace H := H a h4 lo12 (row_lt hr11') xv15
    refine hl_step rfl rfl (hs_call TyShK.cb34 (vs := [(ptr r_b r_o), (.agg #[(.int .u64 o_Entry_Hash), (.int .u64 o_Entry_At), (.int .u64 o_Entry_Version), (.int .u8 o_Entry_Hits)])]) rfl (HC.mono H ?_))
    rintro _ h5 ⟨kp16, r0_Hash_1, r0_At_1, r0_Version_1, r0_Hits_1, r1_1, r2_1, rfl, H⟩
    replace hr4 := Kp.row kp16 (by simp) hr4
    replace hr11' := Kp.row kp16 (by simp) hr11'
    refine hl_val rfl rfl (v := (.tuple #[(.agg #[(.int .u64 r0_Hash_1), (.int .u64 r0_At_1), (.int .u64 r0_Version_1), (.int .u8 r0_Hits_1)]), (.bool r1_1), (.int .i64 r2_1)])) (hv_move rfl) ?_
    refine hl_val rfl rfl (v := (.agg #[(.int .u64 r0_Hash_1), (.int .u64 r0_At_1), (.int .u64 r0_Version_1), (.int .u8 r0_Hits_1)])) (hv_extract (vs := #[(.agg #[(.int .u64 r0_Hash_1), (.int .u64 r0_At_1), (.int .u64 r0_Version_1), (.int .u8 r0_Hits_1)]), (.bool r1_1), (.int .i64 r2_1)]) rfl rfl) ?_
    refine hl_val rfl rfl (v := (.bool r1_1)) (hv_extract (vs := #[(.agg #[(.int .u64 r0_Hash_1), (.int .u64 r0_At_1), (.int .u64 r0_Version_1), (.int .u8 r0_Hits_1)]), (.bool r1_1), (.int .i64 r2_1)]) rfl rfl) ?_
    refine hl_val rfl rfl (v := (.int .i64 r2_1)) (hv_extract (vs := #[(.agg #[(.int .u64 r0_Hash_1), (.int .u64 r0_At_1), (.int .u64 r0_Version_1), (.int .u8 r0_Hits_1)]), (.bool r1_1), (.int .i64 r2_1)]) rfl rfl) ?_
    refine hl_step rfl rfl (hn_alloc TyShK.z31 ?_)
    intro b h6 eb17 eh18
    have xx19 : Ext h5 h6 := by rw [eh18]; exact Ext.push _ _
    have ne22 := Nat.ne_of_lt (Nat.lt_of_lt_of_eq (row_lt hr4) (Eq.symm eb17))
    have ne23 := Nat.ne_of_lt (Nat.lt_of_lt_of_eq (row_lt hr11') (Eq.symm eb17))
    have lo21 : Array.size h5 ≤ b := Nat.le_of_eq (Eq.symm eb17)
    have hr20 : h6[b]? = some (.cells #[(.int .u64 0), (.int .u64 0), (.int .u64 0), (.int .u8 0)] 31 (0, 0)) := by rw [eh18]; exact push_new eb17
    replace hr4 := Ext.row xx19 hr4
    replace hr11' := Ext.row xx19 hr11'
    refine hl_step rfl rfl (hn_stores (vs := [(.int .u64 r0_Hash_1), (.int .u64 r0_At_1), (.int .u64 r0_Version_1), (.int .u8 r0_Hits_1)]) rfl rfl TyShK.sz31 rfl (HWs_row hr20 (by simp)) ?_)
    intro h7 eh24
    replace hr4 := row_hsets_ne eh24 ne22 hr4
    replace hr11' := row_hsets_ne eh24 ne23 hr11'
    have hr20' : h7[b]? = some (.cells #[(.int .u64 r0_Hash_1), (.int .u64 r0_At_1), (.int .u64 r0_Version_1), (.int .u8 r0_Hits_1)] 31 (0, 0)) := row_hsets_eq eh24 hr20 rfl
    have xv25 := ext_hsets eh24 xx19 lo21
    refine hl_val rfl rfl (v := (.bool r1_1)) (hv_assign rfl) ?_
    refine hl_val rfl rfl (v := (.int .i64 r2_1)) (hv_assign rfl) ?_
    refine hl_nil ?_
    refine seqQ_n ?_
    refine hx_cut (fun ρ h' => h7 = h' ∧ Has ρ [(6, (.bool (((r0_Hash == r0_Hash_1 && (r0_At == r0_At_1 && (r0_Version == r0_Version_1 && (r0_Hits == r0_Hits_1 && true))))) && ((r1 == r1_1) && (r2 == r2_1)))))]) ?_ ?_
    · refine hx_region ?_
      refine hl_val rfl rfl (v := (.agg #[(.int .u64 r0_Hash), (.int .u64 r0_At), (.int .u64 r0_Version), (.int .u8 r0_Hits)])) (hv_loads (vs := [(.int .u64 r0_Hash), (.int .u64 r0_At), (.int .u64 r0_Version), (.int .u8 r0_Hits)]) TyShK.agg31 TyShK.sz31 rfl (hcells_cons (rowcell hr11' rfl) (hcells_cons (rowcell hr11' rfl) (hcells_cons (rowcell hr11' rfl) (hcells_cons (rowcell hr11' rfl) hcells_nil))))) ?_
      refine hl_val rfl rfl (v := (.agg #[(.int .u64 r0_Hash_1), (.int .u64 r0_At_1), (.int .u64 r0_Version_1), (.int .u8 r0_Hits_1)])) (hv_loads (vs := [(.int .u64 r0_Hash_1), (.int .u64 r0_At_1), (.int .u64 r0_Version_1), (.int .u8 r0_Hits_1)]) TyShK.agg31 TyShK.sz31 rfl (hcells_cons (rowcell hr20' rfl) (hcells_cons (rowcell hr20' rfl) (hcells_cons (rowcell hr20' rfl) (hcells_cons (rowcell hr20' rfl) hcells_nil))))) ?_
      refine hl_val rfl rfl (v := (.bool ((r0_Hash == r0_Hash_1 && (r0_At == r0_At_1 && (r0_Version == r0_Version_1 && (r0_Hits == r0_Hits_1 && true))))))) (hv_structEq (xs := [(.int .u64 r0_Hash), (.int .u64 r0_At), (.int .u64 r0_Version), (.int .u8 r0_Hits)]) (ys := [(.int .u64 r0_Hash_1), (.int .u64 r0_At_1), (.int .u64 r0_Version_1), (.int .u8 r0_Hits_1)]) (b := (r0_Hash == r0_Hash_1 && (r0_At == r0_At_1 && (r0_Version == r0_Version_1 && (r0_Hits == r0_Hits_1 && true))))) TyShK.se31 rfl rfl (by kernel_rfl) rfl) ?_
      refine hl_val rfl rfl (v := (.bool ((r0_Hash == r0_Hash_1 && (r0_At == r0_At_1 && (r0_Version == r0_Version_1 && (r0_Hits == r0_Hits_1 && true))))))) (hv_move rfl) ?_
      rcases bool_or (((r0_Hash == r0_Hash_1 && (r0_At == r0_At_1 && (r0_Version == r0_Version_1 && (r0_Hits == r0_Hits_1 && true)))))) with hg28 | hg28
      · refine hl_yes (wanted_y rfl rfl rfl hg28) rfl (HStep.of_val (v := (.bool r1)) (hv_move rfl) ?_)
        refine hl_yes (wanted_y rfl rfl rfl hg28) rfl (HStep.of_val (v := (.bool r1_1)) (hv_move rfl) ?_)
        refine hl_yes (wanted_y rfl rfl rfl hg28) rfl (HStep.of_val (v := (.bool (r1 == r1_1))) (hv_eqBool TyShK.u4 rfl rfl rfl) ?_)
        refine hl_val rfl rfl (v := (.bool (r1 == r1_1))) (hv_pick_t rfl hg28 rfl) ?_
        refine hl_val rfl rfl (v := (.bool (r1 == r1_1))) (hv_move rfl) ?_
        rcases bool_or (r1 == r1_1) with hg29 | hg29
        · refine hl_yes (wanted_y rfl rfl rfl hg29) rfl (HStep.of_val (v := (.int .i64 r2)) (hv_move rfl) ?_)
          refine hl_yes (wanted_y rfl rfl rfl hg29) rfl (HStep.of_val (v := (.int .i64 r2_1)) (hv_move rfl) ?_)
          refine hl_yes (wanted_y rfl rfl rfl hg29) rfl (HStep.of_val (v := (.bool (r2 == r2_1))) (hv_arith rfl rfl rfl) ?_)
          refine hl_val rfl rfl (v := (.bool (r2 == r2_1))) (hv_pick_t rfl hg29 rfl) ?_
          refine hl_val rfl rfl (v := (.bool (r2 == r2_1))) (hv_assign rfl) ?_
          refine hl_nil ?_
          refine seqQ_n ?_
          exact ⟨rfl, (has_cons (show ((.bool (r2 == r2_1)) : Value) = (.bool (((r0_Hash == r0_Hash_1 && (r0_At == r0_At_1 && (r0_Version == r0_Version_1 && (r0_Hits == r0_Hits_1 && true))))) && ((r1 == r1_1) && (r2 == r2_1)))) from (by first | rfl | (try rw [hg28]; try rw [hg29]; all_goals first | rfl | (simp only [Bool.true_or, Bool.or_true, Bool.false_or, Bool.or_false, Bool.true_and, Bool.and_true, Bool.false_and, Bool.and_false, Bool.not_true, Bool.not_false, Bool.cond_true, Bool.cond_false]; done)) | simp [hg28, hg29])) has_nil)⟩
        · refine hl_no (wanted_n rfl rfl rfl hg29) rfl ?_
          refine hl_no (wanted_n rfl rfl rfl hg29) rfl ?_
          refine hl_no (wanted_n rfl rfl rfl hg29) rfl ?_
          refine hl_val rfl rfl (v := (.bool false)) (hv_pick_f rfl hg29 rfl) ?_
          refine hl_val rfl rfl (v := (.bool false)) (hv_assign rfl) ?_
          refine hl_nil ?_
          refine seqQ_n ?_
          exact ⟨rfl, (has_cons (show ((.bool false) : Value) = (.bool (((r0_Hash == r0_Hash_1 && (r0_At == r0_At_1 && (r0_Version == r0_Version_1 && (r0_Hits == r0_Hits_1 && true))))) && ((r1 == r1_1) && (r2 == r2_1)))) from (by first | rfl | (try rw [hg28]; try rw [hg29]; all_goals first | rfl | (simp only [Bool.true_or, Bool.or_true, Bool.false_or, Bool.or_false, Bool.true_and, Bool.and_true, Bool.false_and, Bool.and_false, Bool.not_true, Bool.not_false, Bool.cond_true, Bool.cond_false]; done)) | simp [hg28, hg29])) has_nil)⟩
      · refine hl_no (wanted_n rfl rfl rfl hg28) rfl ?_
        refine hl_no (wanted_n rfl rfl rfl hg28) rfl ?_
        refine hl_no (wanted_n rfl rfl rfl hg28) rfl ?_
        refine hl_val rfl rfl (v := (.bool false)) (hv_pick_f rfl hg28 rfl) ?_
        refine hl_val rfl rfl (v := (.bool false)) (hv_move rfl) ?_
        refine hl_no (wanted_n rfl rfl (c := false) rfl rfl) rfl ?_
        refine hl_no (wanted_n rfl rfl (c := false) rfl rfl) rfl ?_
        refine hl_no (wanted_n rfl rfl (c := false) rfl rfl) rfl ?_
        refine hl_val rfl rfl (v := (.bool false)) (hv_pick (t := false) rfl rfl) ?_
        refine hl_val rfl rfl (v := (.bool false)) (hv_assign rfl) ?_
        refine hl_nil ?_
        refine seqQ_n ?_
        exact ⟨rfl, (has_cons (show ((.bool false) : Value) = (.bool (((r0_Hash == r0_Hash_1 && (r0_At == r0_At_1 && (r0_Version == r0_Version_1 && (r0_Hits == r0_Hits_1 && true))))) && ((r1 == r1_1) && (r2 == r2_1)))) from (by first | rfl | (try rw [hg28]; all_goals first | rfl | (simp only [Bool.true_or, Bool.or_true, Bool.false_or, Bool.or_false, Bool.true_and, Bool.and_true, Bool.false_and, Bool.and_false, Bool.not_true, Bool.not_false, Bool.cond_true, Bool.cond_false]; done)) | simp [hg28])) has_nil)⟩
    · rintro ρ _ ⟨rfl, hH⟩
      refine hx_has _ hH ?_
      refine hx_ret ?_
      refine blockQ_ret ?_
      refine seqQ_ret ?_
      replace H := H h7 xv25
      exact endQ_ret _ (res_one Try.results13 (rv_tmp rfl)) H
  · replace H := H.2 hb6
    refine hx_seq ?_
    refine hx_region ?_
    refine hl_val rfl rfl (v := (.bool (o_Kind == 1))) (hv_arith rfl rfl rfl) ?_
    refine hl_val rfl rfl (v := (.bool (o_Kind == 1))) (hv_assign rfl) ?_
    refine hl_nil ?_
    refine seqQ_n ?_
    refine hx_cond (b := o_Kind == 1) rfl (fun hb30 => ?_) (fun hb30 => ?_)
    · replace H := H.1 hb30
      refine hx_seq ?_
      refine hx_region ?_
      refine hl_val rfl rfl (v := (ptr x_b x_o)) (hv_move rfl) ?_
      refine hl_val rfl rfl (v := (ptr o 1)) (hv_field TyShK.fld33_1 (b := o) (o := 0) rfl) ?_
      refine hl_val rfl rfl (v := (ptr o 1)) (hv_field TyShK.fld31_0 (b := o) (o := 1) rfl) ?_
      refine hl_val rfl rfl (v := (.int .u64 o_Entry_Hash)) (hv_load TyShK.agg29 rfl (rowcell hr4 rfl)) ?_
      replace H := H o h1 lo5 (row_lt hr4) xx3
      refine hl_step rfl rfl (hs_call TyShK.cb11 (vs := [(ptr x_b x_o), (.int .u64 o_Entry_Hash)]) rfl (HC.mono H ?_))
      rintro _ h8 ⟨kp31, r0_Hash, r0_At, r0_Version, r0_Hits, r1, rfl, H⟩
      replace hr4 := Kp.row kp31 (by simp) hr4
      refine hl_val rfl rfl (v := (.tuple #[(.agg #[(.int .u64 r0_Hash), (.int .u64 r0_At), (.int .u64 r0_Version), (.int .u8 r0_Hits)]), (.bool r1)])) (hv_move rfl) ?_
      refine hl_val rfl rfl (v := (.agg #[(.int .u64 r0_Hash), (.int .u64 r0_At), (.int .u64 r0_Version), (.int .u8 r0_Hits)])) (hv_extract (vs := #[(.agg #[(.int .u64 r0_Hash), (.int .u64 r0_At), (.int .u64 r0_Version), (.int .u8 r0_Hits)]), (.bool r1)]) rfl rfl) ?_
      refine hl_val rfl rfl (v := (.bool r1)) (hv_extract (vs := #[(.agg #[(.int .u64 r0_Hash), (.int .u64 r0_At), (.int .u64 r0_Version), (.int .u8 r0_Hits)]), (.bool r1)]) rfl rfl) ?_
      refine hl_step rfl rfl (hn_alloc TyShK.z31 ?_)
      intro a h9 eb32 eh33
      have xx34 : Ext h8 h9 := by rw [eh33]; exact Ext.push _ _
      have ne37 := Nat.ne_of_lt (Nat.lt_of_lt_of_eq (row_lt hr4) (Eq.symm eb32))
      have lo36 : Array.size h8 ≤ a := Nat.le_of_eq (Eq.symm eb32)
      have hr35 : h9[a]? = some (.cells #[(.int .u64 0), (.int .u64 0), (.int .u64 0), (.int .u8 0)] 31 (0, 0)) := by rw [eh33]; exact push_new eb32
      replace hr4 := Ext.row xx34 hr4
      refine hl_step rfl rfl (hn_stores (vs := [(.int .u64 r0_Hash), (.int .u64 r0_At), (.int .u64 r0_Version), (.int .u8 r0_Hits)]) rfl rfl TyShK.sz31 rfl (HWs_row hr35 (by simp)) ?_)
      intro h10 eh38
      replace hr4 := row_hsets_ne eh38 ne37 hr4
      have hr35' : h10[a]? = some (.cells #[(.int .u64 r0_Hash), (.int .u64 r0_At), (.int .u64 r0_Version), (.int .u8 r0_Hits)] 31 (0, 0)) := row_hsets_eq eh38 hr35 rfl
      have xv39 := ext_hsets eh38 xx34 lo36
      refine hl_val rfl rfl (v := (.bool r1)) (hv_assign rfl) ?_
      refine hl_nil ?_
      refine seqQ_n ?_
      refine hx_seq ?_
      refine hx_region ?_
      refine hl_val rfl rfl (v := (ptr r_b r_o)) (hv_move rfl) ?_
      refine hl_val rfl rfl (v := (ptr o 1)) (hv_field TyShK.fld33_1 (b := o) (o := 0) rfl) ?_
      refine hl_val rfl rfl (v := (ptr o 1)) (hv_field TyShK.fld31_0 (b := o) (o := 1) rfl) ?_
      refine hl_val rfl rfl (v := (.int .u64 o_Entry_Hash)) (hv_load TyShK.agg29 rfl (rowcell hr4 rfl)) ?_
      replace H := H a h10 lo36 (row_lt hr35') xv39
      refine hl_step rfl rfl (hs_call TyShK.cb35 (vs := [(ptr r_b r_o), (.int .u64 o_Entry_Hash)]) rfl (HC.mono H ?_))
      rintro _ h11 ⟨kp40, r0_Hash_1, r0_At_1, r0_Version_1, r0_Hits_1, r1_1, rfl, H⟩
      replace hr4 := Kp.row kp40 (by simp) hr4
      replace hr35' := Kp.row kp40 (by simp) hr35'
      refine hl_val rfl rfl (v := (.tuple #[(.agg #[(.int .u64 r0_Hash_1), (.int .u64 r0_At_1), (.int .u64 r0_Version_1), (.int .u8 r0_Hits_1)]), (.bool r1_1)])) (hv_move rfl) ?_
      refine hl_val rfl rfl (v := (.agg #[(.int .u64 r0_Hash_1), (.int .u64 r0_At_1), (.int .u64 r0_Version_1), (.int .u8 r0_Hits_1)])) (hv_extract (vs := #[(.agg #[(.int .u64 r0_Hash_1), (.int .u64 r0_At_1), (.int .u64 r0_Version_1), (.int .u8 r0_Hits_1)]), (.bool r1_1)]) rfl rfl) ?_
      refine hl_val rfl rfl (v := (.bool r1_1)) (hv_extract (vs := #[(.agg #[(.int .u64 r0_Hash_1), (.int .u64 r0_At_1), (.int .u64 r0_Version_1), (.int .u8 r0_Hits_1)]), (.bool r1_1)]) rfl rfl) ?_
      refine hl_step rfl rfl (hn_alloc TyShK.z31 ?_)
      intro b h12 eb41 eh42
      have xx43 : Ext h11 h12 := by rw [eh42]; exact Ext.push _ _
      have ne46 := Nat.ne_of_lt (Nat.lt_of_lt_of_eq (row_lt hr4) (Eq.symm eb41))
      have ne47 := Nat.ne_of_lt (Nat.lt_of_lt_of_eq (row_lt hr35') (Eq.symm eb41))
      have lo45 : Array.size h11 ≤ b := Nat.le_of_eq (Eq.symm eb41)
      have hr44 : h12[b]? = some (.cells #[(.int .u64 0), (.int .u64 0), (.int .u64 0), (.int .u8 0)] 31 (0, 0)) := by rw [eh42]; exact push_new eb41
      replace hr4 := Ext.row xx43 hr4
      replace hr35' := Ext.row xx43 hr35'
      refine hl_step rfl rfl (hn_stores (vs := [(.int .u64 r0_Hash_1), (.int .u64 r0_At_1), (.int .u64 r0_Version_1), (.int .u8 r0_Hits_1)]) rfl rfl TyShK.sz31 rfl (HWs_row hr44 (by simp)) ?_)
      intro h13 eh48
      replace hr4 := row_hsets_ne eh48 ne46 hr4
      replace hr35' := row_hsets_ne eh48 ne47 hr35'
      have hr44' : h13[b]? = some (.cells #[(.int .u64 r0_Hash_1), (.int .u64 r0_At_1), (.int .u64 r0_Version_1), (.int .u8 r0_Hits_1)] 31 (0, 0)) := row_hsets_eq eh48 hr44 rfl
      have xv49 := ext_hsets eh48 xx43 lo45
      refine hl_val rfl rfl (v := (.bool r1_1)) (hv_assign rfl) ?_
      refine hl_nil ?_
      refine seqQ_n ?_
      obtain ⟨j, Hx50, Hy51⟩ := H
      refine hx_cut (fun ρ h' => h13 = h' ∧ Has ρ [(6, (.bool j))]) ?_ ?_
      · have H := Hx50; clear Hx50 Hy51
        refine hx_draw TyShK.mixed [.read, .read, .pure, .pure, .pure, .pure, .pure, .pure, .pure, .pure, .pure, .pure, .read, .read, .pure, .pure, .pure, .read, .read, .pure, .pure, .pure] [0, 1, 2, 3, 4, 5, 6, 7, 8, 9, 10, 11, 12, 13, 14, 15, 16, 17, 18, 19, 20, 21] (by kernel_rfl) ?_
        refine hp_read (i := 0) rfl (wanted_0 rfl) rfl (.agg #[(.int .u64 r0_Hash), (.int .u64 r0_At), (.int .u64 r0_Version), (.int .u8 r0_Hits)]) (fun _ he => hv_loads (vs := [(.int .u64 r0_Hash), (.int .u64 r0_At), (.int .u64 r0_Version), (.int .u8 r0_Hits)]) TyShK.agg31 TyShK.sz31 rfl (hcells_cons (Ext.cell he (rowcell hr35' rfl)) (hcells_cons (Ext.cell he (rowcell hr35' rfl)) (hcells_cons (Ext.cell he (rowcell hr35' rfl)) (hcells_cons (Ext.cell he (rowcell hr35' rfl)) hcells_nil))))) ?_
        refine hp_read (i := 1) rfl (wanted_0 rfl) rfl (.agg #[(.int .u64 r0_Hash_1), (.int .u64 r0_At_1), (.int .u64 r0_Version_1), (.int .u8 r0_Hits_1)]) (fun _ he => hv_loads (vs := [(.int .u64 r0_Hash_1), (.int .u64 r0_At_1), (.int .u64 r0_Version_1), (.int .u8 r0_Hits_1)]) TyShK.agg31 TyShK.sz31 rfl (hcells_cons (Ext.cell he (rowcell hr44' rfl)) (hcells_cons (Ext.cell he (rowcell hr44' rfl)) (hcells_cons (Ext.cell he (rowcell hr44' rfl)) (hcells_cons (Ext.cell he (rowcell hr44' rfl)) hcells_nil))))) ?_
        refine hp_pure (i := 2) rfl (wanted_0 rfl) rfl (.bool ((r0_Hash == r0_Hash_1 && (r0_At == r0_At_1 && (r0_Version == r0_Version_1 && (r0_Hits == r0_Hits_1 && true)))))) (fun _ => hv_structEq (xs := [(.int .u64 r0_Hash), (.int .u64 r0_At), (.int .u64 r0_Version), (.int .u8 r0_Hits)]) (ys := [(.int .u64 r0_Hash_1), (.int .u64 r0_At_1), (.int .u64 r0_Version_1), (.int .u8 r0_Hits_1)]) (b := (r0_Hash == r0_Hash_1 && (r0_At == r0_At_1 && (r0_Version == r0_Version_1 && (r0_Hits == r0_Hits_1 && true))))) TyShK.se31 rfl rfl (by kernel_rfl) rfl) ?_
        refine hp_pure (i := 3) rfl (wanted_0 rfl) rfl (.bool ((r0_Hash == r0_Hash_1 && (r0_At == r0_At_1 && (r0_Version == r0_Version_1 && (r0_Hits == r0_Hits_1 && true)))))) (fun _ => hv_move rfl) ?_
        rcases bool_or (((r0_Hash == r0_Hash_1 && (r0_At == r0_At_1 && (r0_Version == r0_Version_1 && (r0_Hits == r0_Hits_1 && true)))))) with hg52 | hg52
        · replace H := H.1 hg52
          refine hp_pure (i := 4) rfl (wanted_y rfl rfl rfl hg52) rfl (.bool r1) (fun _ => hv_move rfl) ?_
          refine hp_pure (i := 5) rfl (wanted_y rfl rfl rfl hg52) rfl (.bool r1_1) (fun _ => hv_move rfl) ?_
          refine hp_pure (i := 6) rfl (wanted_y rfl rfl rfl hg52) rfl (.bool (r1 == r1_1)) (fun _ => hv_eqBool TyShK.u4 rfl rfl rfl) ?_
          refine hp_pure (i := 7) rfl (wanted_0 rfl) rfl (.bool (r1 == r1_1)) (fun _ => hv_pick_t rfl hg52 rfl) ?_
          refine hp_pure (i := 8) rfl (wanted_0 rfl) rfl (.bool (r1 == r1_1)) (fun _ => hv_move rfl) ?_
          rcases bool_or (r1 == r1_1) with hg53 | hg53
          · replace H := H.1 hg53
            refine hp_pure (i := 9) rfl (wanted_y rfl rfl rfl hg53) rfl (ptr x_b x_o) (fun _ => hv_move rfl) ?_
            refine hp_pure (i := 10) rfl (wanted_y rfl rfl rfl hg53) rfl (ptr o 1) (fun _ => hv_field TyShK.fld33_1 (b := o) (o := 0) rfl) ?_
            refine hp_pure (i := 11) rfl (wanted_y rfl rfl rfl hg53) rfl (ptr o 1) (fun _ => hv_field TyShK.fld31_0 (b := o) (o := 1) rfl) ?_
            refine hp_read (i := 12) rfl (wanted_y rfl rfl rfl hg53) rfl (.int .u64 o_Entry_Hash) (fun _ he => hv_load TyShK.agg29 rfl (Ext.cell he (rowcell hr4 rfl))) ?_
            replace H := H h13 xv49
            obtain ⟨r, hr54, H⟩ := H
            refine hp_read (i := 13) rfl (wanted_y rfl rfl rfl hg53) rfl (.int .i64 r) (fun _ he => hv_call TyShK.cb24 (vs := [(ptr x_b x_o), (.int .u64 o_Entry_Hash)]) rfl (hr54 _ he)) ?_
            refine hp_pure (i := 14) rfl (wanted_y rfl rfl rfl hg53) rfl (ptr r_b r_o) (fun _ => hv_move rfl) ?_
            refine hp_pure (i := 15) rfl (wanted_y rfl rfl rfl hg53) rfl (ptr o 1) (fun _ => hv_field TyShK.fld33_1 (b := o) (o := 0) rfl) ?_
            refine hp_pure (i := 16) rfl (wanted_y rfl rfl rfl hg53) rfl (ptr o 1) (fun _ => hv_field TyShK.fld31_0 (b := o) (o := 1) rfl) ?_
            refine hp_read (i := 17) rfl (wanted_y rfl rfl rfl hg53) rfl (.int .u64 o_Entry_Hash) (fun _ he => hv_load TyShK.agg29 rfl (Ext.cell he (rowcell hr4 rfl))) ?_
            obtain ⟨r_1, hr55, H⟩ := H
            refine hp_read (i := 18) rfl (wanted_y rfl rfl rfl hg53) rfl (.int .i64 r_1) (fun _ he => hv_call TyShK.cb36 (vs := [(ptr r_b r_o), (.int .u64 o_Entry_Hash)]) rfl (hr55 _ he)) ?_
            refine hp_pure (i := 19) rfl (wanted_y rfl rfl rfl hg53) rfl (.bool (r == r_1)) (fun _ => hv_arith rfl rfl rfl) ?_
            refine hp_pure (i := 20) rfl (wanted_0 rfl) rfl (.bool (r == r_1)) (fun _ => hv_pick_t rfl hg53 rfl) ?_
            refine hp_pure (i := 21) rfl (wanted_0 rfl) rfl (.bool (r == r_1)) (fun _ => hv_assign rfl) ?_
            refine hp_nil ?_
            refine seqQ_n ?_
            obtain rfl := H
            exact ⟨rfl, (has_cons rfl has_nil)⟩
          · replace H := H.2 hg53
            refine hp_no (i := 9) rfl (wanted_n rfl rfl rfl hg53) ?_
            refine hp_no (i := 10) rfl (wanted_n rfl rfl rfl hg53) ?_
            refine hp_no (i := 11) rfl (wanted_n rfl rfl rfl hg53) ?_
            refine hp_no (i := 12) rfl (wanted_n rfl rfl rfl hg53) ?_
            refine hp_no (i := 13) rfl (wanted_n rfl rfl rfl hg53) ?_
            refine hp_no (i := 14) rfl (wanted_n rfl rfl rfl hg53) ?_
            refine hp_no (i := 15) rfl (wanted_n rfl rfl rfl hg53) ?_
            refine hp_no (i := 16) rfl (wanted_n rfl rfl rfl hg53) ?_
            refine hp_no (i := 17) rfl (wanted_n rfl rfl rfl hg53) ?_
            refine hp_no (i := 18) rfl (wanted_n rfl rfl rfl hg53) ?_
            refine hp_no (i := 19) rfl (wanted_n rfl rfl rfl hg53) ?_
            refine hp_pure (i := 20) rfl (wanted_0 rfl) rfl (.bool false) (fun _ => hv_pick_f rfl hg53 rfl) ?_
            refine hp_pure (i := 21) rfl (wanted_0 rfl) rfl (.bool false) (fun _ => hv_assign rfl) ?_
            refine hp_nil ?_
            refine seqQ_n ?_
            obtain rfl := H
            exact ⟨rfl, (has_cons rfl has_nil)⟩
        · replace H := H.2 hg52
          refine hp_no (i := 4) rfl (wanted_n rfl rfl rfl hg52) ?_
          refine hp_no (i := 5) rfl (wanted_n rfl rfl rfl hg52) ?_
          refine hp_no (i := 6) rfl (wanted_n rfl rfl rfl hg52) ?_
          refine hp_pure (i := 7) rfl (wanted_0 rfl) rfl (.bool false) (fun _ => hv_pick_f rfl hg52 rfl) ?_
          refine hp_pure (i := 8) rfl (wanted_0 rfl) rfl (.bool false) (fun _ => hv_move rfl) ?_
          refine hp_no (i := 9) rfl (wanted_n rfl rfl (c := false) rfl rfl) ?_
          refine hp_no (i := 10) rfl (wanted_n rfl rfl (c := false) rfl rfl) ?_
          refine hp_no (i := 11) rfl (wanted_n rfl rfl (c := false) rfl rfl) ?_
          refine hp_no (i := 12) rfl (wanted_n rfl rfl (c := false) rfl rfl) ?_
          refine hp_no (i := 13) rfl (wanted_n rfl rfl (c := false) rfl rfl) ?_
          refine hp_no (i := 14) rfl (wanted_n rfl rfl (c := false) rfl rfl) ?_
          refine hp_no (i := 15) rfl (wanted_n rfl rfl (c := false) rfl rfl) ?_
          refine hp_no (i := 16) rfl (wanted_n rfl rfl (c := false) rfl rfl) ?_
          refine hp_no (i := 17) rfl (wanted_n rfl rfl (c := false) rfl rfl) ?_
          refine hp_no (i := 18) rfl (wanted_n rfl rfl (c := false) rfl rfl) ?_
          refine hp_no (i := 19) rfl (wanted_n rfl rfl (c := false) rfl rfl) ?_
          refine hp_pure (i := 20) rfl (wanted_0 rfl) rfl (.bool false) (fun _ => hv_pick (t := false) rfl rfl) ?_
          refine hp_pure (i := 21) rfl (wanted_0 rfl) rfl (.bool false) (fun _ => hv_assign rfl) ?_
          refine hp_nil ?_
          refine seqQ_n ?_
          obtain rfl := H
          exact ⟨rfl, (has_cons rfl has_nil)⟩
      · have H := Hy51; clear Hx50 Hy51
        rintro ρ _ ⟨rfl, hH⟩
        refine hx_has _ hH ?_
        refine hx_ret ?_
        refine blockQ_ret ?_
        refine seqQ_ret ?_
        replace H := H h13 xv49
        exact endQ_ret _ (res_one Try.results13 (rv_tmp rfl)) H
    · replace H := H.2 hb30
      refine hx_seq ?_
      refine hx_region ?_
      refine hl_val rfl rfl (v := (.bool (o_Kind == 2))) (hv_arith rfl rfl rfl) ?_
      refine hl_val rfl rfl (v := (.bool (o_Kind == 2))) (hv_assign rfl) ?_
      refine hl_nil ?_
      refine seqQ_n ?_
      refine hx_cond (b := o_Kind == 2) rfl (fun hb56 => ?_) (fun hb56 => ?_)
      · replace H := H.1 hb56
        refine hx_seq ?_
        refine hx_region ?_
        refine hl_val rfl rfl (v := (ptr x_b x_o)) (hv_move rfl) ?_
        refine hl_val rfl rfl (v := (ptr o 1)) (hv_field TyShK.fld33_1 (b := o) (o := 0) rfl) ?_
        refine hl_val rfl rfl (v := (ptr o 1)) (hv_field TyShK.fld31_0 (b := o) (o := 1) rfl) ?_
        refine hl_val rfl rfl (v := (.int .u64 o_Entry_Hash)) (hv_load TyShK.agg29 rfl (rowcell hr4 rfl)) ?_
        replace H := H o h1 lo5 (row_lt hr4) xx3
        refine hl_step rfl rfl (hs_call TyShK.cb30 (vs := [(ptr x_b x_o), (.int .u64 o_Entry_Hash)]) rfl (HC.mono H ?_))
        rintro _ h16 ⟨kp57, r0_Hash, r0_At, r0_Version, r0_Hits, r1, rfl, H⟩
        replace hr4 := Kp.row kp57 (by simp) hr4
        refine hl_val rfl rfl (v := (.tuple #[(.agg #[(.int .u64 r0_Hash), (.int .u64 r0_At), (.int .u64 r0_Version), (.int .u8 r0_Hits)]), (.bool r1)])) (hv_move rfl) ?_
        refine hl_val rfl rfl (v := (.agg #[(.int .u64 r0_Hash), (.int .u64 r0_At), (.int .u64 r0_Version), (.int .u8 r0_Hits)])) (hv_extract (vs := #[(.agg #[(.int .u64 r0_Hash), (.int .u64 r0_At), (.int .u64 r0_Version), (.int .u8 r0_Hits)]), (.bool r1)]) rfl rfl) ?_
        refine hl_val rfl rfl (v := (.bool r1)) (hv_extract (vs := #[(.agg #[(.int .u64 r0_Hash), (.int .u64 r0_At), (.int .u64 r0_Version), (.int .u8 r0_Hits)]), (.bool r1)]) rfl rfl) ?_
        refine hl_step rfl rfl (hn_alloc TyShK.z31 ?_)
        intro a h17 eb58 eh59
        have xx60 : Ext h16 h17 := by rw [eh59]; exact Ext.push _ _
        have ne63 := Nat.ne_of_lt (Nat.lt_of_lt_of_eq (row_lt hr4) (Eq.symm eb58))
        have lo62 : Array.size h16 ≤ a := Nat.le_of_eq (Eq.symm eb58)
        have hr61 : h17[a]? = some (.cells #[(.int .u64 0), (.int .u64 0), (.int .u64 0), (.int .u8 0)] 31 (0, 0)) := by rw [eh59]; exact push_new eb58
        replace hr4 := Ext.row xx60 hr4
        refine hl_step rfl rfl (hn_stores (vs := [(.int .u64 r0_Hash), (.int .u64 r0_At), (.int .u64 r0_Version), (.int .u8 r0_Hits)]) rfl rfl TyShK.sz31 rfl (HWs_row hr61 (by simp)) ?_)
        intro h18 eh64
        replace hr4 := row_hsets_ne eh64 ne63 hr4
        have hr61' : h18[a]? = some (.cells #[(.int .u64 r0_Hash), (.int .u64 r0_At), (.int .u64 r0_Version), (.int .u8 r0_Hits)] 31 (0, 0)) := row_hsets_eq eh64 hr61 rfl
        have xv65 := ext_hsets eh64 xx60 lo62
        refine hl_val rfl rfl (v := (.bool r1)) (hv_assign rfl) ?_
        refine hl_nil ?_
        refine seqQ_n ?_
        refine hx_seq ?_
        refine hx_region ?_
        refine hl_val rfl rfl (v := (ptr r_b r_o)) (hv_move rfl) ?_
        refine hl_val rfl rfl (v := (ptr o 1)) (hv_field TyShK.fld33_1 (b := o) (o := 0) rfl) ?_
        refine hl_val rfl rfl (v := (ptr o 1)) (hv_field TyShK.fld31_0 (b := o) (o := 1) rfl) ?_
        refine hl_val rfl rfl (v := (.int .u64 o_Entry_Hash)) (hv_load TyShK.agg29 rfl (rowcell hr4 rfl)) ?_
        replace H := H a h18 lo62 (row_lt hr61') xv65
        refine hl_step rfl rfl (hs_call TyShK.cb37 (vs := [(ptr r_b r_o), (.int .u64 o_Entry_Hash)]) rfl (HC.mono H ?_))
        rintro _ h19 ⟨kp66, r0_Hash_1, r0_At_1, r0_Version_1, r0_Hits_1, r1_1, rfl, H⟩
        replace hr4 := Kp.row kp66 (by simp) hr4
        replace hr61' := Kp.row kp66 (by simp) hr61'
        refine hl_val rfl rfl (v := (.tuple #[(.agg #[(.int .u64 r0_Hash_1), (.int .u64 r0_At_1), (.int .u64 r0_Version_1), (.int .u8 r0_Hits_1)]), (.bool r1_1)])) (hv_move rfl) ?_
        refine hl_val rfl rfl (v := (.agg #[(.int .u64 r0_Hash_1), (.int .u64 r0_At_1), (.int .u64 r0_Version_1), (.int .u8 r0_Hits_1)])) (hv_extract (vs := #[(.agg #[(.int .u64 r0_Hash_1), (.int .u64 r0_At_1), (.int .u64 r0_Version_1), (.int .u8 r0_Hits_1)]), (.bool r1_1)]) rfl rfl) ?_
        refine hl_val rfl rfl (v := (.bool r1_1)) (hv_extract (vs := #[(.agg #[(.int .u64 r0_Hash_1), (.int .u64 r0_At_1), (.int .u64 r0_Version_1), (.int .u8 r0_Hits_1)]), (.bool r1_1)]) rfl rfl) ?_
        refine hl_step rfl rfl (hn_alloc TyShK.z31 ?_)
        intro b h20 eb67 eh68
        have xx69 : Ext h19 h20 := by rw [eh68]; exact Ext.push _ _
        have ne72 := Nat.ne_of_lt (Nat.lt_of_lt_of_eq (row_lt hr4) (Eq.symm eb67))
        have ne73 := Nat.ne_of_lt (Nat.lt_of_lt_of_eq (row_lt hr61') (Eq.symm eb67))
        have lo71 : Array.size h19 ≤ b := Nat.le_of_eq (Eq.symm eb67)
        have hr70 : h20[b]? = some (.cells #[(.int .u64 0), (.int .u64 0), (.int .u64 0), (.int .u8 0)] 31 (0, 0)) := by rw [eh68]; exact push_new eb67
        replace hr4 := Ext.row xx69 hr4
        replace hr61' := Ext.row xx69 hr61'
        refine hl_step rfl rfl (hn_stores (vs := [(.int .u64 r0_Hash_1), (.int .u64 r0_At_1), (.int .u64 r0_Version_1), (.int .u8 r0_Hits_1)]) rfl rfl TyShK.sz31 rfl (HWs_row hr70 (by simp)) ?_)
        intro h21 eh74
        replace hr4 := row_hsets_ne eh74 ne72 hr4
        replace hr61' := row_hsets_ne eh74 ne73 hr61'
        have hr70' : h21[b]? = some (.cells #[(.int .u64 r0_Hash_1), (.int .u64 r0_At_1), (.int .u64 r0_Version_1), (.int .u8 r0_Hits_1)] 31 (0, 0)) := row_hsets_eq eh74 hr70 rfl
        have xv75 := ext_hsets eh74 xx69 lo71
        refine hl_val rfl rfl (v := (.bool r1_1)) (hv_assign rfl) ?_
        refine hl_nil ?_
        refine seqQ_n ?_
        refine hx_cut (fun ρ h' => h21 = h' ∧ Has ρ [(6, (.bool (((r0_Hash == r0_Hash_1 && (r0_At == r0_At_1 && (r0_Version == r0_Version_1 && (r0_Hits == r0_Hits_1 && true))))) && (r1 == r1_1))))]) ?_ ?_
        · refine hx_region ?_
          refine hl_val rfl rfl (v := (.agg #[(.int .u64 r0_Hash), (.int .u64 r0_At), (.int .u64 r0_Version), (.int .u8 r0_Hits)])) (hv_loads (vs := [(.int .u64 r0_Hash), (.int .u64 r0_At), (.int .u64 r0_Version), (.int .u8 r0_Hits)]) TyShK.agg31 TyShK.sz31 rfl (hcells_cons (rowcell hr61' rfl) (hcells_cons (rowcell hr61' rfl) (hcells_cons (rowcell hr61' rfl) (hcells_cons (rowcell hr61' rfl) hcells_nil))))) ?_
          refine hl_val rfl rfl (v := (.agg #[(.int .u64 r0_Hash_1), (.int .u64 r0_At_1), (.int .u64 r0_Version_1), (.int .u8 r0_Hits_1)])) (hv_loads (vs := [(.int .u64 r0_Hash_1), (.int .u64 r0_At_1), (.int .u64 r0_Version_1), (.int .u8 r0_Hits_1)]) TyShK.agg31 TyShK.sz31 rfl (hcells_cons (rowcell hr70' rfl) (hcells_cons (rowcell hr70' rfl) (hcells_cons (rowcell hr70' rfl) (hcells_cons (rowcell hr70' rfl) hcells_nil))))) ?_
          refine hl_val rfl rfl (v := (.bool ((r0_Hash == r0_Hash_1 && (r0_At == r0_At_1 && (r0_Version == r0_Version_1 && (r0_Hits == r0_Hits_1 && true))))))) (hv_structEq (xs := [(.int .u64 r0_Hash), (.int .u64 r0_At), (.int .u64 r0_Version), (.int .u8 r0_Hits)]) (ys := [(.int .u64 r0_Hash_1), (.int .u64 r0_At_1), (.int .u64 r0_Version_1), (.int .u8 r0_Hits_1)]) (b := (r0_Hash == r0_Hash_1 && (r0_At == r0_At_1 && (r0_Version == r0_Version_1 && (r0_Hits == r0_Hits_1 && true))))) TyShK.se31 rfl rfl (by kernel_rfl) rfl) ?_
          refine hl_val rfl rfl (v := (.bool ((r0_Hash == r0_Hash_1 && (r0_At == r0_At_1 && (r0_Version == r0_Version_1 && (r0_Hits == r0_Hits_1 && true))))))) (hv_move rfl) ?_
          rcases bool_or (((r0_Hash == r0_Hash_1 && (r0_At == r0_At_1 && (r0_Version == r0_Version_1 && (r0_Hits == r0_Hits_1 && true)))))) with hg78 | hg78
          · refine hl_yes (wanted_y rfl rfl rfl hg78) rfl (HStep.of_val (v := (.bool r1)) (hv_move rfl) ?_)
            refine hl_yes (wanted_y rfl rfl rfl hg78) rfl (HStep.of_val (v := (.bool r1_1)) (hv_move rfl) ?_)
            refine hl_yes (wanted_y rfl rfl rfl hg78) rfl (HStep.of_val (v := (.bool (r1 == r1_1))) (hv_eqBool TyShK.u4 rfl rfl rfl) ?_)
            refine hl_val rfl rfl (v := (.bool (r1 == r1_1))) (hv_pick_t rfl hg78 rfl) ?_
            refine hl_val rfl rfl (v := (.bool (r1 == r1_1))) (hv_assign rfl) ?_
            refine hl_nil ?_
            refine seqQ_n ?_
            exact ⟨rfl, (has_cons (show ((.bool (r1 == r1_1)) : Value) = (.bool (((r0_Hash == r0_Hash_1 && (r0_At == r0_At_1 && (r0_Version == r0_Version_1 && (r0_Hits == r0_Hits_1 && true))))) && (r1 == r1_1))) from (by first | rfl | (try rw [hg78]; all_goals first | rfl | (simp only [Bool.true_or, Bool.or_true, Bool.false_or, Bool.or_false, Bool.true_and, Bool.and_true, Bool.false_and, Bool.and_false, Bool.not_true, Bool.not_false, Bool.cond_true, Bool.cond_false]; done)) | simp [hg78])) has_nil)⟩
          · refine hl_no (wanted_n rfl rfl rfl hg78) rfl ?_
            refine hl_no (wanted_n rfl rfl rfl hg78) rfl ?_
            refine hl_no (wanted_n rfl rfl rfl hg78) rfl ?_
            refine hl_val rfl rfl (v := (.bool false)) (hv_pick_f rfl hg78 rfl) ?_
            refine hl_val rfl rfl (v := (.bool false)) (hv_assign rfl) ?_
            refine hl_nil ?_
            refine seqQ_n ?_
            exact ⟨rfl, (has_cons (show ((.bool false) : Value) = (.bool (((r0_Hash == r0_Hash_1 && (r0_At == r0_At_1 && (r0_Version == r0_Version_1 && (r0_Hits == r0_Hits_1 && true))))) && (r1 == r1_1))) from (by first | rfl | (try rw [hg78]; all_goals first | rfl | (simp only [Bool.true_or, Bool.or_true, Bool.false_or, Bool.or_false, Bool.true_and, Bool.and_true, Bool.false_and, Bool.and_false, Bool.not_true, Bool.not_false, Bool.cond_true, Bool.cond_false]; done)) | simp [hg78])) has_nil)⟩
        · rintro ρ _ ⟨rfl, hH⟩
          refine hx_has _ hH ?_
          refine hx_ret ?_
          refine blockQ_ret ?_
          refine seqQ_ret ?_
          replace H := H h21 xv75
          exact endQ_ret _ (res_one Try.results13 (rv_tmp rfl)) H
      · replace H := H.2 hb56
        refine hx_seq ?_
        refine hx_region ?_
        refine hl_val rfl rfl (v := (.bool (o_Kind == 3))) (hv_arith rfl rfl rfl) ?_
        refine hl_val rfl rfl (v := (.bool (o_Kind == 3))) (hv_assign rfl) ?_
        refine hl_nil ?_
        refine seqQ_n ?_
        refine hx_cond (b := o_Kind == 3) rfl (fun hb79 => ?_) (fun hb79 => ?_)
        · replace H := H.1 hb79
          refine hx_seq ?_
          obtain ⟨T80, hT81, H⟩ := H
          refine hx_drawT TyShK.mixed T80 hT81 [.pure, .pure, .pure, .read, .pure, .read, .tame, .pure, .pure, .pure, .stay, .pure, .stay, .wild, .pure, .pure] [0, 1, 2, 3, 4, 5, 7, 8, 9, 10, 11, 12, 6, 13, 14, 15] (by kernel_rfl) ?_
          refine hp_pure (i := 0) rfl (wanted_0 rfl) rfl (ptr x_b x_o) (fun _ => hv_move rfl) ?_
          refine hp_pure (i := 1) rfl (wanted_0 rfl) rfl (ptr o 1) (fun _ => hv_field TyShK.fld33_1 (b := o) (o := 0) rfl) ?_
          refine hp_pure (i := 2) rfl (wanted_0 rfl) rfl (ptr o 1) (fun _ => hv_field TyShK.fld31_0 (b := o) (o := 1) rfl) ?_
          refine hp_read (i := 3) rfl (wanted_0 rfl) rfl (.int .u64 o_Entry_Hash) (fun _ he => hv_load TyShK.agg29 rfl (Ext.cell he (rowcell hr4 rfl))) ?_
          refine hp_pure (i := 4) rfl (wanted_0 rfl) rfl (ptr o 5) (fun _ => hv_field TyShK.fld33_2 (b := o) (o := 0) rfl) ?_
          refine hp_read (i := 5) rfl (wanted_0 rfl) rfl (.int .u64 o_At) (fun _ he => hv_load TyShK.agg29 rfl (Ext.cell he (rowcell hr4 rfl))) ?_
          refine hp_pure (i := 7) rfl (wanted_0 rfl) rfl (ptr r_b r_o) (fun _ => hv_move rfl) ?_
          refine hp_pure (i := 8) rfl (wanted_0 rfl) rfl (ptr o 1) (fun _ => hv_field TyShK.fld33_1 (b := o) (o := 0) rfl) ?_
          refine hp_pure (i := 9) rfl (wanted_0 rfl) rfl (ptr o 1) (fun _ => hv_field TyShK.fld31_0 (b := o) (o := 1) rfl) ?_
          replace H := H o h1 lo5 (row_lt hr4) xx3
          obtain ⟨hk95, H⟩ := H
          refine hp_stay (i := 10) rfl (wanted_0 rfl) rfl (.int .u64 o_Entry_Hash) (fun _ he => hv_load TyShK.agg29 rfl ((fun hx he => rowcell (Kp.row (hk95 hx he) (by simp) hr4) rfl) _ he)) ?_
          refine hp_pure (i := 11) rfl (wanted_0 rfl) rfl (ptr o 5) (fun _ => hv_field TyShK.fld33_2 (b := o) (o := 0) rfl) ?_
          obtain ⟨hk94, H⟩ := H
          refine hp_stay (i := 12) rfl (wanted_0 rfl) rfl (.int .u64 o_At) (fun _ he => hv_load TyShK.agg29 rfl ((fun hx he => rowcell (Kp.row (hk94 hx he) (by simp) hr4) rfl) _ he)) ?_
          refine hp_tame (i := 6) rfl (wanted_0 rfl) rfl (hs_call TyShK.cb31 (vs := [(ptr x_b x_o), (.int .u64 o_Entry_Hash), (.int .u64 o_At)]) rfl (HC.mono H ?_))
          rintro _ h26 ⟨ht91, kp92, r_4, rfl, H⟩
          refine ⟨ht91, ?_⟩
          replace hr4 := Kp.row kp92 (by simp) hr4
          refine hp_wild (i := 13) rfl (wanted_0 rfl) rfl (hs_call TyShK.cb38 (vs := [(ptr r_b r_o), (.int .u64 o_Entry_Hash), (.int .u64 o_At)]) rfl (HC.mono H ?_))
          rintro _ h27 ⟨kp93, r_5, rfl, H⟩
          replace hr4 := Kp.row kp93 (by simp) hr4
          refine hp_pure (i := 14) rfl (wanted_0 rfl) rfl (.bool (r_4 == r_5)) (fun _ => hv_eqBool TyShK.u4 rfl rfl rfl) ?_
          refine hp_pure (i := 15) rfl (wanted_0 rfl) rfl (.bool (r_4 == r_5)) (fun _ => hv_assign rfl) ?_
          refine hp_nil ?_
          refine seqQ_n ?_
          refine hx_ret ?_
          refine blockQ_ret ?_
          refine seqQ_ret ?_
          exact endQ_ret _ (res_one Try.results13 (rv_tmp rfl)) H
        · replace H := H.2 hb79
          refine hx_seq ?_
          refine hx_region ?_
          refine hl_val rfl rfl (v := (.bool (o_Kind == 4))) (hv_arith rfl rfl rfl) ?_
          refine hl_val rfl rfl (v := (.bool (o_Kind == 4))) (hv_assign rfl) ?_
          refine hl_nil ?_
          refine seqQ_n ?_
          refine hx_cond (b := o_Kind == 4) rfl (fun hb96 => ?_) (fun hb96 => ?_)
          · replace H := H.1 hb96
            refine hx_seq ?_
            obtain ⟨T97, hT98, H⟩ := H
            refine hx_drawT TyShK.mixed T97 hT98 [.pure, .pure, .pure, .read, .pure, .read, .pure, .pure, .read, .tame, .pure, .pure, .pure, .stay, .pure, .stay, .pure, .pure, .stay, .wild, .pure, .pure] [0, 1, 2, 3, 4, 5, 6, 7, 8, 10, 11, 12, 13, 14, 15, 16, 17, 18, 9, 19, 20, 21] (by kernel_rfl) ?_
            refine hp_pure (i := 0) rfl (wanted_0 rfl) rfl (ptr x_b x_o) (fun _ => hv_move rfl) ?_
            refine hp_pure (i := 1) rfl (wanted_0 rfl) rfl (ptr o 1) (fun _ => hv_field TyShK.fld33_1 (b := o) (o := 0) rfl) ?_
            refine hp_pure (i := 2) rfl (wanted_0 rfl) rfl (ptr o 1) (fun _ => hv_field TyShK.fld31_0 (b := o) (o := 1) rfl) ?_
            refine hp_read (i := 3) rfl (wanted_0 rfl) rfl (.int .u64 o_Entry_Hash) (fun _ he => hv_load TyShK.agg29 rfl (Ext.cell he (rowcell hr4 rfl))) ?_
            refine hp_pure (i := 4) rfl (wanted_0 rfl) rfl (ptr o 5) (fun _ => hv_field TyShK.fld33_2 (b := o) (o := 0) rfl) ?_
            refine hp_read (i := 5) rfl (wanted_0 rfl) rfl (.int .u64 o_At) (fun _ he => hv_load TyShK.agg29 rfl (Ext.cell he (rowcell hr4 rfl))) ?_
            refine hp_pure (i := 6) rfl (wanted_0 rfl) rfl (ptr o 1) (fun _ => hv_field TyShK.fld33_1 (b := o) (o := 0) rfl) ?_
            refine hp_pure (i := 7) rfl (wanted_0 rfl) rfl (ptr o 2) (fun _ => hv_field TyShK.fld31_1 (b := o) (o := 1) rfl) ?_
            refine hp_read (i := 8) rfl (wanted_0 rfl) rfl (.int .u64 o_Entry_At) (fun _ he => hv_load TyShK.agg29 rfl (Ext.cell he (rowcell hr4 rfl))) ?_
            refine hp_pure (i := 10) rfl (wanted_0 rfl) rfl (ptr r_b r_o) (fun _ => hv_move rfl) ?_
            refine hp_pure (i := 11) rfl (wanted_0 rfl) rfl (ptr o 1) (fun _ => hv_field TyShK.fld33_1 (b := o) (o := 0) rfl) ?_
            refine hp_pure (i := 12) rfl (wanted_0 rfl) rfl (ptr o 1) (fun _ => hv_field TyShK.fld31_0 (b := o) (o := 1) rfl) ?_
            replace H := H o h1 lo5 (row_lt hr4) xx3
            obtain ⟨hk119, H⟩ := H
            refine hp_stay (i := 13) rfl (wanted_0 rfl) rfl (.int .u64 o_Entry_Hash) (fun _ he => hv_load TyShK.agg29 rfl ((fun hx he => rowcell (Kp.row (hk119 hx he) (by simp) hr4) rfl) _ he)) ?_
            refine hp_pure (i := 14) rfl (wanted_0 rfl) rfl (ptr o 5) (fun _ => hv_field TyShK.fld33_2 (b := o) (o := 0) rfl) ?_
            obtain ⟨hk118, H⟩ := H
            refine hp_stay (i := 15) rfl (wanted_0 rfl) rfl (.int .u64 o_At) (fun _ he => hv_load TyShK.agg29 rfl ((fun hx he => rowcell (Kp.row (hk118 hx he) (by simp) hr4) rfl) _ he)) ?_
            refine hp_pure (i := 16) rfl (wanted_0 rfl) rfl (ptr o 1) (fun _ => hv_field TyShK.fld33_1 (b := o) (o := 0) rfl) ?_
            refine hp_pure (i := 17) rfl (wanted_0 rfl) rfl (ptr o 2) (fun _ => hv_field TyShK.fld31_1 (b := o) (o := 1) rfl) ?_
            obtain ⟨hk117, H⟩ := H
            refine hp_stay (i := 18) rfl (wanted_0 rfl) rfl (.int .u64 o_Entry_At) (fun _ he => hv_load TyShK.agg29 rfl ((fun hx he => rowcell (Kp.row (hk117 hx he) (by simp) hr4) rfl) _ he)) ?_
            refine hp_tame (i := 9) rfl (wanted_0 rfl) rfl (hs_call TyShK.cb32 (vs := [(ptr x_b x_o), (.int .u64 o_Entry_Hash), (.int .u64 o_At), (.int .u64 o_Entry_At)]) rfl (HC.mono H ?_))
            rintro _ h34 ⟨ht114, kp115, r_6, rfl, H⟩
            refine ⟨ht114, ?_⟩
            replace hr4 := Kp.row kp115 (by simp) hr4
            refine hp_wild (i := 19) rfl (wanted_0 rfl) rfl (hs_call TyShK.cb39 (vs := [(ptr r_b r_o), (.int .u64 o_Entry_Hash), (.int .u64 o_At), (.int .u64 o_Entry_At)]) rfl (HC.mono H ?_))
            rintro _ h35 ⟨kp116, r_7, rfl, H⟩
            replace hr4 := Kp.row kp116 (by simp) hr4
            refine hp_pure (i := 20) rfl (wanted_0 rfl) rfl (.bool (r_6 == r_7)) (fun _ => hv_eqBool TyShK.u4 rfl rfl rfl) ?_
            refine hp_pure (i := 21) rfl (wanted_0 rfl) rfl (.bool (r_6 == r_7)) (fun _ => hv_assign rfl) ?_
            refine hp_nil ?_
            refine seqQ_n ?_
            refine hx_ret ?_
            refine blockQ_ret ?_
            refine seqQ_ret ?_
            exact endQ_ret _ (res_one Try.results13 (rv_tmp rfl)) H
          · replace H := H.2 hb96
            refine hx_seq ?_
            refine hx_region ?_
            refine hl_val rfl rfl (v := (.bool (o_Kind == 5))) (hv_arith rfl rfl rfl) ?_
            refine hl_val rfl rfl (v := (.bool (o_Kind == 5))) (hv_assign rfl) ?_
            refine hl_nil ?_
            refine seqQ_n ?_
            refine hx_cond (b := o_Kind == 5) rfl (fun hb120 => ?_) (fun hb120 => ?_)
            · replace H := H.1 hb120
              refine hx_seq ?_
              obtain ⟨T121, hT122, H⟩ := H
              refine hx_drawT TyShK.mixed T121 hT122 [.pure, .pure, .pure, .read, .tame, .pure, .pure, .pure, .stay, .wild, .pure, .pure] [0, 1, 2, 3, 5, 6, 7, 8, 4, 9, 10, 11] (by kernel_rfl) ?_
              refine hp_pure (i := 0) rfl (wanted_0 rfl) rfl (ptr x_b x_o) (fun _ => hv_move rfl) ?_
              refine hp_pure (i := 1) rfl (wanted_0 rfl) rfl (ptr o 1) (fun _ => hv_field TyShK.fld33_1 (b := o) (o := 0) rfl) ?_
              refine hp_pure (i := 2) rfl (wanted_0 rfl) rfl (ptr o 1) (fun _ => hv_field TyShK.fld31_0 (b := o) (o := 1) rfl) ?_
              refine hp_read (i := 3) rfl (wanted_0 rfl) rfl (.int .u64 o_Entry_Hash) (fun _ he => hv_load TyShK.agg29 rfl (Ext.cell he (rowcell hr4 rfl))) ?_
              refine hp_pure (i := 5) rfl (wanted_0 rfl) rfl (ptr r_b r_o) (fun _ => hv_move rfl) ?_
              refine hp_pure (i := 6) rfl (wanted_0 rfl) rfl (ptr o 1) (fun _ => hv_field TyShK.fld33_1 (b := o) (o := 0) rfl) ?_
              refine hp_pure (i := 7) rfl (wanted_0 rfl) rfl (ptr o 1) (fun _ => hv_field TyShK.fld31_0 (b := o) (o := 1) rfl) ?_
              replace H := H o h1 lo5 (row_lt hr4) xx3
              obtain ⟨hk130, H⟩ := H
              refine hp_stay (i := 8) rfl (wanted_0 rfl) rfl (.int .u64 o_Entry_Hash) (fun _ he => hv_load TyShK.agg29 rfl ((fun hx he => rowcell (Kp.row (hk130 hx he) (by simp) hr4) rfl) _ he)) ?_
              refine hp_tame (i := 4) rfl (wanted_0 rfl) rfl (hs_call TyShK.cb33 (vs := [(ptr x_b x_o), (.int .u64 o_Entry_Hash)]) rfl (HC.mono H ?_))
              rintro _ h38 ⟨ht127, kp128, r_2, rfl, H⟩
              refine ⟨ht127, ?_⟩
              replace hr4 := Kp.row kp128 (by simp) hr4
              refine hp_wild (i := 9) rfl (wanted_0 rfl) rfl (hs_call TyShK.cb40 (vs := [(ptr r_b r_o), (.int .u64 o_Entry_Hash)]) rfl (HC.mono H ?_))
              rintro _ h39 ⟨kp129, r_3, rfl, H⟩
              replace hr4 := Kp.row kp129 (by simp) hr4
              refine hp_pure (i := 10) rfl (wanted_0 rfl) rfl (.bool (r_2 == r_3)) (fun _ => hv_eqBool TyShK.u4 rfl rfl rfl) ?_
              refine hp_pure (i := 11) rfl (wanted_0 rfl) rfl (.bool (r_2 == r_3)) (fun _ => hv_assign rfl) ?_
              refine hp_nil ?_
              refine seqQ_n ?_
              refine hx_ret ?_
              refine blockQ_ret ?_
              refine seqQ_ret ?_
              exact endQ_ret _ (res_one Try.results13 (rv_tmp rfl)) H
            · replace H := H.2 hb120
              refine hx_seq ?_
              refine hx_region ?_
              refine hl_val rfl rfl (v := (.bool (o_Kind == 6))) (hv_arith rfl rfl rfl) ?_
              refine hl_val rfl rfl (v := (.bool (o_Kind == 6))) (hv_assign rfl) ?_
              refine hl_nil ?_
              refine seqQ_n ?_
              refine hx_cond (b := o_Kind == 6) rfl (fun hb131 => ?_) (fun hb131 => ?_)
              · replace H := H.1 hb131
                refine hx_seq ?_
                obtain ⟨T132, hT133, H⟩ := H
                refine hx_drawT TyShK.mixed T132 hT133 [.pure, .pure, .read, .pure, .read, .tame, .pure, .pure, .stay, .pure, .stay, .wild, .pure, .pure] [0, 1, 2, 3, 4, 6, 7, 8, 9, 10, 5, 11, 12, 13] (by kernel_rfl) ?_
                refine hp_pure (i := 0) rfl (wanted_0 rfl) rfl (ptr x_b x_o) (fun _ => hv_move rfl) ?_
                refine hp_pure (i := 1) rfl (wanted_0 rfl) rfl (ptr o 6) (fun _ => hv_field TyShK.fld33_3 (b := o) (o := 0) rfl) ?_
                refine hp_read (i := 2) rfl (wanted_0 rfl) rfl (.int .i64 o_N) (fun _ he => hv_load TyShK.agg3 rfl (Ext.cell he (rowcell hr4 rfl))) ?_
                refine hp_pure (i := 3) rfl (wanted_0 rfl) rfl (ptr o 7) (fun _ => hv_field TyShK.fld33_4 (b := o) (o := 0) rfl) ?_
                refine hp_read (i := 4) rfl (wanted_0 rfl) rfl (.int .i64 o_M) (fun _ he => hv_load TyShK.agg3 rfl (Ext.cell he (rowcell hr4 rfl))) ?_
                refine hp_pure (i := 6) rfl (wanted_0 rfl) rfl (ptr r_b r_o) (fun _ => hv_move rfl) ?_
                refine hp_pure (i := 7) rfl (wanted_0 rfl) rfl (ptr o 6) (fun _ => hv_field TyShK.fld33_3 (b := o) (o := 0) rfl) ?_
                replace H := H o h1 lo5 (row_lt hr4) xx3
                obtain ⟨hk147, H⟩ := H
                refine hp_stay (i := 8) rfl (wanted_0 rfl) rfl (.int .i64 o_N) (fun _ he => hv_load TyShK.agg3 rfl ((fun hx he => rowcell (Kp.row (hk147 hx he) (by simp) hr4) rfl) _ he)) ?_
                refine hp_pure (i := 9) rfl (wanted_0 rfl) rfl (ptr o 7) (fun _ => hv_field TyShK.fld33_4 (b := o) (o := 0) rfl) ?_
                obtain ⟨hk146, H⟩ := H
                refine hp_stay (i := 10) rfl (wanted_0 rfl) rfl (.int .i64 o_M) (fun _ he => hv_load TyShK.agg3 rfl ((fun hx he => rowcell (Kp.row (hk146 hx he) (by simp) hr4) rfl) _ he)) ?_
                refine hp_tame (i := 5) rfl (wanted_0 rfl) rfl (hs_call TyShK.cb19 (vs := [(ptr x_b x_o), (.int .i64 o_N), (.int .i64 o_M)]) rfl (HC.mono H ?_))
                rintro _ h44 ⟨ht143, kp144, r_4, rfl, H⟩
                refine ⟨ht143, ?_⟩
                replace hr4 := Kp.row kp144 (by simp) hr4
                refine hp_wild (i := 11) rfl (wanted_0 rfl) rfl (hs_call TyShK.cb41 (vs := [(ptr r_b r_o), (.int .i64 o_N), (.int .i64 o_M)]) rfl (HC.mono H ?_))
                rintro _ h45 ⟨kp145, r_5, rfl, H⟩
                replace hr4 := Kp.row kp145 (by simp) hr4
                refine hp_pure (i := 12) rfl (wanted_0 rfl) rfl (.bool (r_4 == r_5)) (fun _ => hv_arith rfl rfl rfl) ?_
                refine hp_pure (i := 13) rfl (wanted_0 rfl) rfl (.bool (r_4 == r_5)) (fun _ => hv_assign rfl) ?_
                refine hp_nil ?_
                refine seqQ_n ?_
                refine hx_ret ?_
                refine blockQ_ret ?_
                refine seqQ_ret ?_
                exact endQ_ret _ (res_one Try.results13 (rv_tmp rfl)) H
              · replace H := H.2 hb131
                refine hx_seq ?_
                refine hx_region ?_
                refine hl_val rfl rfl (v := (.bool (o_Kind == 7))) (hv_arith rfl rfl rfl) ?_
                refine hl_val rfl rfl (v := (.bool (o_Kind == 7))) (hv_assign rfl) ?_
                refine hl_nil ?_
                refine seqQ_n ?_
                refine hx_cond (b := o_Kind == 7) rfl (fun hb148 => ?_) (fun hb148 => ?_)
                · replace H := H.1 hb148
                  refine hx_seq ?_
                  refine hx_region ?_
                  refine hl_val rfl rfl (v := (ptr x_b x_o)) (hv_move rfl) ?_
                  refine hl_val rfl rfl (v := (ptr r_b r_o)) (hv_move rfl) ?_
                  refine hl_val rfl rfl (v := (ptr o 6)) (hv_field TyShK.fld33_3 (b := o) (o := 0) rfl) ?_
                  refine hl_val rfl rfl (v := (.int .i64 o_N)) (hv_load TyShK.agg3 rfl (rowcell hr4 rfl)) ?_
                  refine hl_val rfl rfl (v := (ptr o 7)) (hv_field TyShK.fld33_4 (b := o) (o := 0) rfl) ?_
                  refine hl_val rfl rfl (v := (.int .i64 o_M)) (hv_load TyShK.agg3 rfl (rowcell hr4 rfl)) ?_
                  replace H := H o h1 lo5 (row_lt hr4) xx3
                  refine hl_step rfl rfl (hs_call TyShK.cb42 (vs := [(ptr x_b x_o), (ptr r_b r_o), (.int .i64 o_N), (.int .i64 o_M)]) rfl (HC.mono H ?_))
                  rintro _ h46 ⟨kp149, r, rfl, H⟩
                  replace hr4 := Kp.row kp149 (by simp) hr4
                  refine hl_val rfl rfl (v := (.bool r)) (hv_assign rfl) ?_
                  refine hl_nil ?_
                  refine seqQ_n ?_
                  refine hx_ret ?_
                  refine blockQ_ret ?_
                  refine seqQ_ret ?_
                  exact endQ_ret _ (res_one Try.results13 (rv_tmp rfl)) H
                · replace H := H.2 hb148
                  refine hx_seq ?_
                  refine hx_region ?_
                  refine hl_val rfl rfl (v := (.bool (o_Kind == 8))) (hv_arith rfl rfl rfl) ?_
                  refine hl_val rfl rfl (v := (.bool (o_Kind == 8))) (hv_assign rfl) ?_
                  refine hl_nil ?_
                  refine seqQ_n ?_
                  refine hx_cond (b := o_Kind == 8) rfl (fun hb150 => ?_) (fun hb150 => ?_)
                  · replace H := H.1 hb150
                    obtain ⟨j, Hx151, Hy152⟩ := H
                    refine hx_cut (fun ρ h' => h1 = h' ∧ Has ρ [(6, (.bool j))]) ?_ ?_
                    · have H := Hx151; clear Hx151 Hy152
                      refine hx_draw TyShK.mixed [.pure, .pure, .read, .read, .pure, .pure, .read, .read, .pure, .pure, .pure, .read, .pure, .pure, .pure, .read, .pure, .pure, .pure, .pure] [0, 1, 2, 3, 4, 5, 6, 7, 8, 9, 10, 11, 12, 13, 14, 15, 16, 17, 18, 19] (by kernel_rfl) ?_
                      refine hp_pure (i := 0) rfl (wanted_0 rfl) rfl (ptr x_b x_o) (fun _ => hv_move rfl) ?_
                      refine hp_pure (i := 1) rfl (wanted_0 rfl) rfl (ptr o 6) (fun _ => hv_field TyShK.fld33_3 (b := o) (o := 0) rfl) ?_
                      refine hp_read (i := 2) rfl (wanted_0 rfl) rfl (.int .i64 o_N) (fun _ he => hv_load TyShK.agg3 rfl (Ext.cell he (rowcell hr4 rfl))) ?_
                      replace H := H o h1 lo5 (row_lt hr4) xx3
                      obtain ⟨r, hr153, H⟩ := H
                      refine hp_read (i := 3) rfl (wanted_0 rfl) rfl (.int .i64 r) (fun _ he => hv_call TyShK.cb23 (vs := [(ptr x_b x_o), (.int .i64 o_N)]) rfl (hr153 _ he)) ?_
                      refine hp_pure (i := 4) rfl (wanted_0 rfl) rfl (ptr r_b r_o) (fun _ => hv_move rfl) ?_
                      refine hp_pure (i := 5) rfl (wanted_0 rfl) rfl (ptr o 6) (fun _ => hv_field TyShK.fld33_3 (b := o) (o := 0) rfl) ?_
                      refine hp_read (i := 6) rfl (wanted_0 rfl) rfl (.int .i64 o_N) (fun _ he => hv_load TyShK.agg3 rfl (Ext.cell he (rowcell hr4 rfl))) ?_
                      obtain ⟨r_1, hr154, H⟩ := H
                      refine hp_read (i := 7) rfl (wanted_0 rfl) rfl (.int .i64 r_1) (fun _ he => hv_call TyShK.cb43 (vs := [(ptr r_b r_o), (.int .i64 o_N)]) rfl (hr154 _ he)) ?_
                      refine hp_pure (i := 8) rfl (wanted_0 rfl) rfl (.bool (r == r_1)) (fun _ => hv_arith rfl rfl rfl) ?_
                      refine hp_pure (i := 9) rfl (wanted_0 rfl) rfl (.bool (r == r_1)) (fun _ => hv_move rfl) ?_
                      rcases bool_or (r == r_1) with hg155 | hg155
                      · replace H := H.1 hg155
                        refine hp_pure (i := 10) rfl (wanted_y rfl rfl rfl hg155) rfl (ptr x_b x_o) (fun _ => hv_move rfl) ?_
                        obtain ⟨r_2, hr156, H⟩ := H
                        refine hp_read (i := 11) rfl (wanted_y rfl rfl rfl hg155) rfl (.int .i64 r_2) (fun _ he => hv_call TyShK.cb17 (vs := [(ptr x_b x_o)]) rfl (hr156 _ he)) ?_
                        refine hp_pure (i := 12) rfl (wanted_y rfl rfl rfl hg155) rfl (ptr r_b r_o) (fun _ => hv_move rfl) ?_
                        refine hp_pure (i := 13) rfl (wanted_y rfl rfl rfl hg155) rfl (ptr r_b r_o) (fun _ => hv_nil rfl) ?_
                        refine hp_pure (i := 14) rfl (wanted_y rfl rfl rfl hg155) rfl (ptr r_b (r_o + 1)) (fun _ => hv_field TyShK.fld80_1 (b := r_b) (o := r_o) rfl) ?_
                        obtain ⟨x, x_n, x_c, hc157, H⟩ := H
                        refine hp_read (i := 15) rfl (wanted_y rfl rfl rfl hg155) rfl (.slice x x_n x_c) (fun _ he => hv_load TyShK.agg78 rfl (Ext.cell he hc157)) ?_
                        refine hp_pure (i := 16) rfl (wanted_y rfl rfl rfl hg155) rfl (.int .i64 (x_n : Int)) (fun _ => hv_len (n := x_n) TyShK.u78 rfl) ?_
                        refine hp_pure (i := 17) rfl (wanted_y rfl rfl rfl hg155) rfl (.bool (r_2 == (x_n : Int))) (fun _ => hv_arith rfl rfl rfl) ?_
                        refine hp_pure (i := 18) rfl (wanted_0 rfl) rfl (.bool (r_2 == (x_n : Int))) (fun _ => hv_pick_t rfl hg155 rfl) ?_
                        refine hp_pure (i := 19) rfl (wanted_0 rfl) rfl (.bool (r_2 == (x_n : Int))) (fun _ => hv_assign rfl) ?_
                        refine hp_nil ?_
                        refine seqQ_n ?_
                        obtain rfl := H
                        exact ⟨rfl, (has_cons rfl has_nil)⟩
                      · replace H := H.2 hg155
                        refine hp_no (i := 10) rfl (wanted_n rfl rfl rfl hg155) ?_
                        refine hp_no (i := 11) rfl (wanted_n rfl rfl rfl hg155) ?_
                        refine hp_no (i := 12) rfl (wanted_n rfl rfl rfl hg155) ?_
                        refine hp_no (i := 13) rfl (wanted_n rfl rfl rfl hg155) ?_
                        refine hp_no (i := 14) rfl (wanted_n rfl rfl rfl hg155) ?_
                        refine hp_no (i := 15) rfl (wanted_n rfl rfl rfl hg155) ?_
                        refine hp_no (i := 16) rfl (wanted_n rfl rfl rfl hg155) ?_
                        refine hp_no (i := 17) rfl (wanted_n rfl rfl rfl hg155) ?_
                        refine hp_pure (i := 18) rfl (wanted_0 rfl) rfl (.bool false) (fun _ => hv_pick_f rfl hg155 rfl) ?_
                        refine hp_pure (i := 19) rfl (wanted_0 rfl) rfl (.bool false) (fun _ => hv_assign rfl) ?_
                        refine hp_nil ?_
                        refine seqQ_n ?_
                        obtain rfl := H
                        exact ⟨rfl, (has_cons rfl has_nil)⟩
                    · have H := Hy152; clear Hx151 Hy152
                      rintro ρ _ ⟨rfl, hH⟩
                      refine hx_has _ hH ?_
                      refine hx_ret ?_
                      refine blockQ_ret ?_
                      refine seqQ_ret ?_
                      replace H := H h1 xx3
                      exact endQ_ret _ (res_one Try.results13 (rv_tmp rfl)) H
                  · replace H := H.2 hb150
                    refine hx_skip ?_
                    refine blockQ_n ?_
                    refine seqQ_n ?_
                    refine hx_seq ?_
                    refine hx_region ?_
                    refine hl_val rfl rfl (v := (.bool true)) (hv_assign rfl) ?_
                    refine hl_nil ?_
                    refine seqQ_n ?_
                    refine hx_ret ?_
                    replace H := H h1 xx3
                    exact endQ_ret _ (res_one Try.results13 (rv_tmp rfl)) H

/-- cellar/cellarlaw12.IndexDoes -/
theorem f4_sh (s_Stripes : Int) (s_Bits : Int) (s_Most : Int) (s_Do : Option Addr) (s_Do_n : Nat) (s_Do_c : Nat) (h : Heap) (R : Value → Heap → Prop)
    (H : (∀ (sv : Nat) (h1 : Heap), Array.size h ≤ sv → sv < Array.size h1 → Ext h h1 → HC Try.prog 10 #[(.agg #[(.int .i64 s_Stripes), (.int .i64 s_Bits), (.int .i64 s_Most), (.slice s_Do s_Do_n s_Do_c)])] h1 (fun vv h2 => Kp [sv] h1 h2 ∧ ∃ r0 r1 : Option Addr, ∃ r2 : Bool, vv = (.tuple #[(.pointer r0), (.pointer r1), (.bool r2)]) ∧ ((((!r2) || r1.isNone) = true → R (.bool r2) h2) ∧ (((!r2) || r1.isNone) = false → (∃ (I11 : Int → Heap → Prop) (mu12 : Int → Heap → Nat), I11 0 h2 ∧ (∀ (v : Int) (h3 : Heap), I11 v h3 → (((decide (v < (s_Do_n : Int))) = true → (∃ s_Do_b s_Do_o : Nat, s_Do = some ⟨s_Do_b, s_Do_o, none⟩ ∧ (0 : Int) ≤ v ∧ v < (s_Do_n : Int) ∧ (∃ x_Kind x_Entry_Hash x_Entry_At x_Entry_Version x_Entry_Hits x_At x_N x_M : Int, hcell h3 s_Do_b (s_Do_o + (Int.toNat v) * 8) = some (.int .i64 x_Kind) ∧ hcell h3 s_Do_b ((s_Do_o + (Int.toNat v) * 8) + 1) = some (.int .u64 x_Entry_Hash) ∧ hcell h3 s_Do_b ((s_Do_o + (Int.toNat v) * 8) + 2) = some (.int .u64 x_Entry_At) ∧ hcell h3 s_Do_b ((s_Do_o + (Int.toNat v) * 8) + 3) = some (.int .u64 x_Entry_Version) ∧ hcell h3 s_Do_b ((s_Do_o + (Int.toNat v) * 8) + 4) = some (.int .u8 x_Entry_Hits) ∧ hcell h3 s_Do_b ((s_Do_o + (Int.toNat v) * 8) + 5) = some (.int .u64 x_At) ∧ hcell h3 s_Do_b ((s_Do_o + (Int.toNat v) * 8) + 6) = some (.int .i64 x_N) ∧ hcell h3 s_Do_b ((s_Do_o + (Int.toNat v) * 8) + 7) = some (.int .i64 x_M) ∧ (∀ (h5 : Heap), Ext h3 h5 → HC Try.prog 13 #[(.pointer r0), (.pointer r1), (.agg #[(.int .i64 x_Kind), (.int .u64 x_Entry_Hash), (.int .u64 x_Entry_At), (.int .u64 x_Entry_Version), (.int .u8 x_Entry_Hits), (.int .u64 x_At), (.int .i64 x_N), (.int .i64 x_M)])] h5 (fun vv h6 => ∃ r : Bool, vv = (.bool r) ∧ (((!r) = true → R (.bool false) h6) ∧ ((!r) = false → (I11 (IntKind.i64.wrap (v + 1)) h6 ∧ mu12 (IntKind.i64.wrap (v + 1)) h6 < mu12 v h3)))))))) ∧ ((decide (v < (s_Do_n : Int))) = false → HC Try.prog 14 #[(.pointer r0), (.pointer r1)] h3 (fun vv h7 => ∃ r : Bool, vv = (.bool r) ∧ R (.bool r) h7)))))))))) :
    HC Try.prog 4 #[(.agg #[(.int .i64 s_Stripes), (.int .i64 s_Bits), (.int .i64 s_Most), (.slice s_Do s_Do_n s_Do_c)])] h R := by
  refine hc_of (args := [(.agg #[(.int .i64 s_Stripes), (.int .i64 s_Bits), (.int .i64 s_Most), (.slice s_Do s_Do_n s_Do_c)])]) Try.func4 rfl Try.ntmps4 (Nat.le_of_ble_eq_true rfl) ?_
  refine hx_seq ?_
  refine hx_region ?_
  refine hl_step rfl rfl (hn_box (v := (.agg #[(.int .i64 s_Stripes), (.int .i64 s_Bits), (.int .i64 s_Most), (.slice s_Do s_Do_n s_Do_c)])) rfl ?_)
  intro sv h1 eb1 eh2
  have xx3 : Ext h h1 := by rw [eh2]; exact Ext.push _ _
  have lo5 : Array.size h ≤ sv := Nat.le_of_eq (Eq.symm eb1)
  have hr4 : h1[sv]? = some (.cells #[(.int .i64 s_Stripes), (.int .i64 s_Bits), (.int .i64 s_Most), (.slice s_Do s_Do_n s_Do_c)] 24 (0, 0)) := by rw [eh2]; exact push_new eb1
  refine hl_val rfl rfl (v := (.bool false)) (hv_assign rfl) ?_
  refine hl_nil ?_
  refine seqQ_n ?_
  refine hx_seq ?_
  refine hx_region ?_
  refine hl_val rfl rfl (v := (.agg #[(.int .i64 s_Stripes), (.int .i64 s_Bits), (.int .i64 s_Most), (.slice s_Do s_Do_n s_Do_c)])) (hv_loads (vs := [(.int .i64 s_Stripes), (.int .i64 s_Bits), (.int .i64 s_Most), (.slice s_Do s_Do_n s_Do_c)]) TyShK.agg24 TyShK.sz24 rfl (hcells_cons (rowcell hr4 rfl) (hcells_cons (rowcell hr4 rfl) (hcells_cons (rowcell hr4 rfl) (hcells_cons (rowcell hr4 rfl) hcells_nil))))) ?_
  replace H := H sv h1 lo5 (row_lt hr4) xx3
  refine hl_step rfl rfl (hs_call TyShK.cb10 (vs := [(.agg #[(.int .i64 s_Stripes), (.int .i64 s_Bits), (.int .i64 s_Most), (.slice s_Do s_Do_n s_Do_c)])]) rfl (HC.mono H ?_))
  rintro _ h2 ⟨kp6, r0, r1, r2, rfl, H⟩
  replace hr4 := Kp.row kp6 (by simp) hr4
  refine hl_val rfl rfl (v := (.tuple #[(.pointer r0), (.pointer r1), (.bool r2)])) (hv_move rfl) ?_
  refine hl_val rfl rfl (v := (.pointer r0)) (hv_extract (vs := #[(.pointer r0), (.pointer r1), (.bool r2)]) rfl rfl) ?_
  refine hl_val rfl rfl (v := (.pointer r1)) (hv_extract (vs := #[(.pointer r0), (.pointer r1), (.bool r2)]) rfl rfl) ?_
  refine hl_val rfl rfl (v := (.bool r2)) (hv_extract (vs := #[(.pointer r0), (.pointer r1), (.bool r2)]) rfl rfl) ?_
  refine hl_val rfl rfl (v := (.pointer r0)) (hv_assign rfl) ?_
  refine hl_val rfl rfl (v := (.pointer r1)) (hv_assign rfl) ?_
  refine hl_val rfl rfl (v := (.bool r2)) (hv_assign rfl) ?_
  refine hl_nil ?_
  refine seqQ_n ?_
  refine hx_seq ?_
  refine hx_cut (fun ρ h' => h2 = h' ∧ Has ρ [(1, (ptr sv 0)), (3, (.pointer r0)), (4, (.pointer r1)), (5, (.bool r2)), (19, (.bool ((!r2) || r1.isNone)))]) ?_ ?_
  · refine hx_region ?_
    refine hl_val rfl rfl (v := (.bool r2)) (hv_move rfl) ?_
    refine hl_val rfl rfl (v := (.bool (!r2))) (hv_not (b := r2) rfl) ?_
    refine hl_val rfl rfl (v := (.bool (!r2))) (hv_move rfl) ?_
    rcases bool_or (!r2) with hg9 | hg9
    · refine hl_no (wanted_n rfl rfl rfl hg9) rfl ?_
      refine hl_no (wanted_n rfl rfl rfl hg9) rfl ?_
      refine hl_val rfl rfl (v := (.bool true)) (hv_pick_t rfl hg9 rfl) ?_
      refine hl_nil ?_
      refine seqQ_n ?_
      exact ⟨rfl, (has_cons rfl (has_cons rfl (has_cons rfl (has_cons rfl (has_cons (show ((.bool true) : Value) = (.bool ((!r2) || r1.isNone)) from (by first | rfl | (try rw [hg9]; all_goals first | rfl | (simp only [Bool.true_or, Bool.or_true, Bool.false_or, Bool.or_false, Bool.true_and, Bool.and_true, Bool.false_and, Bool.and_false, Bool.not_true, Bool.not_false, Bool.cond_true, Bool.cond_false]; done)) | simp [hg9])) has_nil)))))⟩
    · refine hl_yes (wanted_y rfl rfl rfl hg9) rfl (HStep.of_val (v := (.pointer r1)) (hv_move rfl) ?_)
      refine hl_yes (wanted_y rfl rfl rfl hg9) rfl (HStep.of_val (v := (.bool r1.isNone)) (hv_ptrNil TyShK.up26 rfl rfl) ?_)
      refine hl_val rfl rfl (v := (.bool r1.isNone)) (hv_pick_f rfl hg9 rfl) ?_
      refine hl_nil ?_
      refine seqQ_n ?_
      exact ⟨rfl, (has_cons rfl (has_cons rfl (has_cons rfl (has_cons rfl (has_cons (show ((.bool r1.isNone) : Value) = (.bool ((!r2) || r1.isNone)) from (by first | rfl | (try rw [hg9]; all_goals first | rfl | (simp only [Bool.true_or, Bool.or_true, Bool.false_or, Bool.or_false, Bool.true_and, Bool.and_true, Bool.false_and, Bool.and_false, Bool.not_true, Bool.not_false, Bool.cond_true, Bool.cond_false]; done)) | simp [hg9])) has_nil)))))⟩
  · rintro ρ _ ⟨rfl, hH⟩
    refine hx_has _ hH ?_
    refine hx_cond (b := ((!r2) || r1.isNone)) rfl (fun hb10 => ?_) (fun hb10 => ?_)
    · replace H := H.1 hb10
      refine hx_seq ?_
      refine hx_region ?_
      refine hl_val rfl rfl (v := (.bool r2)) (hv_move rfl) ?_
      refine hl_val rfl rfl (v := (.bool r2)) (hv_assign rfl) ?_
      refine hl_nil ?_
      refine seqQ_n ?_
      refine hx_ret ?_
      refine seqQ_ret ?_
      exact endQ_ret _ (res_one Try.results4 (rv_tmp rfl)) H
    · replace H := H.2 hb10
      refine hx_skip ?_
      refine seqQ_n ?_
      refine hx_seq ?_
      refine hx_seq ?_
      refine hx_region ?_
      refine hl_val rfl rfl (v := (ptr sv 3)) (hv_field TyShK.fld24_3 (b := sv) (o := 0) rfl) ?_
      refine hl_val rfl rfl (v := (.slice s_Do s_Do_n s_Do_c)) (hv_load TyShK.agg22 rfl (rowcell hr4 rfl)) ?_
      refine hl_val rfl rfl (v := (.int .i64 (s_Do_n : Int))) (hv_len (n := s_Do_n) TyShK.u22 rfl) ?_
      refine hl_val rfl rfl (v := (.int .i64 0)) (hv_move rfl) ?_
      refine hl_nil ?_
      refine seqQ_n ?_
      refine hx_block ?_
      obtain ⟨I11, mu12, Ha13, Hr14⟩ := H
      refine hx_loopT (σ := Int) (fun s => [(3, (.pointer r0)), (4, (.pointer r1)), (22, (.slice s_Do s_Do_n s_Do_c)), (23, (.int .i64 (s_Do_n : Int))), (24, (.int .i64 s))]) (fun s h' => I11 s h' ∧ True) (fun s h' => mu12 s h') 0 ⟨Ha13, trivial⟩ (has_cons rfl (has_cons rfl (has_cons rfl (has_cons rfl (has_cons rfl has_nil))))) ?_
      rintro v ρ h3 ⟨Hi15, -⟩
      have H := Hr14 v h3 Hi15
      refine hx_seq ?_
      refine hx_region ?_
      refine hl_val rfl rfl (v := (.bool (decide (v < (s_Do_n : Int))))) (hv_arith rfl rfl rfl) ?_
      refine hl_nil ?_
      refine seqQ_n ?_
      refine hx_seq ?_
      refine hx_cond (b := decide (v < (s_Do_n : Int))) rfl (fun hb16 => ?_) (fun hb16 => ?_)
      · replace H := H.1 hb16
        refine hx_skip ?_
        refine seqQ_n ?_
        refine hx_seq ?_
        refine hx_block ?_
        refine hx_seq ?_
        refine hx_region ?_
        obtain ⟨s_Do_b, s_Do_o, hqe, hi17, hi18, Hq⟩ := H
        subst hqe
        have H := Hq; clear Hq
        refine hl_val rfl rfl (v := (ptr s_Do_b (s_Do_o + (Int.toNat v) * 8))) (hv_index TyShK.el22 rfl rfl hi17 hi18) ?_
        obtain ⟨x_Kind, x_Entry_Hash, x_Entry_At, x_Entry_Version, x_Entry_Hits, x_At, x_N, x_M, hc19, hc20, hc21, hc22, hc23, hc24, hc25, hc26, H⟩ := H
        refine hl_val rfl rfl (v := (.agg #[(.int .i64 x_Kind), (.int .u64 x_Entry_Hash), (.int .u64 x_Entry_At), (.int .u64 x_Entry_Version), (.int .u8 x_Entry_Hits), (.int .u64 x_At), (.int .i64 x_N), (.int .i64 x_M)])) (hv_loads (vs := [(.int .i64 x_Kind), (.int .u64 x_Entry_Hash), (.int .u64 x_Entry_At), (.int .u64 x_Entry_Version), (.int .u8 x_Entry_Hits), (.int .u64 x_At), (.int .i64 x_N), (.int .i64 x_M)]) TyShK.agg33 TyShK.sz33 rfl (hcells_cons hc19 (hcells_cons hc20 (hcells_cons hc21 (hcells_cons hc22 (hcells_cons hc23 (hcells_cons hc24 (hcells_cons hc25 (hcells_cons hc26 hcells_nil))))))))) ?_
        refine hl_step rfl rfl (hn_alloc TyShK.z33 ?_)
        intro o h4 eb27 eh28
        have xx29 : Ext h3 h4 := by rw [eh28]; exact Ext.push _ _
        have lo31 : Array.size h3 ≤ o := Nat.le_of_eq (Eq.symm eb27)
        have hr30 : h4[o]? = some (.cells #[(.int .i64 0), (.int .u64 0), (.int .u64 0), (.int .u64 0), (.int .u8 0), (.int .u64 0), (.int .i64 0), (.int .i64 0)] 33 (0, 0)) := by rw [eh28]; exact push_new eb27
        refine hl_step rfl rfl (hn_stores (vs := [(.int .i64 x_Kind), (.int .u64 x_Entry_Hash), (.int .u64 x_Entry_At), (.int .u64 x_Entry_Version), (.int .u8 x_Entry_Hits), (.int .u64 x_At), (.int .i64 x_N), (.int .i64 x_M)]) rfl rfl TyShK.sz33 rfl (HWs_row hr30 (by simp)) ?_)
        intro h5 eh32
        have hr30' : h5[o]? = some (.cells #[(.int .i64 x_Kind), (.int .u64 x_Entry_Hash), (.int .u64 x_Entry_At), (.int .u64 x_Entry_Version), (.int .u8 x_Entry_Hits), (.int .u64 x_At), (.int .i64 x_N), (.int .i64 x_M)] 33 (0, 0)) := row_hsets_eq eh32 hr30 rfl
        have xv33 := ext_hsets eh32 xx29 lo31
        refine hl_nil ?_
        refine seqQ_n ?_
        refine hx_seq ?_
        refine hx_region ?_
        refine hl_val rfl rfl (v := (.pointer r0)) (hv_move rfl) ?_
        refine hl_val rfl rfl (v := (.pointer r1)) (hv_move rfl) ?_
        refine hl_val rfl rfl (v := (.agg #[(.int .i64 x_Kind), (.int .u64 x_Entry_Hash), (.int .u64 x_Entry_At), (.int .u64 x_Entry_Version), (.int .u8 x_Entry_Hits), (.int .u64 x_At), (.int .i64 x_N), (.int .i64 x_M)])) (hv_loads (vs := [(.int .i64 x_Kind), (.int .u64 x_Entry_Hash), (.int .u64 x_Entry_At), (.int .u64 x_Entry_Version), (.int .u8 x_Entry_Hits), (.int .u64 x_At), (.int .i64 x_N), (.int .i64 x_M)]) TyShK.agg33 TyShK.sz33 rfl (hcells_cons (rowcell hr30' rfl) (hcells_cons (rowcell hr30' rfl) (hcells_cons (rowcell hr30' rfl) (hcells_cons (rowcell hr30' rfl) (hcells_cons (rowcell hr30' rfl) (hcells_cons (rowcell hr30' rfl) (hcells_cons (rowcell hr30' rfl) (hcells_cons (rowcell hr30' rfl) hcells_nil))))))))) ?_
        replace H := H h5 xv33
        refine hl_step rfl rfl (hs_call TyShK.cb13 (vs := [(.pointer r0), (.pointer r1), (.agg #[(.int .i64 x_Kind), (.int .u64 x_Entry_Hash), (.int .u64 x_Entry_At), (.int .u64 x_Entry_Version), (.int .u8 x_Entry_Hits), (.int .u64 x_At), (.int .i64 x_N), (.int .i64 x_M)])]) rfl (HC.mono H ?_))
        rintro _ h6 ⟨r, rfl, H⟩
        refine hl_val rfl rfl (v := (.bool (!r))) (hv_not (b := r) rfl) ?_
        refine hl_nil ?_
        refine seqQ_n ?_
        refine hx_cond (b := !r) rfl (fun hb34 => ?_) (fun hb34 => ?_)
        · replace H := H.1 hb34
          refine hx_seq ?_
          refine hx_region ?_
          refine hl_val rfl rfl (v := (.bool false)) (hv_assign rfl) ?_
          refine hl_nil ?_
          refine seqQ_n ?_
          refine hx_ret ?_
          refine blockQ_ret ?_
          refine seqQ_ret ?_
          refine seqQ_ret ?_
          refine blockQ_ret ?_
          refine seqQ_ret ?_
          exact endQ_ret _ (res_one Try.results4 (rv_tmp rfl)) H
        · replace H := H.2 hb34
          refine hx_skip ?_
          refine blockQ_n ?_
          refine seqQ_n ?_
          refine hx_region ?_
          refine hl_val rfl rfl (v := (.int .i64 (IntKind.i64.wrap (v + 1)))) (hv_arith rfl rfl rfl) ?_
          refine hl_val rfl rfl (v := (.int .i64 (IntKind.i64.wrap (v + 1)))) (hv_move rfl) ?_
          refine hl_nil ?_
          refine seqQ_n ?_
          exact ⟨IntKind.i64.wrap (v + 1), ⟨⟨H.1, trivial⟩, H.2⟩, (has_cons rfl (has_cons rfl (has_cons rfl (has_cons rfl (has_cons rfl has_nil)))))⟩
      · replace H := H.2 hb16
        refine hx_exit ?_
        refine seqQ_exit ?_
        refine seqQ_exit ?_
        refine blockQ_here ?_
        refine seqQ_n ?_
        refine hx_seq ?_
        refine hx_region ?_
        refine hl_val rfl rfl (v := (.pointer r0)) (hv_move rfl) ?_
        refine hl_val rfl rfl (v := (.pointer r1)) (hv_move rfl) ?_
        refine hl_step rfl rfl (hs_call TyShK.cb14 (vs := [(.pointer r0), (.pointer r1)]) rfl (HC.mono H ?_))
        rintro _ h7 ⟨r, rfl, H⟩
        refine hl_val rfl rfl (v := (.bool r)) (hv_assign rfl) ?_
        refine hl_nil ?_
        refine seqQ_n ?_
        refine hx_ret ?_
        exact endQ_ret _ (res_one Try.results4 (rv_tmp rfl)) H

/-- cellar/cellarlaw12.IndexLooks -/
theorem f5_sh (s_Stripes : Int) (s_Bits : Int) (s_Most : Int) (s_Do : Option Addr) (s_Do_n : Nat) (s_Do_c : Nat) (h : Heap) (R : Value → Heap → Prop)
    (H : (∀ (sv : Nat) (h1 : Heap), Array.size h ≤ sv → sv < Array.size h1 → Ext h h1 → HC Try.prog 10 #[(.agg #[(.int .i64 s_Stripes), (.int .i64 s_Bits), (.int .i64 s_Most), (.slice s_Do s_Do_n s_Do_c)])] h1 (fun vv h2 => Kp [sv] h1 h2 ∧ ∃ r0 r1 : Option Addr, ∃ r2 : Bool, vv = (.tuple #[(.pointer r0), (.pointer r1), (.bool r2)]) ∧ ((((!r2) || r1.isNone) = true → R (.bool r2) h2) ∧ (((!r2) || r1.isNone) = false → (∃ (I11 : Int → Heap → Prop) (mu12 : Int → Heap → Nat), I11 0 h2 ∧ (∀ (v : Int) (h3 : Heap), I11 v h3 → (((decide (v < (s_Do_n : Int))) = true → (∃ s_Do_b s_Do_o : Nat, s_Do = some ⟨s_Do_b, s_Do_o, none⟩ ∧ (0 : Int) ≤ v ∧ v < (s_Do_n : Int) ∧ (∃ x_Kind x_Entry_Hash x_Entry_At x_Entry_Version x_Entry_Hits x_At x_N x_M : Int, hcell h3 s_Do_b (s_Do_o + (Int.toNat v) * 8) = some (.int .i64 x_Kind) ∧ hcell h3 s_Do_b ((s_Do_o + (Int.toNat v) * 8) + 1) = some (.int .u64 x_Entry_Hash) ∧ hcell h3 s_Do_b ((s_Do_o + (Int.toNat v) * 8) + 2) = some (.int .u64 x_Entry_At) ∧ hcell h3 s_Do_b ((s_Do_o + (Int.toNat v) * 8) + 3) = some (.int .u64 x_Entry_Version) ∧ hcell h3 s_Do_b ((s_Do_o + (Int.toNat v) * 8) + 4) = some (.int .u8 x_Entry_Hits) ∧ hcell h3 s_Do_b ((s_Do_o + (Int.toNat v) * 8) + 5) = some (.int .u64 x_At) ∧ hcell h3 s_Do_b ((s_Do_o + (Int.toNat v) * 8) + 6) = some (.int .i64 x_N) ∧ hcell h3 s_Do_b ((s_Do_o + (Int.toNat v) * 8) + 7) = some (.int .i64 x_M) ∧ (∃ A36 : Bool → Heap → Prop, (∀ (h5 : Heap), Ext h3 h5 → HC Try.prog 13 #[(.pointer r0), (.pointer r1), (.agg #[(.int .i64 x_Kind), (.int .u64 x_Entry_Hash), (.int .u64 x_Entry_At), (.int .u64 x_Entry_Version), (.int .u8 x_Entry_Hits), (.int .u64 x_At), (.int .i64 x_N), (.int .i64 x_M)])] h5 (fun vv h7 => ∃ r : Bool, vv = (.bool r) ∧ (((!r) = true → (A36 true h7)) ∧ ((!r) = false → HC Try.prog 14 #[(.pointer r0), (.pointer r1)] h7 (fun vv h8 => ∃ r_1 : Bool, vv = (.bool r_1) ∧ (A36 (!r_1) h8)))))) ∧ (∀ (j_1 : Bool) (h6 : Heap), A36 j_1 h6 → ((j_1 = true → R (.bool false) h6) ∧ (j_1 = false → (I11 (IntKind.i64.wrap (v + 1)) h6 ∧ mu12 (IntKind.i64.wrap (v + 1)) h6 < mu12 v h3)))))))) ∧ ((decide (v < (s_Do_n : Int))) = false → R (.bool true) h3))))))))) :
    HC Try.prog 5 #[(.agg #[(.int .i64 s_Stripes), (.int .i64 s_Bits), (.int .i64 s_Most), (.slice s_Do s_Do_n s_Do_c)])] h R := by
  refine hc_of (args := [(.agg #[(.int .i64 s_Stripes), (.int .i64 s_Bits), (.int .i64 s_Most), (.slice s_Do s_Do_n s_Do_c)])]) Try.func5 rfl Try.ntmps5 (Nat.le_of_ble_eq_true rfl) ?_
  refine hx_seq ?_
  refine hx_region ?_
  refine hl_step rfl rfl (hn_box (v := (.agg #[(.int .i64 s_Stripes), (.int .i64 s_Bits), (.int .i64 s_Most), (.slice s_Do s_Do_n s_Do_c)])) rfl ?_)
  intro sv h1 eb1 eh2
  have xx3 : Ext h h1 := by rw [eh2]; exact Ext.push _ _
  have lo5 : Array.size h ≤ sv := Nat.le_of_eq (Eq.symm eb1)
  have hr4 : h1[sv]? = some (.cells #[(.int .i64 s_Stripes), (.int .i64 s_Bits), (.int .i64 s_Most), (.slice s_Do s_Do_n s_Do_c)] 24 (0, 0)) := by rw [eh2]; exact push_new eb1
  refine hl_val rfl rfl (v := (.bool false)) (hv_assign rfl) ?_
  refine hl_nil ?_
  refine seqQ_n ?_
  refine hx_seq ?_
  refine hx_region ?_
  refine hl_val rfl rfl (v := (.agg #[(.int .i64 s_Stripes), (.int .i64 s_Bits), (.int .i64 s_Most), (.slice s_Do s_Do_n s_Do_c)])) (hv_loads (vs := [(.int .i64 s_Stripes), (.int .i64 s_Bits), (.int .i64 s_Most), (.slice s_Do s_Do_n s_Do_c)]) TyShK.agg24 TyShK.sz24 rfl (hcells_cons (rowcell hr4 rfl) (hcells_cons (rowcell hr4 rfl) (hcells_cons (rowcell hr4 rfl) (hcells_cons (rowcell hr4 rfl) hcells_nil))))) ?_
  replace H := H sv h1 lo5 (row_lt hr4) xx3
  refine hl_step rfl rfl (hs_call TyShK.cb10 (vs := [(.agg #[(.int .i64 s_Stripes), (.int .i64 s_Bits), (.int .i64 s_Most), (.slice s_Do s_Do_n s_Do_c)])]) rfl (HC.mono H ?_))
  rintro _ h2 ⟨kp6, r0, r1, r2, rfl, H⟩
  replace hr4 := Kp.row kp6 (by simp) hr4
  refine hl_val rfl rfl (v := (.tuple #[(.pointer r0), (.pointer r1), (.bool r2)])) (hv_move rfl) ?_
  refine hl_val rfl rfl (v := (.pointer r0)) (hv_extract (vs := #[(.pointer r0), (.pointer r1), (.bool r2)]) rfl rfl) ?_
  refine hl_val rfl rfl (v := (.pointer r1)) (hv_extract (vs := #[(.pointer r0), (.pointer r1), (.bool r2)]) rfl rfl) ?_
  refine hl_val rfl rfl (v := (.bool r2)) (hv_extract (vs := #[(.pointer r0), (.pointer r1), (.bool r2)]) rfl rfl) ?_
  refine hl_val rfl rfl (v := (.pointer r0)) (hv_assign rfl) ?_
  refine hl_val rfl rfl (v := (.pointer r1)) (hv_assign rfl) ?_
  refine hl_val rfl rfl (v := (.bool r2)) (hv_assign rfl) ?_
  refine hl_nil ?_
  refine seqQ_n ?_
  refine hx_seq ?_
  refine hx_cut (fun ρ h' => h2 = h' ∧ Has ρ [(1, (ptr sv 0)), (3, (.pointer r0)), (4, (.pointer r1)), (5, (.bool r2)), (19, (.bool ((!r2) || r1.isNone)))]) ?_ ?_
  · refine hx_region ?_
    refine hl_val rfl rfl (v := (.bool r2)) (hv_move rfl) ?_
    refine hl_val rfl rfl (v := (.bool (!r2))) (hv_not (b := r2) rfl) ?_
    refine hl_val rfl rfl (v := (.bool (!r2))) (hv_move rfl) ?_
    rcases bool_or (!r2) with hg9 | hg9
    · refine hl_no (wanted_n rfl rfl rfl hg9) rfl ?_
      refine hl_no (wanted_n rfl rfl rfl hg9) rfl ?_
      refine hl_val rfl rfl (v := (.bool true)) (hv_pick_t rfl hg9 rfl) ?_
      refine hl_nil ?_
      refine seqQ_n ?_
      exact ⟨rfl, (has_cons rfl (has_cons rfl (has_cons rfl (has_cons rfl (has_cons (show ((.bool true) : Value) = (.bool ((!r2) || r1.isNone)) from (by first | rfl | (try rw [hg9]; all_goals first | rfl | (simp only [Bool.true_or, Bool.or_true, Bool.false_or, Bool.or_false, Bool.true_and, Bool.and_true, Bool.false_and, Bool.and_false, Bool.not_true, Bool.not_false, Bool.cond_true, Bool.cond_false]; done)) | simp [hg9])) has_nil)))))⟩
    · refine hl_yes (wanted_y rfl rfl rfl hg9) rfl (HStep.of_val (v := (.pointer r1)) (hv_move rfl) ?_)
      refine hl_yes (wanted_y rfl rfl rfl hg9) rfl (HStep.of_val (v := (.bool r1.isNone)) (hv_ptrNil TyShK.up26 rfl rfl) ?_)
      refine hl_val rfl rfl (v := (.bool r1.isNone)) (hv_pick_f rfl hg9 rfl) ?_
      refine hl_nil ?_
      refine seqQ_n ?_
      exact ⟨rfl, (has_cons rfl (has_cons rfl (has_cons rfl (has_cons rfl (has_cons (show ((.bool r1.isNone) : Value) = (.bool ((!r2) || r1.isNone)) from (by first | rfl | (try rw [hg9]; all_goals first | rfl | (simp only [Bool.true_or, Bool.or_true, Bool.false_or, Bool.or_false, Bool.true_and, Bool.and_true, Bool.false_and, Bool.and_false, Bool.not_true, Bool.not_false, Bool.cond_true, Bool.cond_false]; done)) | simp [hg9])) has_nil)))))⟩
  · rintro ρ _ ⟨rfl, hH⟩
    refine hx_has _ hH ?_
    refine hx_cond (b := ((!r2) || r1.isNone)) rfl (fun hb10 => ?_) (fun hb10 => ?_)
    · replace H := H.1 hb10
      refine hx_seq ?_
      refine hx_region ?_
      refine hl_val rfl rfl (v := (.bool r2)) (hv_move rfl) ?_
      refine hl_val rfl rfl (v := (.bool r2)) (hv_assign rfl) ?_
      refine hl_nil ?_
      refine seqQ_n ?_
      refine hx_ret ?_
      refine seqQ_ret ?_
      exact endQ_ret _ (res_one Try.results5 (rv_tmp rfl)) H
    · replace H := H.2 hb10
      refine hx_skip ?_
      refine seqQ_n ?_
      refine hx_seq ?_
      refine hx_seq ?_
      refine hx_region ?_
      refine hl_val rfl rfl (v := (ptr sv 3)) (hv_field TyShK.fld24_3 (b := sv) (o := 0) rfl) ?_
      refine hl_val rfl rfl (v := (.slice s_Do s_Do_n s_Do_c)) (hv_load TyShK.agg22 rfl (rowcell hr4 rfl)) ?_
      refine hl_val rfl rfl (v := (.int .i64 (s_Do_n : Int))) (hv_len (n := s_Do_n) TyShK.u22 rfl) ?_
      refine hl_val rfl rfl (v := (.int .i64 0)) (hv_move rfl) ?_
      refine hl_nil ?_
      refine seqQ_n ?_
      refine hx_block ?_
      obtain ⟨I11, mu12, Ha13, Hr14⟩ := H
      refine hx_loopT (σ := Int) (fun s => [(3, (.pointer r0)), (4, (.pointer r1)), (22, (.slice s_Do s_Do_n s_Do_c)), (23, (.int .i64 (s_Do_n : Int))), (24, (.int .i64 s))]) (fun s h' => I11 s h' ∧ True) (fun s h' => mu12 s h') 0 ⟨Ha13, trivial⟩ (has_cons rfl (has_cons rfl (has_cons rfl (has_cons rfl (has_cons rfl has_nil))))) ?_
      rintro v ρ h3 ⟨Hi15, -⟩
      have H := Hr14 v h3 Hi15
      refine hx_seq ?_
      refine hx_region ?_
      refine hl_val rfl rfl (v := (.bool (decide (v < (s_Do_n : Int))))) (hv_arith rfl rfl rfl) ?_
      refine hl_nil ?_
      refine seqQ_n ?_
      refine hx_seq ?_
      refine hx_cond (b := decide (v < (s_Do_n : Int))) rfl (fun hb16 => ?_) (fun hb16 => ?_)
      · replace H := H.1 hb16
        refine hx_skip ?_
        refine seqQ_n ?_
        refine hx_seq ?_
        refine hx_block ?_
        refine hx_seq ?_
        refine hx_region ?_
        obtain ⟨s_Do_b, s_Do_o, hqe, hi17, hi18, Hq⟩ := H
        subst hqe
        have H := Hq; clear Hq
        refine hl_val rfl rfl (v := (ptr s_Do_b (s_Do_o + (Int.toNat v) * 8))) (hv_index TyShK.el22 rfl rfl hi17 hi18) ?_
        obtain ⟨x_Kind, x_Entry_Hash, x_Entry_At, x_Entry_Version, x_Entry_Hits, x_At, x_N, x_M, hc19, hc20, hc21, hc22, hc23, hc24, hc25, hc26, H⟩ := H
        refine hl_val rfl rfl (v := (.agg #[(.int .i64 x_Kind), (.int .u64 x_Entry_Hash), (.int .u64 x_Entry_At), (.int .u64 x_Entry_Version), (.int .u8 x_Entry_Hits), (.int .u64 x_At), (.int .i64 x_N), (.int .i64 x_M)])) (hv_loads (vs := [(.int .i64 x_Kind), (.int .u64 x_Entry_Hash), (.int .u64 x_Entry_At), (.int .u64 x_Entry_Version), (.int .u8 x_Entry_Hits), (.int .u64 x_At), (.int .i64 x_N), (.int .i64 x_M)]) TyShK.agg33 TyShK.sz33 rfl (hcells_cons hc19 (hcells_cons hc20 (hcells_cons hc21 (hcells_cons hc22 (hcells_cons hc23 (hcells_cons hc24 (hcells_cons hc25 (hcells_cons hc26 hcells_nil))))))))) ?_
        refine hl_step rfl rfl (hn_alloc TyShK.z33 ?_)
        intro o h4 eb27 eh28
        have xx29 : Ext h3 h4 := by rw [eh28]; exact Ext.push _ _
        have lo31 : Array.size h3 ≤ o := Nat.le_of_eq (Eq.symm eb27)
        have hr30 : h4[o]? = some (.cells #[(.int .i64 0), (.int .u64 0), (.int .u64 0), (.int .u64 0), (.int .u8 0), (.int .u64 0), (.int .i64 0), (.int .i64 0)] 33 (0, 0)) := by rw [eh28]; exact push_new eb27
        refine hl_step rfl rfl (hn_stores (vs := [(.int .i64 x_Kind), (.int .u64 x_Entry_Hash), (.int .u64 x_Entry_At), (.int .u64 x_Entry_Version), (.int .u8 x_Entry_Hits), (.int .u64 x_At), (.int .i64 x_N), (.int .i64 x_M)]) rfl rfl TyShK.sz33 rfl (HWs_row hr30 (by simp)) ?_)
        intro h5 eh32
        have hr30' : h5[o]? = some (.cells #[(.int .i64 x_Kind), (.int .u64 x_Entry_Hash), (.int .u64 x_Entry_At), (.int .u64 x_Entry_Version), (.int .u8 x_Entry_Hits), (.int .u64 x_At), (.int .i64 x_N), (.int .i64 x_M)] 33 (0, 0)) := row_hsets_eq eh32 hr30 rfl
        have xv33 := ext_hsets eh32 xx29 lo31
        refine hl_nil ?_
        refine seqQ_n ?_
        obtain ⟨A36, Hx34, Hy35⟩ := H
        refine hx_cut (fun ρ h' => ∃ j_1 : Bool, (A36 j_1 h' ∧ True) ∧ Has ρ [(3, (.pointer r0)), (4, (.pointer r1)), (22, (.slice (some ⟨s_Do_b, s_Do_o, none⟩) s_Do_n s_Do_c)), (23, (.int .i64 (s_Do_n : Int))), (24, (.int .i64 v)), (38, (.bool j_1))]) ?_ ?_
        · have H := Hx34; clear Hx34 Hy35
          refine hx_region ?_
          refine hl_val rfl rfl (v := (.pointer r0)) (hv_move rfl) ?_
          refine hl_val rfl rfl (v := (.pointer r1)) (hv_move rfl) ?_
          refine hl_val rfl rfl (v := (.agg #[(.int .i64 x_Kind), (.int .u64 x_Entry_Hash), (.int .u64 x_Entry_At), (.int .u64 x_Entry_Version), (.int .u8 x_Entry_Hits), (.int .u64 x_At), (.int .i64 x_N), (.int .i64 x_M)])) (hv_loads (vs := [(.int .i64 x_Kind), (.int .u64 x_Entry_Hash), (.int .u64 x_Entry_At), (.int .u64 x_Entry_Version), (.int .u8 x_Entry_Hits), (.int .u64 x_At), (.int .i64 x_N), (.int .i64 x_M)]) TyShK.agg33 TyShK.sz33 rfl (hcells_cons (rowcell hr30' rfl) (hcells_cons (rowcell hr30' rfl) (hcells_cons (rowcell hr30' rfl) (hcells_cons (rowcell hr30' rfl) (hcells_cons (rowcell hr30' rfl) (hcells_cons (rowcell hr30' rfl) (hcells_cons (rowcell hr30' rfl) (hcells_cons (rowcell hr30' rfl) hcells_nil))))))))) ?_
          replace H := H h5 xv33
          refine hl_step rfl rfl (hs_call TyShK.cb13 (vs := [(.pointer r0), (.pointer r1), (.agg #[(.int .i64 x_Kind), (.int .u64 x_Entry_Hash), (.int .u64 x_Entry_At), (.int .u64 x_Entry_Version), (.int .u8 x_Entry_Hits), (.int .u64 x_At), (.int .i64 x_N), (.int .i64 x_M)])]) rfl (HC.mono H ?_))
          rintro _ h7 ⟨r, rfl, H⟩
          refine hl_val rfl rfl (v := (.bool (!r))) (hv_not (b := r) rfl) ?_
          refine hl_val rfl rfl (v := (.bool (!r))) (hv_move rfl) ?_
          rcases bool_or (!r) with hg38 | hg38
          · replace H := H.1 hg38
            refine hl_no (wanted_n rfl rfl rfl hg38) rfl ?_
            refine hl_no (wanted_n rfl rfl rfl hg38) rfl ?_
            refine hl_no (wanted_n rfl rfl rfl hg38) rfl ?_
            refine hl_no (wanted_n rfl rfl rfl hg38) rfl ?_
            refine hl_val rfl rfl (v := (.bool true)) (hv_pick_t rfl hg38 rfl) ?_
            refine hl_nil ?_
            refine seqQ_n ?_
            exact ⟨_, ⟨H, trivial⟩, (has_cons rfl (has_cons rfl (has_cons rfl (has_cons rfl (has_cons rfl (has_cons rfl has_nil))))))⟩
          · replace H := H.2 hg38
            refine hl_yes (wanted_y rfl rfl rfl hg38) rfl (HStep.of_val (v := (.pointer r0)) (hv_move rfl) ?_)
            refine hl_yes (wanted_y rfl rfl rfl hg38) rfl (HStep.of_val (v := (.pointer r1)) (hv_move rfl) ?_)
            refine hl_yes (wanted_y rfl rfl rfl hg38) rfl (hs_call TyShK.cb14 (vs := [(.pointer r0), (.pointer r1)]) rfl (HC.mono H ?_))
            rintro _ h8 ⟨r_1, rfl, H⟩
            refine hl_yes (wanted_y rfl rfl rfl hg38) rfl (HStep.of_val (v := (.bool (!r_1))) (hv_not (b := r_1) rfl) ?_)
            refine hl_val rfl rfl (v := (.bool (!r_1))) (hv_pick_f rfl hg38 rfl) ?_
            refine hl_nil ?_
            refine seqQ_n ?_
            exact ⟨_, ⟨H, trivial⟩, (has_cons rfl (has_cons rfl (has_cons rfl (has_cons rfl (has_cons rfl (has_cons rfl has_nil))))))⟩
        · rintro ρ h6 ⟨j_1, ⟨HA37, -⟩, hH⟩
          have H := Hy35 j_1 h6 HA37; clear Hx34 Hy35
          refine hx_has _ hH ?_
          refine hx_cond (b := j_1) rfl (fun hb39 => ?_) (fun hb39 => ?_)
          · replace H := H.1 hb39
            refine hx_seq ?_
            refine hx_region ?_
            refine hl_val rfl rfl (v := (.bool false)) (hv_assign rfl) ?_
            refine hl_nil ?_
            refine seqQ_n ?_
            refine hx_ret ?_
            refine blockQ_ret ?_
            refine seqQ_ret ?_
            refine seqQ_ret ?_
            refine blockQ_ret ?_
            refine seqQ_ret ?_
            exact endQ_ret _ (res_one Try.results5 (rv_tmp rfl)) H
          · replace H := H.2 hb39
            refine hx_skip ?_
            refine blockQ_n ?_
            refine seqQ_n ?_
            refine hx_region ?_
            refine hl_val rfl rfl (v := (.int .i64 (IntKind.i64.wrap (v + 1)))) (hv_arith rfl rfl rfl) ?_
            refine hl_val rfl rfl (v := (.int .i64 (IntKind.i64.wrap (v + 1)))) (hv_move rfl) ?_
            refine hl_nil ?_
            refine seqQ_n ?_
            exact ⟨IntKind.i64.wrap (v + 1), ⟨⟨H.1, trivial⟩, H.2⟩, (has_cons rfl (has_cons rfl (has_cons rfl (has_cons rfl (has_cons rfl has_nil)))))⟩
      · replace H := H.2 hb16
        refine hx_exit ?_
        refine seqQ_exit ?_
        refine seqQ_exit ?_
        refine blockQ_here ?_
        refine seqQ_n ?_
        refine hx_seq ?_
        refine hx_region ?_
        refine hl_val rfl rfl (v := (.bool true)) (hv_assign rfl) ?_
        refine hl_nil ?_
        refine seqQ_n ?_
        refine hx_ret ?_
        exact endQ_ret _ (res_one Try.results5 (rv_tmp rfl)) H

end Go.Proofs.Ytkecmljalcfhoaa
