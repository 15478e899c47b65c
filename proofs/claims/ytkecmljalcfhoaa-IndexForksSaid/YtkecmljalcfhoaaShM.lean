/-
Shallow forms, written by gen2.py (a program of ours) out of the print of the program.
-/
import Derived.Test.YtkecmljalcfhoaaShJ
import Derived.Test.YtkecmljalcfhoaaPrv
import Derived.Test.YtkecmljalcfhoaaSrt
import Derived.Test.YtkecmljalcfhoaaRng
import Derived.Test.YtkecmljalcfhoaaMor
import Derived.Test.YtkecmljalcfhoaaProg
namespace Go.Proofs.Ytkecmljalcfhoaa
open Go
set_option maxRecDepth 100000
set_option maxHeartbeats 4000000

theorem TyShM.agg22 : aggB Try.prog 22 = some false := by kernel_rfl
theorem TyShM.agg24 : aggB Try.prog 24 = some true := by kernel_rfl
theorem TyShM.agg33 : aggB Try.prog 33 = some true := by kernel_rfl
theorem TyShM.cb10 : CallB Try.prog 10 := fun _ _ => Try.call10 _ _
theorem TyShM.cb13 : CallB Try.prog 13 := fun _ _ => Try.call13 _ _
theorem TyShM.cb14 : CallB Try.prog 14 := fun _ _ => Try.call14 _ _
theorem TyShM.cb20 : CallB Try.prog 20 := fun _ _ => Try.call20 _ _
theorem TyShM.cb21 : CallB Try.prog 21 := fun _ _ => Try.call21 _ _
theorem TyShM.el22 : elB Try.prog 22 = some 8 := by kernel_rfl
theorem TyShM.fld24_3 : fldB Try.prog 24 3 = some 3 := by kernel_rfl
theorem TyShM.sz24 : szB Try.prog 24 = some 4 := by kernel_rfl
theorem TyShM.sz33 : szB Try.prog 33 = some 8 := by kernel_rfl
theorem TyShM.u22 : Try.prog.underlying 22 = some (.slice 33) := by kernel_rfl
theorem TyShM.up25 : Try.prog.underlying 25 = some (.pointer 61) := by kernel_rfl
theorem TyShM.up26 : Try.prog.underlying 26 = some (.pointer 80) := by kernel_rfl
theorem TyShM.z33 : zeroB Try.prog 33 (.agg #[(.int .i64 0), (.int .u64 0), (.int .u64 0), (.int .u64 0), (.int .u8 0), (.int .u64 0), (.int .i64 0), (.int .i64 0)]) := by unfold zeroB; kernel_rfl

/-- cellar/cellarlaw12.IndexForks -/
theorem f8_sh (s_Stripes : Int) (s_Bits : Int) (s_Most : Int) (s_Do : Option Addr) (s_Do_n : Nat) (s_Do_c : Nat) (more : Option Addr) (more_n : Nat) (more_c : Nat) (h : Heap) (R : Value → Heap → Prop)
    (H : (∀ (sv : Nat) (h1 : Heap), Array.size h ≤ sv → sv < Array.size h1 → Ext h h1 → HC Try.prog 10 #[(.agg #[(.int .i64 s_Stripes), (.int .i64 s_Bits), (.int .i64 s_Most), (.slice s_Do s_Do_n s_Do_c)])] h1 (fun vv h2 => Kp [sv] h1 h2 ∧ ∃ r0 r1 : Option Addr, ∃ r2 : Bool, vv = (.tuple #[(.pointer r0), (.pointer r1), (.bool r2)]) ∧ ((((!r2) || r1.isNone) = true → R (.bool r2) h2) ∧ (((!r2) || r1.isNone) = false → (∃ (I11 : Int → Heap → Prop) (mu12 : Int → Heap → Nat), I11 0 h2 ∧ (∀ (v : Int) (h3 : Heap), I11 v h3 → (((decide (v < (s_Do_n : Int))) = true → (∃ s_Do_b s_Do_o : Nat, s_Do = some ⟨s_Do_b, s_Do_o, none⟩ ∧ (0 : Int) ≤ v ∧ v < (s_Do_n : Int) ∧ (∃ x_Kind x_Entry_Hash x_Entry_At x_Entry_Version x_Entry_Hits x_At x_N x_M : Int, hcell h3 s_Do_b (s_Do_o + (Int.toNat v) * 8) = some (.int .i64 x_Kind) ∧ hcell h3 s_Do_b ((s_Do_o + (Int.toNat v) * 8) + 1) = some (.int .u64 x_Entry_Hash) ∧ hcell h3 s_Do_b ((s_Do_o + (Int.toNat v) * 8) + 2) = some (.int .u64 x_Entry_At) ∧ hcell h3 s_Do_b ((s_Do_o + (Int.toNat v) * 8) + 3) = some (.int .u64 x_Entry_Version) ∧ hcell h3 s_Do_b ((s_Do_o + (Int.toNat v) * 8) + 4) = some (.int .u8 x_Entry_Hits) ∧ hcell h3 s_Do_b ((s_Do_o + (Int.toNat v) * 8) + 5) = some (.int .u64 x_At) ∧ hcell h3 s_Do_b ((s_Do_o + (Int.toNat v) * 8) + 6) = some (.int .i64 x_N) ∧ hcell h3 s_Do_b ((s_Do_o + (Int.toNat v) * 8) + 7) = some (.int .i64 x_M) ∧ (∀ (h5 : Heap), Ext h3 h5 → HC Try.prog 13 #[(.pointer r0), (.pointer r1), (.agg #[(.int .i64 x_Kind), (.int .u64 x_Entry_Hash), (.int .u64 x_Entry_At), (.int .u64 x_Entry_Version), (.int .u8 x_Entry_Hits), (.int .u64 x_At), (.int .i64 x_N), (.int .i64 x_M)])] h5 (fun vv h6 => ∃ r : Bool, vv = (.bool r) ∧ (((!r) = true → R (.bool false) h6) ∧ ((!r) = false → (I11 (IntKind.i64.wrap (v + 1)) h6 ∧ mu12 (IntKind.i64.wrap (v + 1)) h6 < mu12 v h3)))))))) ∧ ((decide (v < (s_Do_n : Int))) = false → HC Try.prog 20 #[(.pointer r0)] h3 (fun vv h7 => ∃ r : Option Addr, vv = (.pointer r) ∧ HC Try.prog 21 #[(.pointer r1)] h7 (fun vv h8 => ∃ r_1 : Option Addr, vv = (.pointer r_1) ∧ ((r.isNone = true → R (.bool false) h8) ∧ (r.isNone = false → (∃ (I36 : Int → Heap → Prop) (mu37 : Int → Heap → Nat), I36 0 h8 ∧ (∀ (v_1 : Int) (h9 : Heap), I36 v_1 h9 → (((decide (v_1 < (more_n : Int))) = true → (∃ more_b more_o : Nat, more = some ⟨more_b, more_o, none⟩ ∧ (0 : Int) ≤ v_1 ∧ v_1 < (more_n : Int) ∧ (∃ x_Kind x_Entry_Hash x_Entry_At x_Entry_Version x_Entry_Hits x_At x_N x_M : Int, hcell h9 more_b (more_o + (Int.toNat v_1) * 8) = some (.int .i64 x_Kind) ∧ hcell h9 more_b ((more_o + (Int.toNat v_1) * 8) + 1) = some (.int .u64 x_Entry_Hash) ∧ hcell h9 more_b ((more_o + (Int.toNat v_1) * 8) + 2) = some (.int .u64 x_Entry_At) ∧ hcell h9 more_b ((more_o + (Int.toNat v_1) * 8) + 3) = some (.int .u64 x_Entry_Version) ∧ hcell h9 more_b ((more_o + (Int.toNat v_1) * 8) + 4) = some (.int .u8 x_Entry_Hits) ∧ hcell h9 more_b ((more_o + (Int.toNat v_1) * 8) + 5) = some (.int .u64 x_At) ∧ hcell h9 more_b ((more_o + (Int.toNat v_1) * 8) + 6) = some (.int .i64 x_N) ∧ hcell h9 more_b ((more_o + (Int.toNat v_1) * 8) + 7) = some (.int .i64 x_M) ∧ (∃ A61 : Bool → Heap → Prop, ((((Int.tmod v_1 2) == 0) = true → (∀ (o : Nat) (h11 : Heap), Array.size h9 ≤ o → o < Array.size h11 → Ext h9 h11 → HC Try.prog 13 #[(.pointer r0), (.pointer r1), (.agg #[(.int .i64 x_Kind), (.int .u64 x_Entry_Hash), (.int .u64 x_Entry_At), (.int .u64 x_Entry_Version), (.int .u8 x_Entry_Hits), (.int .u64 x_At), (.int .i64 x_N), (.int .i64 x_M)])] h11 (fun vv h13 => Kp [o] h11 h13 ∧ ∃ r_2 : Bool, vv = (.bool r_2) ∧ (((!r_2) = true → (A61 true h13)) ∧ ((!r_2) = false → ((((Int.tmod v_1 2) == 1) = true → HC Try.prog 13 #[(.pointer r), (.pointer r_1), (.agg #[(.int .i64 x_Kind), (.int .u64 x_Entry_Hash), (.int .u64 x_Entry_At), (.int .u64 x_Entry_Version), (.int .u8 x_Entry_Hits), (.int .u64 x_At), (.int .i64 x_N), (.int .i64 x_M)])] h13 (fun vv h14 => ∃ r_3 : Bool, vv = (.bool r_3) ∧ (A61 (!r_3) h14))) ∧ (((Int.tmod v_1 2) == 1) = false → (A61 false h13)))))))) ∧ (((Int.tmod v_1 2) == 0) = false → ((((Int.tmod v_1 2) == 1) = true → (∀ (h11 : Heap), Ext h9 h11 → HC Try.prog 13 #[(.pointer r), (.pointer r_1), (.agg #[(.int .i64 x_Kind), (.int .u64 x_Entry_Hash), (.int .u64 x_Entry_At), (.int .u64 x_Entry_Version), (.int .u8 x_Entry_Hits), (.int .u64 x_At), (.int .i64 x_N), (.int .i64 x_M)])] h11 (fun vv h15 => ∃ r_2 : Bool, vv = (.bool r_2) ∧ (A61 (!r_2) h15)))) ∧ (((Int.tmod v_1 2) == 1) = false → (∀ (h11 : Heap), Ext h9 h11 → (A61 false h11)))))) ∧ (∀ (j_1 : Bool) (h12 : Heap), A61 j_1 h12 → ((j_1 = true → R (.bool false) h12) ∧ (j_1 = false → (I36 (IntKind.i64.wrap (v_1 + 1)) h12 ∧ mu37 (IntKind.i64.wrap (v_1 + 1)) h12 < mu37 v_1 h9)))))))) ∧ ((decide (v_1 < (more_n : Int))) = false → (∃ A71 : Bool → Heap → Prop, HC Try.prog 14 #[(.pointer r0), (.pointer r1)] h9 (fun vv h17 => ∃ r_2 : Bool, vv = (.bool r_2) ∧ ((r_2 = true → HC Try.prog 14 #[(.pointer r), (.pointer r_1)] h17 (fun vv h18 => ∃ r_3 : Bool, vv = (.bool r_3) ∧ (A71 r_3 h18))) ∧ (r_2 = false → (A71 false h17)))) ∧ (∀ (j_1 : Bool) (h16 : Heap), A71 j_1 h16 → R (.bool j_1) h16))))))))))))))))))) :
    HC Try.prog 8 #[(.agg #[(.int .i64 s_Stripes), (.int .i64 s_Bits), (.int .i64 s_Most), (.slice s_Do s_Do_n s_Do_c)]), (.slice more more_n more_c)] h R := by
  refine hc_of (args := [(.agg #[(.int .i64 s_Stripes), (.int .i64 s_Bits), (.int .i64 s_Most), (.slice s_Do s_Do_n s_Do_c)]), (.slice more more_n more_c)]) Try.func8 rfl Try.ntmps8 (Nat.le_of_ble_eq_true rfl) ?_
  refine hx_seq ?_
  refine hx_region ?_
  refine hl_step rfl rfl (hn_box (v := (.agg #[(.int .i64 s_Stripes), (.int .i64 s_Bits), (.int .i64 s_Most), (.slice s_Do s_Do_n s_Do_c)])) rfl ?_)
  intro sv h1 eb1 eh2
  have xx3 : Ext h h1 := by rw [eh2]; exact Ext.push _ _
  have lo5 : Array.size h ≤ sv := Nat.le_of_eq (Eq.symm eb1)
  have hr4 : h1[sv]? = some (.cells #[(.int .i64 s_Stripes), (.int .i64 s_Bits), (.int .i64 s_Most), (.slice s_Do s_Do_n s_Do_c)] 24 (0, 0)) := by rw [eh2]; exact push_new eb1
  refine hl_val rfl rfl (v := (.bool false)) (hv_assign rfl) ?_
  refine hl_nil ?_
  refine seqQ_n ?_
  refine hx_seq ?_
  refine hx_region ?_
  refine hl_val rfl rfl (v := (.agg #[(.int .i64 s_Stripes), (.int .i64 s_Bits), (.int .i64 s_Most), (.slice s_Do s_Do_n s_Do_c)])) (hv_loads (vs := [(.int .i64 s_Stripes), (.int .i64 s_Bits), (.int .i64 s_Most), (.slice s_Do s_Do_n s_Do_c)]) TyShM.agg24 TyShM.sz24 rfl (hcells_cons (rowcell hr4 rfl) (hcells_cons (rowcell hr4 rfl) (hcells_cons (rowcell hr4 rfl) (hcells_cons (rowcell hr4 rfl) hcells_nil))))) ?_
  replace H := H sv h1 lo5 (row_lt hr4) xx3
  refine hl_step rfl rfl (hs_call TyShM.cb10 (vs := [(.agg #[(.int .i64 s_Stripes), (.int .i64 s_Bits), (.int .i64 s_Most), (.slice s_Do s_Do_n s_Do_c)])]) rfl (HC.mono H ?_))
  rintro _ h2 ⟨kp6, r0, r1, r2, rfl, H⟩
  replace hr4 := Kp.row kp6 (by simp) hr4
  refine hl_val rfl rfl (v := (.tuple #[(.pointer r0), (.pointer r1), (.bool r2)])) (hv_move rfl) ?_
  refine hl_val rfl rfl (v := (.pointer r0)) (hv_extract (vs := #[(.pointer r0), (.pointer r1), (.bool r2)]) rfl rfl) ?_
  refine hl_val rfl rfl (v := (.pointer r1)) (hv_extract (vs := #[(.pointer r0), (.pointer r1), (.bool r2)]) rfl rfl) ?_
  refine hl_val rfl rfl (v := (.bool r2)) (hv_extract (vs := #[(.pointer r0), (.pointer r1), (.bool r2)]) rfl rfl) ?_
  refine hl_val rfl rfl (v := (.pointer r0)) (hv_assign rfl) ?_
  refine hl_val rfl rfl (v := (.pointer r1)) (hv_assign rfl) ?_
  refine hl_val rfl rfl (v := (.bool r2)) (hv_assign rfl) ?_
  refine hl_nil ?_
  refine seqQ_n ?_
  refine hx_seq ?_
  refine hx_cut (fun ρ h' => h2 = h' ∧ Has ρ [(1, (.slice more more_n more_c)), (2, (ptr sv 0)), (5, (.pointer r0)), (6, (.pointer r1)), (7, (.bool r2)), (25, (.bool ((!r2) || r1.isNone)))]) ?_ ?_
  · refine hx_region ?_
    refine hl_val rfl rfl (v := (.bool r2)) (hv_move rfl) ?_
    refine hl_val rfl rfl (v := (.bool (!r2))) (hv_not (b := r2) rfl) ?_
    refine hl_val rfl rfl (v := (.bool (!r2))) (hv_move rfl) ?_
    rcases bool_or (!r2) with hg9 | hg9
    · refine hl_no (wanted_n rfl rfl rfl hg9) rfl ?_
      refine hl_no (wanted_n rfl rfl rfl hg9) rfl ?_
      refine hl_val rfl rfl (v := (.bool true)) (hv_pick_t rfl hg9 rfl) ?_
      refine hl_nil ?_
      refine seqQ_n ?_
      exact ⟨rfl, (has_cons rfl (has_cons rfl (has_cons rfl (has_cons rfl (has_cons rfl (has_cons (show ((.bool true) : Value) = (.bool ((!r2) || r1.isNone)) from (by first | rfl | (try rw [hg9]; all_goals first | rfl | (simp only [Bool.true_or, Bool.or_true, Bool.false_or, Bool.or_false, Bool.true_and, Bool.and_true, Bool.false_and, Bool.and_false, Bool.not_true, Bool.not_false, Bool.cond_true, Bool.cond_false]; done)) | simp [hg9])) has_nil))))))⟩
    · refine hl_yes (wanted_y rfl rfl rfl hg9) rfl (HStep.of_val (v := (.pointer r1)) (hv_move rfl) ?_)
      refine hl_yes (wanted_y rfl rfl rfl hg9) rfl (HStep.of_val (v := (.bool r1.isNone)) (hv_ptrNil TyShM.up26 rfl rfl) ?_)
      refine hl_val rfl rfl (v := (.bool r1.isNone)) (hv_pick_f rfl hg9 rfl) ?_
      refine hl_nil ?_
      refine seqQ_n ?_
      exact ⟨rfl, (has_cons rfl (has_cons rfl (has_cons rfl (has_cons rfl (has_cons rfl (has_cons (show ((.bool r1.isNone) : Value) = (.bool ((!r2) || r1.isNone)) from (by first | rfl | (try rw [hg9]; all_goals first | rfl | (simp only [Bool.true_or, Bool.or_true, Bool.false_or, Bool.or_false, Bool.true_and, Bool.and_true, Bool.false_and, Bool.and_false, Bool.not_true, Bool.not_false, Bool.cond_true, Bool.cond_false]; done)) | simp [hg9])) has_nil))))))⟩
  · rintro ρ _ ⟨rfl, hH⟩
    refine hx_has _ hH ?_
    refine hx_cond (b := ((!r2) || r1.isNone)) rfl (fun hb10 => ?_) (fun hb10 => ?_)
    · replace H := H.1 hb10
      refine hx_seq ?_
      refine hx_region ?_
      refine hl_val rfl rfl (v := (.bool r2)) (hv_move rfl) ?_
      refine hl_val rfl rfl (v := (.bool r2)) (hv_assign rfl) ?_
      refine hl_nil ?_
      refine seqQ_n ?_
      refine hx_ret ?_
      refine seqQ_ret ?_
      exact endQ_ret _ (res_one Try.results8 (rv_tmp rfl)) H
    · replace H := H.2 hb10
      refine hx_skip ?_
      refine seqQ_n ?_
      refine hx_seq ?_
      refine hx_seq ?_
      refine hx_region ?_
      refine hl_val rfl rfl (v := (ptr sv 3)) (hv_field TyShM.fld24_3 (b := sv) (o := 0) rfl) ?_
      refine hl_val rfl rfl (v := (.slice s_Do s_Do_n s_Do_c)) (hv_load TyShM.agg22 rfl (rowcell hr4 rfl)) ?_
      refine hl_val rfl rfl (v := (.int .i64 (s_Do_n : Int))) (hv_len (n := s_Do_n) TyShM.u22 rfl) ?_
      refine hl_val rfl rfl (v := (.int .i64 0)) (hv_move rfl) ?_
      refine hl_nil ?_
      refine seqQ_n ?_
      refine hx_block ?_
      obtain ⟨I11, mu12, Ha13, Hr14⟩ := H
      refine hx_loopT (σ := Int) (fun s => [(1, (.slice more more_n more_c)), (5, (.pointer r0)), (6, (.pointer r1)), (28, (.slice s_Do s_Do_n s_Do_c)), (29, (.int .i64 (s_Do_n : Int))), (30, (.int .i64 s))]) (fun s h' => I11 s h' ∧ True) (fun s h' => mu12 s h') 0 ⟨Ha13, trivial⟩ (has_cons rfl (has_cons rfl (has_cons rfl (has_cons rfl (has_cons rfl (has_cons rfl has_nil)))))) ?_
      rintro v ρ h3 ⟨Hi15, -⟩
      have H := Hr14 v h3 Hi15
      refine hx_seq ?_
      refine hx_region ?_
      refine hl_val rfl rfl (v := (.bool (decide (v < (s_Do_n : Int))))) (hv_arith rfl rfl rfl) ?_
      refine hl_nil ?_
      refine seqQ_n ?_
      refine hx_seq ?_
      refine hx_cond (b := decide (v < (s_Do_n : Int))) rfl (fun hb16 => ?_) (fun hb16 => ?_)
      · replace H := H.1 hb16
        refine hx_skip ?_
        refine seqQ_n ?_
        refine hx_seq ?_
        refine hx_block ?_
        refine hx_seq ?_
        refine hx_region ?_
        obtain ⟨s_Do_b, s_Do_o, hqe, hi17, hi18, Hq⟩ := H
        subst hqe
        have H := Hq; clear Hq
        refine hl_val rfl rfl (v := (ptr s_Do_b (s_Do_o + (Int.toNat v) * 8))) (hv_index TyShM.el22 rfl rfl hi17 hi18) ?_
        obtain ⟨x_Kind, x_Entry_Hash, x_Entry_At, x_Entry_Version, x_Entry_Hits, x_At, x_N, x_M, hc19, hc20, hc21, hc22, hc23, hc24, hc25, hc26, H⟩ := H
        refine hl_val rfl rfl (v := (.agg #[(.int .i64 x_Kind), (.int .u64 x_Entry_Hash), (.int .u64 x_Entry_At), (.int .u64 x_Entry_Version), (.int .u8 x_Entry_Hits), (.int .u64 x_At), (.int .i64 x_N), (.int .i64 x_M)])) (hv_loads (vs := [(.int .i64 x_Kind), (.int .u64 x_Entry_Hash), (.int .u64 x_Entry_At), (.int .u64 x_Entry_Version), (.int .u8 x_Entry_Hits), (.int .u64 x_At), (.int .i64 x_N), (.int .i64 x_M)]) TyShM.agg33 TyShM.sz33 rfl (hcells_cons hc19 (hcells_cons hc20 (hcells_cons hc21 (hcells_cons hc22 (hcells_cons hc23 (hcells_cons hc24 (hcells_cons hc25 (hcells_cons hc26 hcells_nil))))))))) ?_
        refine hl_step rfl rfl (hn_alloc TyShM.z33 ?_)
        intro o h4 eb27 eh28
        have xx29 : Ext h3 h4 := by rw [eh28]; exact Ext.push _ _
        have lo31 : Array.size h3 ≤ o := Nat.le_of_eq (Eq.symm eb27)
        have hr30 : h4[o]? = some (.cells #[(.int .i64 0), (.int .u64 0), (.int .u64 0), (.int .u64 0), (.int .u8 0), (.int .u64 0), (.int .i64 0), (.int .i64 0)] 33 (0, 0)) := by rw [eh28]; exact push_new eb27
        refine hl_step rfl rfl (hn_stores (vs := [(.int .i64 x_Kind), (.int .u64 x_Entry_Hash), (.int .u64 x_Entry_At), (.int .u64 x_Entry_Version), (.int .u8 x_Entry_Hits), (.int .u64 x_At), (.int .i64 x_N), (.int .i64 x_M)]) rfl rfl TyShM.sz33 rfl (HWs_row hr30 (by simp)) ?_)
        intro h5 eh32
        have hr30' : h5[o]? = some (.cells #[(.int .i64 x_Kind), (.int .u64 x_Entry_Hash), (.int .u64 x_Entry_At), (.int .u64 x_Entry_Version), (.int .u8 x_Entry_Hits), (.int .u64 x_At), (.int .i64 x_N), (.int .i64 x_M)] 33 (0, 0)) := row_hsets_eq eh32 hr30 rfl
        have xv33 := ext_hsets eh32 xx29 lo31
        refine hl_nil ?_
        refine seqQ_n ?_
        refine hx_seq ?_
        refine hx_region ?_
        refine hl_val rfl rfl (v := (.pointer r0)) (hv_move rfl) ?_
        refine hl_val rfl rfl (v := (.pointer r1)) (hv_move rfl) ?_
        refine hl_val rfl rfl (v := (.agg #[(.int .i64 x_Kind), (.int .u64 x_Entry_Hash), (.int .u64 x_Entry_At), (.int .u64 x_Entry_Version), (.int .u8 x_Entry_Hits), (.int .u64 x_At), (.int .i64 x_N), (.int .i64 x_M)])) (hv_loads (vs := [(.int .i64 x_Kind), (.int .u64 x_Entry_Hash), (.int .u64 x_Entry_At), (.int .u64 x_Entry_Version), (.int .u8 x_Entry_Hits), (.int .u64 x_At), (.int .i64 x_N), (.int .i64 x_M)]) TyShM.agg33 TyShM.sz33 rfl (hcells_cons (rowcell hr30' rfl) (hcells_cons (rowcell hr30' rfl) (hcells_cons (rowcell hr30' rfl) (hcells_cons (rowcell hr30' rfl) (hcells_cons (rowcell hr30' rfl) (hcells_cons (rowcell hr30' rfl) (hcells_cons (rowcell hr30' rfl) (hcells_cons (rowcell hr30' rfl) hcells_nil))))))))) ?_
        replace H := H h5 xv33
        refine hl_step rfl rfl (hs_call TyShM.cb13 (vs := [(.pointer r0), (.pointer r1), (.agg #[(.int .i64 x_Kind), (.int .u64 x_Entry_Hash), (.int .u64 x_Entry_At), (.int .u64 x_Entry_Version), (.int .u8 x_Entry_Hits), (.int .u64 x_At), (.int .i64 x_N), (.int .i64 x_M)])]) rfl (HC.mono H ?_))
        rintro _ h6 ⟨r, rfl, H⟩
        refine hl_val rfl rfl (v := (.bool (!r))) (hv_not (b := r) rfl) ?_
        refine hl_nil ?_
        refine seqQ_n ?_
        refine hx_cond (b := !r) rfl (fun hb34 => ?_) (fun hb34 => ?_)
        · replace H := H.1 hb34
          refine hx_seq ?_
          refine hx_region ?_
          refine hl_val rfl rfl (v := (.bool false)) (hv_assign rfl) ?_
          refine hl_nil ?_
          refine seqQ_n ?_
          refine hx_ret ?_
          refine blockQ_ret ?_
          refine seqQ_ret ?_
          refine seqQ_ret ?_
          refine blockQ_ret ?_
          refine seqQ_ret ?_
          exact endQ_ret _ (res_one Try.results8 (rv_tmp rfl)) H
        · replace H := H.2 hb34
          refine hx_skip ?_
          refine blockQ_n ?_
          refine seqQ_n ?_
          refine hx_region ?_
          refine hl_val rfl rfl (v := (.int .i64 (IntKind.i64.wrap (v + 1)))) (hv_arith rfl rfl rfl) ?_
          refine hl_val rfl rfl (v := (.int .i64 (IntKind.i64.wrap (v + 1)))) (hv_move rfl) ?_
          refine hl_nil ?_
          refine seqQ_n ?_
          exact ⟨IntKind.i64.wrap (v + 1), ⟨⟨H.1, trivial⟩, H.2⟩, (has_cons rfl (has_cons rfl (has_cons rfl (has_cons rfl (has_cons rfl (has_cons rfl has_nil))))))⟩
      · replace H := H.2 hb16
        refine hx_exit ?_
        refine seqQ_exit ?_
        refine seqQ_exit ?_
        refine blockQ_here ?_
        refine seqQ_n ?_
        refine hx_seq ?_
        refine hx_region ?_
        refine hl_val rfl rfl (v := (.pointer r0)) (hv_move rfl) ?_
        refine hl_step rfl rfl (hs_call TyShM.cb20 (vs := [(.pointer r0)]) rfl (HC.mono H ?_))
        rintro _ h7 ⟨r, rfl, H⟩
        refine hl_val rfl rfl (v := (.pointer r1)) (hv_move rfl) ?_
        refine hl_step rfl rfl (hs_call TyShM.cb21 (vs := [(.pointer r1)]) rfl (HC.mono H ?_))
        rintro _ h8 ⟨r_1, rfl, H⟩
        refine hl_val rfl rfl (v := (.pointer r)) (hv_assign rfl) ?_
        refine hl_val rfl rfl (v := (.pointer r_1)) (hv_assign rfl) ?_
        refine hl_nil ?_
        refine seqQ_n ?_
        refine hx_seq ?_
        refine hx_seq ?_
        refine hx_region ?_
        refine hl_val rfl rfl (v := (.pointer r)) (hv_move rfl) ?_
        refine hl_val rfl rfl (v := (.bool r.isNone)) (hv_ptrNil TyShM.up25 rfl rfl) ?_
        refine hl_nil ?_
        refine seqQ_n ?_
        refine hx_cond (b := r.isNone) rfl (fun hb35 => ?_) (fun hb35 => ?_)
        · replace H := H.1 hb35
          refine hx_seq ?_
          refine hx_region ?_
          refine hl_val rfl rfl (v := (.bool false)) (hv_assign rfl) ?_
          refine hl_nil ?_
          refine seqQ_n ?_
          refine hx_ret ?_
          refine seqQ_ret ?_
          exact endQ_ret _ (res_one Try.results8 (rv_tmp rfl)) H
        · replace H := H.2 hb35
          refine hx_skip ?_
          refine seqQ_n ?_
          refine hx_seq ?_
          refine hx_seq ?_
          refine hx_region ?_
          refine hl_val rfl rfl (v := (.slice more more_n more_c)) (hv_move rfl) ?_
          refine hl_val rfl rfl (v := (.int .i64 (more_n : Int))) (hv_len (n := more_n) TyShM.u22 rfl) ?_
          refine hl_val rfl rfl (v := (.int .i64 0)) (hv_move rfl) ?_
          refine hl_nil ?_
          refine seqQ_n ?_
          refine hx_block ?_
          obtain ⟨I36, mu37, Ha38, Hr39⟩ := H
          refine hx_loopT (σ := Int) (fun s => [(5, (.pointer r0)), (6, (.pointer r1)), (10, (.pointer r)), (11, (.pointer r_1)), (46, (.slice more more_n more_c)), (47, (.int .i64 (more_n : Int))), (48, (.int .i64 s))]) (fun s h' => I36 s h' ∧ True) (fun s h' => mu37 s h') 0 ⟨Ha38, trivial⟩ (has_cons rfl (has_cons rfl (has_cons rfl (has_cons rfl (has_cons rfl (has_cons rfl (has_cons rfl has_nil))))))) ?_
          rintro v_1 ρ h9 ⟨Hi40, -⟩
          have H := Hr39 v_1 h9 Hi40
          refine hx_seq ?_
          refine hx_region ?_
          refine hl_val rfl rfl (v := (.bool (decide (v_1 < (more_n : Int))))) (hv_arith rfl rfl rfl) ?_
          refine hl_nil ?_
          refine seqQ_n ?_
          refine hx_seq ?_
          refine hx_cond (b := decide (v_1 < (more_n : Int))) rfl (fun hb41 => ?_) (fun hb41 => ?_)
          · replace H := H.1 hb41
            refine hx_skip ?_
            refine seqQ_n ?_
            refine hx_seq ?_
            refine hx_block ?_
            refine hx_seq ?_
            refine hx_region ?_
            refine hl_val rfl rfl (v := (.int .i64 v_1)) (hv_move rfl) ?_
            obtain ⟨more_b, more_o, hqe, hi42, hi43, Hq⟩ := H
            subst hqe
            have H := Hq; clear Hq
            refine hl_val rfl rfl (v := (ptr more_b (more_o + (Int.toNat v_1) * 8))) (hv_index TyShM.el22 rfl rfl hi42 hi43) ?_
            obtain ⟨x_Kind, x_Entry_Hash, x_Entry_At, x_Entry_Version, x_Entry_Hits, x_At, x_N, x_M, hc44, hc45, hc46, hc47, hc48, hc49, hc50, hc51, H⟩ := H
            refine hl_val rfl rfl (v := (.agg #[(.int .i64 x_Kind), (.int .u64 x_Entry_Hash), (.int .u64 x_Entry_At), (.int .u64 x_Entry_Version), (.int .u8 x_Entry_Hits), (.int .u64 x_At), (.int .i64 x_N), (.int .i64 x_M)])) (hv_loads (vs := [(.int .i64 x_Kind), (.int .u64 x_Entry_Hash), (.int .u64 x_Entry_At), (.int .u64 x_Entry_Version), (.int .u8 x_Entry_Hits), (.int .u64 x_At), (.int .i64 x_N), (.int .i64 x_M)]) TyShM.agg33 TyShM.sz33 rfl (hcells_cons hc44 (hcells_cons hc45 (hcells_cons hc46 (hcells_cons hc47 (hcells_cons hc48 (hcells_cons hc49 (hcells_cons hc50 (hcells_cons hc51 hcells_nil))))))))) ?_
            refine hl_step rfl rfl (hn_alloc TyShM.z33 ?_)
            intro o h10 eb52 eh53
            have xx54 : Ext h9 h10 := by rw [eh53]; exact Ext.push _ _
            have lo56 : Array.size h9 ≤ o := Nat.le_of_eq (Eq.symm eb52)
            have hr55 : h10[o]? = some (.cells #[(.int .i64 0), (.int .u64 0), (.int .u64 0), (.int .u64 0), (.int .u8 0), (.int .u64 0), (.int .i64 0), (.int .i64 0)] 33 (0, 0)) := by rw [eh53]; exact push_new eb52
            refine hl_val rfl rfl (v := (.int .i64 v_1)) (hv_assign rfl) ?_
            refine hl_step rfl rfl (hn_stores (vs := [(.int .i64 x_Kind), (.int .u64 x_Entry_Hash), (.int .u64 x_Entry_At), (.int .u64 x_Entry_Version), (.int .u8 x_Entry_Hits), (.int .u64 x_At), (.int .i64 x_N), (.int .i64 x_M)]) rfl rfl TyShM.sz33 rfl (HWs_row hr55 (by simp)) ?_)
            intro h11 eh57
            have hr55' : h11[o]? = some (.cells #[(.int .i64 x_Kind), (.int .u64 x_Entry_Hash), (.int .u64 x_Entry_At), (.int .u64 x_Entry_Version), (.int .u8 x_Entry_Hits), (.int .u64 x_At), (.int .i64 x_N), (.int .i64 x_M)] 33 (0, 0)) := row_hsets_eq eh57 hr55 rfl
            have xv58 := ext_hsets eh57 xx54 lo56
            refine hl_nil ?_
            refine seqQ_n ?_
            obtain ⟨A61, Hx59, Hy60⟩ := H
            refine hx_cut (fun ρ h' => ∃ j_1 : Bool, (A61 j_1 h' ∧ True) ∧ Has ρ [(5, (.pointer r0)), (6, (.pointer r1)), (10, (.pointer r)), (11, (.pointer r_1)), (46, (.slice (some ⟨more_b, more_o, none⟩) more_n more_c)), (47, (.int .i64 (more_n : Int))), (48, (.int .i64 v_1)), (74, (.bool j_1))]) ?_ ?_
            · have H := Hx59; clear Hx59 Hy60
              refine hx_region ?_
              refine hl_val rfl rfl (v := (.int .i64 v_1)) (hv_move rfl) ?_
              refine hl_val rfl rfl (v := (.int .i64 (Int.tmod v_1 2))) (hv_rem rfl rfl (by decide)) ?_
              refine hl_val rfl rfl (v := (.bool ((Int.tmod v_1 2) == 0))) (hv_arith rfl rfl rfl) ?_
              refine hl_val rfl rfl (v := (.bool ((Int.tmod v_1 2) == 0))) (hv_move rfl) ?_
              rcases bool_or ((Int.tmod v_1 2) == 0) with hg63 | hg63
              · replace H := H.1 hg63
                refine hl_yes (wanted_y rfl rfl rfl hg63) rfl (HStep.of_val (v := (.pointer r0)) (hv_move rfl) ?_)
                refine hl_yes (wanted_y rfl rfl rfl hg63) rfl (HStep.of_val (v := (.pointer r1)) (hv_move rfl) ?_)
                refine hl_yes (wanted_y rfl rfl rfl hg63) rfl (HStep.of_val (v := (.agg #[(.int .i64 x_Kind), (.int .u64 x_Entry_Hash), (.int .u64 x_Entry_At), (.int .u64 x_Entry_Version), (.int .u8 x_Entry_Hits), (.int .u64 x_At), (.int .i64 x_N), (.int .i64 x_M)])) (hv_loads (vs := [(.int .i64 x_Kind), (.int .u64 x_Entry_Hash), (.int .u64 x_Entry_At), (.int .u64 x_Entry_Version), (.int .u8 x_Entry_Hits), (.int .u64 x_At), (.int .i64 x_N), (.int .i64 x_M)]) TyShM.agg33 TyShM.sz33 rfl (hcells_cons (rowcell hr55' rfl) (hcells_cons (rowcell hr55' rfl) (hcells_cons (rowcell hr55' rfl) (hcells_cons (rowcell hr55' rfl) (hcells_cons (rowcell hr55' rfl) (hcells_cons (rowcell hr55' rfl) (hcells_cons (rowcell hr55' rfl) (hcells_cons (rowcell hr55' rfl) hcells_nil))))))))) ?_)
                replace H := H o h11 lo56 (row_lt hr55') xv58
                refine hl_yes (wanted_y rfl rfl rfl hg63) rfl (hs_call TyShM.cb13 (vs := [(.pointer r0), (.pointer r1), (.agg #[(.int .i64 x_Kind), (.int .u64 x_Entry_Hash), (.int .u64 x_Entry_At), (.int .u64 x_Entry_Version), (.int .u8 x_Entry_Hits), (.int .u64 x_At), (.int .i64 x_N), (.int .i64 x_M)])]) rfl (HC.mono H ?_))
                rintro _ h13 ⟨kp64, r_2, rfl, H⟩
                replace hr55' := Kp.row kp64 (by simp) hr55'
                refine hl_yes (wanted_y rfl rfl rfl hg63) rfl (HStep.of_val (v := (.bool (!r_2))) (hv_not (b := r_2) rfl) ?_)
                refine hl_val rfl rfl (v := (.bool (!r_2))) (hv_pick_t rfl hg63 rfl) ?_
                refine hl_val rfl rfl (v := (.bool (!r_2))) (hv_move rfl) ?_
                rcases bool_or (!r_2) with hg65 | hg65
                · replace H := H.1 hg65
                  refine hl_no (wanted_n rfl rfl rfl hg65) rfl ?_
                  refine hl_no (wanted_n rfl rfl rfl hg65) rfl ?_
                  refine hl_no (wanted_n rfl rfl rfl hg65) rfl ?_
                  refine hl_no (wanted_n rfl rfl rfl hg65) rfl ?_
                  refine hl_no (wanted_u rfl rfl rfl) rfl ?_
                  refine hl_no (wanted_u rfl rfl rfl) rfl ?_
                  refine hl_no (wanted_u rfl rfl rfl) rfl ?_
                  refine hl_no (wanted_u rfl rfl rfl) rfl ?_
                  refine hl_no (wanted_u rfl rfl rfl) rfl ?_
                  refine hl_no (wanted_n rfl rfl rfl hg65) rfl ?_
                  refine hl_val rfl rfl (v := (.bool true)) (hv_pick_t rfl hg65 rfl) ?_
                  refine hl_nil ?_
                  refine seqQ_n ?_
                  exact ⟨_, ⟨H, trivial⟩, (has_cons rfl (has_cons rfl (has_cons rfl (has_cons rfl (has_cons rfl (has_cons rfl (has_cons rfl (has_cons rfl has_nil))))))))⟩
                · replace H := H.2 hg65
                  refine hl_yes (wanted_y rfl rfl rfl hg65) rfl (HStep.of_val (v := (.int .i64 v_1)) (hv_move rfl) ?_)
                  refine hl_yes (wanted_y rfl rfl rfl hg65) rfl (HStep.of_val (v := (.int .i64 (Int.tmod v_1 2))) (hv_rem rfl rfl (by decide)) ?_)
                  refine hl_yes (wanted_y rfl rfl rfl hg65) rfl (HStep.of_val (v := (.bool ((Int.tmod v_1 2) == 1))) (hv_arith rfl rfl rfl) ?_)
                  refine hl_yes (wanted_y rfl rfl rfl hg65) rfl (HStep.of_val (v := (.bool ((Int.tmod v_1 2) == 1))) (hv_move rfl) ?_)
                  rcases bool_or ((Int.tmod v_1 2) == 1) with hg66 | hg66
                  · replace H := H.1 hg66
                    refine hl_yes (wanted_y rfl rfl rfl hg66) rfl (HStep.of_val (v := (.pointer r)) (hv_move rfl) ?_)
                    refine hl_yes (wanted_y rfl rfl rfl hg66) rfl (HStep.of_val (v := (.pointer r_1)) (hv_move rfl) ?_)
                    refine hl_yes (wanted_y rfl rfl rfl hg66) rfl (HStep.of_val (v := (.agg #[(.int .i64 x_Kind), (.int .u64 x_Entry_Hash), (.int .u64 x_Entry_At), (.int .u64 x_Entry_Version), (.int .u8 x_Entry_Hits), (.int .u64 x_At), (.int .i64 x_N), (.int .i64 x_M)])) (hv_loads (vs := [(.int .i64 x_Kind), (.int .u64 x_Entry_Hash), (.int .u64 x_Entry_At), (.int .u64 x_Entry_Version), (.int .u8 x_Entry_Hits), (.int .u64 x_At), (.int .i64 x_N), (.int .i64 x_M)]) TyShM.agg33 TyShM.sz33 rfl (hcells_cons (rowcell hr55' rfl) (hcells_cons (rowcell hr55' rfl) (hcells_cons (rowcell hr55' rfl) (hcells_cons (rowcell hr55' rfl) (hcells_cons (rowcell hr55' rfl) (hcells_cons (rowcell hr55' rfl) (hcells_cons (rowcell hr55' rfl) (hcells_cons (rowcell hr55' rfl) hcells_nil))))))))) ?_)
                    refine hl_yes (wanted_y rfl rfl rfl hg66) rfl (hs_call TyShM.cb13 (vs := [(.pointer r), (.pointer r_1), (.agg #[(.int .i64 x_Kind), (.int .u64 x_Entry_Hash), (.int .u64 x_Entry_At), (.int .u64 x_Entry_Version), (.int .u8 x_Entry_Hits), (.int .u64 x_At), (.int .i64 x_N), (.int .i64 x_M)])]) rfl (HC.mono H ?_))
                    rintro _ h14 ⟨r_3, rfl, H⟩
                    refine hl_yes (wanted_y rfl rfl rfl hg66) rfl (HStep.of_val (v := (.bool (!r_3))) (hv_not (b := r_3) rfl) ?_)
                    refine hl_yes (wanted_y rfl rfl rfl hg65) rfl (HStep.of_val (v := (.bool (!r_3))) (hv_pick_t rfl hg66 rfl) ?_)
                    refine hl_val rfl rfl (v := (.bool (!r_3))) (hv_pick_f rfl hg65 rfl) ?_
                    refine hl_nil ?_
                    refine seqQ_n ?_
                    exact ⟨_, ⟨H, trivial⟩, (has_cons rfl (has_cons rfl (has_cons rfl (has_cons rfl (has_cons rfl (has_cons rfl (has_cons rfl (has_cons rfl has_nil))))))))⟩
                  · replace H := H.2 hg66
                    refine hl_no (wanted_n rfl rfl rfl hg66) rfl ?_
                    refine hl_no (wanted_n rfl rfl rfl hg66) rfl ?_
                    refine hl_no (wanted_n rfl rfl rfl hg66) rfl ?_
                    refine hl_no (wanted_n rfl rfl rfl hg66) rfl ?_
                    refine hl_no (wanted_n rfl rfl rfl hg66) rfl ?_
                    refine hl_yes (wanted_y rfl rfl rfl hg65) rfl (HStep.of_val (v := (.bool false)) (hv_pick_f rfl hg66 rfl) ?_)
                    refine hl_val rfl rfl (v := (.bool false)) (hv_pick_f rfl hg65 rfl) ?_
                    refine hl_nil ?_
                    refine seqQ_n ?_
                    exact ⟨_, ⟨H, trivial⟩, (has_cons rfl (has_cons rfl (has_cons rfl (has_cons rfl (has_cons rfl (has_cons rfl (has_cons rfl (has_cons rfl has_nil))))))))⟩
              · replace H := H.2 hg63
                refine hl_no (wanted_n rfl rfl rfl hg63) rfl ?_
                refine hl_no (wanted_n rfl rfl rfl hg63) rfl ?_
                refine hl_no (wanted_n rfl rfl rfl hg63) rfl ?_
                refine hl_no (wanted_n rfl rfl rfl hg63) rfl ?_
                refine hl_no (wanted_n rfl rfl rfl hg63) rfl ?_
                refine hl_val rfl rfl (v := (.bool false)) (hv_pick_f rfl hg63 rfl) ?_
                refine hl_val rfl rfl (v := (.bool false)) (hv_move rfl) ?_
                refine hl_yes (wanted_y rfl rfl (c := false) rfl rfl) rfl (HStep.of_val (v := (.int .i64 v_1)) (hv_move rfl) ?_)
                refine hl_yes (wanted_y rfl rfl (c := false) rfl rfl) rfl (HStep.of_val (v := (.int .i64 (Int.tmod v_1 2))) (hv_rem rfl rfl (by decide)) ?_)
                refine hl_yes (wanted_y rfl rfl (c := false) rfl rfl) rfl (HStep.of_val (v := (.bool ((Int.tmod v_1 2) == 1))) (hv_arith rfl rfl rfl) ?_)
                refine hl_yes (wanted_y rfl rfl (c := false) rfl rfl) rfl (HStep.of_val (v := (.bool ((Int.tmod v_1 2) == 1))) (hv_move rfl) ?_)
                rcases bool_or ((Int.tmod v_1 2) == 1) with hg67 | hg67
                · replace H := H.1 hg67
                  refine hl_yes (wanted_y rfl rfl rfl hg67) rfl (HStep.of_val (v := (.pointer r)) (hv_move rfl) ?_)
                  refine hl_yes (wanted_y rfl rfl rfl hg67) rfl (HStep.of_val (v := (.pointer r_1)) (hv_move rfl) ?_)
                  refine hl_yes (wanted_y rfl rfl rfl hg67) rfl (HStep.of_val (v := (.agg #[(.int .i64 x_Kind), (.int .u64 x_Entry_Hash), (.int .u64 x_Entry_At), (.int .u64 x_Entry_Version), (.int .u8 x_Entry_Hits), (.int .u64 x_At), (.int .i64 x_N), (.int .i64 x_M)])) (hv_loads (vs := [(.int .i64 x_Kind), (.int .u64 x_Entry_Hash), (.int .u64 x_Entry_At), (.int .u64 x_Entry_Version), (.int .u8 x_Entry_Hits), (.int .u64 x_At), (.int .i64 x_N), (.int .i64 x_M)]) TyShM.agg33 TyShM.sz33 rfl (hcells_cons (rowcell hr55' rfl) (hcells_cons (rowcell hr55' rfl) (hcells_cons (rowcell hr55' rfl) (hcells_cons (rowcell hr55' rfl) (hcells_cons (rowcell hr55' rfl) (hcells_cons (rowcell hr55' rfl) (hcells_cons (rowcell hr55' rfl) (hcells_cons (rowcell hr55' rfl) hcells_nil))))))))) ?_)
                  replace H := H h11 xv58
                  refine hl_yes (wanted_y rfl rfl rfl hg67) rfl (hs_call TyShM.cb13 (vs := [(.pointer r), (.pointer r_1), (.agg #[(.int .i64 x_Kind), (.int .u64 x_Entry_Hash), (.int .u64 x_Entry_At), (.int .u64 x_Entry_Version), (.int .u8 x_Entry_Hits), (.int .u64 x_At), (.int .i64 x_N), (.int .i64 x_M)])]) rfl (HC.mono H ?_))
                  rintro _ h15 ⟨r_2, rfl, H⟩
                  refine hl_yes (wanted_y rfl rfl rfl hg67) rfl (HStep.of_val (v := (.bool (!r_2))) (hv_not (b := r_2) rfl) ?_)
                  refine hl_yes (wanted_y rfl rfl (c := false) rfl rfl) rfl (HStep.of_val (v := (.bool (!r_2))) (hv_pick_t rfl hg67 rfl) ?_)
                  refine hl_val rfl rfl (v := (.bool (!r_2))) (hv_pick (t := false) rfl rfl) ?_
                  refine hl_nil ?_
                  refine seqQ_n ?_
                  exact ⟨_, ⟨H, trivial⟩, (has_cons rfl (has_cons rfl (has_cons rfl (has_cons rfl (has_cons rfl (has_cons rfl (has_cons rfl (has_cons rfl has_nil))))))))⟩
                · replace H := H.2 hg67
                  refine hl_no (wanted_n rfl rfl rfl hg67) rfl ?_
                  refine hl_no (wanted_n rfl rfl rfl hg67) rfl ?_
                  refine hl_no (wanted_n rfl rfl rfl hg67) rfl ?_
                  refine hl_no (wanted_n rfl rfl rfl hg67) rfl ?_
                  refine hl_no (wanted_n rfl rfl rfl hg67) rfl ?_
                  refine hl_yes (wanted_y rfl rfl (c := false) rfl rfl) rfl (HStep.of_val (v := (.bool false)) (hv_pick_f rfl hg67 rfl) ?_)
                  refine hl_val rfl rfl (v := (.bool false)) (hv_pick (t := false) rfl rfl) ?_
                  refine hl_nil ?_
                  replace H := H h11 xv58
                  refine seqQ_n ?_
                  exact ⟨_, ⟨H, trivial⟩, (has_cons rfl (has_cons rfl (has_cons rfl (has_cons rfl (has_cons rfl (has_cons rfl (has_cons rfl (has_cons rfl has_nil))))))))⟩
            · rintro ρ h12 ⟨j_1, ⟨HA62, -⟩, hH⟩
              have H := Hy60 j_1 h12 HA62; clear Hx59 Hy60
              refine hx_has _ hH ?_
              refine hx_cond (b := j_1) rfl (fun hb68 => ?_) (fun hb68 => ?_)
              · replace H := H.1 hb68
                refine hx_seq ?_
                refine hx_region ?_
                refine hl_val rfl rfl (v := (.bool false)) (hv_assign rfl) ?_
                refine hl_nil ?_
                refine seqQ_n ?_
                refine hx_ret ?_
                refine blockQ_ret ?_
                refine seqQ_ret ?_
                refine seqQ_ret ?_
                refine blockQ_ret ?_
                refine seqQ_ret ?_
                exact endQ_ret _ (res_one Try.results8 (rv_tmp rfl)) H
              · replace H := H.2 hb68
                refine hx_skip ?_
                refine blockQ_n ?_
                refine seqQ_n ?_
                refine hx_region ?_
                refine hl_val rfl rfl (v := (.int .i64 (IntKind.i64.wrap (v_1 + 1)))) (hv_arith rfl rfl rfl) ?_
                refine hl_val rfl rfl (v := (.int .i64 (IntKind.i64.wrap (v_1 + 1)))) (hv_move rfl) ?_
                refine hl_nil ?_
                refine seqQ_n ?_
                exact ⟨IntKind.i64.wrap (v_1 + 1), ⟨⟨H.1, trivial⟩, H.2⟩, (has_cons rfl (has_cons rfl (has_cons rfl (has_cons rfl (has_cons rfl (has_cons rfl (has_cons rfl has_nil)))))))⟩
          · replace H := H.2 hb41
            refine hx_exit ?_
            refine seqQ_exit ?_
            refine seqQ_exit ?_
            refine blockQ_here ?_
            refine seqQ_n ?_
            obtain ⟨A71, Hx69, Hy70⟩ := H
            refine hx_cut (fun ρ h' => ∃ j_1 : Bool, (A71 j_1 h' ∧ True) ∧ Has ρ [(4, (.bool j_1))]) ?_ ?_
            · have H := Hx69; clear Hx69 Hy70
              refine hx_region ?_
              refine hl_val rfl rfl (v := (.pointer r0)) (hv_move rfl) ?_
              refine hl_val rfl rfl (v := (.pointer r1)) (hv_move rfl) ?_
              refine hl_step rfl rfl (hs_call TyShM.cb14 (vs := [(.pointer r0), (.pointer r1)]) rfl (HC.mono H ?_))
              rintro _ h17 ⟨r_2, rfl, H⟩
              refine hl_val rfl rfl (v := (.bool r_2)) (hv_move rfl) ?_
              rcases bool_or (r_2) with hg73 | hg73
              · replace H := H.1 hg73
                refine hl_yes (wanted_y rfl rfl rfl hg73) rfl (HStep.of_val (v := (.pointer r)) (hv_move rfl) ?_)
                refine hl_yes (wanted_y rfl rfl rfl hg73) rfl (HStep.of_val (v := (.pointer r_1)) (hv_move rfl) ?_)
                refine hl_yes (wanted_y rfl rfl rfl hg73) rfl (hs_call TyShM.cb14 (vs := [(.pointer r), (.pointer r_1)]) rfl (HC.mono H ?_))
                rintro _ h18 ⟨r_3, rfl, H⟩
                refine hl_val rfl rfl (v := (.bool r_3)) (hv_pick_t rfl hg73 rfl) ?_
                refine hl_val rfl rfl (v := (.bool r_3)) (hv_assign rfl) ?_
                refine hl_nil ?_
                refine seqQ_n ?_
                exact ⟨_, ⟨H, trivial⟩, (has_cons rfl has_nil)⟩
              · replace H := H.2 hg73
                refine hl_no (wanted_n rfl rfl rfl hg73) rfl ?_
                refine hl_no (wanted_n rfl rfl rfl hg73) rfl ?_
                refine hl_no (wanted_n rfl rfl rfl hg73) rfl ?_
                refine hl_val rfl rfl (v := (.bool false)) (hv_pick_f rfl hg73 rfl) ?_
                refine hl_val rfl rfl (v := (.bool false)) (hv_assign rfl) ?_
                refine hl_nil ?_
                refine seqQ_n ?_
                exact ⟨_, ⟨H, trivial⟩, (has_cons rfl has_nil)⟩
            · rintro ρ h16 ⟨j_1, ⟨HA72, -⟩, hH⟩
              have H := Hy70 j_1 h16 HA72; clear Hx69 Hy70
              refine hx_has _ hH ?_
              refine hx_ret ?_
              exact endQ_ret _ (res_one Try.results8 (rv_tmp rfl)) H

end Go.Proofs.Ytkecmljalcfhoaa
