/-
Shallow forms, written by gen2.py (a program of ours) out of the print of the program.
-/
import Derived.Test.YtkecmljalcfhoaaShJ
import Derived.Test.YtkecmljalcfhoaaPrv
import Derived.Test.YtkecmljalcfhoaaSrt
import Derived.Test.YtkecmljalcfhoaaRng
import Derived.Test.YtkecmljalcfhoaaMor
import Derived.Test.YtkecmljalcfhoaaProg
namespace Go.Proofs.Ytkecmljalcfhoaa
open Go
set_option maxRecDepth 100000
set_option maxHeartbeats 4000000

theorem TyShL.agg22 : aggB Try.prog 22 = some false := by kernel_rfl
theorem TyShL.agg24 : aggB Try.prog 24 = some true := by kernel_rfl
theorem TyShL.agg29 : aggB Try.prog 29 = some false := by kernel_rfl
theorem TyShL.agg3 : aggB Try.prog 3 = some false := by kernel_rfl
theorem TyShL.agg31 : aggB Try.prog 31 = some true := by kernel_rfl
theorem TyShL.agg33 : aggB Try.prog 33 = some true := by kernel_rfl
theorem TyShL.agg38 : aggB Try.prog 38 = some true := by kernel_rfl
theorem TyShL.cb10 : CallB Try.prog 10 := fun _ _ => Try.call10 _ _
theorem TyShL.cb11 : CallB Try.prog 11 := fun _ _ => Try.call11 _ _
theorem TyShL.cb12 : CallB Try.prog 12 := fun _ _ => Try.call12 _ _
theorem TyShL.cb19 : CallB Try.prog 19 := fun _ _ => Try.call19 _ _
theorem TyShL.cb29 : CallB Try.prog 29 := fun _ _ => Try.call29 _ _
theorem TyShL.cb30 : CallB Try.prog 30 := fun _ _ => Try.call30 _ _
theorem TyShL.cb31 : CallB Try.prog 31 := fun _ _ => Try.call31 _ _
theorem TyShL.cb32 : CallB Try.prog 32 := fun _ _ => Try.call32 _ _
theorem TyShL.cb33 : CallB Try.prog 33 := fun _ _ => Try.call33 _ _
theorem TyShL.el22 : elB Try.prog 22 = some 8 := by kernel_rfl
theorem TyShL.fld24_3 : fldB Try.prog 24 3 = some 3 := by kernel_rfl
theorem TyShL.fld31_0 : fldB Try.prog 31 0 = some 0 := by kernel_rfl
theorem TyShL.fld31_1 : fldB Try.prog 31 1 = some 1 := by kernel_rfl
theorem TyShL.fld31_2 : fldB Try.prog 31 2 = some 2 := by kernel_rfl
theorem TyShL.fld33_0 : fldB Try.prog 33 0 = some 0 := by kernel_rfl
theorem TyShL.fld33_1 : fldB Try.prog 33 1 = some 1 := by kernel_rfl
theorem TyShL.fld33_2 : fldB Try.prog 33 2 = some 5 := by kernel_rfl
theorem TyShL.fld33_3 : fldB Try.prog 33 3 = some 6 := by kernel_rfl
theorem TyShL.fld33_4 : fldB Try.prog 33 4 = some 7 := by kernel_rfl
theorem TyShL.fld38_0 : fldB Try.prog 38 0 = some 0 := by kernel_rfl
theorem TyShL.fld38_2 : fldB Try.prog 38 2 = some 8 := by kernel_rfl
theorem TyShL.fld38_4 : fldB Try.prog 38 4 = some 10 := by kernel_rfl
theorem TyShL.fld38_6 : fldB Try.prog 38 6 = some 12 := by kernel_rfl
theorem TyShL.sz24 : szB Try.prog 24 = some 4 := by kernel_rfl
theorem TyShL.sz3 : szB Try.prog 3 = some 1 := by kernel_rfl
theorem TyShL.sz31 : szB Try.prog 31 = some 4 := by kernel_rfl
theorem TyShL.sz33 : szB Try.prog 33 = some 8 := by kernel_rfl
theorem TyShL.sz36 : szB Try.prog 36 = some 1 := by kernel_rfl
theorem TyShL.sz38 : szB Try.prog 38 = some 13 := by kernel_rfl
theorem TyShL.sz4 : szB Try.prog 4 = some 1 := by kernel_rfl
theorem TyShL.u22 : Try.prog.underlying 22 = some (.slice 33) := by kernel_rfl
theorem TyShL.up25 : Try.prog.underlying 25 = some (.pointer 61) := by kernel_rfl
theorem TyShL.z31 : zeroB Try.prog 31 (.agg #[(.int .u64 0), (.int .u64 0), (.int .u64 0), (.int .u8 0)]) := by unfold zeroB; kernel_rfl
theorem TyShL.z33 : zeroB Try.prog 33 (.agg #[(.int .i64 0), (.int .u64 0), (.int .u64 0), (.int .u64 0), (.int .u8 0), (.int .u64 0), (.int .i64 0), (.int .i64 0)]) := by unfold zeroB; kernel_rfl
theorem TyShL.z38 : zeroB Try.prog 38 (.agg #[(.int .u64 0), (.int .u64 0), (.int .u64 0), (.int .u8 0), (.int .u64 0), (.int .u64 0), (.int .u64 0), (.int .u8 0), (.bool false), (.bool false), (.int .i64 0), (.int .i64 0), (.int .i64 0)]) := by unfold zeroB; kernel_rfl

/-- cellar/cellarlaw12.IndexRises -/
theorem f3_sh (s_Stripes : Int) (s_Bits : Int) (s_Most : Int) (s_Do : Option Addr) (s_Do_n : Nat) (s_Do_c : Nat) (h : Heap) (R : Value → Heap → Prop)
    (H : (∀ (sv : Nat) (h1 : Heap), Array.size h ≤ sv → sv < Array.size h1 → Ext h h1 → HC Try.prog 10 #[(.agg #[(.int .i64 s_Stripes), (.int .i64 s_Bits), (.int .i64 s_Most), (.slice s_Do s_Do_n s_Do_c)])] h1 (fun vv h2 => Kp [sv] h1 h2 ∧ ∃ r0 r1 : Option Addr, ∃ r2 : Bool, vv = (.tuple #[(.pointer r0), (.pointer r1), (.bool r2)]) ∧ ((((!r2) || r0.isNone) = true → R (.bool r2) h2) ∧ (((!r2) || r0.isNone) = false → (∃ (I11 : Int → Heap → Prop) (mu12 : Int → Heap → Nat), I11 0 h2 ∧ (∀ (v : Int) (h3 : Heap), I11 v h3 → (((decide (v < (s_Do_n : Int))) = true → (∃ s_Do_b s_Do_o : Nat, s_Do = some ⟨s_Do_b, s_Do_o, none⟩ ∧ (0 : Int) ≤ v ∧ v < (s_Do_n : Int) ∧ (∃ x_Kind x_Entry_Hash x_Entry_At x_Entry_Version x_Entry_Hits x_At x_N x_M : Int, hcell h3 s_Do_b (s_Do_o + (Int.toNat v) * 8) = some (.int .i64 x_Kind) ∧ hcell h3 s_Do_b ((s_Do_o + (Int.toNat v) * 8) + 1) = some (.int .u64 x_Entry_Hash) ∧ hcell h3 s_Do_b ((s_Do_o + (Int.toNat v) * 8) + 2) = some (.int .u64 x_Entry_At) ∧ hcell h3 s_Do_b ((s_Do_o + (Int.toNat v) * 8) + 3) = some (.int .u64 x_Entry_Version) ∧ hcell h3 s_Do_b ((s_Do_o + (Int.toNat v) * 8) + 4) = some (.int .u8 x_Entry_Hits) ∧ hcell h3 s_Do_b ((s_Do_o + (Int.toNat v) * 8) + 5) = some (.int .u64 x_At) ∧ hcell h3 s_Do_b ((s_Do_o + (Int.toNat v) * 8) + 6) = some (.int .i64 x_N) ∧ hcell h3 s_Do_b ((s_Do_o + (Int.toNat v) * 8) + 7) = some (.int .i64 x_M) ∧ (∀ (o : Nat) (h5 : Heap), Array.size h3 ≤ o → o < Array.size h5 → Ext h3 h5 → HC Try.prog 11 #[(.pointer r0), (.int .u64 x_Entry_Hash)] h5 (fun vv h6 => Kp [o] h5 h6 ∧ ∃ r0_Hash r0_At r0_Version r0_Hits : Int, ∃ r1_1 : Bool, vv = (.tuple #[(.agg #[(.int .u64 r0_Hash), (.int .u64 r0_At), (.int .u64 r0_Version), (.int .u8 r0_Hits)]), (.bool r1_1)]) ∧ (∀ (was : Nat) (h8 : Heap), Array.size h6 ≤ was → was < Array.size h8 → Ext h6 h8 → HC Try.prog 12 #[(.pointer r0), (.agg #[(.int .i64 x_Kind), (.int .u64 x_Entry_Hash), (.int .u64 x_Entry_At), (.int .u64 x_Entry_Version), (.int .u8 x_Entry_Hits), (.int .u64 x_At), (.int .i64 x_N), (.int .i64 x_M)])] h8 (fun vv h9 => Kp [o, was] h8 h9 ∧ ∃ r_a_Hash r_a_At r_a_Version r_a_Hits r_b_Hash r_b_At r_b_Version r_b_Hits : Int, ∃ r_is r_in : Bool, ∃ r_e r_f r_n : Int, vv = (.agg #[(.int .u64 r_a_Hash), (.int .u64 r_a_At), (.int .u64 r_a_Version), (.int .u8 r_a_Hits), (.int .u64 r_b_Hash), (.int .u64 r_b_At), (.int .u64 r_b_Version), (.int .u8 r_b_Hits), (.bool r_is), (.bool r_in), (.int .i64 r_e), (.int .i64 r_f), (.int .i64 r_n)]) ∧ HC Try.prog 11 #[(.pointer r0), (.int .u64 x_Entry_Hash)] h9 (fun vv h10 => Kp [o, was] h9 h10 ∧ ∃ r0_Hash_1 r0_At_1 r0_Version_1 r0_Hits_1 : Int, ∃ r1_2 : Bool, vv = (.tuple #[(.agg #[(.int .u64 r0_Hash_1), (.int .u64 r0_At_1), (.int .u64 r0_Version_1), (.int .u8 r0_Hits_1)]), (.bool r1_2)]) ∧ ((((x_Kind != 2) && ((x_Kind != 3) && ((x_Kind != 6) && (r1_1 && ((!r1_2) || (decide (r0_Version_1 < r0_Version))))))) = true → (∀ (h12 : Heap), Ext h10 h12 → R (.bool false) h12)) ∧ (((x_Kind != 2) && ((x_Kind != 3) && ((x_Kind != 6) && (r1_1 && ((!r1_2) || (decide (r0_Version_1 < r0_Version))))))) = false → (∀ (h12 : Heap), Ext h10 h12 → (I11 (IntKind.i64.wrap (v + 1)) h12 ∧ mu12 (IntKind.i64.wrap (v + 1)) h12 < mu12 v h3)))))))))))) ∧ ((decide (v < (s_Do_n : Int))) = false → R (.bool true) h3))))))))) :
    HC Try.prog 3 #[(.agg #[(.int .i64 s_Stripes), (.int .i64 s_Bits), (.int .i64 s_Most), (.slice s_Do s_Do_n s_Do_c)])] h R := by
  refine hc_of (args := [(.agg #[(.int .i64 s_Stripes), (.int .i64 s_Bits), (.int .i64 s_Most), (.slice s_Do s_Do_n s_Do_c)])]) Try.func3 rfl Try.ntmps3 (Nat.le_of_ble_eq_true rfl) ?_
  refine hx_seq ?_
  refine hx_region ?_
  refine hl_step rfl rfl (hn_box (v := (.agg #[(.int .i64 s_Stripes), (.int .i64 s_Bits), (.int .i64 s_Most), (.slice s_Do s_Do_n s_Do_c)])) rfl ?_)
  intro sv h1 eb1 eh2
  have xx3 : Ext h h1 := by rw [eh2]; exact Ext.push _ _
  have lo5 : Array.size h ≤ sv := Nat.le_of_eq (Eq.symm eb1)
  have hr4 : h1[sv]? = some (.cells #[(.int .i64 s_Stripes), (.int .i64 s_Bits), (.int .i64 s_Most), (.slice s_Do s_Do_n s_Do_c)] 24 (0, 0)) := by rw [eh2]; exact push_new eb1
  refine hl_val rfl rfl (v := (.bool false)) (hv_assign rfl) ?_
  refine hl_nil ?_
  refine seqQ_n ?_
  refine hx_seq ?_
  refine hx_region ?_
  refine hl_val rfl rfl (v := (.agg #[(.int .i64 s_Stripes), (.int .i64 s_Bits), (.int .i64 s_Most), (.slice s_Do s_Do_n s_Do_c)])) (hv_loads (vs := [(.int .i64 s_Stripes), (.int .i64 s_Bits), (.int .i64 s_Most), (.slice s_Do s_Do_n s_Do_c)]) TyShL.agg24 TyShL.sz24 rfl (hcells_cons (rowcell hr4 rfl) (hcells_cons (rowcell hr4 rfl) (hcells_cons (rowcell hr4 rfl) (hcells_cons (rowcell hr4 rfl) hcells_nil))))) ?_
  replace H := H sv h1 lo5 (row_lt hr4) xx3
  refine hl_step rfl rfl (hs_call TyShL.cb10 (vs := [(.agg #[(.int .i64 s_Stripes), (.int .i64 s_Bits), (.int .i64 s_Most), (.slice s_Do s_Do_n s_Do_c)])]) rfl (HC.mono H ?_))
  rintro _ h2 ⟨kp6, r0, r1, r2, rfl, H⟩
  replace hr4 := Kp.row kp6 (by simp) hr4
  refine hl_val rfl rfl (v := (.tuple #[(.pointer r0), (.pointer r1), (.bool r2)])) (hv_move rfl) ?_
  refine hl_val rfl rfl (v := (.pointer r0)) (hv_extract (vs := #[(.pointer r0), (.pointer r1), (.bool r2)]) rfl rfl) ?_
  refine hl_val rfl rfl (v := (.pointer r1)) (hv_extract (vs := #[(.pointer r0), (.pointer r1), (.bool r2)]) rfl rfl) ?_
  refine hl_val rfl rfl (v := (.bool r2)) (hv_extract (vs := #[(.pointer r0), (.pointer r1), (.bool r2)]) rfl rfl) ?_
  refine hl_val rfl rfl (v := (.pointer r0)) (hv_assign rfl) ?_
  refine hl_val rfl rfl (v := (.pointer r1)) (hv_assign rfl) ?_
  refine hl_val rfl rfl (v := (.bool r2)) (hv_assign rfl) ?_
  refine hl_nil ?_
  refine seqQ_n ?_
  refine hx_seq ?_
  refine hx_cut (fun ρ h' => h2 = h' ∧ Has ρ [(1, (ptr sv 0)), (3, (.pointer r0)), (5, (.bool r2)), (23, (.bool ((!r2) || r0.isNone)))]) ?_ ?_
  · refine hx_region ?_
    refine hl_val rfl rfl (v := (.bool r2)) (hv_move rfl) ?_
    refine hl_val rfl rfl (v := (.bool (!r2))) (hv_not (b := r2) rfl) ?_
    refine hl_val rfl rfl (v := (.bool (!r2))) (hv_move rfl) ?_
    rcases bool_or (!r2) with hg9 | hg9
    · refine hl_no (wanted_n rfl rfl rfl hg9) rfl ?_
      refine hl_no (wanted_n rfl rfl rfl hg9) rfl ?_
      refine hl_val rfl rfl (v := (.bool true)) (hv_pick_t rfl hg9 rfl) ?_
      refine hl_nil ?_
      refine seqQ_n ?_
      exact ⟨rfl, (has_cons rfl (has_cons rfl (has_cons rfl (has_cons (show ((.bool true) : Value) = (.bool ((!r2) || r0.isNone)) from (by first | rfl | (try rw [hg9]; all_goals first | rfl | (simp only [Bool.true_or, Bool.or_true, Bool.false_or, Bool.or_false, Bool.true_and, Bool.and_true, Bool.false_and, Bool.and_false, Bool.not_true, Bool.not_false, Bool.cond_true, Bool.cond_false]; done)) | simp [hg9])) has_nil))))⟩
    · refine hl_yes (wanted_y rfl rfl rfl hg9) rfl (HStep.of_val (v := (.pointer r0)) (hv_move rfl) ?_)
      refine hl_yes (wanted_y rfl rfl rfl hg9) rfl (HStep.of_val (v := (.bool r0.isNone)) (hv_ptrNil TyShL.up25 rfl rfl) ?_)
      refine hl_val rfl rfl (v := (.bool r0.isNone)) (hv_pick_f rfl hg9 rfl) ?_
      refine hl_nil ?_
      refine seqQ_n ?_
      exact ⟨rfl, (has_cons rfl (has_cons rfl (has_cons rfl (has_cons (show ((.bool r0.isNone) : Value) = (.bool ((!r2) || r0.isNone)) from (by first | rfl | (try rw [hg9]; all_goals first | rfl | (simp only [Bool.true_or, Bool.or_true, Bool.false_or, Bool.or_false, Bool.true_and, Bool.and_true, Bool.false_and, Bool.and_false, Bool.not_true, Bool.not_false, Bool.cond_true, Bool.cond_false]; done)) | simp [hg9])) has_nil))))⟩
  · rintro ρ _ ⟨rfl, hH⟩
    refine hx_has _ hH ?_
    refine hx_cond (b := ((!r2) || r0.isNone)) rfl (fun hb10 => ?_) (fun hb10 => ?_)
    · replace H := H.1 hb10
      refine hx_seq ?_
      refine hx_region ?_
      refine hl_val rfl rfl (v := (.bool r2)) (hv_move rfl) ?_
      refine hl_val rfl rfl (v := (.bool r2)) (hv_assign rfl) ?_
      refine hl_nil ?_
      refine seqQ_n ?_
      refine hx_ret ?_
      refine seqQ_ret ?_
      exact endQ_ret _ (res_one Try.results3 (rv_tmp rfl)) H
    · replace H := H.2 hb10
      refine hx_skip ?_
      refine seqQ_n ?_
      refine hx_seq ?_
      refine hx_seq ?_
      refine hx_region ?_
      refine hl_val rfl rfl (v := (ptr sv 3)) (hv_field TyShL.fld24_3 (b := sv) (o := 0) rfl) ?_
      refine hl_val rfl rfl (v := (.slice s_Do s_Do_n s_Do_c)) (hv_load TyShL.agg22 rfl (rowcell hr4 rfl)) ?_
      refine hl_val rfl rfl (v := (.int .i64 (s_Do_n : Int))) (hv_len (n := s_Do_n) TyShL.u22 rfl) ?_
      refine hl_val rfl rfl (v := (.int .i64 0)) (hv_move rfl) ?_
      refine hl_nil ?_
      refine seqQ_n ?_
      refine hx_block ?_
      obtain ⟨I11, mu12, Ha13, Hr14⟩ := H
      refine hx_loopT (σ := Int) (fun s => [(3, (.pointer r0)), (26, (.slice s_Do s_Do_n s_Do_c)), (27, (.int .i64 (s_Do_n : Int))), (28, (.int .i64 s))]) (fun s h' => I11 s h' ∧ True) (fun s h' => mu12 s h') 0 ⟨Ha13, trivial⟩ (has_cons rfl (has_cons rfl (has_cons rfl (has_cons rfl has_nil)))) ?_
      rintro v ρ h3 ⟨Hi15, -⟩
      have H := Hr14 v h3 Hi15
      refine hx_seq ?_
      refine hx_region ?_
      refine hl_val rfl rfl (v := (.bool (decide (v < (s_Do_n : Int))))) (hv_arith rfl rfl rfl) ?_
      refine hl_nil ?_
      refine seqQ_n ?_
      refine hx_seq ?_
      refine hx_cond (b := decide (v < (s_Do_n : Int))) rfl (fun hb16 => ?_) (fun hb16 => ?_)
      · replace H := H.1 hb16
        refine hx_skip ?_
        refine seqQ_n ?_
        refine hx_seq ?_
        refine hx_block ?_
        refine hx_seq ?_
        refine hx_region ?_
        obtain ⟨s_Do_b, s_Do_o, hqe, hi17, hi18, Hq⟩ := H
        subst hqe
        have H := Hq; clear Hq
        refine hl_val rfl rfl (v := (ptr s_Do_b (s_Do_o + (Int.toNat v) * 8))) (hv_index TyShL.el22 rfl rfl hi17 hi18) ?_
        obtain ⟨x_Kind, x_Entry_Hash, x_Entry_At, x_Entry_Version, x_Entry_Hits, x_At, x_N, x_M, hc19, hc20, hc21, hc22, hc23, hc24, hc25, hc26, H⟩ := H
        refine hl_val rfl rfl (v := (.agg #[(.int .i64 x_Kind), (.int .u64 x_Entry_Hash), (.int .u64 x_Entry_At), (.int .u64 x_Entry_Version), (.int .u8 x_Entry_Hits), (.int .u64 x_At), (.int .i64 x_N), (.int .i64 x_M)])) (hv_loads (vs := [(.int .i64 x_Kind), (.int .u64 x_Entry_Hash), (.int .u64 x_Entry_At), (.int .u64 x_Entry_Version), (.int .u8 x_Entry_Hits), (.int .u64 x_At), (.int .i64 x_N), (.int .i64 x_M)]) TyShL.agg33 TyShL.sz33 rfl (hcells_cons hc19 (hcells_cons hc20 (hcells_cons hc21 (hcells_cons hc22 (hcells_cons hc23 (hcells_cons hc24 (hcells_cons hc25 (hcells_cons hc26 hcells_nil))))))))) ?_
        refine hl_step rfl rfl (hn_alloc TyShL.z33 ?_)
        intro o h4 eb27 eh28
        have xx29 : Ext h3 h4 := by rw [eh28]; exact Ext.push _ _
        have lo31 : Array.size h3 ≤ o := Nat.le_of_eq (Eq.symm eb27)
        have hr30 : h4[o]? = some (.cells #[(.int .i64 0), (.int .u64 0), (.int .u64 0), (.int .u64 0), (.int .u8 0), (.int .u64 0), (.int .i64 0), (.int .i64 0)] 33 (0, 0)) := by rw [eh28]; exact push_new eb27
        refine hl_step rfl rfl (hn_stores (vs := [(.int .i64 x_Kind), (.int .u64 x_Entry_Hash), (.int .u64 x_Entry_At), (.int .u64 x_Entry_Version), (.int .u8 x_Entry_Hits), (.int .u64 x_At), (.int .i64 x_N), (.int .i64 x_M)]) rfl rfl TyShL.sz33 rfl (HWs_row hr30 (by simp)) ?_)
        intro h5 eh32
        have hr30' : h5[o]? = some (.cells #[(.int .i64 x_Kind), (.int .u64 x_Entry_Hash), (.int .u64 x_Entry_At), (.int .u64 x_Entry_Version), (.int .u8 x_Entry_Hits), (.int .u64 x_At), (.int .i64 x_N), (.int .i64 x_M)] 33 (0, 0)) := row_hsets_eq eh32 hr30 rfl
        have xv33 := ext_hsets eh32 xx29 lo31
        refine hl_nil ?_
        refine seqQ_n ?_
        refine hx_seq ?_
        refine hx_region ?_
        refine hl_val rfl rfl (v := (.pointer r0)) (hv_move rfl) ?_
        refine hl_val rfl rfl (v := (ptr o 1)) (hv_field TyShL.fld33_1 (b := o) (o := 0) rfl) ?_
        refine hl_val rfl rfl (v := (ptr o 1)) (hv_field TyShL.fld31_0 (b := o) (o := 1) rfl) ?_
        refine hl_val rfl rfl (v := (.int .u64 x_Entry_Hash)) (hv_load TyShL.agg29 rfl (rowcell hr30' rfl)) ?_
        replace H := H o h5 lo31 (row_lt hr30') xv33
        refine hl_step rfl rfl (hs_call TyShL.cb11 (vs := [(.pointer r0), (.int .u64 x_Entry_Hash)]) rfl (HC.mono H ?_))
        rintro _ h6 ⟨kp34, r0_Hash, r0_At, r0_Version, r0_Hits, r1_1, rfl, H⟩
        replace hr30' := Kp.row kp34 (by simp) hr30'
        refine hl_val rfl rfl (v := (.tuple #[(.agg #[(.int .u64 r0_Hash), (.int .u64 r0_At), (.int .u64 r0_Version), (.int .u8 r0_Hits)]), (.bool r1_1)])) (hv_move rfl) ?_
        refine hl_val rfl rfl (v := (.agg #[(.int .u64 r0_Hash), (.int .u64 r0_At), (.int .u64 r0_Version), (.int .u8 r0_Hits)])) (hv_extract (vs := #[(.agg #[(.int .u64 r0_Hash), (.int .u64 r0_At), (.int .u64 r0_Version), (.int .u8 r0_Hits)]), (.bool r1_1)]) rfl rfl) ?_
        refine hl_val rfl rfl (v := (.bool r1_1)) (hv_extract (vs := #[(.agg #[(.int .u64 r0_Hash), (.int .u64 r0_At), (.int .u64 r0_Version), (.int .u8 r0_Hits)]), (.bool r1_1)]) rfl rfl) ?_
        refine hl_step rfl rfl (hn_alloc TyShL.z31 ?_)
        intro was h7 eb35 eh36
        have xx37 : Ext h6 h7 := by rw [eh36]; exact Ext.push _ _
        have ne40 := Nat.ne_of_lt (Nat.lt_of_lt_of_eq (row_lt hr30') (Eq.symm eb35))
        have lo39 : Array.size h6 ≤ was := Nat.le_of_eq (Eq.symm eb35)
        have hr38 : h7[was]? = some (.cells #[(.int .u64 0), (.int .u64 0), (.int .u64 0), (.int .u8 0)] 31 (0, 0)) := by rw [eh36]; exact push_new eb35
        replace hr30' := Ext.row xx37 hr30'
        refine hl_step rfl rfl (hn_stores (vs := [(.int .u64 r0_Hash), (.int .u64 r0_At), (.int .u64 r0_Version), (.int .u8 r0_Hits)]) rfl rfl TyShL.sz31 rfl (HWs_row hr38 (by simp)) ?_)
        intro h8 eh41
        replace hr30' := row_hsets_ne eh41 ne40 hr30'
        have hr38' : h8[was]? = some (.cells #[(.int .u64 r0_Hash), (.int .u64 r0_At), (.int .u64 r0_Version), (.int .u8 r0_Hits)] 31 (0, 0)) := row_hsets_eq eh41 hr38 rfl
        have xv42 := ext_hsets eh41 xx37 lo39
        refine hl_val rfl rfl (v := (.bool r1_1)) (hv_assign rfl) ?_
        refine hl_nil ?_
        refine seqQ_n ?_
        refine hx_seq ?_
        refine hx_region ?_
        refine hl_val rfl rfl (v := (.pointer r0)) (hv_move rfl) ?_
        refine hl_val rfl rfl (v := (.agg #[(.int .i64 x_Kind), (.int .u64 x_Entry_Hash), (.int .u64 x_Entry_At), (.int .u64 x_Entry_Version), (.int .u8 x_Entry_Hits), (.int .u64 x_At), (.int .i64 x_N), (.int .i64 x_M)])) (hv_loads (vs := [(.int .i64 x_Kind), (.int .u64 x_Entry_Hash), (.int .u64 x_Entry_At), (.int .u64 x_Entry_Version), (.int .u8 x_Entry_Hits), (.int .u64 x_At), (.int .i64 x_N), (.int .i64 x_M)]) TyShL.agg33 TyShL.sz33 rfl (hcells_cons (rowcell hr30' rfl) (hcells_cons (rowcell hr30' rfl) (hcells_cons (rowcell hr30' rfl) (hcells_cons (rowcell hr30' rfl) (hcells_cons (rowcell hr30' rfl) (hcells_cons (rowcell hr30' rfl) (hcells_cons (rowcell hr30' rfl) (hcells_cons (rowcell hr30' rfl) hcells_nil))))))))) ?_
        replace H := H was h8 lo39 (row_lt hr38') xv42
        refine hl_step rfl rfl (hs_call TyShL.cb12 (vs := [(.pointer r0), (.agg #[(.int .i64 x_Kind), (.int .u64 x_Entry_Hash), (.int .u64 x_Entry_At), (.int .u64 x_Entry_Version), (.int .u8 x_Entry_Hits), (.int .u64 x_At), (.int .i64 x_N), (.int .i64 x_M)])]) rfl (HC.mono H ?_))
        rintro _ h9 ⟨kp43, r_a_Hash, r_a_At, r_a_Version, r_a_Hits, r_b_Hash, r_b_At, r_b_Version, r_b_Hits, r_is, r_in, r_e, r_f, r_n, rfl, H⟩
        replace hr30' := Kp.row kp43 (by simp) hr30'
        replace hr38' := Kp.row kp43 (by simp) hr38'
        refine hl_nil ?_
        refine seqQ_n ?_
        refine hx_seq ?_
        refine hx_region ?_
        refine hl_val rfl rfl (v := (.pointer r0)) (hv_move rfl) ?_
        refine hl_val rfl rfl (v := (ptr o 1)) (hv_field TyShL.fld33_1 (b := o) (o := 0) rfl) ?_
        refine hl_val rfl rfl (v := (ptr o 1)) (hv_field TyShL.fld31_0 (b := o) (o := 1) rfl) ?_
        refine hl_val rfl rfl (v := (.int .u64 x_Entry_Hash)) (hv_load TyShL.agg29 rfl (rowcell hr30' rfl)) ?_
        refine hl_step rfl rfl (hs_call TyShL.cb11 (vs := [(.pointer r0), (.int .u64 x_Entry_Hash)]) rfl (HC.mono H ?_))
        rintro _ h10 ⟨kp44, r0_Hash_1, r0_At_1, r0_Version_1, r0_Hits_1, r1_2, rfl, H⟩
        replace hr30' := Kp.row kp44 (by simp) hr30'
        replace hr38' := Kp.row kp44 (by simp) hr38'
        refine hl_val rfl rfl (v := (.tuple #[(.agg #[(.int .u64 r0_Hash_1), (.int .u64 r0_At_1), (.int .u64 r0_Version_1), (.int .u8 r0_Hits_1)]), (.bool r1_2)])) (hv_move rfl) ?_
        refine hl_val rfl rfl (v := (.agg #[(.int .u64 r0_Hash_1), (.int .u64 r0_At_1), (.int .u64 r0_Version_1), (.int .u8 r0_Hits_1)])) (hv_extract (vs := #[(.agg #[(.int .u64 r0_Hash_1), (.int .u64 r0_At_1), (.int .u64 r0_Version_1), (.int .u8 r0_Hits_1)]), (.bool r1_2)]) rfl rfl) ?_
        refine hl_val rfl rfl (v := (.bool r1_2)) (hv_extract (vs := #[(.agg #[(.int .u64 r0_Hash_1), (.int .u64 r0_At_1), (.int .u64 r0_Version_1), (.int .u8 r0_Hits_1)]), (.bool r1_2)]) rfl rfl) ?_
        refine hl_step rfl rfl (hn_alloc TyShL.z31 ?_)
        intro is h11 eb45 eh46
        have xx47 : Ext h10 h11 := by rw [eh46]; exact Ext.push _ _
        have ne50 := Nat.ne_of_lt (Nat.lt_of_lt_of_eq (row_lt hr30') (Eq.symm eb45))
        have ne51 := Nat.ne_of_lt (Nat.lt_of_lt_of_eq (row_lt hr38') (Eq.symm eb45))
        have lo49 : Array.size h10 ≤ is := Nat.le_of_eq (Eq.symm eb45)
        have hr48 : h11[is]? = some (.cells #[(.int .u64 0), (.int .u64 0), (.int .u64 0), (.int .u8 0)] 31 (0, 0)) := by rw [eh46]; exact push_new eb45
        replace hr30' := Ext.row xx47 hr30'
        replace hr38' := Ext.row xx47 hr38'
        refine hl_step rfl rfl (hn_stores (vs := [(.int .u64 r0_Hash_1), (.int .u64 r0_At_1), (.int .u64 r0_Version_1), (.int .u8 r0_Hits_1)]) rfl rfl TyShL.sz31 rfl (HWs_row hr48 (by simp)) ?_)
        intro h12 eh52
        replace hr30' := row_hsets_ne eh52 ne50 hr30'
        replace hr38' := row_hsets_ne eh52 ne51 hr38'
        have hr48' : h12[is]? = some (.cells #[(.int .u64 r0_Hash_1), (.int .u64 r0_At_1), (.int .u64 r0_Version_1), (.int .u8 r0_Hits_1)] 31 (0, 0)) := row_hsets_eq eh52 hr48 rfl
        have xv53 := ext_hsets eh52 xx47 lo49
        refine hl_val rfl rfl (v := (.bool r1_2)) (hv_assign rfl) ?_
        refine hl_nil ?_
        refine seqQ_n ?_
        refine hx_cut (fun ρ h' => h12 = h' ∧ Has ρ [(3, (.pointer r0)), (26, (.slice (some ⟨s_Do_b, s_Do_o, none⟩) s_Do_n s_Do_c)), (27, (.int .i64 (s_Do_n : Int))), (28, (.int .i64 v)), (77, (.bool ((x_Kind != 2) && ((x_Kind != 3) && ((x_Kind != 6) && (r1_1 && ((!r1_2) || (decide (r0_Version_1 < r0_Version)))))))))]) ?_ ?_
        · refine hx_region ?_
          refine hl_val rfl rfl (v := (ptr o 0)) (hv_field TyShL.fld33_0 (b := o) (o := 0) rfl) ?_
          refine hl_val rfl rfl (v := (.int .i64 x_Kind)) (hv_load TyShL.agg3 rfl (rowcell hr30' rfl)) ?_
          refine hl_val rfl rfl (v := (.bool (x_Kind != 2))) (hv_arith rfl rfl rfl) ?_
          refine hl_val rfl rfl (v := (.bool (x_Kind != 2))) (hv_move rfl) ?_
          rcases bool_or (x_Kind != 2) with hg56 | hg56
          · refine hl_yes (wanted_y rfl rfl rfl hg56) rfl (HStep.of_val (v := (ptr o 0)) (hv_field TyShL.fld33_0 (b := o) (o := 0) rfl) ?_)
            refine hl_yes (wanted_y rfl rfl rfl hg56) rfl (HStep.of_val (v := (.int .i64 x_Kind)) (hv_load TyShL.agg3 rfl (rowcell hr30' rfl)) ?_)
            refine hl_yes (wanted_y rfl rfl rfl hg56) rfl (HStep.of_val (v := (.bool (x_Kind != 3))) (hv_arith rfl rfl rfl) ?_)
            refine hl_val rfl rfl (v := (.bool (x_Kind != 3))) (hv_pick_t rfl hg56 rfl) ?_
            refine hl_val rfl rfl (v := (.bool (x_Kind != 3))) (hv_move rfl) ?_
            rcases bool_or (x_Kind != 3) with hg57 | hg57
            · refine hl_yes (wanted_y rfl rfl rfl hg57) rfl (HStep.of_val (v := (ptr o 0)) (hv_field TyShL.fld33_0 (b := o) (o := 0) rfl) ?_)
              refine hl_yes (wanted_y rfl rfl rfl hg57) rfl (HStep.of_val (v := (.int .i64 x_Kind)) (hv_load TyShL.agg3 rfl (rowcell hr30' rfl)) ?_)
              refine hl_yes (wanted_y rfl rfl rfl hg57) rfl (HStep.of_val (v := (.bool (x_Kind != 6))) (hv_arith rfl rfl rfl) ?_)
              refine hl_val rfl rfl (v := (.bool (x_Kind != 6))) (hv_pick_t rfl hg57 rfl) ?_
              refine hl_val rfl rfl (v := (.bool (x_Kind != 6))) (hv_move rfl) ?_
              rcases bool_or (x_Kind != 6) with hg58 | hg58
              · refine hl_yes (wanted_y rfl rfl rfl hg58) rfl (HStep.of_val (v := (.bool r1_1)) (hv_move rfl) ?_)
                refine hl_val rfl rfl (v := (.bool r1_1)) (hv_pick_t rfl hg58 rfl) ?_
                refine hl_val rfl rfl (v := (.bool r1_1)) (hv_move rfl) ?_
                rcases bool_or (r1_1) with hg59 | hg59
                · refine hl_yes (wanted_y rfl rfl rfl hg59) rfl (HStep.of_val (v := (.bool r1_2)) (hv_move rfl) ?_)
                  refine hl_yes (wanted_y rfl rfl rfl hg59) rfl (HStep.of_val (v := (.bool (!r1_2))) (hv_not (b := r1_2) rfl) ?_)
                  refine hl_yes (wanted_y rfl rfl rfl hg59) rfl (HStep.of_val (v := (.bool (!r1_2))) (hv_move rfl) ?_)
                  rcases bool_or (!r1_2) with hg60 | hg60
                  · refine hl_no (wanted_n rfl rfl rfl hg60) rfl ?_
                    refine hl_no (wanted_n rfl rfl rfl hg60) rfl ?_
                    refine hl_no (wanted_n rfl rfl rfl hg60) rfl ?_
                    refine hl_no (wanted_n rfl rfl rfl hg60) rfl ?_
                    refine hl_no (wanted_n rfl rfl rfl hg60) rfl ?_
                    refine hl_yes (wanted_y rfl rfl rfl hg59) rfl (HStep.of_val (v := (.bool true)) (hv_pick_t rfl hg60 rfl) ?_)
                    refine hl_val rfl rfl (v := (.bool true)) (hv_pick_t rfl hg59 rfl) ?_
                    refine hl_nil ?_
                    refine seqQ_n ?_
                    exact ⟨rfl, (has_cons rfl (has_cons rfl (has_cons rfl (has_cons rfl (has_cons (show ((.bool true) : Value) = (.bool ((x_Kind != 2) && ((x_Kind != 3) && ((x_Kind != 6) && (r1_1 && ((!r1_2) || (decide (r0_Version_1 < r0_Version)))))))) from (by first | rfl | (try rw [hg56]; try rw [hg57]; try rw [hg58]; try rw [hg59]; try rw [hg60]; all_goals first | rfl | (simp only [Bool.true_or, Bool.or_true, Bool.false_or, Bool.or_false, Bool.true_and, Bool.and_true, Bool.false_and, Bool.and_false, Bool.not_true, Bool.not_false, Bool.cond_true, Bool.cond_false]; done)) | simp [hg56, hg57, hg58, hg59, hg60])) has_nil)))))⟩
                  · refine hl_yes (wanted_y rfl rfl rfl hg60) rfl (HStep.of_val (v := (ptr is 2)) (hv_field TyShL.fld31_2 (b := is) (o := 0) rfl) ?_)
                    refine hl_yes (wanted_y rfl rfl rfl hg60) rfl (HStep.of_val (v := (.int .u64 r0_Version_1)) (hv_load TyShL.agg29 rfl (rowcell hr48' rfl)) ?_)
                    refine hl_yes (wanted_y rfl rfl rfl hg60) rfl (HStep.of_val (v := (ptr was 2)) (hv_field TyShL.fld31_2 (b := was) (o := 0) rfl) ?_)
                    refine hl_yes (wanted_y rfl rfl rfl hg60) rfl (HStep.of_val (v := (.int .u64 r0_Version)) (hv_load TyShL.agg29 rfl (rowcell hr38' rfl)) ?_)
                    refine hl_yes (wanted_y rfl rfl rfl hg60) rfl (HStep.of_val (v := (.bool (decide (r0_Version_1 < r0_Version)))) (hv_arith rfl rfl rfl) ?_)
                    refine hl_yes (wanted_y rfl rfl rfl hg59) rfl (HStep.of_val (v := (.bool (decide (r0_Version_1 < r0_Version)))) (hv_pick_f rfl hg60 rfl) ?_)
                    refine hl_val rfl rfl (v := (.bool (decide (r0_Version_1 < r0_Version)))) (hv_pick_t rfl hg59 rfl) ?_
                    refine hl_nil ?_
                    refine seqQ_n ?_
                    exact ⟨rfl, (has_cons rfl (has_cons rfl (has_cons rfl (has_cons rfl (has_cons (show ((.bool (decide (r0_Version_1 < r0_Version))) : Value) = (.bool ((x_Kind != 2) && ((x_Kind != 3) && ((x_Kind != 6) && (r1_1 && ((!r1_2) || (decide (r0_Version_1 < r0_Version)))))))) from (by first | rfl | (try rw [hg56]; try rw [hg57]; try rw [hg58]; try rw [hg59]; try rw [hg60]; all_goals first | rfl | (simp only [Bool.true_or, Bool.or_true, Bool.false_or, Bool.or_false, Bool.true_and, Bool.and_true, Bool.false_and, Bool.and_false, Bool.not_true, Bool.not_false, Bool.cond_true, Bool.cond_false]; done)) | simp [hg56, hg57, hg58, hg59, hg60])) has_nil)))))⟩
                · refine hl_no (wanted_n rfl rfl rfl hg59) rfl ?_
                  refine hl_no (wanted_n rfl rfl rfl hg59) rfl ?_
                  refine hl_no (wanted_n rfl rfl rfl hg59) rfl ?_
                  refine hl_no (wanted_u rfl rfl rfl) rfl ?_
                  refine hl_no (wanted_u rfl rfl rfl) rfl ?_
                  refine hl_no (wanted_u rfl rfl rfl) rfl ?_
                  refine hl_no (wanted_u rfl rfl rfl) rfl ?_
                  refine hl_no (wanted_u rfl rfl rfl) rfl ?_
                  refine hl_no (wanted_n rfl rfl rfl hg59) rfl ?_
                  refine hl_val rfl rfl (v := (.bool false)) (hv_pick_f rfl hg59 rfl) ?_
                  refine hl_nil ?_
                  refine seqQ_n ?_
                  exact ⟨rfl, (has_cons rfl (has_cons rfl (has_cons rfl (has_cons rfl (has_cons (show ((.bool false) : Value) = (.bool ((x_Kind != 2) && ((x_Kind != 3) && ((x_Kind != 6) && (r1_1 && ((!r1_2) || (decide (r0_Version_1 < r0_Version)))))))) from (by first | rfl | (try rw [hg56]; try rw [hg57]; try rw [hg58]; try rw [hg59]; all_goals first | rfl | (simp only [Bool.true_or, Bool.or_true, Bool.false_or, Bool.or_false, Bool.true_and, Bool.and_true, Bool.false_and, Bool.and_false, Bool.not_true, Bool.not_false, Bool.cond_true, Bool.cond_false]; done)) | simp [hg56, hg57, hg58, hg59])) has_nil)))))⟩
              · refine hl_no (wanted_n rfl rfl rfl hg58) rfl ?_
                refine hl_val rfl rfl (v := (.bool false)) (hv_pick_f rfl hg58 rfl) ?_
                refine hl_val rfl rfl (v := (.bool false)) (hv_move rfl) ?_
                refine hl_no (wanted_n rfl rfl (c := false) rfl rfl) rfl ?_
                refine hl_no (wanted_n rfl rfl (c := false) rfl rfl) rfl ?_
                refine hl_no (wanted_n rfl rfl (c := false) rfl rfl) rfl ?_
                refine hl_no (wanted_u rfl rfl rfl) rfl ?_
                refine hl_no (wanted_u rfl rfl rfl) rfl ?_
                refine hl_no (wanted_u rfl rfl rfl) rfl ?_
                refine hl_no (wanted_u rfl rfl rfl) rfl ?_
                refine hl_no (wanted_u rfl rfl rfl) rfl ?_
                refine hl_no (wanted_n rfl rfl (c := false) rfl rfl) rfl ?_
                refine hl_val rfl rfl (v := (.bool false)) (hv_pick (t := false) rfl rfl) ?_
                refine hl_nil ?_
                refine seqQ_n ?_
                exact ⟨rfl, (has_cons rfl (has_cons rfl (has_cons rfl (has_cons rfl (has_cons (show ((.bool false) : Value) = (.bool ((x_Kind != 2) && ((x_Kind != 3) && ((x_Kind != 6) && (r1_1 && ((!r1_2) || (decide (r0_Version_1 < r0_Version)))))))) from (by first | rfl | (try rw [hg56]; try rw [hg57]; try rw [hg58]; all_goals first | rfl | (simp only [Bool.true_or, Bool.or_true, Bool.false_or, Bool.or_false, Bool.true_and, Bool.and_true, Bool.false_and, Bool.and_false, Bool.not_true, Bool.not_false, Bool.cond_true, Bool.cond_false]; done)) | simp [hg56, hg57, hg58])) has_nil)))))⟩
            · refine hl_no (wanted_n rfl rfl rfl hg57) rfl ?_
              refine hl_no (wanted_n rfl rfl rfl hg57) rfl ?_
              refine hl_no (wanted_n rfl rfl rfl hg57) rfl ?_
              refine hl_val rfl rfl (v := (.bool false)) (hv_pick_f rfl hg57 rfl) ?_
              refine hl_val rfl rfl (v := (.bool false)) (hv_move rfl) ?_
              refine hl_no (wanted_n rfl rfl (c := false) rfl rfl) rfl ?_
              refine hl_val rfl rfl (v := (.bool false)) (hv_pick (t := false) rfl rfl) ?_
              refine hl_val rfl rfl (v := (.bool false)) (hv_move rfl) ?_
              refine hl_no (wanted_n rfl rfl (c := false) rfl rfl) rfl ?_
              refine hl_no (wanted_n rfl rfl (c := false) rfl rfl) rfl ?_
              refine hl_no (wanted_n rfl rfl (c := false) rfl rfl) rfl ?_
              refine hl_no (wanted_u rfl rfl rfl) rfl ?_
              refine hl_no (wanted_u rfl rfl rfl) rfl ?_
              refine hl_no (wanted_u rfl rfl rfl) rfl ?_
              refine hl_no (wanted_u rfl rfl rfl) rfl ?_
              refine hl_no (wanted_u rfl rfl rfl) rfl ?_
              refine hl_no (wanted_n rfl rfl (c := false) rfl rfl) rfl ?_
              refine hl_val rfl rfl (v := (.bool false)) (hv_pick (t := false) rfl rfl) ?_
              refine hl_nil ?_
              refine seqQ_n ?_
              exact ⟨rfl, (has_cons rfl (has_cons rfl (has_cons rfl (has_cons rfl (has_cons (show ((.bool false) : Value) = (.bool ((x_Kind != 2) && ((x_Kind != 3) && ((x_Kind != 6) && (r1_1 && ((!r1_2) || (decide (r0_Version_1 < r0_Version)))))))) from (by first | rfl | (try rw [hg56]; try rw [hg57]; all_goals first | rfl | (simp only [Bool.true_or, Bool.or_true, Bool.false_or, Bool.or_false, Bool.true_and, Bool.and_true, Bool.false_and, Bool.and_false, Bool.not_true, Bool.not_false, Bool.cond_true, Bool.cond_false]; done)) | simp [hg56, hg57])) has_nil)))))⟩
          · refine hl_no (wanted_n rfl rfl rfl hg56) rfl ?_
            refine hl_no (wanted_n rfl rfl rfl hg56) rfl ?_
            refine hl_no (wanted_n rfl rfl rfl hg56) rfl ?_
            refine hl_val rfl rfl (v := (.bool false)) (hv_pick_f rfl hg56 rfl) ?_
            refine hl_val rfl rfl (v := (.bool false)) (hv_move rfl) ?_
            refine hl_no (wanted_n rfl rfl (c := false) rfl rfl) rfl ?_
            refine hl_no (wanted_n rfl rfl (c := false) rfl rfl) rfl ?_
            refine hl_no (wanted_n rfl rfl (c := false) rfl rfl) rfl ?_
            refine hl_val rfl rfl (v := (.bool false)) (hv_pick (t := false) rfl rfl) ?_
            refine hl_val rfl rfl (v := (.bool false)) (hv_move rfl) ?_
            refine hl_no (wanted_n rfl rfl (c := false) rfl rfl) rfl ?_
            refine hl_val rfl rfl (v := (.bool false)) (hv_pick (t := false) rfl rfl) ?_
            refine hl_val rfl rfl (v := (.bool false)) (hv_move rfl) ?_
            refine hl_no (wanted_n rfl rfl (c := false) rfl rfl) rfl ?_
            refine hl_no (wanted_n rfl rfl (c := false) rfl rfl) rfl ?_
            refine hl_no (wanted_n rfl rfl (c := false) rfl rfl) rfl ?_
            refine hl_no (wanted_u rfl rfl rfl) rfl ?_
            refine hl_no (wanted_u rfl rfl rfl) rfl ?_
            refine hl_no (wanted_u rfl rfl rfl) rfl ?_
            refine hl_no (wanted_u rfl rfl rfl) rfl ?_
            refine hl_no (wanted_u rfl rfl rfl) rfl ?_
            refine hl_no (wanted_n rfl rfl (c := false) rfl rfl) rfl ?_
            refine hl_val rfl rfl (v := (.bool false)) (hv_pick (t := false) rfl rfl) ?_
            refine hl_nil ?_
            refine seqQ_n ?_
            exact ⟨rfl, (has_cons rfl (has_cons rfl (has_cons rfl (has_cons rfl (has_cons (show ((.bool false) : Value) = (.bool ((x_Kind != 2) && ((x_Kind != 3) && ((x_Kind != 6) && (r1_1 && ((!r1_2) || (decide (r0_Version_1 < r0_Version)))))))) from (by first | rfl | (try rw [hg56]; all_goals first | rfl | (simp only [Bool.true_or, Bool.or_true, Bool.false_or, Bool.or_false, Bool.true_and, Bool.and_true, Bool.false_and, Bool.and_false, Bool.not_true, Bool.not_false, Bool.cond_true, Bool.cond_false]; done)) | simp [hg56])) has_nil)))))⟩
        · rintro ρ _ ⟨rfl, hH⟩
          refine hx_has _ hH ?_
          refine hx_cond (b := ((x_Kind != 2) && ((x_Kind != 3) && ((x_Kind != 6) && (r1_1 && ((!r1_2) || (decide (r0_Version_1 < r0_Version)))))))) rfl (fun hb61 => ?_) (fun hb61 => ?_)
          · replace H := H.1 hb61
            refine hx_seq ?_
            refine hx_region ?_
            refine hl_val rfl rfl (v := (.bool false)) (hv_assign rfl) ?_
            refine hl_nil ?_
            refine seqQ_n ?_
            refine hx_ret ?_
            refine blockQ_ret ?_
            refine seqQ_ret ?_
            refine seqQ_ret ?_
            refine blockQ_ret ?_
            refine seqQ_ret ?_
            replace H := H h12 xv53
            exact endQ_ret _ (res_one Try.results3 (rv_tmp rfl)) H
          · replace H := H.2 hb61
            refine hx_skip ?_
            refine blockQ_n ?_
            refine seqQ_n ?_
            refine hx_region ?_
            refine hl_val rfl rfl (v := (.int .i64 (IntKind.i64.wrap (v + 1)))) (hv_arith rfl rfl rfl) ?_
            refine hl_val rfl rfl (v := (.int .i64 (IntKind.i64.wrap (v + 1)))) (hv_move rfl) ?_
            refine hl_nil ?_
            replace H := H h12 xv53
            refine seqQ_n ?_
            exact ⟨IntKind.i64.wrap (v + 1), ⟨⟨H.1, trivial⟩, H.2⟩, (has_cons rfl (has_cons rfl (has_cons rfl (has_cons rfl has_nil))))⟩
      · replace H := H.2 hb16
        refine hx_exit ?_
        refine seqQ_exit ?_
        refine seqQ_exit ?_
        refine blockQ_here ?_
        refine seqQ_n ?_
        refine hx_seq ?_
        refine hx_region ?_
        refine hl_val rfl rfl (v := (.bool true)) (hv_assign rfl) ?_
        refine hl_nil ?_
        refine seqQ_n ?_
        refine hx_ret ?_
        exact endQ_ret _ (res_one Try.results3 (rv_tmp rfl)) H

/-- cellar/cellarlaw12.one -/
theorem f12_sh (x_b : Nat) (x_o : Nat) (o_Kind : Int) (o_Entry_Hash : Int) (o_Entry_At : Int) (o_Entry_Version : Int) (o_Entry_Hits : Int) (o_At : Int) (o_N : Int) (o_M : Int) (h : Heap) (R : Value → Heap → Prop)
    (H : (∃ A25 : Int → Int → Int → Int → Bool → Int → Int → Nat → Nat → Heap → Prop, (((o_Kind == 0) = true → (∀ (o : Nat) (pb : Nat) (t : Nat) (h3 : Heap), Array.size h ≤ o → o < Array.size h3 → Array.size h ≤ pb → pb < Array.size h3 → Array.size h ≤ t → t < Array.size h3 → Ext h h3 → HC Try.prog 29 #[(ptr x_b x_o), (.agg #[(.int .u64 o_Entry_Hash), (.int .u64 o_Entry_At), (.int .u64 o_Entry_Version), (.int .u8 o_Entry_Hits)])] h3 (fun vv h5 => Kp [o, pb, t] h3 h5 ∧ ∃ r0_Hash r0_At r0_Version r0_Hits : Int, ∃ r1 : Bool, ∃ r2 : Int, vv = (.tuple #[(.agg #[(.int .u64 r0_Hash), (.int .u64 r0_At), (.int .u64 r0_Version), (.int .u8 r0_Hits)]), (.bool r1), (.int .i64 r2)]) ∧ (∀ h6, Fr (fun i => i = t) h5 h6 → (∀ h7, Fr (fun i => i = t) h6 h7 → (∀ h8, Fr (fun i => i = t) h7 h8 → (A25 r0_Hash r0_At r0_Version r0_Hits r1 r2 0 pb t h8))))))) ∧ ((o_Kind == 0) = false → (((o_Kind == 2) = true → (∀ (o : Nat) (pb : Nat) (t : Nat) (h3 : Heap), Array.size h ≤ o → o < Array.size h3 → Array.size h ≤ pb → pb < Array.size h3 → Array.size h ≤ t → t < Array.size h3 → Ext h h3 → HC Try.prog 30 #[(ptr x_b x_o), (.int .u64 o_Entry_Hash)] h3 (fun vv h9 => Kp [o, pb, t] h3 h9 ∧ ∃ r0_Hash r0_At r0_Version r0_Hits : Int, ∃ r1 : Bool, vv = (.tuple #[(.agg #[(.int .u64 r0_Hash), (.int .u64 r0_At), (.int .u64 r0_Version), (.int .u8 r0_Hits)]), (.bool r1)]) ∧ (∀ h10, Fr (fun i => i = t) h9 h10 → (∀ h11, Fr (fun i => i = t) h10 h11 → (A25 r0_Hash r0_At r0_Version r0_Hits r1 0 0 pb t h11)))))) ∧ ((o_Kind == 2) = false → (((o_Kind == 3) = true → (∀ (o : Nat) (pb : Nat) (t : Nat) (h3 : Heap), Array.size h ≤ o → o < Array.size h3 → Array.size h ≤ pb → pb < Array.size h3 → Array.size h ≤ t → t < Array.size h3 → Ext h h3 → HC Try.prog 31 #[(ptr x_b x_o), (.int .u64 o_Entry_Hash), (.int .u64 o_At)] h3 (fun vv h12 => Kp [o, pb, t] h3 h12 ∧ ∃ r : Bool, vv = (.bool r) ∧ (∀ h13, Fr (fun i => i = t) h12 h13 → (A25 0 0 0 0 r 0 0 pb t h13))))) ∧ ((o_Kind == 3) = false → (((o_Kind == 4) = true → (∀ (o : Nat) (pb : Nat) (t : Nat) (h3 : Heap), Array.size h ≤ o → o < Array.size h3 → Array.size h ≤ pb → pb < Array.size h3 → Array.size h ≤ t → t < Array.size h3 → Ext h h3 → HC Try.prog 32 #[(ptr x_b x_o), (.int .u64 o_Entry_Hash), (.int .u64 o_At), (.int .u64 o_Entry_At)] h3 (fun vv h14 => Kp [o, pb, t] h3 h14 ∧ ∃ r : Bool, vv = (.bool r) ∧ (∀ h15, Fr (fun i => i = t) h14 h15 → (A25 0 0 0 0 r 0 0 pb t h15))))) ∧ ((o_Kind == 4) = false → (((o_Kind == 5) = true → (∀ (o : Nat) (pb : Nat) (t : Nat) (h3 : Heap), Array.size h ≤ o → o < Array.size h3 → Array.size h ≤ pb → pb < Array.size h3 → Array.size h ≤ t → t < Array.size h3 → Ext h h3 → HC Try.prog 33 #[(ptr x_b x_o), (.int .u64 o_Entry_Hash)] h3 (fun vv h16 => Kp [o, pb, t] h3 h16 ∧ ∃ r : Bool, vv = (.bool r) ∧ (∀ h17, Fr (fun i => i = t) h16 h17 → (A25 0 0 0 0 r 0 0 pb t h17))))) ∧ ((o_Kind == 5) = false → (((o_Kind == 6) = true → (∀ (o : Nat) (pb : Nat) (t : Nat) (h3 : Heap), Array.size h ≤ o → o < Array.size h3 → Array.size h ≤ pb → pb < Array.size h3 → Array.size h ≤ t → t < Array.size h3 → Ext h h3 → HC Try.prog 19 #[(ptr x_b x_o), (.int .i64 o_N), (.int .i64 o_M)] h3 (fun vv h18 => Kp [o, pb, t] h3 h18 ∧ ∃ r : Int, vv = (.int .i64 r) ∧ (∀ h19, Fr (fun i => i = t) h18 h19 → (A25 0 0 0 0 false 0 r pb t h19))))) ∧ ((o_Kind == 6) = false → (∀ (pb : Nat) (t : Nat) (h3 : Heap), Array.size h ≤ pb → pb < Array.size h3 → Array.size h ≤ t → t < Array.size h3 → Ext h h3 → HC Try.prog 11 #[(ptr x_b x_o), (.int .u64 o_Entry_Hash)] h3 (fun vv h20 => Kp [pb, t] h3 h20 ∧ ∃ r0_Hash r0_At r0_Version r0_Hits : Int, ∃ r1 : Bool, vv = (.tuple #[(.agg #[(.int .u64 r0_Hash), (.int .u64 r0_At), (.int .u64 r0_Version), (.int .u8 r0_Hits)]), (.bool r1)]) ∧ (∀ h21, Fr (fun i => i = t) h20 h21 → (∀ h22, Fr (fun i => i = t) h21 h22 → (A25 r0_Hash r0_At r0_Version r0_Hits r1 0 0 pb t h22))))))))))))))))) ∧ (∀ (tc : Int) (tc_1 : Int) (tc_2 : Int) (tc_3 : Int) (tc_4 : Bool) (tc_5 : Int) (tc_6 : Int) (pb : Nat) (t : Nat) (h4 : Heap), A25 tc tc_1 tc_2 tc_3 tc_4 tc_5 tc_6 pb t h4 → Array.size h ≤ pb → pb < Array.size h4 → Array.size h ≤ t → t < Array.size h4 → (∀ h23, Fr (fun i => i = pb) h4 h23 → R (.agg #[(.int .u64 tc), (.int .u64 tc_1), (.int .u64 tc_2), (.int .u8 tc_3), (.int .u64 0), (.int .u64 0), (.int .u64 0), (.int .u8 0), (.bool tc_4), (.bool false), (.int .i64 tc_5), (.int .i64 0), (.int .i64 tc_6)]) h23)))) :
    HC Try.prog 12 #[(ptr x_b x_o), (.agg #[(.int .i64 o_Kind), (.int .u64 o_Entry_Hash), (.int .u64 o_Entry_At), (.int .u64 o_Entry_Version), (.int .u8 o_Entry_Hits), (.int .u64 o_At), (.int .i64 o_N), (.int .i64 o_M)])] h R := by
  refine hc_of (args := [(ptr x_b x_o), (.agg #[(.int .i64 o_Kind), (.int .u64 o_Entry_Hash), (.int .u64 o_Entry_At), (.int .u64 o_Entry_Version), (.int .u8 o_Entry_Hits), (.int .u64 o_At), (.int .i64 o_N), (.int .i64 o_M)])]) Try.func12 rfl Try.ntmps12 (Nat.le_of_ble_eq_true rfl) ?_
  refine hx_seq ?_
  refine hx_region ?_
  refine hl_step rfl rfl (hn_box (v := (.agg #[(.int .i64 o_Kind), (.int .u64 o_Entry_Hash), (.int .u64 o_Entry_At), (.int .u64 o_Entry_Version), (.int .u8 o_Entry_Hits), (.int .u64 o_At), (.int .i64 o_N), (.int .i64 o_M)])) rfl ?_)
  intro o h1 eb1 eh2
  have xx3 : Ext h h1 := by rw [eh2]; exact Ext.push _ _
  have lo5 : Array.size h ≤ o := Nat.le_of_eq (Eq.symm eb1)
  have hr4 : h1[o]? = some (.cells #[(.int .i64 o_Kind), (.int .u64 o_Entry_Hash), (.int .u64 o_Entry_At), (.int .u64 o_Entry_Version), (.int .u8 o_Entry_Hits), (.int .u64 o_At), (.int .i64 o_N), (.int .i64 o_M)] 33 (0, 0)) := by rw [eh2]; exact push_new eb1
  refine hl_step rfl rfl (hn_alloc TyShL.z38 ?_)
  intro pb h2 eb6 eh7
  have xx8 : Ext h1 h2 := by rw [eh7]; exact Ext.push _ _
  have ne11 := Nat.ne_of_lt (Nat.lt_of_lt_of_eq (row_lt hr4) (Eq.symm eb6))
  have lo10 : Array.size h ≤ pb := Nat.le_trans (Ext.size xx3) (Nat.le_of_eq (Eq.symm eb6))
  have hr9 : h2[pb]? = some (.cells #[(.int .u64 0), (.int .u64 0), (.int .u64 0), (.int .u8 0), (.int .u64 0), (.int .u64 0), (.int .u64 0), (.int .u8 0), (.bool false), (.bool false), (.int .i64 0), (.int .i64 0), (.int .i64 0)] 38 (0, 0)) := by rw [eh7]; exact push_new eb6
  replace hr4 := Ext.row xx8 hr4
  have xv12 := Ext.trans xx3 xx8
  refine hl_nil ?_
  refine seqQ_n ?_
  refine hx_seq ?_
  refine hx_region ?_
  refine hl_step rfl rfl (hn_alloc TyShL.z38 ?_)
  intro t h3 eb13 eh14
  have xx15 : Ext h2 h3 := by rw [eh14]; exact Ext.push _ _
  have ne18 := Nat.ne_of_lt (Nat.lt_of_lt_of_eq (row_lt hr4) (Eq.symm eb13))
  have ne19 := Nat.ne_of_lt (Nat.lt_of_lt_of_eq (row_lt hr9) (Eq.symm eb13))
  have lo17 : Array.size h ≤ t := Nat.le_trans (Ext.size xv12) (Nat.le_of_eq (Eq.symm eb13))
  have hr16 : h3[t]? = some (.cells #[(.int .u64 0), (.int .u64 0), (.int .u64 0), (.int .u8 0), (.int .u64 0), (.int .u64 0), (.int .u64 0), (.int .u8 0), (.bool false), (.bool false), (.int .i64 0), (.int .i64 0), (.int .i64 0)] 38 (0, 0)) := by rw [eh14]; exact push_new eb13
  replace hr4 := Ext.row xx15 hr4
  replace hr9 := Ext.row xx15 hr9
  have xv20 := Ext.trans xv12 xx15
  refine hl_nil ?_
  refine seqQ_n ?_
  obtain ⟨A25, Hx21, Hy22⟩ := H
  refine hx_cut (fun ρ h' => ∃ tc tc_1 tc_2 tc_3 : Int, ∃ tc_4 : Bool, ∃ tc_5 tc_6 : Int, (A25 tc tc_1 tc_2 tc_3 tc_4 tc_5 tc_6 pb t h' ∧ h'[pb]? = some (.cells #[(.int .u64 0), (.int .u64 0), (.int .u64 0), (.int .u8 0), (.int .u64 0), (.int .u64 0), (.int .u64 0), (.int .u8 0), (.bool false), (.bool false), (.int .i64 0), (.int .i64 0), (.int .i64 0)] 38 (0, 0)) ∧ h'[t]? = some (.cells #[(.int .u64 tc), (.int .u64 tc_1), (.int .u64 tc_2), (.int .u8 tc_3), (.int .u64 0), (.int .u64 0), (.int .u64 0), (.int .u8 0), (.bool tc_4), (.bool false), (.int .i64 tc_5), (.int .i64 0), (.int .i64 tc_6)] 38 (0, 0)) ∧ True) ∧ Has ρ [(4, (ptr pb 0)), (5, (ptr t 0))]) ?_ ?_
  · have H := Hx21; clear Hx21 Hy22
    refine hx_seq ?_
    refine hx_region ?_
    refine hl_val rfl rfl (v := (ptr o 0)) (hv_field TyShL.fld33_0 (b := o) (o := 0) rfl) ?_
    refine hl_val rfl rfl (v := (.int .i64 o_Kind)) (hv_load TyShL.agg3 rfl (rowcell hr4 rfl)) ?_
    refine hl_nil ?_
    refine seqQ_n ?_
    refine hx_block ?_
    refine hx_seq ?_
    refine hx_region ?_
    refine hl_val rfl rfl (v := (.bool (o_Kind == 0))) (hv_arith rfl rfl rfl) ?_
    refine hl_val rfl rfl (v := (.bool (o_Kind == 0))) (hv_assign rfl) ?_
    refine hl_nil ?_
    refine seqQ_n ?_
    refine hx_cond (b := o_Kind == 0) rfl (fun hb27 => ?_) (fun hb27 => ?_)
    · replace H := H.1 hb27
      refine hx_region ?_
      refine hl_val rfl rfl (v := (ptr x_b x_o)) (hv_move rfl) ?_
      refine hl_val rfl rfl (v := (ptr o 1)) (hv_field TyShL.fld33_1 (b := o) (o := 0) rfl) ?_
      refine hl_val rfl rfl (v := (.agg #[(.int .u64 o_Entry_Hash), (.int .u64 o_Entry_At), (.int .u64 o_Entry_Version), (.int .u8 o_Entry_Hits)])) (hv_loads (vs := [(.int .u64 o_Entry_Hash), (.int .u64 o_Entry_At), (.int .u64 o_Entry_Version), (.int .u8 o_Entry_Hits)]) TyShL.agg31 TyShL.sz31 rfl (hcells_cons (rowcell hr4 rfl) (hcells_cons (rowcell hr4 rfl) (hcells_cons (rowcell hr4 rfl) (hcells_cons (rowcell hr4 rfl) hcells_nil))))) ?_
      replace H := H o pb t h3 lo5 (row_lt hr4) lo10 (row_lt hr9) lo17 (row_lt hr16) xv20
      refine hl_step rfl rfl (hs_call TyShL.cb29 (vs := [(ptr x_b x_o), (.agg #[(.int .u64 o_Entry_Hash), (.int .u64 o_Entry_At), (.int .u64 o_Entry_Version), (.int .u8 o_Entry_Hits)])]) rfl (HC.mono H ?_))
      rintro _ h5 ⟨kp28, r0_Hash, r0_At, r0_Version, r0_Hits, r1, r2, rfl, H⟩
      replace hr4 := Kp.row kp28 (by simp) hr4
      replace hr9 := Kp.row kp28 (by simp) hr9
      replace hr16 := Kp.row kp28 (by simp) hr16
      refine hl_val rfl rfl (v := (.tuple #[(.agg #[(.int .u64 r0_Hash), (.int .u64 r0_At), (.int .u64 r0_Version), (.int .u8 r0_Hits)]), (.bool r1), (.int .i64 r2)])) (hv_move rfl) ?_
      refine hl_val rfl rfl (v := (.agg #[(.int .u64 r0_Hash), (.int .u64 r0_At), (.int .u64 r0_Version), (.int .u8 r0_Hits)])) (hv_extract (vs := #[(.agg #[(.int .u64 r0_Hash), (.int .u64 r0_At), (.int .u64 r0_Version), (.int .u8 r0_Hits)]), (.bool r1), (.int .i64 r2)]) rfl rfl) ?_
      refine hl_val rfl rfl (v := (.bool r1)) (hv_extract (vs := #[(.agg #[(.int .u64 r0_Hash), (.int .u64 r0_At), (.int .u64 r0_Version), (.int .u8 r0_Hits)]), (.bool r1), (.int .i64 r2)]) rfl rfl) ?_
      refine hl_val rfl rfl (v := (.int .i64 r2)) (hv_extract (vs := #[(.agg #[(.int .u64 r0_Hash), (.int .u64 r0_At), (.int .u64 r0_Version), (.int .u8 r0_Hits)]), (.bool r1), (.int .i64 r2)]) rfl rfl) ?_
      refine hl_val rfl rfl (v := (ptr t 0)) (hv_field TyShL.fld38_0 (b := t) (o := 0) rfl) ?_
      refine hl_step rfl rfl (hn_stores (vs := [(.int .u64 r0_Hash), (.int .u64 r0_At), (.int .u64 r0_Version), (.int .u8 r0_Hits)]) rfl rfl TyShL.sz31 rfl (HWs_row hr16 (by simp)) ?_)
      intro h6 eh29
      replace hr4 := row_hsets_ne eh29 ne18 hr4
      replace hr9 := row_hsets_ne eh29 ne19 hr9
      have hr16' : h6[t]? = some (.cells #[(.int .u64 r0_Hash), (.int .u64 r0_At), (.int .u64 r0_Version), (.int .u8 r0_Hits), (.int .u64 0), (.int .u64 0), (.int .u64 0), (.int .u8 0), (.bool false), (.bool false), (.int .i64 0), (.int .i64 0), (.int .i64 0)] 38 (0, 0)) := row_hsets_eq eh29 hr16 rfl
      replace H := H h6 (fr_hsets_of eh29)
      refine hl_val rfl rfl (v := (ptr t 8)) (hv_field TyShL.fld38_2 (b := t) (o := 0) rfl) ?_
      refine hl_step rfl rfl (hn_store (v := (.bool r1)) rfl rfl TyShL.sz4 rfl (HW_row hr16' (by simp)) ?_)
      intro h7 eh30
      replace hr4 := row_hset_ne eh30 ne18 hr4
      replace hr9 := row_hset_ne eh30 ne19 hr9
      have hr16'' : h7[t]? = some (.cells #[(.int .u64 r0_Hash), (.int .u64 r0_At), (.int .u64 r0_Version), (.int .u8 r0_Hits), (.int .u64 0), (.int .u64 0), (.int .u64 0), (.int .u8 0), (.bool r1), (.bool false), (.int .i64 0), (.int .i64 0), (.int .i64 0)] 38 (0, 0)) := row_hset_eq eh30 hr16' rfl
      replace H := H h7 (fr_hset_of eh30)
      refine hl_val rfl rfl (v := (ptr t 10)) (hv_field TyShL.fld38_4 (b := t) (o := 0) rfl) ?_
      refine hl_step rfl rfl (hn_store (v := (.int .i64 r2)) rfl rfl TyShL.sz36 rfl (HW_row hr16'' (by simp)) ?_)
      intro h8 eh31
      replace hr4 := row_hset_ne eh31 ne18 hr4
      replace hr9 := row_hset_ne eh31 ne19 hr9
      have hr16''' : h8[t]? = some (.cells #[(.int .u64 r0_Hash), (.int .u64 r0_At), (.int .u64 r0_Version), (.int .u8 r0_Hits), (.int .u64 0), (.int .u64 0), (.int .u64 0), (.int .u8 0), (.bool r1), (.bool false), (.int .i64 r2), (.int .i64 0), (.int .i64 0)] 38 (0, 0)) := row_hset_eq eh31 hr16'' rfl
      replace H := H h8 (fr_hset_of eh31)
      refine hl_nil ?_
      refine blockQ_n ?_
      refine seqQ_n ?_
      exact ⟨_, _, _, _, _, _, _, ⟨H, hr9, hr16''', trivial⟩, (has_cons rfl (has_cons rfl has_nil))⟩
    · replace H := H.2 hb27
      refine hx_seq ?_
      refine hx_region ?_
      refine hl_val rfl rfl (v := (.bool (o_Kind == 2))) (hv_arith rfl rfl rfl) ?_
      refine hl_val rfl rfl (v := (.bool (o_Kind == 2))) (hv_assign rfl) ?_
      refine hl_nil ?_
      refine seqQ_n ?_
      refine hx_cond (b := o_Kind == 2) rfl (fun hb32 => ?_) (fun hb32 => ?_)
      · replace H := H.1 hb32
        refine hx_region ?_
        refine hl_val rfl rfl (v := (ptr x_b x_o)) (hv_move rfl) ?_
        refine hl_val rfl rfl (v := (ptr o 1)) (hv_field TyShL.fld33_1 (b := o) (o := 0) rfl) ?_
        refine hl_val rfl rfl (v := (ptr o 1)) (hv_field TyShL.fld31_0 (b := o) (o := 1) rfl) ?_
        refine hl_val rfl rfl (v := (.int .u64 o_Entry_Hash)) (hv_load TyShL.agg29 rfl (rowcell hr4 rfl)) ?_
        replace H := H o pb t h3 lo5 (row_lt hr4) lo10 (row_lt hr9) lo17 (row_lt hr16) xv20
        refine hl_step rfl rfl (hs_call TyShL.cb30 (vs := [(ptr x_b x_o), (.int .u64 o_Entry_Hash)]) rfl (HC.mono H ?_))
        rintro _ h9 ⟨kp33, r0_Hash, r0_At, r0_Version, r0_Hits, r1, rfl, H⟩
        replace hr4 := Kp.row kp33 (by simp) hr4
        replace hr9 := Kp.row kp33 (by simp) hr9
        replace hr16 := Kp.row kp33 (by simp) hr16
        refine hl_val rfl rfl (v := (.tuple #[(.agg #[(.int .u64 r0_Hash), (.int .u64 r0_At), (.int .u64 r0_Version), (.int .u8 r0_Hits)]), (.bool r1)])) (hv_move rfl) ?_
        refine hl_val rfl rfl (v := (.agg #[(.int .u64 r0_Hash), (.int .u64 r0_At), (.int .u64 r0_Version), (.int .u8 r0_Hits)])) (hv_extract (vs := #[(.agg #[(.int .u64 r0_Hash), (.int .u64 r0_At), (.int .u64 r0_Version), (.int .u8 r0_Hits)]), (.bool r1)]) rfl rfl) ?_
        refine hl_val rfl rfl (v := (.bool r1)) (hv_extract (vs := #[(.agg #[(.int .u64 r0_Hash), (.int .u64 r0_At), (.int .u64 r0_Version), (.int .u8 r0_Hits)]), (.bool r1)]) rfl rfl) ?_
        refine hl_val rfl rfl (v := (ptr t 0)) (hv_field TyShL.fld38_0 (b := t) (o := 0) rfl) ?_
        refine hl_step rfl rfl (hn_stores (vs := [(.int .u64 r0_Hash), (.int .u64 r0_At), (.int .u64 r0_Version), (.int .u8 r0_Hits)]) rfl rfl TyShL.sz31 rfl (HWs_row hr16 (by simp)) ?_)
        intro h10 eh34
        replace hr4 := row_hsets_ne eh34 ne18 hr4
        replace hr9 := row_hsets_ne eh34 ne19 hr9
        have hr16' : h10[t]? = some (.cells #[(.int .u64 r0_Hash), (.int .u64 r0_At), (.int .u64 r0_Version), (.int .u8 r0_Hits), (.int .u64 0), (.int .u64 0), (.int .u64 0), (.int .u8 0), (.bool false), (.bool false), (.int .i64 0), (.int .i64 0), (.int .i64 0)] 38 (0, 0)) := row_hsets_eq eh34 hr16 rfl
        replace H := H h10 (fr_hsets_of eh34)
        refine hl_val rfl rfl (v := (ptr t 8)) (hv_field TyShL.fld38_2 (b := t) (o := 0) rfl) ?_
        refine hl_step rfl rfl (hn_store (v := (.bool r1)) rfl rfl TyShL.sz4 rfl (HW_row hr16' (by simp)) ?_)
        intro h11 eh35
        replace hr4 := row_hset_ne eh35 ne18 hr4
        replace hr9 := row_hset_ne eh35 ne19 hr9
        have hr16'' : h11[t]? = some (.cells #[(.int .u64 r0_Hash), (.int .u64 r0_At), (.int .u64 r0_Version), (.int .u8 r0_Hits), (.int .u64 0), (.int .u64 0), (.int .u64 0), (.int .u8 0), (.bool r1), (.bool false), (.int .i64 0), (.int .i64 0), (.int .i64 0)] 38 (0, 0)) := row_hset_eq eh35 hr16' rfl
        replace H := H h11 (fr_hset_of eh35)
        refine hl_nil ?_
        refine blockQ_n ?_
        refine seqQ_n ?_
        exact ⟨_, _, _, _, _, _, _, ⟨H, hr9, hr16'', trivial⟩, (has_cons rfl (has_cons rfl has_nil))⟩
      · replace H := H.2 hb32
        refine hx_seq ?_
        refine hx_region ?_
        refine hl_val rfl rfl (v := (.bool (o_Kind == 3))) (hv_arith rfl rfl rfl) ?_
        refine hl_val rfl rfl (v := (.bool (o_Kind == 3))) (hv_assign rfl) ?_
        refine hl_nil ?_
        refine seqQ_n ?_
        refine hx_cond (b := o_Kind == 3) rfl (fun hb36 => ?_) (fun hb36 => ?_)
        · replace H := H.1 hb36
          refine hx_region ?_
          refine hl_val rfl rfl (v := (ptr x_b x_o)) (hv_move rfl) ?_
          refine hl_val rfl rfl (v := (ptr o 1)) (hv_field TyShL.fld33_1 (b := o) (o := 0) rfl) ?_
          refine hl_val rfl rfl (v := (ptr o 1)) (hv_field TyShL.fld31_0 (b := o) (o := 1) rfl) ?_
          refine hl_val rfl rfl (v := (.int .u64 o_Entry_Hash)) (hv_load TyShL.agg29 rfl (rowcell hr4 rfl)) ?_
          refine hl_val rfl rfl (v := (ptr o 5)) (hv_field TyShL.fld33_2 (b := o) (o := 0) rfl) ?_
          refine hl_val rfl rfl (v := (.int .u64 o_At)) (hv_load TyShL.agg29 rfl (rowcell hr4 rfl)) ?_
          replace H := H o pb t h3 lo5 (row_lt hr4) lo10 (row_lt hr9) lo17 (row_lt hr16) xv20
          refine hl_step rfl rfl (hs_call TyShL.cb31 (vs := [(ptr x_b x_o), (.int .u64 o_Entry_Hash), (.int .u64 o_At)]) rfl (HC.mono H ?_))
          rintro _ h12 ⟨kp37, r, rfl, H⟩
          replace hr4 := Kp.row kp37 (by simp) hr4
          replace hr9 := Kp.row kp37 (by simp) hr9
          replace hr16 := Kp.row kp37 (by simp) hr16
          refine hl_val rfl rfl (v := (ptr t 8)) (hv_field TyShL.fld38_2 (b := t) (o := 0) rfl) ?_
          refine hl_step rfl rfl (hn_store (v := (.bool r)) rfl rfl TyShL.sz4 rfl (HW_row hr16 (by simp)) ?_)
          intro h13 eh38
          replace hr4 := row_hset_ne eh38 ne18 hr4
          replace hr9 := row_hset_ne eh38 ne19 hr9
          have hr16' : h13[t]? = some (.cells #[(.int .u64 0), (.int .u64 0), (.int .u64 0), (.int .u8 0), (.int .u64 0), (.int .u64 0), (.int .u64 0), (.int .u8 0), (.bool r), (.bool false), (.int .i64 0), (.int .i64 0), (.int .i64 0)] 38 (0, 0)) := row_hset_eq eh38 hr16 rfl
          replace H := H h13 (fr_hset_of eh38)
          refine hl_nil ?_
          refine blockQ_n ?_
          refine seqQ_n ?_
          exact ⟨_, _, _, _, _, _, _, ⟨H, hr9, hr16', trivial⟩, (has_cons rfl (has_cons rfl has_nil))⟩
        · replace H := H.2 hb36
          refine hx_seq ?_
          refine hx_region ?_
          refine hl_val rfl rfl (v := (.bool (o_Kind == 4))) (hv_arith rfl rfl rfl) ?_
          refine hl_val rfl rfl (v := (.bool (o_Kind == 4))) (hv_assign rfl) ?_
          refine hl_nil ?_
          refine seqQ_n ?_
          refine hx_cond (b := o_Kind == 4) rfl (fun hb39 => ?_) (fun hb39 => ?_)
          · replace H := H.1 hb39
            refine hx_region ?_
            refine hl_val rfl rfl (v := (ptr x_b x_o)) (hv_move rfl) ?_
            refine hl_val rfl rfl (v := (ptr o 1)) (hv_field TyShL.fld33_1 (b := o) (o := 0) rfl) ?_
            refine hl_val rfl rfl (v := (ptr o 1)) (hv_field TyShL.fld31_0 (b := o) (o := 1) rfl) ?_
            refine hl_val rfl rfl (v := (.int .u64 o_Entry_Hash)) (hv_load TyShL.agg29 rfl (rowcell hr4 rfl)) ?_
            refine hl_val rfl rfl (v := (ptr o 5)) (hv_field TyShL.fld33_2 (b := o) (o := 0) rfl) ?_
            refine hl_val rfl rfl (v := (.int .u64 o_At)) (hv_load TyShL.agg29 rfl (rowcell hr4 rfl)) ?_
            refine hl_val rfl rfl (v := (ptr o 1)) (hv_field TyShL.fld33_1 (b := o) (o := 0) rfl) ?_
            refine hl_val rfl rfl (v := (ptr o 2)) (hv_field TyShL.fld31_1 (b := o) (o := 1) rfl) ?_
            refine hl_val rfl rfl (v := (.int .u64 o_Entry_At)) (hv_load TyShL.agg29 rfl (rowcell hr4 rfl)) ?_
            replace H := H o pb t h3 lo5 (row_lt hr4) lo10 (row_lt hr9) lo17 (row_lt hr16) xv20
            refine hl_step rfl rfl (hs_call TyShL.cb32 (vs := [(ptr x_b x_o), (.int .u64 o_Entry_Hash), (.int .u64 o_At), (.int .u64 o_Entry_At)]) rfl (HC.mono H ?_))
            rintro _ h14 ⟨kp40, r, rfl, H⟩
            replace hr4 := Kp.row kp40 (by simp) hr4
            replace hr9 := Kp.row kp40 (by simp) hr9
            replace hr16 := Kp.row kp40 (by simp) hr16
            refine hl_val rfl rfl (v := (ptr t 8)) (hv_field TyShL.fld38_2 (b := t) (o := 0) rfl) ?_
            refine hl_step rfl rfl (hn_store (v := (.bool r)) rfl rfl TyShL.sz4 rfl (HW_row hr16 (by simp)) ?_)
            intro h15 eh41
            replace hr4 := row_hset_ne eh41 ne18 hr4
            replace hr9 := row_hset_ne eh41 ne19 hr9
            have hr16' : h15[t]? = some (.cells #[(.int .u64 0), (.int .u64 0), (.int .u64 0), (.int .u8 0), (.int .u64 0), (.int .u64 0), (.int .u64 0), (.int .u8 0), (.bool r), (.bool false), (.int .i64 0), (.int .i64 0), (.int .i64 0)] 38 (0, 0)) := row_hset_eq eh41 hr16 rfl
            replace H := H h15 (fr_hset_of eh41)
            refine hl_nil ?_
            refine blockQ_n ?_
            refine seqQ_n ?_
            exact ⟨_, _, _, _, _, _, _, ⟨H, hr9, hr16', trivial⟩, (has_cons rfl (has_cons rfl has_nil))⟩
          · replace H := H.2 hb39
            refine hx_seq ?_
            refine hx_region ?_
            refine hl_val rfl rfl (v := (.bool (o_Kind == 5))) (hv_arith rfl rfl rfl) ?_
            refine hl_val rfl rfl (v := (.bool (o_Kind == 5))) (hv_assign rfl) ?_
            refine hl_nil ?_
            refine seqQ_n ?_
            refine hx_cond (b := o_Kind == 5) rfl (fun hb42 => ?_) (fun hb42 => ?_)
            · replace H := H.1 hb42
              refine hx_region ?_
              refine hl_val rfl rfl (v := (ptr x_b x_o)) (hv_move rfl) ?_
              refine hl_val rfl rfl (v := (ptr o 1)) (hv_field TyShL.fld33_1 (b := o) (o := 0) rfl) ?_
              refine hl_val rfl rfl (v := (ptr o 1)) (hv_field TyShL.fld31_0 (b := o) (o := 1) rfl) ?_
              refine hl_val rfl rfl (v := (.int .u64 o_Entry_Hash)) (hv_load TyShL.agg29 rfl (rowcell hr4 rfl)) ?_
              replace H := H o pb t h3 lo5 (row_lt hr4) lo10 (row_lt hr9) lo17 (row_lt hr16) xv20
              refine hl_step rfl rfl (hs_call TyShL.cb33 (vs := [(ptr x_b x_o), (.int .u64 o_Entry_Hash)]) rfl (HC.mono H ?_))
              rintro _ h16 ⟨kp43, r, rfl, H⟩
              replace hr4 := Kp.row kp43 (by simp) hr4
              replace hr9 := Kp.row kp43 (by simp) hr9
              replace hr16 := Kp.row kp43 (by simp) hr16
              refine hl_val rfl rfl (v := (ptr t 8)) (hv_field TyShL.fld38_2 (b := t) (o := 0) rfl) ?_
              refine hl_step rfl rfl (hn_store (v := (.bool r)) rfl rfl TyShL.sz4 rfl (HW_row hr16 (by simp)) ?_)
              intro h17 eh44
              replace hr4 := row_hset_ne eh44 ne18 hr4
              replace hr9 := row_hset_ne eh44 ne19 hr9
              have hr16' : h17[t]? = some (.cells #[(.int .u64 0), (.int .u64 0), (.int .u64 0), (.int .u8 0), (.int .u64 0), (.int .u64 0), (.int .u64 0), (.int .u8 0), (.bool r), (.bool false), (.int .i64 0), (.int .i64 0), (.int .i64 0)] 38 (0, 0)) := row_hset_eq eh44 hr16 rfl
              replace H := H h17 (fr_hset_of eh44)
              refine hl_nil ?_
              refine blockQ_n ?_
              refine seqQ_n ?_
              exact ⟨_, _, _, _, _, _, _, ⟨H, hr9, hr16', trivial⟩, (has_cons rfl (has_cons rfl has_nil))⟩
            · replace H := H.2 hb42
              refine hx_seq ?_
              refine hx_region ?_
              refine hl_val rfl rfl (v := (.bool (o_Kind == 6))) (hv_arith rfl rfl rfl) ?_
              refine hl_val rfl rfl (v := (.bool (o_Kind == 6))) (hv_assign rfl) ?_
              refine hl_nil ?_
              refine seqQ_n ?_
              refine hx_cond (b := o_Kind == 6) rfl (fun hb45 => ?_) (fun hb45 => ?_)
              · replace H := H.1 hb45
                refine hx_region ?_
                refine hl_val rfl rfl (v := (ptr x_b x_o)) (hv_move rfl) ?_
                refine hl_val rfl rfl (v := (ptr o 6)) (hv_field TyShL.fld33_3 (b := o) (o := 0) rfl) ?_
                refine hl_val rfl rfl (v := (.int .i64 o_N)) (hv_load TyShL.agg3 rfl (rowcell hr4 rfl)) ?_
                refine hl_val rfl rfl (v := (ptr o 7)) (hv_field TyShL.fld33_4 (b := o) (o := 0) rfl) ?_
                refine hl_val rfl rfl (v := (.int .i64 o_M)) (hv_load TyShL.agg3 rfl (rowcell hr4 rfl)) ?_
                replace H := H o pb t h3 lo5 (row_lt hr4) lo10 (row_lt hr9) lo17 (row_lt hr16) xv20
                refine hl_step rfl rfl (hs_call TyShL.cb19 (vs := [(ptr x_b x_o), (.int .i64 o_N), (.int .i64 o_M)]) rfl (HC.mono H ?_))
                rintro _ h18 ⟨kp46, r, rfl, H⟩
                replace hr4 := Kp.row kp46 (by simp) hr4
                replace hr9 := Kp.row kp46 (by simp) hr9
                replace hr16 := Kp.row kp46 (by simp) hr16
                refine hl_val rfl rfl (v := (ptr t 12)) (hv_field TyShL.fld38_6 (b := t) (o := 0) rfl) ?_
                refine hl_step rfl rfl (hn_store (v := (.int .i64 r)) rfl rfl TyShL.sz3 rfl (HW_row hr16 (by simp)) ?_)
                intro h19 eh47
                replace hr4 := row_hset_ne eh47 ne18 hr4
                replace hr9 := row_hset_ne eh47 ne19 hr9
                have hr16' : h19[t]? = some (.cells #[(.int .u64 0), (.int .u64 0), (.int .u64 0), (.int .u8 0), (.int .u64 0), (.int .u64 0), (.int .u64 0), (.int .u8 0), (.bool false), (.bool false), (.int .i64 0), (.int .i64 0), (.int .i64 r)] 38 (0, 0)) := row_hset_eq eh47 hr16 rfl
                replace H := H h19 (fr_hset_of eh47)
                refine hl_nil ?_
                refine blockQ_n ?_
                refine seqQ_n ?_
                exact ⟨_, _, _, _, _, _, _, ⟨H, hr9, hr16', trivial⟩, (has_cons rfl (has_cons rfl has_nil))⟩
              · replace H := H.2 hb45
                refine hx_region ?_
                refine hl_val rfl rfl (v := (ptr x_b x_o)) (hv_move rfl) ?_
                refine hl_val rfl rfl (v := (ptr o 1)) (hv_field TyShL.fld33_1 (b := o) (o := 0) rfl) ?_
                refine hl_val rfl rfl (v := (ptr o 1)) (hv_field TyShL.fld31_0 (b := o) (o := 1) rfl) ?_
                refine hl_val rfl rfl (v := (.int .u64 o_Entry_Hash)) (hv_load TyShL.agg29 rfl (rowcell hr4 rfl)) ?_
                replace H := H pb t h3 lo10 (row_lt hr9) lo17 (row_lt hr16) xv20
                refine hl_step rfl rfl (hs_call TyShL.cb11 (vs := [(ptr x_b x_o), (.int .u64 o_Entry_Hash)]) rfl (HC.mono H ?_))
                rintro _ h20 ⟨kp48, r0_Hash, r0_At, r0_Version, r0_Hits, r1, rfl, H⟩
                replace hr9 := Kp.row kp48 (by simp) hr9
                replace hr16 := Kp.row kp48 (by simp) hr16
                refine hl_val rfl rfl (v := (.tuple #[(.agg #[(.int .u64 r0_Hash), (.int .u64 r0_At), (.int .u64 r0_Version), (.int .u8 r0_Hits)]), (.bool r1)])) (hv_move rfl) ?_
                refine hl_val rfl rfl (v := (.agg #[(.int .u64 r0_Hash), (.int .u64 r0_At), (.int .u64 r0_Version), (.int .u8 r0_Hits)])) (hv_extract (vs := #[(.agg #[(.int .u64 r0_Hash), (.int .u64 r0_At), (.int .u64 r0_Version), (.int .u8 r0_Hits)]), (.bool r1)]) rfl rfl) ?_
                refine hl_val rfl rfl (v := (.bool r1)) (hv_extract (vs := #[(.agg #[(.int .u64 r0_Hash), (.int .u64 r0_At), (.int .u64 r0_Version), (.int .u8 r0_Hits)]), (.bool r1)]) rfl rfl) ?_
                refine hl_val rfl rfl (v := (ptr t 0)) (hv_field TyShL.fld38_0 (b := t) (o := 0) rfl) ?_
                refine hl_step rfl rfl (hn_stores (vs := [(.int .u64 r0_Hash), (.int .u64 r0_At), (.int .u64 r0_Version), (.int .u8 r0_Hits)]) rfl rfl TyShL.sz31 rfl (HWs_row hr16 (by simp)) ?_)
                intro h21 eh49
                replace hr9 := row_hsets_ne eh49 ne19 hr9
                have hr16' : h21[t]? = some (.cells #[(.int .u64 r0_Hash), (.int .u64 r0_At), (.int .u64 r0_Version), (.int .u8 r0_Hits), (.int .u64 0), (.int .u64 0), (.int .u64 0), (.int .u8 0), (.bool false), (.bool false), (.int .i64 0), (.int .i64 0), (.int .i64 0)] 38 (0, 0)) := row_hsets_eq eh49 hr16 rfl
                replace H := H h21 (fr_hsets_of eh49)
                refine hl_val rfl rfl (v := (ptr t 8)) (hv_field TyShL.fld38_2 (b := t) (o := 0) rfl) ?_
                refine hl_step rfl rfl (hn_store (v := (.bool r1)) rfl rfl TyShL.sz4 rfl (HW_row hr16' (by simp)) ?_)
                intro h22 eh50
                replace hr9 := row_hset_ne eh50 ne19 hr9
                have hr16'' : h22[t]? = some (.cells #[(.int .u64 r0_Hash), (.int .u64 r0_At), (.int .u64 r0_Version), (.int .u8 r0_Hits), (.int .u64 0), (.int .u64 0), (.int .u64 0), (.int .u8 0), (.bool r1), (.bool false), (.int .i64 0), (.int .i64 0), (.int .i64 0)] 38 (0, 0)) := row_hset_eq eh50 hr16' rfl
                replace H := H h22 (fr_hset_of eh50)
                refine hl_nil ?_
                refine blockQ_n ?_
                refine seqQ_n ?_
                exact ⟨_, _, _, _, _, _, _, ⟨H, hr9, hr16'', trivial⟩, (has_cons rfl (has_cons rfl has_nil))⟩
  · rintro ρ h4 ⟨tc, tc_1, tc_2, tc_3, tc_4, tc_5, tc_6, ⟨HA26, hr23, hr24, -⟩, hH⟩
    have H := Hy22 tc tc_1 tc_2 tc_3 tc_4 tc_5 tc_6 pb t h4 HA26; clear Hx21 Hy22
    refine hx_has _ hH ?_
    replace H := H lo10 (row_lt hr23) lo17 (row_lt hr24)
    refine hx_seq ?_
    refine hx_region ?_
    refine hl_val rfl rfl (v := (.agg #[(.int .u64 tc), (.int .u64 tc_1), (.int .u64 tc_2), (.int .u8 tc_3), (.int .u64 0), (.int .u64 0), (.int .u64 0), (.int .u8 0), (.bool tc_4), (.bool false), (.int .i64 tc_5), (.int .i64 0), (.int .i64 tc_6)])) (hv_loads (vs := [(.int .u64 tc), (.int .u64 tc_1), (.int .u64 tc_2), (.int .u8 tc_3), (.int .u64 0), (.int .u64 0), (.int .u64 0), (.int .u8 0), (.bool tc_4), (.bool false), (.int .i64 tc_5), (.int .i64 0), (.int .i64 tc_6)]) TyShL.agg38 TyShL.sz38 rfl (hcells_cons (rowcell hr24 rfl) (hcells_cons (rowcell hr24 rfl) (hcells_cons (rowcell hr24 rfl) (hcells_cons (rowcell hr24 rfl) (hcells_cons (rowcell hr24 rfl) (hcells_cons (rowcell hr24 rfl) (hcells_cons (rowcell hr24 rfl) (hcells_cons (rowcell hr24 rfl) (hcells_cons (rowcell hr24 rfl) (hcells_cons (rowcell hr24 rfl) (hcells_cons (rowcell hr24 rfl) (hcells_cons (rowcell hr24 rfl) (hcells_cons (rowcell hr24 rfl) hcells_nil)))))))))))))) ?_
    refine hl_step rfl rfl (hn_stores (vs := [(.int .u64 tc), (.int .u64 tc_1), (.int .u64 tc_2), (.int .u8 tc_3), (.int .u64 0), (.int .u64 0), (.int .u64 0), (.int .u8 0), (.bool tc_4), (.bool false), (.int .i64 tc_5), (.int .i64 0), (.int .i64 tc_6)]) rfl rfl TyShL.sz38 rfl (HWs_row hr23 (by simp)) ?_)
    intro h23 eh51
    replace hr24 := row_hsets_ne eh51 (Ne.symm ne19) hr24
    have hr23' : h23[pb]? = some (.cells #[(.int .u64 tc), (.int .u64 tc_1), (.int .u64 tc_2), (.int .u8 tc_3), (.int .u64 0), (.int .u64 0), (.int .u64 0), (.int .u8 0), (.bool tc_4), (.bool false), (.int .i64 tc_5), (.int .i64 0), (.int .i64 tc_6)] 38 (0, 0)) := row_hsets_eq eh51 hr23 (by simp [sets])
    replace H := H h23 (fr_hsets_of eh51)
    refine hl_nil ?_
    refine seqQ_n ?_
    refine hx_ret ?_
    exact endQ_ret _ (res_one Try.results12 (rv_cell (vs := [(.int .u64 tc), (.int .u64 tc_1), (.int .u64 tc_2), (.int .u8 tc_3), (.int .u64 0), (.int .u64 0), (.int .u64 0), (.int .u8 0), (.bool tc_4), (.bool false), (.int .i64 tc_5), (.int .i64 0), (.int .i64 tc_6)]) TyShL.agg38 TyShL.sz38 rfl (hcells_cons (rowcell hr23' rfl) (hcells_cons (rowcell hr23' rfl) (hcells_cons (rowcell hr23' rfl) (hcells_cons (rowcell hr23' rfl) (hcells_cons (rowcell hr23' rfl) (hcells_cons (rowcell hr23' rfl) (hcells_cons (rowcell hr23' rfl) (hcells_cons (rowcell hr23' rfl) (hcells_cons (rowcell hr23' rfl) (hcells_cons (rowcell hr23' rfl) (hcells_cons (rowcell hr23' rfl) (hcells_cons (rowcell hr23' rfl) (hcells_cons (rowcell hr23' rfl) hcells_nil))))))))))))))) H

end Go.Proofs.Ytkecmljalcfhoaa
