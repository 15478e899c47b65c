/-
Shallow forms, written by gen2.py (a program of ours) out of the print of the program.
-/
import Derived.Test.YtkecmljalcfhoaaShJ
import Derived.Test.YtkecmljalcfhoaaPrv
import Derived.Test.YtkecmljalcfhoaaSrt
import Derived.Test.YtkecmljalcfhoaaRng
import Derived.Test.YtkecmljalcfhoaaMor
import Derived.Test.YtkecmljalcfhoaaProg
namespace Go.Proofs.Ytkecmljalcfhoaa
open Go
set_option maxRecDepth 100000
set_option maxHeartbeats 4000000

theorem TyShU.agg29 : aggB Try.prog 29 = some false := by kernel_rfl
theorem TyShU.agg3 : aggB Try.prog 3 = some false := by kernel_rfl
theorem TyShU.agg31 : aggB Try.prog 31 = some true := by kernel_rfl
theorem TyShU.agg38 : aggB Try.prog 38 = some true := by kernel_rfl
theorem TyShU.cb11 : CallB Try.prog 11 := fun _ _ => Try.call11 _ _
theorem TyShU.cb19 : CallB Try.prog 19 := fun _ _ => Try.call19 _ _
theorem TyShU.cb29 : CallB Try.prog 29 := fun _ _ => Try.call29 _ _
theorem TyShU.cb30 : CallB Try.prog 30 := fun _ _ => Try.call30 _ _
theorem TyShU.cb31 : CallB Try.prog 31 := fun _ _ => Try.call31 _ _
theorem TyShU.cb32 : CallB Try.prog 32 := fun _ _ => Try.call32 _ _
theorem TyShU.cb33 : CallB Try.prog 33 := fun _ _ => Try.call33 _ _
theorem TyShU.fld31_0 : fldB Try.prog 31 0 = some 0 := by kernel_rfl
theorem TyShU.fld31_1 : fldB Try.prog 31 1 = some 1 := by kernel_rfl
theorem TyShU.fld33_0 : fldB Try.prog 33 0 = some 0 := by kernel_rfl
theorem TyShU.fld33_1 : fldB Try.prog 33 1 = some 1 := by kernel_rfl
theorem TyShU.fld33_2 : fldB Try.prog 33 2 = some 5 := by kernel_rfl
theorem TyShU.fld33_3 : fldB Try.prog 33 3 = some 6 := by kernel_rfl
theorem TyShU.fld33_4 : fldB Try.prog 33 4 = some 7 := by kernel_rfl
theorem TyShU.fld38_0 : fldB Try.prog 38 0 = some 0 := by kernel_rfl
theorem TyShU.fld38_2 : fldB Try.prog 38 2 = some 8 := by kernel_rfl
theorem TyShU.fld38_4 : fldB Try.prog 38 4 = some 10 := by kernel_rfl
theorem TyShU.fld38_6 : fldB Try.prog 38 6 = some 12 := by kernel_rfl
theorem TyShU.sz3 : szB Try.prog 3 = some 1 := by kernel_rfl
theorem TyShU.sz31 : szB Try.prog 31 = some 4 := by kernel_rfl
theorem TyShU.sz36 : szB Try.prog 36 = some 1 := by kernel_rfl
theorem TyShU.sz38 : szB Try.prog 38 = some 13 := by kernel_rfl
theorem TyShU.sz4 : szB Try.prog 4 = some 1 := by kernel_rfl
theorem TyShU.z38 : zeroB Try.prog 38 (.agg #[(.int .u64 0), (.int .u64 0), (.int .u64 0), (.int .u8 0), (.int .u64 0), (.int .u64 0), (.int .u64 0), (.int .u8 0), (.bool false), (.bool false), (.int .i64 0), (.int .i64 0), (.int .i64 0)]) := by unfold zeroB; kernel_rfl

/-- cellar/cellarlaw12.one -/
theorem f12_sho (x : Option Addr) (o_Kind : Int) (o_Entry_Hash : Int) (o_Entry_At : Int) (o_Entry_Version : Int) (o_Entry_Hits : Int) (o_At : Int) (o_N : Int) (o_M : Int) (h : Heap) (R : Value → Heap → Prop)
    (H : (∃ A25 : Int → Int → Int → Int → Bool → Int → Int → Nat → Nat → Heap → Prop, (((o_Kind == 0) = true → (∀ (o : Nat) (pb : Nat) (t : Nat) (h3 : Heap), Array.size h ≤ o → o < Array.size h3 → Array.size h ≤ pb → pb < Array.size h3 → Array.size h ≤ t → t < Array.size h3 → Ext h h3 → HC Try.prog 29 #[(.pointer x), (.agg #[(.int .u64 o_Entry_Hash), (.int .u64 o_Entry_At), (.int .u64 o_Entry_Version), (.int .u8 o_Entry_Hits)])] h3 (fun vv h5 => Kp [o, pb, t] h3 h5 ∧ ∃ r0_Hash r0_At r0_Version r0_Hits : Int, ∃ r1 : Bool, ∃ r2 : Int, vv = (.tuple #[(.agg #[(.int .u64 r0_Hash), (.int .u64 r0_At), (.int .u64 r0_Version), (.int .u8 r0_Hits)]), (.bool r1), (.int .i64 r2)]) ∧ (∀ h6, Fr (fun i => i = t) h5 h6 → (∀ h7, Fr (fun i => i = t) h6 h7 → (∀ h8, Fr (fun i => i = t) h7 h8 → (A25 r0_Hash r0_At r0_Version r0_Hits r1 r2 0 pb t h8))))))) ∧ ((o_Kind == 0) = false → (((o_Kind == 2) = true → (∀ (o : Nat) (pb : Nat) (t : Nat) (h3 : Heap), Array.size h ≤ o → o < Array.size h3 → Array.size h ≤ pb → pb < Array.size h3 → Array.size h ≤ t → t < Array.size h3 → Ext h h3 → HC Try.prog 30 #[(.pointer x), (.int .u64 o_Entry_Hash)] h3 (fun vv h9 => Kp [o, pb, t] h3 h9 ∧ ∃ r0_Hash r0_At r0_Version r0_Hits : Int, ∃ r1 : Bool, vv = (.tuple #[(.agg #[(.int .u64 r0_Hash), (.int .u64 r0_At), (.int .u64 r0_Version), (.int .u8 r0_Hits)]), (.bool r1)]) ∧ (∀ h10, Fr (fun i => i = t) h9 h10 → (∀ h11, Fr (fun i => i = t) h10 h11 → (A25 r0_Hash r0_At r0_Version r0_Hits r1 0 0 pb t h11)))))) ∧ ((o_Kind == 2) = false → (((o_Kind == 3) = true → (∀ (o : Nat) (pb : Nat) (t : Nat) (h3 : Heap), Array.size h ≤ o → o < Array.size h3 → Array.size h ≤ pb → pb < Array.size h3 → Array.size h ≤ t → t < Array.size h3 → Ext h h3 → HC Try.prog 31 #[(.pointer x), (.int .u64 o_Entry_Hash), (.int .u64 o_At)] h3 (fun vv h12 => Kp [o, pb, t] h3 h12 ∧ ∃ r : Bool, vv = (.bool r) ∧ (∀ h13, Fr (fun i => i = t) h12 h13 → (A25 0 0 0 0 r 0 0 pb t h13))))) ∧ ((o_Kind == 3) = false → (((o_Kind == 4) = true → (∀ (o : Nat) (pb : Nat) (t : Nat) (h3 : Heap), Array.size h ≤ o → o < Array.size h3 → Array.size h ≤ pb → pb < Array.size h3 → Array.size h ≤ t → t < Array.size h3 → Ext h h3 → HC Try.prog 32 #[(.pointer x), (.int .u64 o_Entry_Hash), (.int .u64 o_At), (.int .u64 o_Entry_At)] h3 (fun vv h14 => Kp [o, pb, t] h3 h14 ∧ ∃ r : Bool, vv = (.bool r) ∧ (∀ h15, Fr (fun i => i = t) h14 h15 → (A25 0 0 0 0 r 0 0 pb t h15))))) ∧ ((o_Kind == 4) = false → (((o_Kind == 5) = true → (∀ (o : Nat) (pb : Nat) (t : Nat) (h3 : Heap), Array.size h ≤ o → o < Array.size h3 → Array.size h ≤ pb → pb < Array.size h3 → Array.size h ≤ t → t < Array.size h3 → Ext h h3 → HC Try.prog 33 #[(.pointer x), (.int .u64 o_Entry_Hash)] h3 (fun vv h16 => Kp [o, pb, t] h3 h16 ∧ ∃ r : Bool, vv = (.bool r) ∧ (∀ h17, Fr (fun i => i = t) h16 h17 → (A25 0 0 0 0 r 0 0 pb t h17))))) ∧ ((o_Kind == 5) = false → (((o_Kind == 6) = true → (∀ (o : Nat) (pb : Nat) (t : Nat) (h3 : Heap), Array.size h ≤ o → o < Array.size h3 → Array.size h ≤ pb → pb < Array.size h3 → Array.size h ≤ t → t < Array.size h3 → Ext h h3 → HC Try.prog 19 #[(.pointer x), (.int .i64 o_N), (.int .i64 o_M)] h3 (fun vv h18 => Kp [o, pb, t] h3 h18 ∧ ∃ r : Int, vv = (.int .i64 r) ∧ (∀ h19, Fr (fun i => i = t) h18 h19 → (A25 0 0 0 0 false 0 r pb t h19))))) ∧ ((o_Kind == 6) = false → (∀ (pb : Nat) (t : Nat) (h3 : Heap), Array.size h ≤ pb → pb < Array.size h3 → Array.size h ≤ t → t < Array.size h3 → Ext h h3 → HC Try.prog 11 #[(.pointer x), (.int .u64 o_Entry_Hash)] h3 (fun vv h20 => Kp [pb, t] h3 h20 ∧ ∃ r0_Hash r0_At r0_Version r0_Hits : Int, ∃ r1 : Bool, vv = (.tuple #[(.agg #[(.int .u64 r0_Hash), (.int .u64 r0_At), (.int .u64 r0_Version), (.int .u8 r0_Hits)]), (.bool r1)]) ∧ (∀ h21, Fr (fun i => i = t) h20 h21 → (∀ h22, Fr (fun i => i = t) h21 h22 → (A25 r0_Hash r0_At r0_Version r0_Hits r1 0 0 pb t h22))))))))))))))))) ∧ (∀ (tc : Int) (tc_1 : Int) (tc_2 : Int) (tc_3 : Int) (tc_4 : Bool) (tc_5 : Int) (tc_6 : Int) (pb : Nat) (t : Nat) (h4 : Heap), A25 tc tc_1 tc_2 tc_3 tc_4 tc_5 tc_6 pb t h4 → Array.size h ≤ pb → pb < Array.size h4 → Array.size h ≤ t → t < Array.size h4 → (∀ h23, Fr (fun i => i = pb) h4 h23 → R (.agg #[(.int .u64 tc), (.int .u64 tc_1), (.int .u64 tc_2), (.int .u8 tc_3), (.int .u64 0), (.int .u64 0), (.int .u64 0), (.int .u8 0), (.bool tc_4), (.bool false), (.int .i64 tc_5), (.int .i64 0), (.int .i64 tc_6)]) h23)))) :
    HC Try.prog 12 #[(.pointer x), (.agg #[(.int .i64 o_Kind), (.int .u64 o_Entry_Hash), (.int .u64 o_Entry_At), (.int .u64 o_Entry_Version), (.int .u8 o_Entry_Hits), (.int .u64 o_At), (.int .i64 o_N), (.int .i64 o_M)])] h R := by
  refine hc_of (args := [(.pointer x), (.agg #[(.int .i64 o_Kind), (.int .u64 o_Entry_Hash), (.int .u64 o_Entry_At), (.int .u64 o_Entry_Version), (.int .u8 o_Entry_Hits), (.int .u64 o_At), (.int .i64 o_N), (.int .i64 o_M)])]) Try.func12 rfl Try.ntmps12 (Nat.le_of_ble_eq_true rfl) ?_
  refine hx_seq ?_
  refine hx_region ?_
  refine hl_step rfl rfl (hn_box (v := (.agg #[(.int .i64 o_Kind), (.int .u64 o_Entry_Hash), (.int .u64 o_Entry_At), (.int .u64 o_Entry_Version), (.int .u8 o_Entry_Hits), (.int .u64 o_At), (.int .i64 o_N), (.int .i64 o_M)])) rfl ?_)
  intro o h1 eb1 eh2
  have xx3 : Ext h h1 := by rw [eh2]; exact Ext.push _ _
  have lo5 : Array.size h ≤ o := Nat.le_of_eq (Eq.symm eb1)
  have hr4 : h1[o]? = some (.cells #[(.int .i64 o_Kind), (.int .u64 o_Entry_Hash), (.int .u64 o_Entry_At), (.int .u64 o_Entry_Version), (.int .u8 o_Entry_Hits), (.int .u64 o_At), (.int .i64 o_N), (.int .i64 o_M)] 33 (0, 0)) := by rw [eh2]; exact push_new eb1
  refine hl_step rfl rfl (hn_alloc TyShU.z38 ?_)
  intro pb h2 eb6 eh7
  have xx8 : Ext h1 h2 := by rw [eh7]; exact Ext.push _ _
  have ne11 := Nat.ne_of_lt (Nat.lt_of_lt_of_eq (row_lt hr4) (Eq.symm eb6))
  have lo10 : Array.size h ≤ pb := Nat.le_trans (Ext.size xx3) (Nat.le_of_eq (Eq.symm eb6))
  have hr9 : h2[pb]? = some (.cells #[(.int .u64 0), (.int .u64 0), (.int .u64 0), (.int .u8 0), (.int .u64 0), (.int .u64 0), (.int .u64 0), (.int .u8 0), (.bool false), (.bool false), (.int .i64 0), (.int .i64 0), (.int .i64 0)] 38 (0, 0)) := by rw [eh7]; exact push_new eb6
  replace hr4 := Ext.row xx8 hr4
  have xv12 := Ext.trans xx3 xx8
  refine hl_nil ?_
  refine seqQ_n ?_
  refine hx_seq ?_
  refine hx_region ?_
  refine hl_step rfl rfl (hn_alloc TyShU.z38 ?_)
  intro t h3 eb13 eh14
  have xx15 : Ext h2 h3 := by rw [eh14]; exact Ext.push _ _
  have ne18 := Nat.ne_of_lt (Nat.lt_of_lt_of_eq (row_lt hr4) (Eq.symm eb13))
  have ne19 := Nat.ne_of_lt (Nat.lt_of_lt_of_eq (row_lt hr9) (Eq.symm eb13))
  have lo17 : Array.size h ≤ t := Nat.le_trans (Ext.size xv12) (Nat.le_of_eq (Eq.symm eb13))
  have hr16 : h3[t]? = some (.cells #[(.int .u64 0), (.int .u64 0), (.int .u64 0), (.int .u8 0), (.int .u64 0), (.int .u64 0), (.int .u64 0), (.int .u8 0), (.bool false), (.bool false), (.int .i64 0), (.int .i64 0), (.int .i64 0)] 38 (0, 0)) := by rw [eh14]; exact push_new eb13
  replace hr4 := Ext.row xx15 hr4
  replace hr9 := Ext.row xx15 hr9
  have xv20 := Ext.trans xv12 xx15
  refine hl_nil ?_
  refine seqQ_n ?_
  obtain ⟨A25, Hx21, Hy22⟩ := H
  refine hx_cut (fun ρ h' => ∃ tc tc_1 tc_2 tc_3 : Int, ∃ tc_4 : Bool, ∃ tc_5 tc_6 : Int, (A25 tc tc_1 tc_2 tc_3 tc_4 tc_5 tc_6 pb t h' ∧ h'[pb]? = some (.cells #[(.int .u64 0), (.int .u64 0), (.int .u64 0), (.int .u8 0), (.int .u64 0), (.int .u64 0), (.int .u64 0), (.int .u8 0), (.bool false), (.bool false), (.int .i64 0), (.int .i64 0), (.int .i64 0)] 38 (0, 0)) ∧ h'[t]? = some (.cells #[(.int .u64 tc), (.int .u64 tc_1), (.int .u64 tc_2), (.int .u8 tc_3), (.int .u64 0), (.int .u64 0), (.int .u64 0), (.int .u8 0), (.bool tc_4), (.bool false), (.int .i64 tc_5), (.int .i64 0), (.int .i64 tc_6)] 38 (0, 0)) ∧ True) ∧ Has ρ [(4, (ptr pb 0)), (5, (ptr t 0))]) ?_ ?_
  · have H := Hx21; clear Hx21 Hy22
    refine hx_seq ?_
    refine hx_region ?_
    refine hl_val rfl rfl (v := (ptr o 0)) (hv_field TyShU.fld33_0 (b := o) (o := 0) rfl) ?_
    refine hl_val rfl rfl (v := (.int .i64 o_Kind)) (hv_load TyShU.agg3 rfl (rowcell hr4 rfl)) ?_
    refine hl_nil ?_
    refine seqQ_n ?_
    refine hx_block ?_
    refine hx_seq ?_
    refine hx_region ?_
    refine hl_val rfl rfl (v := (.bool (o_Kind == 0))) (hv_arith rfl rfl rfl) ?_
    refine hl_val rfl rfl (v := (.bool (o_Kind == 0))) (hv_assign rfl) ?_
    refine hl_nil ?_
    refine seqQ_n ?_
    refine hx_cond (b := o_Kind == 0) rfl (fun hb27 => ?_) (fun hb27 => ?_)
    · replace H := H.1 hb27
      refine hx_region ?_
      refine hl_val rfl rfl (v := (.pointer x)) (hv_move rfl) ?_
      refine hl_val rfl rfl (v := (ptr o 1)) (hv_field TyShU.fld33_1 (b := o) (o := 0) rfl) ?_
      refine hl_val rfl rfl (v := (.agg #[(.int .u64 o_Entry_Hash), (.int .u64 o_Entry_At), (.int .u64 o_Entry_Version), (.int .u8 o_Entry_Hits)])) (hv_loads (vs := [(.int .u64 o_Entry_Hash), (.int .u64 o_Entry_At), (.int .u64 o_Entry_Version), (.int .u8 o_Entry_Hits)]) TyShU.agg31 TyShU.sz31 rfl (hcells_cons (rowcell hr4 rfl) (hcells_cons (rowcell hr4 rfl) (hcells_cons (rowcell hr4 rfl) (hcells_cons (rowcell hr4 rfl) hcells_nil))))) ?_
      replace H := H o pb t h3 lo5 (row_lt hr4) lo10 (row_lt hr9) lo17 (row_lt hr16) xv20
      refine hl_step rfl rfl (hs_call TyShU.cb29 (vs := [(.pointer x), (.agg #[(.int .u64 o_Entry_Hash), (.int .u64 o_Entry_At), (.int .u64 o_Entry_Version), (.int .u8 o_Entry_Hits)])]) rfl (HC.mono H ?_))
      rintro _ h5 ⟨kp28, r0_Hash, r0_At, r0_Version, r0_Hits, r1, r2, rfl, H⟩
      replace hr4 := Kp.row kp28 (by simp) hr4
      replace hr9 := Kp.row kp28 (by simp) hr9
      replace hr16 := Kp.row kp28 (by simp) hr16
      refine hl_val rfl rfl (v := (.tuple #[(.agg #[(.int .u64 r0_Hash), (.int .u64 r0_At), (.int .u64 r0_Version), (.int .u8 r0_Hits)]), (.bool r1), (.int .i64 r2)])) (hv_move rfl) ?_
      refine hl_val rfl rfl (v := (.agg #[(.int .u64 r0_Hash), (.int .u64 r0_At), (.int .u64 r0_Version), (.int .u8 r0_Hits)])) (hv_extract (vs := #[(.agg #[(.int .u64 r0_Hash), (.int .u64 r0_At), (.int .u64 r0_Version), (.int .u8 r0_Hits)]), (.bool r1), (.int .i64 r2)]) rfl rfl) ?_
      refine hl_val rfl rfl (v := (.bool r1)) (hv_extract (vs := #[(.agg #[(.int .u64 r0_Hash), (.int .u64 r0_At), (.int .u64 r0_Version), (.int .u8 r0_Hits)]), (.bool r1), (.int .i64 r2)]) rfl rfl) ?_
      refine hl_val rfl rfl (v := (.int .i64 r2)) (hv_extract (vs := #[(.agg #[(.int .u64 r0_Hash), (.int .u64 r0_At), (.int .u64 r0_Version), (.int .u8 r0_Hits)]), (.bool r1), (.int .i64 r2)]) rfl rfl) ?_
      refine hl_val rfl rfl (v := (ptr t 0)) (hv_field TyShU.fld38_0 (b := t) (o := 0) rfl) ?_
      refine hl_step rfl rfl (hn_stores (vs := [(.int .u64 r0_Hash), (.int .u64 r0_At), (.int .u64 r0_Version), (.int .u8 r0_Hits)]) rfl rfl TyShU.sz31 rfl (HWs_row hr16 (by simp)) ?_)
      intro h6 eh29
      replace hr4 := row_hsets_ne eh29 ne18 hr4
      replace hr9 := row_hsets_ne eh29 ne19 hr9
      have hr16' : h6[t]? = some (.cells #[(.int .u64 r0_Hash), (.int .u64 r0_At), (.int .u64 r0_Version), (.int .u8 r0_Hits), (.int .u64 0), (.int .u64 0), (.int .u64 0), (.int .u8 0), (.bool false), (.bool false), (.int .i64 0), (.int .i64 0), (.int .i64 0)] 38 (0, 0)) := row_hsets_eq eh29 hr16 (by simp [sets])
      replace H := H h6 (fr_hsets_of eh29)
      refine hl_val rfl rfl (v := (ptr t 8)) (hv_field TyShU.fld38_2 (b := t) (o := 0) rfl) ?_
      refine hl_step rfl rfl (hn_store (v := (.bool r1)) rfl rfl TyShU.sz4 rfl (HW_row hr16' (by simp)) ?_)
      intro h7 eh30
      replace hr4 := row_hset_ne eh30 ne18 hr4
      replace hr9 := row_hset_ne eh30 ne19 hr9
      have hr16'' : h7[t]? = some (.cells #[(.int .u64 r0_Hash), (.int .u64 r0_At), (.int .u64 r0_Version), (.int .u8 r0_Hits), (.int .u64 0), (.int .u64 0), (.int .u64 0), (.int .u8 0), (.bool r1), (.bool false), (.int .i64 0), (.int .i64 0), (.int .i64 0)] 38 (0, 0)) := row_hset_eq eh30 hr16' rfl
      replace H := H h7 (fr_hset_of eh30)
      refine hl_val rfl rfl (v := (ptr t 10)) (hv_field TyShU.fld38_4 (b := t) (o := 0) rfl) ?_
      refine hl_step rfl rfl (hn_store (v := (.int .i64 r2)) rfl rfl TyShU.sz36 rfl (HW_row hr16'' (by simp)) ?_)
      intro h8 eh31
      replace hr4 := row_hset_ne eh31 ne18 hr4
      replace hr9 := row_hset_ne eh31 ne19 hr9
      have hr16''' : h8[t]? = some (.cells #[(.int .u64 r0_Hash), (.int .u64 r0_At), (.int .u64 r0_Version), (.int .u8 r0_Hits), (.int .u64 0), (.int .u64 0), (.int .u64 0), (.int .u8 0), (.bool r1), (.bool false), (.int .i64 r2), (.int .i64 0), (.int .i64 0)] 38 (0, 0)) := row_hset_eq eh31 hr16'' rfl
      replace H := H h8 (fr_hset_of eh31)
      refine hl_nil ?_
      refine blockQ_n ?_
      refine seqQ_n ?_
      exact ⟨_, _, _, _, _, _, _, ⟨H, hr9, hr16''', trivial⟩, (has_cons rfl (has_cons rfl has_nil))⟩
    · replace H := H.2 hb27
      refine hx_seq ?_
      refine hx_region ?_
      refine hl_val rfl rfl (v := (.bool (o_Kind == 2))) (hv_arith rfl rfl rfl) ?_
      refine hl_val rfl rfl (v := (.bool (o_Kind == 2))) (hv_assign rfl) ?_
      refine hl_nil ?_
      refine seqQ_n ?_
      refine hx_cond (b := o_Kind == 2) rfl (fun hb32 => ?_) (fun hb32 => ?_)
      · replace H := H.1 hb32
        refine hx_region ?_
        refine hl_val rfl rfl (v := (.pointer x)) (hv_move rfl) ?_
        refine hl_val rfl rfl (v := (ptr o 1)) (hv_field TyShU.fld33_1 (b := o) (o := 0) rfl) ?_
        refine hl_val rfl rfl (v := (ptr o 1)) (hv_field TyShU.fld31_0 (b := o) (o := 1) rfl) ?_
        refine hl_val rfl rfl (v := (.int .u64 o_Entry_Hash)) (hv_load TyShU.agg29 rfl (rowcell hr4 rfl)) ?_
        replace H := H o pb t h3 lo5 (row_lt hr4) lo10 (row_lt hr9) lo17 (row_lt hr16) xv20
        refine hl_step rfl rfl (hs_call TyShU.cb30 (vs := [(.pointer x), (.int .u64 o_Entry_Hash)]) rfl (HC.mono H ?_))
        rintro _ h9 ⟨kp33, r0_Hash, r0_At, r0_Version, r0_Hits, r1, rfl, H⟩
        replace hr4 := Kp.row kp33 (by simp) hr4
        replace hr9 := Kp.row kp33 (by simp) hr9
        replace hr16 := Kp.row kp33 (by simp) hr16
        refine hl_val rfl rfl (v := (.tuple #[(.agg #[(.int .u64 r0_Hash), (.int .u64 r0_At), (.int .u64 r0_Version), (.int .u8 r0_Hits)]), (.bool r1)])) (hv_move rfl) ?_
        refine hl_val rfl rfl (v := (.agg #[(.int .u64 r0_Hash), (.int .u64 r0_At), (.int .u64 r0_Version), (.int .u8 r0_Hits)])) (hv_extract (vs := #[(.agg #[(.int .u64 r0_Hash), (.int .u64 r0_At), (.int .u64 r0_Version), (.int .u8 r0_Hits)]), (.bool r1)]) rfl rfl) ?_
        refine hl_val rfl rfl (v := (.bool r1)) (hv_extract (vs := #[(.agg #[(.int .u64 r0_Hash), (.int .u64 r0_At), (.int .u64 r0_Version), (.int .u8 r0_Hits)]), (.bool r1)]) rfl rfl) ?_
        refine hl_val rfl rfl (v := (ptr t 0)) (hv_field TyShU.fld38_0 (b := t) (o := 0) rfl) ?_
        refine hl_step rfl rfl (hn_stores (vs := [(.int .u64 r0_Hash), (.int .u64 r0_At), (.int .u64 r0_Version), (.int .u8 r0_Hits)]) rfl rfl TyShU.sz31 rfl (HWs_row hr16 (by simp)) ?_)
        intro h10 eh34
        replace hr4 := row_hsets_ne eh34 ne18 hr4
        replace hr9 := row_hsets_ne eh34 ne19 hr9
        have hr16' : h10[t]? = some (.cells #[(.int .u64 r0_Hash), (.int .u64 r0_At), (.int .u64 r0_Version), (.int .u8 r0_Hits), (.int .u64 0), (.int .u64 0), (.int .u64 0), (.int .u8 0), (.bool false), (.bool false), (.int .i64 0), (.int .i64 0), (.int .i64 0)] 38 (0, 0)) := row_hsets_eq eh34 hr16 (by simp [sets])
        replace H := H h10 (fr_hsets_of eh34)
        refine hl_val rfl rfl (v := (ptr t 8)) (hv_field TyShU.fld38_2 (b := t) (o := 0) rfl) ?_
        refine hl_step rfl rfl (hn_store (v := (.bool r1)) rfl rfl TyShU.sz4 rfl (HW_row hr16' (by simp)) ?_)
        intro h11 eh35
        replace hr4 := row_hset_ne eh35 ne18 hr4
        replace hr9 := row_hset_ne eh35 ne19 hr9
        have hr16'' : h11[t]? = some (.cells #[(.int .u64 r0_Hash), (.int .u64 r0_At), (.int .u64 r0_Version), (.int .u8 r0_Hits), (.int .u64 0), (.int .u64 0), (.int .u64 0), (.int .u8 0), (.bool r1), (.bool false), (.int .i64 0), (.int .i64 0), (.int .i64 0)] 38 (0, 0)) := row_hset_eq eh35 hr16' rfl
        replace H := H h11 (fr_hset_of eh35)
        refine hl_nil ?_
        refine blockQ_n ?_
        refine seqQ_n ?_
        exact ⟨_, _, _, _, _, _, _, ⟨H, hr9, hr16'', trivial⟩, (has_cons rfl (has_cons rfl has_nil))⟩
      · replace H := H.2 hb32
        refine hx_seq ?_
        refine hx_region ?_
        refine hl_val rfl rfl (v := (.bool (o_Kind == 3))) (hv_arith rfl rfl rfl) ?_
        refine hl_val rfl rfl (v := (.bool (o_Kind == 3))) (hv_assign rfl) ?_
        refine hl_nil ?_
        refine seqQ_n ?_
        refine hx_cond (b := o_Kind == 3) rfl (fun hb36 => ?_) (fun hb36 => ?_)
        · replace H := H.1 hb36
          refine hx_region ?_
          refine hl_val rfl rfl (v := (.pointer x)) (hv_move rfl) ?_
          refine hl_val rfl rfl (v := (ptr o 1)) (hv_field TyShU.fld33_1 (b := o) (o := 0) rfl) ?_
          refine hl_val rfl rfl (v := (ptr o 1)) (hv_field TyShU.fld31_0 (b := o) (o := 1) rfl) ?_
          refine hl_val rfl rfl (v := (.int .u64 o_Entry_Hash)) (hv_load TyShU.agg29 rfl (rowcell hr4 rfl)) ?_
          refine hl_val rfl rfl (v := (ptr o 5)) (hv_field TyShU.fld33_2 (b := o) (o := 0) rfl) ?_
          refine hl_val rfl rfl (v := (.int .u64 o_At)) (hv_load TyShU.agg29 rfl (rowcell hr4 rfl)) ?_
          replace H := H o pb t h3 lo5 (row_lt hr4) lo10 (row_lt hr9) lo17 (row_lt hr16) xv20
          refine hl_step rfl rfl (hs_call TyShU.cb31 (vs := [(.pointer x), (.int .u64 o_Entry_Hash), (.int .u64 o_At)]) rfl (HC.mono H ?_))
          rintro _ h12 ⟨kp37, r, rfl, H⟩
          replace hr4 := Kp.row kp37 (by simp) hr4
          replace hr9 := Kp.row kp37 (by simp) hr9
          replace hr16 := Kp.row kp37 (by simp) hr16
          refine hl_val rfl rfl (v := (ptr t 8)) (hv_field TyShU.fld38_2 (b := t) (o := 0) rfl) ?_
          refine hl_step rfl rfl (hn_store (v := (.bool r)) rfl rfl TyShU.sz4 rfl (HW_row hr16 (by simp)) ?_)
          intro h13 eh38
          replace hr4 := row_hset_ne eh38 ne18 hr4
          replace hr9 := row_hset_ne eh38 ne19 hr9
          have hr16' : h13[t]? = some (.cells #[(.int .u64 0), (.int .u64 0), (.int .u64 0), (.int .u8 0), (.int .u64 0), (.int .u64 0), (.int .u64 0), (.int .u8 0), (.bool r), (.bool false), (.int .i64 0), (.int .i64 0), (.int .i64 0)] 38 (0, 0)) := row_hset_eq eh38 hr16 rfl
          replace H := H h13 (fr_hset_of eh38)
          refine hl_nil ?_
          refine blockQ_n ?_
          refine seqQ_n ?_
          exact ⟨_, _, _, _, _, _, _, ⟨H, hr9, hr16', trivial⟩, (has_cons rfl (has_cons rfl has_nil))⟩
        · replace H := H.2 hb36
          refine hx_seq ?_
          refine hx_region ?_
          refine hl_val rfl rfl (v := (.bool (o_Kind == 4))) (hv_arith rfl rfl rfl) ?_
          refine hl_val rfl rfl (v := (.bool (o_Kind == 4))) (hv_assign rfl) ?_
          refine hl_nil ?_
          refine seqQ_n ?_
          refine hx_cond (b := o_Kind == 4) rfl (fun hb39 => ?_) (fun hb39 => ?_)
          · replace H := H.1 hb39
            refine hx_region ?_
            refine hl_val rfl rfl (v := (.pointer x)) (hv_move rfl) ?_
            refine hl_val rfl rfl (v := (ptr o 1)) (hv_field TyShU.fld33_1 (b := o) (o := 0) rfl) ?_
            refine hl_val rfl rfl (v := (ptr o 1)) (hv_field TyShU.fld31_0 (b := o) (o := 1) rfl) ?_
            refine hl_val rfl rfl (v := (.int .u64 o_Entry_Hash)) (hv_load TyShU.agg29 rfl (rowcell hr4 rfl)) ?_
            refine hl_val rfl rfl (v := (ptr o 5)) (hv_field TyShU.fld33_2 (b := o) (o := 0) rfl) ?_
            refine hl_val rfl rfl (v := (.int .u64 o_At)) (hv_load TyShU.agg29 rfl (rowcell hr4 rfl)) ?_
            refine hl_val rfl rfl (v := (ptr o 1)) (hv_field TyShU.fld33_1 (b := o) (o := 0) rfl) ?_
            refine hl_val rfl rfl (v := (ptr o 2)) (hv_field TyShU.fld31_1 (b := o) (o := 1) rfl) ?_
            refine hl_val rfl rfl (v := (.int .u64 o_Entry_At)) (hv_load TyShU.agg29 rfl (rowcell hr4 rfl)) ?_
            replace H := H o pb t h3 lo5 (row_lt hr4) lo10 (row_lt hr9) lo17 (row_lt hr16) xv20
            refine hl_step rfl rfl (hs_call TyShU.cb32 (vs := [(.pointer x), (.int .u64 o_Entry_Hash), (.int .u64 o_At), (.int .u64 o_Entry_At)]) rfl (HC.mono H ?_))
            rintro _ h14 ⟨kp40, r, rfl, H⟩
            replace hr4 := Kp.row kp40 (by simp) hr4
            replace hr9 := Kp.row kp40 (by simp) hr9
            replace hr16 := Kp.row kp40 (by simp) hr16
            refine hl_val rfl rfl (v := (ptr t 8)) (hv_field TyShU.fld38_2 (b := t) (o := 0) rfl) ?_
            refine hl_step rfl rfl (hn_store (v := (.bool r)) rfl rfl TyShU.sz4 rfl (HW_row hr16 (by simp)) ?_)
            intro h15 eh41
            replace hr4 := row_hset_ne eh41 ne18 hr4
            replace hr9 := row_hset_ne eh41 ne19 hr9
            have hr16' : h15[t]? = some (.cells #[(.int .u64 0), (.int .u64 0), (.int .u64 0), (.int .u8 0), (.int .u64 0), (.int .u64 0), (.int .u64 0), (.int .u8 0), (.bool r), (.bool false), (.int .i64 0), (.int .i64 0), (.int .i64 0)] 38 (0, 0)) := row_hset_eq eh41 hr16 rfl
            replace H := H h15 (fr_hset_of eh41)
            refine hl_nil ?_
            refine blockQ_n ?_
            refine seqQ_n ?_
            exact ⟨_, _, _, _, _, _, _, ⟨H, hr9, hr16', trivial⟩, (has_cons rfl (has_cons rfl has_nil))⟩
          · replace H := H.2 hb39
            refine hx_seq ?_
            refine hx_region ?_
            refine hl_val rfl rfl (v := (.bool (o_Kind == 5))) (hv_arith rfl rfl rfl) ?_
            refine hl_val rfl rfl (v := (.bool (o_Kind == 5))) (hv_assign rfl) ?_
            refine hl_nil ?_
            refine seqQ_n ?_
            refine hx_cond (b := o_Kind == 5) rfl (fun hb42 => ?_) (fun hb42 => ?_)
            · replace H := H.1 hb42
              refine hx_region ?_
              refine hl_val rfl rfl (v := (.pointer x)) (hv_move rfl) ?_
              refine hl_val rfl rfl (v := (ptr o 1)) (hv_field TyShU.fld33_1 (b := o) (o := 0) rfl) ?_
              refine hl_val rfl rfl (v := (ptr o 1)) (hv_field TyShU.fld31_0 (b := o) (o := 1) rfl) ?_
              refine hl_val rfl rfl (v := (.int .u64 o_Entry_Hash)) (hv_load TyShU.agg29 rfl (rowcell hr4 rfl)) ?_
              replace H := H o pb t h3 lo5 (row_lt hr4) lo10 (row_lt hr9) lo17 (row_lt hr16) xv20
              refine hl_step rfl rfl (hs_call TyShU.cb33 (vs := [(.pointer x), (.int .u64 o_Entry_Hash)]) rfl (HC.mono H ?_))
              rintro _ h16 ⟨kp43, r, rfl, H⟩
              replace hr4 := Kp.row kp43 (by simp) hr4
              replace hr9 := Kp.row kp43 (by simp) hr9
              replace hr16 := Kp.row kp43 (by simp) hr16
              refine hl_val rfl rfl (v := (ptr t 8)) (hv_field TyShU.fld38_2 (b := t) (o := 0) rfl) ?_
              refine hl_step rfl rfl (hn_store (v := (.bool r)) rfl rfl TyShU.sz4 rfl (HW_row hr16 (by simp)) ?_)
              intro h17 eh44
              replace hr4 := row_hset_ne eh44 ne18 hr4
              replace hr9 := row_hset_ne eh44 ne19 hr9
              have hr16' : h17[t]? = some (.cells #[(.int .u64 0), (.int .u64 0), (.int .u64 0), (.int .u8 0), (.int .u64 0), (.int .u64 0), (.int .u64 0), (.int .u8 0), (.bool r), (.bool false), (.int .i64 0), (.int .i64 0), (.int .i64 0)] 38 (0, 0)) := row_hset_eq eh44 hr16 rfl
              replace H := H h17 (fr_hset_of eh44)
              refine hl_nil ?_
              refine blockQ_n ?_
              refine seqQ_n ?_
              exact ⟨_, _, _, _, _, _, _, ⟨H, hr9, hr16', trivial⟩, (has_cons rfl (has_cons rfl has_nil))⟩
            · replace H := H.2 hb42
              refine hx_seq ?_
              refine hx_region ?_
              refine hl_val rfl rfl (v := (.bool (o_Kind == 6))) (hv_arith rfl rfl rfl) ?_
              refine hl_val rfl rfl (v := (.bool (o_Kind == 6))) (hv_assign rfl) ?_
              refine hl_nil ?_
              refine seqQ_n ?_
              refine hx_cond (b := o_Kind == 6) rfl (fun hb45 => ?_) (fun hb45 => ?_)
              · replace H := H.1 hb45
                refine hx_region ?_
                refine hl_val rfl rfl (v := (.pointer x)) (hv_move rfl) ?_
                refine hl_val rfl rfl (v := (ptr o 6)) (hv_field TyShU.fld33_3 (b := o) (o := 0) rfl) ?_
                refine hl_val rfl rfl (v := (.int .i64 o_N)) (hv_load TyShU.agg3 rfl (rowcell hr4 rfl)) ?_
                refine hl_val rfl rfl (v := (ptr o 7)) (hv_field TyShU.fld33_4 (b := o) (o := 0) rfl) ?_
                refine hl_val rfl rfl (v := (.int .i64 o_M)) (hv_load TyShU.agg3 rfl (rowcell hr4 rfl)) ?_
                replace H := H o pb t h3 lo5 (row_lt hr4) lo10 (row_lt hr9) lo17 (row_lt hr16) xv20
                refine hl_step rfl rfl (hs_call TyShU.cb19 (vs := [(.pointer x), (.int .i64 o_N), (.int .i64 o_M)]) rfl (HC.mono H ?_))
                rintro _ h18 ⟨kp46, r, rfl, H⟩
                replace hr4 := Kp.row kp46 (by simp) hr4
                replace hr9 := Kp.row kp46 (by simp) hr9
                replace hr16 := Kp.row kp46 (by simp) hr16
                refine hl_val rfl rfl (v := (ptr t 12)) (hv_field TyShU.fld38_6 (b := t) (o := 0) rfl) ?_
                refine hl_step rfl rfl (hn_store (v := (.int .i64 r)) rfl rfl TyShU.sz3 rfl (HW_row hr16 (by simp)) ?_)
                intro h19 eh47
                replace hr4 := row_hset_ne eh47 ne18 hr4
                replace hr9 := row_hset_ne eh47 ne19 hr9
                have hr16' : h19[t]? = some (.cells #[(.int .u64 0), (.int .u64 0), (.int .u64 0), (.int .u8 0), (.int .u64 0), (.int .u64 0), (.int .u64 0), (.int .u8 0), (.bool false), (.bool false), (.int .i64 0), (.int .i64 0), (.int .i64 r)] 38 (0, 0)) := row_hset_eq eh47 hr16 rfl
                replace H := H h19 (fr_hset_of eh47)
                refine hl_nil ?_
                refine blockQ_n ?_
                refine seqQ_n ?_
                exact ⟨_, _, _, _, _, _, _, ⟨H, hr9, hr16', trivial⟩, (has_cons rfl (has_cons rfl has_nil))⟩
              · replace H := H.2 hb45
                refine hx_region ?_
                refine hl_val rfl rfl (v := (.pointer x)) (hv_move rfl) ?_
                refine hl_val rfl rfl (v := (ptr o 1)) (hv_field TyShU.fld33_1 (b := o) (o := 0) rfl) ?_
                refine hl_val rfl rfl (v := (ptr o 1)) (hv_field TyShU.fld31_0 (b := o) (o := 1) rfl) ?_
                refine hl_val rfl rfl (v := (.int .u64 o_Entry_Hash)) (hv_load TyShU.agg29 rfl (rowcell hr4 rfl)) ?_
                replace H := H pb t h3 lo10 (row_lt hr9) lo17 (row_lt hr16) xv20
                refine hl_step rfl rfl (hs_call TyShU.cb11 (vs := [(.pointer x), (.int .u64 o_Entry_Hash)]) rfl (HC.mono H ?_))
                rintro _ h20 ⟨kp48, r0_Hash, r0_At, r0_Version, r0_Hits, r1, rfl, H⟩
                replace hr9 := Kp.row kp48 (by simp) hr9
                replace hr16 := Kp.row kp48 (by simp) hr16
                refine hl_val rfl rfl (v := (.tuple #[(.agg #[(.int .u64 r0_Hash), (.int .u64 r0_At), (.int .u64 r0_Version), (.int .u8 r0_Hits)]), (.bool r1)])) (hv_move rfl) ?_
                refine hl_val rfl rfl (v := (.agg #[(.int .u64 r0_Hash), (.int .u64 r0_At), (.int .u64 r0_Version), (.int .u8 r0_Hits)])) (hv_extract (vs := #[(.agg #[(.int .u64 r0_Hash), (.int .u64 r0_At), (.int .u64 r0_Version), (.int .u8 r0_Hits)]), (.bool r1)]) rfl rfl) ?_
                refine hl_val rfl rfl (v := (.bool r1)) (hv_extract (vs := #[(.agg #[(.int .u64 r0_Hash), (.int .u64 r0_At), (.int .u64 r0_Version), (.int .u8 r0_Hits)]), (.bool r1)]) rfl rfl) ?_
                refine hl_val rfl rfl (v := (ptr t 0)) (hv_field TyShU.fld38_0 (b := t) (o := 0) rfl) ?_
                refine hl_step rfl rfl (hn_stores (vs := [(.int .u64 r0_Hash), (.int .u64 r0_At), (.int .u64 r0_Version), (.int .u8 r0_Hits)]) rfl rfl TyShU.sz31 rfl (HWs_row hr16 (by simp)) ?_)
                intro h21 eh49
                replace hr9 := row_hsets_ne eh49 ne19 hr9
                have hr16' : h21[t]? = some (.cells #[(.int .u64 r0_Hash), (.int .u64 r0_At), (.int .u64 r0_Version), (.int .u8 r0_Hits), (.int .u64 0), (.int .u64 0), (.int .u64 0), (.int .u8 0), (.bool false), (.bool false), (.int .i64 0), (.int .i64 0), (.int .i64 0)] 38 (0, 0)) := row_hsets_eq eh49 hr16 (by simp [sets])
                replace H := H h21 (fr_hsets_of eh49)
                refine hl_val rfl rfl (v := (ptr t 8)) (hv_field TyShU.fld38_2 (b := t) (o := 0) rfl) ?_
                refine hl_step rfl rfl (hn_store (v := (.bool r1)) rfl rfl TyShU.sz4 rfl (HW_row hr16' (by simp)) ?_)
                intro h22 eh50
                replace hr9 := row_hset_ne eh50 ne19 hr9
                have hr16'' : h22[t]? = some (.cells #[(.int .u64 r0_Hash), (.int .u64 r0_At), (.int .u64 r0_Version), (.int .u8 r0_Hits), (.int .u64 0), (.int .u64 0), (.int .u64 0), (.int .u8 0), (.bool r1), (.bool false), (.int .i64 0), (.int .i64 0), (.int .i64 0)] 38 (0, 0)) := row_hset_eq eh50 hr16' rfl
                replace H := H h22 (fr_hset_of eh50)
                refine hl_nil ?_
                refine blockQ_n ?_
                refine seqQ_n ?_
                exact ⟨_, _, _, _, _, _, _, ⟨H, hr9, hr16'', trivial⟩, (has_cons rfl (has_cons rfl has_nil))⟩
  · rintro ρ h4 ⟨tc, tc_1, tc_2, tc_3, tc_4, tc_5, tc_6, ⟨HA26, hr23, hr24, -⟩, hH⟩
    have H := Hy22 tc tc_1 tc_2 tc_3 tc_4 tc_5 tc_6 pb t h4 HA26; clear Hx21 Hy22
    refine hx_has _ hH ?_
    replace H := H lo10 (row_lt hr23) lo17 (row_lt hr24)
    refine hx_seq ?_
    refine hx_region ?_
    refine hl_val rfl rfl (v := (.agg #[(.int .u64 tc), (.int .u64 tc_1), (.int .u64 tc_2), (.int .u8 tc_3), (.int .u64 0), (.int .u64 0), (.int .u64 0), (.int .u8 0), (.bool tc_4), (.bool false), (.int .i64 tc_5), (.int .i64 0), (.int .i64 tc_6)])) (hv_loads (vs := [(.int .u64 tc), (.int .u64 tc_1), (.int .u64 tc_2), (.int .u8 tc_3), (.int .u64 0), (.int .u64 0), (.int .u64 0), (.int .u8 0), (.bool tc_4), (.bool false), (.int .i64 tc_5), (.int .i64 0), (.int .i64 tc_6)]) TyShU.agg38 TyShU.sz38 rfl (hcells_cons (rowcell hr24 rfl) (hcells_cons (rowcell hr24 rfl) (hcells_cons (rowcell hr24 rfl) (hcells_cons (rowcell hr24 rfl) (hcells_cons (rowcell hr24 rfl) (hcells_cons (rowcell hr24 rfl) (hcells_cons (rowcell hr24 rfl) (hcells_cons (rowcell hr24 rfl) (hcells_cons (rowcell hr24 rfl) (hcells_cons (rowcell hr24 rfl) (hcells_cons (rowcell hr24 rfl) (hcells_cons (rowcell hr24 rfl) (hcells_cons (rowcell hr24 rfl) hcells_nil)))))))))))))) ?_
    refine hl_step rfl rfl (hn_stores (vs := [(.int .u64 tc), (.int .u64 tc_1), (.int .u64 tc_2), (.int .u8 tc_3), (.int .u64 0), (.int .u64 0), (.int .u64 0), (.int .u8 0), (.bool tc_4), (.bool false), (.int .i64 tc_5), (.int .i64 0), (.int .i64 tc_6)]) rfl rfl TyShU.sz38 rfl (HWs_row hr23 (by simp)) ?_)
    intro h23 eh51
    replace hr24 := row_hsets_ne eh51 (Ne.symm ne19) hr24
    have hr23' : h23[pb]? = some (.cells #[(.int .u64 tc), (.int .u64 tc_1), (.int .u64 tc_2), (.int .u8 tc_3), (.int .u64 0), (.int .u64 0), (.int .u64 0), (.int .u8 0), (.bool tc_4), (.bool false), (.int .i64 tc_5), (.int .i64 0), (.int .i64 tc_6)] 38 (0, 0)) := row_hsets_eq eh51 hr23 (by simp [sets])
    replace H := H h23 (fr_hsets_of eh51)
    refine hl_nil ?_
    refine seqQ_n ?_
    refine hx_ret ?_
    exact endQ_ret _ (res_one Try.results12 (rv_cell (vs := [(.int .u64 tc), (.int .u64 tc_1), (.int .u64 tc_2), (.int .u8 tc_3), (.int .u64 0), (.int .u64 0), (.int .u64 0), (.int .u8 0), (.bool tc_4), (.bool false), (.int .i64 tc_5), (.int .i64 0), (.int .i64 tc_6)]) TyShU.agg38 TyShU.sz38 rfl (hcells_cons (rowcell hr23' rfl) (hcells_cons (rowcell hr23' rfl) (hcells_cons (rowcell hr23' rfl) (hcells_cons (rowcell hr23' rfl) (hcells_cons (rowcell hr23' rfl) (hcells_cons (rowcell hr23' rfl) (hcells_cons (rowcell hr23' rfl) (hcells_cons (rowcell hr23' rfl) (hcells_cons (rowcell hr23' rfl) (hcells_cons (rowcell hr23' rfl) (hcells_cons (rowcell hr23' rfl) (hcells_cons (rowcell hr23' rfl) (hcells_cons (rowcell hr23' rfl) hcells_nil))))))))))))))) H

end Go.Proofs.Ytkecmljalcfhoaa
