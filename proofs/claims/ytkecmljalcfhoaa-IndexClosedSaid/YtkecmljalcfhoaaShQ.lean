/-
Shallow forms, written by gen2.py (a program of ours) out of the print of the program.
-/
import Derived.Test.YtkecmljalcfhoaaPrv
import Derived.Test.YtkecmljalcfhoaaSrt
import Derived.Test.YtkecmljalcfhoaaRng
import Derived.Test.YtkecmljalcfhoaaMor
import Derived.Test.YtkecmljalcfhoaaProg
namespace Go.Proofs.Ytkecmljalcfhoaa
open Go
set_option maxRecDepth 100000
set_option maxHeartbeats 4000000

theorem TyShQ.agg31 : aggB Try.prog 31 = some true := by kernel_rfl
theorem TyShQ.agg47 : aggB Try.prog 47 = some false := by kernel_rfl
theorem TyShQ.agg70 : aggB Try.prog 70 = some false := by kernel_rfl
theorem TyShQ.agg87 : aggB Try.prog 87 = some true := by kernel_rfl
theorem TyShQ.cb56 : CallB Try.prog 56 := fun _ _ => Try.call56 _ _
theorem TyShQ.cb57 : CallB Try.prog 57 := fun _ _ => Try.call57 _ _
theorem TyShQ.cb59 : CallB Try.prog 59 := fun _ _ => Try.call59 _ _
theorem TyShQ.cb64 : CallB Try.prog 64 := fun _ _ => Try.call64 _ _
theorem TyShQ.cb65 : CallB Try.prog 65 := fun _ _ => Try.call65 _ _
theorem TyShQ.cb70 : CallB Try.prog 70 := fun _ _ => Try.call70 _ _
theorem TyShQ.el47 : elB Try.prog 47 = some 4 := by kernel_rfl
theorem TyShQ.fld87_0 : fldB Try.prog 87 0 = some 0 := by kernel_rfl
theorem TyShQ.sz31 : szB Try.prog 31 = some 4 := by kernel_rfl
theorem TyShQ.sz47 : szB Try.prog 47 = some 1 := by kernel_rfl
theorem TyShQ.sz87 : szB Try.prog 87 = some 4 := by kernel_rfl
theorem TyShQ.u47 : Try.prog.underlying 47 = some (.slice 31) := by kernel_rfl
theorem TyShQ.z31 : zeroB Try.prog 31 (.agg #[(.int .u64 0), (.int .u64 0), (.int .u64 0), (.int .u8 0)]) := by unfold zeroB; kernel_rfl
theorem TyShQ.z87 : zeroB Try.prog 87 (.agg #[(.slice none 0 0), (.int .i64 0), (.int .i64 0), (.int .i64 0)]) := by unfold zeroB; kernel_rfl

/-- (*cellar/table.Table).Fork -/
theorem f47_sh (t_b : Nat) (t_o : Nat) (h : Heap) (R : Value → Heap → Prop)
    (H : (∃ r : Bool, HC Try.prog 64 #[(ptr t_b t_o)] h (fun vv h' => vv = (.bool r) ∧ h' = h) ∧ (((!r) = true → R (.pointer none) h) ∧ ((!r) = false → (∃ x_slots : Option Addr, ∃ x_slots_n x_slots_c : Nat, ∃ x_bits x_most x_n : Int, hcell h t_b t_o = some (.slice x_slots x_slots_n x_slots_c) ∧ hcell h t_b (t_o + 1) = some (.int .i64 x_bits) ∧ hcell h t_b (t_o + 2) = some (.int .i64 x_most) ∧ hcell h t_b (t_o + 3) = some (.int .i64 x_n) ∧ (∀ out h1, out = Array.size h → h1 = Array.push h (.cells #[(.slice none 0 0), (.int .i64 0), (.int .i64 0), (.int .i64 0)] 87) → (HWs h1 out 0 4 ∧ ∀ h2, h2 = hsets h1 out 0 [(.slice x_slots x_slots_n x_slots_c), (.int .i64 x_bits), (.int .i64 x_most), (.int .i64 x_n)] → (∃ x : Option Addr, ∃ x_n_1 x_c : Nat, hcell h2 t_b t_o = some (.slice x x_n_1 x_c) ∧ HC Try.prog 65 #[(.slice x x_n_1 x_c)] h2 (fun vv h3 => ∃ r_1 : Option Addr, ∃ r_n r_c : Nat, vv = (.slice r_1 r_n r_c) ∧ (HW h3 out 0 ∧ ∀ h4, h4 = hset h3 out 0 (.slice r_1 r_n r_c) → R (ptr out 0) h4)))))))))) :
    HC Try.prog 47 #[(ptr t_b t_o)] h R := by
  refine hc_of (args := [(ptr t_b t_o)]) Try.func47 rfl Try.ntmps47 (Nat.le_of_ble_eq_true rfl) ?_
  refine hx_seq ?_
  refine hx_region ?_
  refine hl_val rfl rfl (v := (.pointer none)) (hv_assign rfl) ?_
  refine hl_nil ?_
  refine seqQ_n ?_
  refine hx_seq ?_
  refine hx_seq ?_
  refine hx_region ?_
  refine hl_val rfl rfl (v := (ptr t_b t_o)) (hv_move rfl) ?_
  obtain ⟨r, hr1, H⟩ := H
  refine hl_val rfl rfl (v := (.bool r)) (hv_call TyShQ.cb64 (vs := [(ptr t_b t_o)]) rfl hr1) ?_
  refine hl_val rfl rfl (v := (.bool (!r))) (hv_not (b := r) rfl) ?_
  refine hl_nil ?_
  refine seqQ_n ?_
  refine hx_cond (b := !r) rfl (fun hb2 => ?_) (fun hb2 => ?_)
  · replace H := H.1 hb2
    refine hx_seq ?_
    refine hx_region ?_
    refine hl_val rfl rfl (v := (.pointer none)) (hv_assign rfl) ?_
    refine hl_nil ?_
    refine seqQ_n ?_
    refine hx_ret ?_
    refine seqQ_ret ?_
    exact endQ_ret _ (res_one Try.results47 (rv_tmp rfl)) H
  · replace H := H.2 hb2
    refine hx_skip ?_
    refine seqQ_n ?_
    refine hx_seq ?_
    refine hx_region ?_
    refine hl_val rfl rfl (v := (ptr t_b t_o)) (hv_move rfl) ?_
    refine hl_val rfl rfl (v := (ptr t_b t_o)) (hv_nil rfl) ?_
    obtain ⟨x_slots, x_slots_n, x_slots_c, x_bits, x_most, x_n, hc3, hc4, hc5, hc6, H⟩ := H
    refine hl_val rfl rfl (v := (.agg #[(.slice x_slots x_slots_n x_slots_c), (.int .i64 x_bits), (.int .i64 x_most), (.int .i64 x_n)])) (hv_loads (vs := [(.slice x_slots x_slots_n x_slots_c), (.int .i64 x_bits), (.int .i64 x_most), (.int .i64 x_n)]) TyShQ.agg87 TyShQ.sz87 rfl (hcells_cons hc3 (hcells_cons hc4 (hcells_cons hc5 (hcells_cons hc6 hcells_nil))))) ?_
    refine hl_step rfl rfl (hn_alloc TyShQ.z87 ?_)
    intro out h1 eb7 eh8
    replace H := H out h1 eb7 eh8
    have xx9 : Ext h h1 := by rw [eh8]; exact Ext.push _ _
    obtain ⟨hw11, H⟩ := H
    refine hl_step rfl rfl (hn_stores (vs := [(.slice x_slots x_slots_n x_slots_c), (.int .i64 x_bits), (.int .i64 x_most), (.int .i64 x_n)]) rfl rfl TyShQ.sz87 rfl hw11 ?_)
    intro h2 eh10
    replace H := H h2 eh10
    refine hl_nil ?_
    refine seqQ_n ?_
    refine hx_seq ?_
    refine hx_region ?_
    refine hl_val rfl rfl (v := (ptr t_b t_o)) (hv_move rfl) ?_
    refine hl_val rfl rfl (v := (ptr t_b t_o)) (hv_nil rfl) ?_
    refine hl_val rfl rfl (v := (ptr t_b t_o)) (hv_field TyShQ.fld87_0 (b := t_b) (o := t_o) rfl) ?_
    obtain ⟨x, x_n_1, x_c, hc12, H⟩ := H
    refine hl_val rfl rfl (v := (.slice x x_n_1 x_c)) (hv_load TyShQ.agg47 rfl hc12) ?_
    refine hl_step rfl rfl (hs_call TyShQ.cb65 (vs := [(.slice x x_n_1 x_c)]) rfl (HC.mono H ?_))
    rintro _ h3 ⟨r_1, r_n, r_c, rfl, H⟩
    refine hl_val rfl rfl (v := (ptr out 0)) (hv_field TyShQ.fld87_0 (b := out) (o := 0) rfl) ?_
    obtain ⟨hw14, H⟩ := H
    refine hl_step rfl rfl (hn_store (v := (.slice r_1 r_n r_c)) rfl rfl TyShQ.sz47 rfl hw14 ?_)
    intro h4 eh13
    replace H := H h4 eh13
    refine hl_nil ?_
    refine seqQ_n ?_
    refine hx_seq ?_
    refine hx_region ?_
    refine hl_val rfl rfl (v := (ptr out 0)) (hv_assign rfl) ?_
    refine hl_nil ?_
    refine seqQ_n ?_
    refine hx_ret ?_
    exact endQ_ret _ (res_one Try.results47 (rv_tmp rfl)) H

/-- slices.DeleteFunc[[]cellar/api.Entry,cellar/api.Entry] -/
theorem f56_sh (sv : Option Addr) (s_n : Nat) (s_c : Nat) (del : Value) (h : Heap) (R : Value → Heap → Prop)
    (H : HC Try.prog 70 #[(.slice sv s_n s_c), del] h (fun vv h1 => ∃ r : Int, vv = (.int .i64 r) ∧ (((r == (-1)) = true → R (.slice sv s_n s_c) h1) ∧ ((r == (-1)) = false → (∃ (I2 : Int → Int → Heap → Prop) (mu3 : Int → Int → Heap → Nat), I2 r (IntKind.i64.wrap (r + 1)) h1 ∧ (∀ (i : Int) (j : Int) (h2 : Heap), I2 i j h2 → (((decide (j < (s_n : Int))) = true → (∃ A10 : Int → Heap → Prop, (∃ sv_b sv_o : Nat, sv = some ⟨sv_b, sv_o, none⟩ ∧ (0 : Int) ≤ j ∧ j < (s_n : Int) ∧ (∃ x_Hash x_At x_Version x_Hits : Int, hcell h2 sv_b (sv_o + (Int.toNat j) * 4) = some (.int .u64 x_Hash) ∧ hcell h2 sv_b ((sv_o + (Int.toNat j) * 4) + 1) = some (.int .u64 x_At) ∧ hcell h2 sv_b ((sv_o + (Int.toNat j) * 4) + 2) = some (.int .u64 x_Version) ∧ hcell h2 sv_b ((sv_o + (Int.toNat j) * 4) + 3) = some (.int .u8 x_Hits) ∧ (∀ (v : Nat) (h5 : Heap), Array.size h2 ≤ v → v < Array.size h5 → Ext h2 h5 → HCV Try.prog del [(.agg #[(.int .u64 x_Hash), (.int .u64 x_At), (.int .u64 x_Version), (.int .u8 x_Hits)])] h5 (fun vv h6 => Kp [v] h5 h6 ∧ ∃ r_1 : Bool, vv = (.bool r_1) ∧ (((!r_1) = true → ((0 : Int) ≤ i ∧ i < (s_n : Int) ∧ (HWs h6 sv_b (sv_o + (Int.toNat i) * 4) 4 ∧ ∀ h7, h7 = hsets h6 sv_b (sv_o + (Int.toNat i) * 4) [(.int .u64 x_Hash), (.int .u64 x_At), (.int .u64 x_Version), (.int .u8 x_Hits)] → (A10 (IntKind.i64.wrap (i + 1)) h7)))) ∧ ((!r_1) = false → (A10 i h6))))))) ∧ (∀ (i_1 : Int) (h3 : Heap), A10 i_1 h3 → (I2 i_1 (IntKind.i64.wrap (j + 1)) h3 ∧ mu3 i_1 (IntKind.i64.wrap (j + 1)) h3 < mu3 i j h2)))) ∧ ((decide (j < (s_n : Int))) = false → (0 ≤ (i : Int) ∧ i ≤ (s_n : Int) ∧ (s_n : Int) ≤ (s_c : Int) ∧ ∀ sl : Option Addr, sl = slA sv (Int.toNat i) 4 s_c → (((Int.toNat (s_n : Int) - Int.toNat i) ≠ 0 → ∃ cb co : Nat, sl = some ⟨cb, co, none⟩ ∧ HWs h2 cb co ((Int.toNat (s_n : Int) - Int.toNat i) * 4)) ∧ ∀ h8, ((Int.toNat (s_n : Int) - Int.toNat i) = 0 → h8 = h2) → (∀ cb co : Nat, (Int.toNat (s_n : Int) - Int.toNat i) ≠ 0 → sl = some ⟨cb, co, none⟩ → h8 = hsets h2 cb co (zcells [(.int .u64 0), (.int .u64 0), (.int .u64 0), (.int .u8 0)] (Int.toNat (s_n : Int) - Int.toNat i))) → (0 ≤ ((0 : Int) : Int) ∧ (0 : Int) ≤ i ∧ i ≤ (s_c : Int) ∧ ∀ sl_1 : Option Addr, sl_1 = slA sv (Int.toNat 0) 4 s_c → R (.slice sl_1 (Int.toNat i - Int.toNat 0) (s_c - Int.toNat 0)) h8))))))))))) :
    HC Try.prog 56 #[(.slice sv s_n s_c), del] h R := by
  refine hc_of (args := [(.slice sv s_n s_c), del]) Try.func56 rfl Try.ntmps56 (Nat.le_of_ble_eq_true rfl) ?_
  refine hx_seq ?_
  refine hx_region ?_
  refine hl_val rfl rfl (v := (.slice none 0 0)) (hv_assign rfl) ?_
  refine hl_nil ?_
  refine seqQ_n ?_
  refine hx_seq ?_
  refine hx_region ?_
  refine hl_val rfl rfl (v := (.slice sv s_n s_c)) (hv_move rfl) ?_
  refine hl_val rfl rfl (v := del) (hv_move rfl) ?_
  refine hl_step rfl rfl (hs_call TyShQ.cb70 (vs := [(.slice sv s_n s_c), del]) rfl (HC.mono H ?_))
  rintro _ h1 ⟨r, rfl, H⟩
  refine hl_val rfl rfl (v := (.int .i64 r)) (hv_assign rfl) ?_
  refine hl_nil ?_
  refine seqQ_n ?_
  refine hx_seq ?_
  refine hx_seq ?_
  refine hx_region ?_
  refine hl_val rfl rfl (v := (.int .i64 r)) (hv_move rfl) ?_
  refine hl_val rfl rfl (v := (.bool (r == (-1)))) (hv_arith rfl rfl rfl) ?_
  refine hl_nil ?_
  refine seqQ_n ?_
  refine hx_cond (b := r == (-1)) rfl (fun hb1 => ?_) (fun hb1 => ?_)
  · replace H := H.1 hb1
    refine hx_seq ?_
    refine hx_region ?_
    refine hl_val rfl rfl (v := (.slice sv s_n s_c)) (hv_move rfl) ?_
    refine hl_val rfl rfl (v := (.slice sv s_n s_c)) (hv_assign rfl) ?_
    refine hl_nil ?_
    refine seqQ_n ?_
    refine hx_ret ?_
    refine seqQ_ret ?_
    exact endQ_ret _ (res_one Try.results56 (rv_tmp rfl)) H
  · replace H := H.2 hb1
    refine hx_skip ?_
    refine seqQ_n ?_
    refine hx_seq ?_
    refine hx_seq ?_
    refine hx_region ?_
    refine hl_val rfl rfl (v := (.int .i64 r)) (hv_move rfl) ?_
    refine hl_val rfl rfl (v := (.int .i64 (IntKind.i64.wrap (r + 1)))) (hv_arith rfl rfl rfl) ?_
    refine hl_val rfl rfl (v := (.int .i64 (IntKind.i64.wrap (r + 1)))) (hv_assign rfl) ?_
    refine hl_nil ?_
    refine seqQ_n ?_
    refine hx_block ?_
    obtain ⟨I2, mu3, Ha4, Hr5⟩ := H
    refine hx_loopT (σ := Int × Int) (fun s => [(0, (.slice sv s_n s_c)), (1, del), (5, (.int .i64 s.1)), (6, (.int .i64 s.2))]) (fun s h' => I2 s.1 s.2 h' ∧ True) (fun s h' => mu3 s.1 s.2 h') (r, IntKind.i64.wrap (r + 1)) ⟨Ha4, trivial⟩ (has_cons rfl (has_cons rfl (has_cons rfl (has_cons rfl has_nil)))) ?_
    rintro ⟨i, j⟩ ρ h2 ⟨Hi6, -⟩
    have H := Hr5 i j h2 Hi6
    refine hx_seq ?_
    refine hx_seq ?_
    refine hx_region ?_
    refine hl_val rfl rfl (v := (.int .i64 j)) (hv_move rfl) ?_
    refine hl_val rfl rfl (v := (.slice sv s_n s_c)) (hv_move rfl) ?_
    refine hl_val rfl rfl (v := (.int .i64 (s_n : Int))) (hv_len (n := s_n) TyShQ.u47 rfl) ?_
    refine hl_val rfl rfl (v := (.bool (decide (j < (s_n : Int))))) (hv_arith rfl rfl rfl) ?_
    refine hl_nil ?_
    refine seqQ_n ?_
    refine hx_cond (b := decide (j < (s_n : Int))) rfl (fun hb7 => ?_) (fun hb7 => ?_)
    · replace H := H.1 hb7
      refine hx_skip ?_
      refine seqQ_n ?_
      obtain ⟨A10, Hx8, Hy9⟩ := H
      refine hx_cut (fun ρ h' => ∃ i_1 : Int, (A10 i_1 h' ∧ True) ∧ Has ρ [(0, (.slice sv s_n s_c)), (1, del), (5, (.int .i64 i_1)), (6, (.int .i64 j))]) ?_ ?_
      · have H := Hx8; clear Hx8 Hy9
        refine hx_block ?_
        refine hx_seq ?_
        refine hx_region ?_
        refine hl_val rfl rfl (v := (.slice sv s_n s_c)) (hv_move rfl) ?_
        refine hl_val rfl rfl (v := (.int .i64 j)) (hv_move rfl) ?_
        obtain ⟨sv_b, sv_o, hqe, hi12, hi13, Hq⟩ := H
        subst hqe
        have H := Hq; clear Hq
        refine hl_val rfl rfl (v := (ptr sv_b (sv_o + (Int.toNat j) * 4))) (hv_index TyShQ.el47 rfl rfl hi12 hi13) ?_
        obtain ⟨x_Hash, x_At, x_Version, x_Hits, hc14, hc15, hc16, hc17, H⟩ := H
        refine hl_val rfl rfl (v := (.agg #[(.int .u64 x_Hash), (.int .u64 x_At), (.int .u64 x_Version), (.int .u8 x_Hits)])) (hv_loads (vs := [(.int .u64 x_Hash), (.int .u64 x_At), (.int .u64 x_Version), (.int .u8 x_Hits)]) TyShQ.agg31 TyShQ.sz31 rfl (hcells_cons hc14 (hcells_cons hc15 (hcells_cons hc16 (hcells_cons hc17 hcells_nil))))) ?_
        refine hl_step rfl rfl (hn_alloc TyShQ.z31 ?_)
        intro v h4 eb18 eh19
        have xx20 : Ext h2 h4 := by rw [eh19]; exact Ext.push _ _
        have lo22 : Array.size h2 ≤ v := Nat.le_of_eq (Eq.symm eb18)
        have hr21 : h4[v]? = some (.cells #[(.int .u64 0), (.int .u64 0), (.int .u64 0), (.int .u8 0)] 31 (0, 0)) := by rw [eh19]; exact push_new eb18
        refine hl_step rfl rfl (hn_stores (vs := [(.int .u64 x_Hash), (.int .u64 x_At), (.int .u64 x_Version), (.int .u8 x_Hits)]) rfl rfl TyShQ.sz31 rfl (HWs_row hr21 (by simp)) ?_)
        intro h5 eh23
        have hr21' : h5[v]? = some (.cells #[(.int .u64 x_Hash), (.int .u64 x_At), (.int .u64 x_Version), (.int .u8 x_Hits)] 31 (0, 0)) := row_hsets_eq eh23 hr21 rfl
        have xv24 := ext_hsets eh23 xx20 lo22
        refine hl_nil ?_
        refine seqQ_n ?_
        refine hx_seq ?_
        refine hx_region ?_
        refine hl_val rfl rfl (v := del) (hv_move rfl) ?_
        refine hl_val rfl rfl (v := (.agg #[(.int .u64 x_Hash), (.int .u64 x_At), (.int .u64 x_Version), (.int .u8 x_Hits)])) (hv_loads (vs := [(.int .u64 x_Hash), (.int .u64 x_At), (.int .u64 x_Version), (.int .u8 x_Hits)]) TyShQ.agg31 TyShQ.sz31 rfl (hcells_cons (rowcell hr21' rfl) (hcells_cons (rowcell hr21' rfl) (hcells_cons (rowcell hr21' rfl) (hcells_cons (rowcell hr21' rfl) hcells_nil))))) ?_
        replace H := H v h5 lo22 (row_lt hr21') xv24
        refine hl_step rfl rfl (hs_callF (vs := [(.agg #[(.int .u64 x_Hash), (.int .u64 x_At), (.int .u64 x_Version), (.int .u8 x_Hits)])]) rfl rfl (HCV.mono H ?_))
        rintro _ h6 ⟨kp25, r_1, rfl, H⟩
        replace hr21' := Kp.row kp25 (by simp) hr21'
        refine hl_val rfl rfl (v := (.bool (!r_1))) (hv_not (b := r_1) rfl) ?_
        refine hl_nil ?_
        refine seqQ_n ?_
        refine hx_cond (b := !r_1) rfl (fun hb26 => ?_) (fun hb26 => ?_)
        · replace H := H.1 hb26
          refine hx_seq ?_
          refine hx_region ?_
          refine hl_val rfl rfl (v := (.slice (some ⟨sv_b, sv_o, none⟩) s_n s_c)) (hv_move rfl) ?_
          refine hl_val rfl rfl (v := (.int .i64 i)) (hv_move rfl) ?_
          refine hl_val rfl rfl (v := (.agg #[(.int .u64 x_Hash), (.int .u64 x_At), (.int .u64 x_Version), (.int .u8 x_Hits)])) (hv_loads (vs := [(.int .u64 x_Hash), (.int .u64 x_At), (.int .u64 x_Version), (.int .u8 x_Hits)]) TyShQ.agg31 TyShQ.sz31 rfl (hcells_cons (rowcell hr21' rfl) (hcells_cons (rowcell hr21' rfl) (hcells_cons (rowcell hr21' rfl) (hcells_cons (rowcell hr21' rfl) hcells_nil))))) ?_
          obtain ⟨hi27, hi28, H⟩ := H
          refine hl_val rfl rfl (v := (ptr sv_b (sv_o + (Int.toNat i) * 4))) (hv_index TyShQ.el47 rfl rfl hi27 hi28) ?_
          obtain ⟨hw30, H⟩ := H
          refine hl_step rfl rfl (hn_stores (vs := [(.int .u64 x_Hash), (.int .u64 x_At), (.int .u64 x_Version), (.int .u8 x_Hits)]) rfl rfl TyShQ.sz31 rfl hw30 ?_)
          intro h7 eh29
          replace H := H h7 eh29
          refine hl_nil ?_
          refine seqQ_n ?_
          refine hx_region ?_
          refine hl_val rfl rfl (v := (.int .i64 i)) (hv_move rfl) ?_
          refine hl_val rfl rfl (v := (.int .i64 (IntKind.i64.wrap (i + 1)))) (hv_arith rfl rfl rfl) ?_
          refine hl_val rfl rfl (v := (.int .i64 (IntKind.i64.wrap (i + 1)))) (hv_assign rfl) ?_
          refine hl_nil ?_
          refine blockQ_n ?_
          refine seqQ_n ?_
          exact ⟨_, ⟨H, trivial⟩, (has_cons rfl (has_cons rfl (has_cons rfl (has_cons rfl has_nil))))⟩
        · replace H := H.2 hb26
          refine hx_skip ?_
          refine blockQ_n ?_
          refine seqQ_n ?_
          exact ⟨_, ⟨H, trivial⟩, (has_cons rfl (has_cons rfl (has_cons rfl (has_cons rfl has_nil))))⟩
      · rintro ρ h3 ⟨i_1, ⟨HA11, -⟩, hH⟩
        have H := Hy9 i_1 h3 HA11; clear Hx8 Hy9
        refine hx_has _ hH ?_
        refine hx_region ?_
        refine hl_val rfl rfl (v := (.int .i64 j)) (hv_move rfl) ?_
        refine hl_val rfl rfl (v := (.int .i64 (IntKind.i64.wrap (j + 1)))) (hv_arith rfl rfl rfl) ?_
        refine hl_val rfl rfl (v := (.int .i64 (IntKind.i64.wrap (j + 1)))) (hv_assign rfl) ?_
        refine hl_nil ?_
        refine seqQ_n ?_
        exact ⟨(i_1, IntKind.i64.wrap (j + 1)), ⟨⟨H.1, trivial⟩, H.2⟩, (has_cons rfl (has_cons rfl (has_cons rfl (has_cons rfl has_nil))))⟩
    · replace H := H.2 hb7
      refine hx_exit ?_
      refine seqQ_exit ?_
      refine seqQ_exit ?_
      refine blockQ_here ?_
      refine seqQ_n ?_
      refine hx_seq ?_
      refine hx_region ?_
      refine hl_val rfl rfl (v := (.slice sv s_n s_c)) (hv_move rfl) ?_
      refine hl_val rfl rfl (v := (.int .i64 i)) (hv_move rfl) ?_
      obtain ⟨hs31, hs32, hs33, H⟩ := H
      obtain ⟨sl, hq34⟩ : ∃ q, q = slA sv (Int.toNat i) 4 s_c := ⟨_, rfl⟩
      replace H := H sl hq34
      refine hl_val rfl rfl (v := (.slice sl (Int.toNat (s_n : Int) - Int.toNat i) (s_c - Int.toNat i))) (hv_slice (l := i) (r := (s_n : Int)) TyShQ.u47 TyShQ.sz31 rfl (sl_some rfl) sh_none hs31 hs32 hs33 hq34) ?_
      obtain ⟨hw35, H⟩ := H
      refine hl_step rfl rfl (hn_clear2 (zs := [(.int .u64 0), (.int .u64 0), (.int .u64 0), (.int .u8 0)]) TyShQ.u47 TyShQ.z31 rfl (by decide) rfl rfl hw35 ?_)
      intro h8 hz36 hn37
      replace H := H h8 hz36 hn37
      refine hl_nil ?_
      refine seqQ_n ?_
      refine hx_seq ?_
      refine hx_region ?_
      refine hl_val rfl rfl (v := (.slice sv s_n s_c)) (hv_move rfl) ?_
      refine hl_val rfl rfl (v := (.int .i64 i)) (hv_move rfl) ?_
      obtain ⟨hs38, hs39, hs40, H⟩ := H
      obtain ⟨sl_1, hq41⟩ : ∃ q, q = slA sv (Int.toNat 0) 4 s_c := ⟨_, rfl⟩
      replace H := H sl_1 hq41
      refine hl_val rfl rfl (v := (.slice sl_1 (Int.toNat i - Int.toNat 0) (s_c - Int.toNat 0))) (hv_slice (l := 0) (r := i) TyShQ.u47 TyShQ.sz31 rfl sl_none (sh_some rfl) hs38 hs39 hs40 hq41) ?_
      refine hl_val rfl rfl (v := (.slice sl_1 (Int.toNat i - Int.toNat 0) (s_c - Int.toNat 0))) (hv_assign rfl) ?_
      refine hl_nil ?_
      refine seqQ_n ?_
      refine hx_ret ?_
      exact endQ_ret _ (res_one Try.results56 (rv_tmp rfl)) H

/-- slices.IndexFunc[[]cellar/api.Entry,cellar/api.Entry] -/
theorem f70_sh (sv : Option Addr) (s_n : Nat) (s_c : Nat) (f : Value) (h : Heap) (R : Value → Heap → Prop)
    (H : (∃ (I1 : Int → Heap → Prop) (mu2 : Int → Heap → Nat), I1 0 h ∧ (∀ (v : Int) (h1 : Heap), I1 v h1 → (((decide (v < (s_n : Int))) = true → (∃ sv_b sv_o : Nat, sv = some ⟨sv_b, sv_o, none⟩ ∧ (0 : Int) ≤ v ∧ v < (s_n : Int) ∧ (∃ x_Hash x_At x_Version x_Hits : Int, hcell h1 sv_b (sv_o + (Int.toNat v) * 4) = some (.int .u64 x_Hash) ∧ hcell h1 sv_b ((sv_o + (Int.toNat v) * 4) + 1) = some (.int .u64 x_At) ∧ hcell h1 sv_b ((sv_o + (Int.toNat v) * 4) + 2) = some (.int .u64 x_Version) ∧ hcell h1 sv_b ((sv_o + (Int.toNat v) * 4) + 3) = some (.int .u8 x_Hits) ∧ HCV Try.prog f [(.agg #[(.int .u64 x_Hash), (.int .u64 x_At), (.int .u64 x_Version), (.int .u8 x_Hits)])] h1 (fun vv h2 => ∃ r : Bool, vv = (.bool r) ∧ ((r = true → R (.int .i64 v) h2) ∧ (r = false → (I1 (IntKind.i64.wrap (v + 1)) h2 ∧ mu2 (IntKind.i64.wrap (v + 1)) h2 < mu2 v h1))))))) ∧ ((decide (v < (s_n : Int))) = false → R (.int .i64 (-1)) h1))))) :
    HC Try.prog 70 #[(.slice sv s_n s_c), f] h R := by
  refine hc_of (args := [(.slice sv s_n s_c), f]) Try.func70 rfl Try.ntmps70 (Nat.le_of_ble_eq_true rfl) ?_
  refine hx_seq ?_
  refine hx_region ?_
  refine hl_val rfl rfl (v := (.int .i64 0)) (hv_assign rfl) ?_
  refine hl_nil ?_
  refine seqQ_n ?_
  refine hx_seq ?_
  refine hx_seq ?_
  refine hx_region ?_
  refine hl_val rfl rfl (v := (.slice sv s_n s_c)) (hv_move rfl) ?_
  refine hl_val rfl rfl (v := (.int .i64 (s_n : Int))) (hv_len (n := s_n) TyShQ.u47 rfl) ?_
  refine hl_val rfl rfl (v := (.int .i64 0)) (hv_move rfl) ?_
  refine hl_nil ?_
  refine seqQ_n ?_
  refine hx_block ?_
  obtain ⟨I1, mu2, Ha3, Hr4⟩ := H
  refine hx_loopT (σ := Int) (fun s => [(0, (.slice sv s_n s_c)), (1, f), (7, (.int .i64 (s_n : Int))), (8, (.int .i64 s))]) (fun s h' => I1 s h' ∧ True) (fun s h' => mu2 s h') 0 ⟨Ha3, trivial⟩ (has_cons rfl (has_cons rfl (has_cons rfl (has_cons rfl has_nil)))) ?_
  rintro v ρ h1 ⟨Hi5, -⟩
  have H := Hr4 v h1 Hi5
  refine hx_seq ?_
  refine hx_region ?_
  refine hl_val rfl rfl (v := (.bool (decide (v < (s_n : Int))))) (hv_arith rfl rfl rfl) ?_
  refine hl_nil ?_
  refine seqQ_n ?_
  refine hx_seq ?_
  refine hx_cond (b := decide (v < (s_n : Int))) rfl (fun hb6 => ?_) (fun hb6 => ?_)
  · replace H := H.1 hb6
    refine hx_skip ?_
    refine seqQ_n ?_
    refine hx_seq ?_
    refine hx_block ?_
    refine hx_seq ?_
    refine hx_region ?_
    refine hl_val rfl rfl (v := (.int .i64 v)) (hv_move rfl) ?_
    refine hl_val rfl rfl (v := (.int .i64 v)) (hv_assign rfl) ?_
    refine hl_nil ?_
    refine seqQ_n ?_
    refine hx_seq ?_
    refine hx_region ?_
    refine hl_val rfl rfl (v := f) (hv_move rfl) ?_
    refine hl_val rfl rfl (v := (.slice sv s_n s_c)) (hv_move rfl) ?_
    refine hl_val rfl rfl (v := (.int .i64 v)) (hv_move rfl) ?_
    obtain ⟨sv_b, sv_o, hqe, hi7, hi8, Hq⟩ := H
    subst hqe
    have H := Hq; clear Hq
    refine hl_val rfl rfl (v := (ptr sv_b (sv_o + (Int.toNat v) * 4))) (hv_index TyShQ.el47 rfl rfl hi7 hi8) ?_
    obtain ⟨x_Hash, x_At, x_Version, x_Hits, hc9, hc10, hc11, hc12, H⟩ := H
    refine hl_val rfl rfl (v := (.agg #[(.int .u64 x_Hash), (.int .u64 x_At), (.int .u64 x_Version), (.int .u8 x_Hits)])) (hv_loads (vs := [(.int .u64 x_Hash), (.int .u64 x_At), (.int .u64 x_Version), (.int .u8 x_Hits)]) TyShQ.agg31 TyShQ.sz31 rfl (hcells_cons hc9 (hcells_cons hc10 (hcells_cons hc11 (hcells_cons hc12 hcells_nil))))) ?_
    refine hl_step rfl rfl (hs_callF (vs := [(.agg #[(.int .u64 x_Hash), (.int .u64 x_At), (.int .u64 x_Version), (.int .u8 x_Hits)])]) rfl rfl (HCV.mono H ?_))
    rintro _ h2 ⟨r, rfl, H⟩
    refine hl_nil ?_
    refine seqQ_n ?_
    refine hx_cond (b := r) rfl (fun hb13 => ?_) (fun hb13 => ?_)
    · replace H := H.1 hb13
      refine hx_seq ?_
      refine hx_region ?_
      refine hl_val rfl rfl (v := (.int .i64 v)) (hv_move rfl) ?_
      refine hl_val rfl rfl (v := (.int .i64 v)) (hv_assign rfl) ?_
      refine hl_nil ?_
      refine seqQ_n ?_
      refine hx_ret ?_
      refine blockQ_ret ?_
      refine seqQ_ret ?_
      refine seqQ_ret ?_
      refine blockQ_ret ?_
      refine seqQ_ret ?_
      exact endQ_ret _ (res_one Try.results70 (rv_tmp rfl)) H
    · replace H := H.2 hb13
      refine hx_skip ?_
      refine blockQ_n ?_
      refine seqQ_n ?_
      refine hx_region ?_
      refine hl_val rfl rfl (v := (.int .i64 (IntKind.i64.wrap (v + 1)))) (hv_arith rfl rfl rfl) ?_
      refine hl_val rfl rfl (v := (.int .i64 (IntKind.i64.wrap (v + 1)))) (hv_move rfl) ?_
      refine hl_nil ?_
      refine seqQ_n ?_
      exact ⟨IntKind.i64.wrap (v + 1), ⟨⟨H.1, trivial⟩, H.2⟩, (has_cons rfl (has_cons rfl (has_cons rfl (has_cons rfl has_nil))))⟩
  · replace H := H.2 hb6
    refine hx_exit ?_
    refine seqQ_exit ?_
    refine seqQ_exit ?_
    refine blockQ_here ?_
    refine seqQ_n ?_
    refine hx_seq ?_
    refine hx_region ?_
    refine hl_val rfl rfl (v := (.int .i64 (-1))) (hv_assign rfl) ?_
    refine hl_nil ?_
    refine seqQ_n ?_
    refine hx_ret ?_
    exact endQ_ret _ (res_one Try.results70 (rv_tmp rfl)) H

/-- (*cellar/table.Table).All$1 -/
theorem f55_sh (yield : Value) (cap0_b : Nat) (cap0_o : Nat) (h : Heap) (R : Value → Heap → Prop)
    (H : (∃ x : Option Addr, hcell h cap0_b cap0_o = some (.pointer x) ∧ HC Try.prog 57 #[(.pointer x)] h (fun vv h1 => ∃ r : Option Addr, ∃ r_n r_c : Nat, vv = (.slice r r_n r_c) ∧ HC Try.prog 56 #[(.slice r r_n r_c), (.func (.func 58) #[] #[])] h1 (fun vv h2 => ∃ r_1 : Option Addr, ∃ r_n_1 r_c_1 : Nat, vv = (.slice r_1 r_n_1 r_c_1) ∧ HC Try.prog 59 #[(.slice r_1 r_n_1 r_c_1), (.func (.func 60) #[] #[])] h2 (fun vv h3 => vv = (.tuple #[]) ∧ (∃ (I2 : Int → Heap → Prop) (mu3 : Int → Heap → Nat), I2 0 h3 ∧ (∀ (v : Int) (h4 : Heap), I2 v h4 → (((decide (v < (r_n_1 : Int))) = true → (∃ r_1_b r_1_o : Nat, r_1 = some ⟨r_1_b, r_1_o, none⟩ ∧ (0 : Int) ≤ v ∧ v < (r_n_1 : Int) ∧ (∃ x_Hash x_At x_Version x_Hits : Int, hcell h4 r_1_b (r_1_o + (Int.toNat v) * 4) = some (.int .u64 x_Hash) ∧ hcell h4 r_1_b ((r_1_o + (Int.toNat v) * 4) + 1) = some (.int .u64 x_At) ∧ hcell h4 r_1_b ((r_1_o + (Int.toNat v) * 4) + 2) = some (.int .u64 x_Version) ∧ hcell h4 r_1_b ((r_1_o + (Int.toNat v) * 4) + 3) = some (.int .u8 x_Hits) ∧ (∀ (h6 : Heap), Ext h4 h6 → HCV Try.prog yield [(.agg #[(.int .u64 x_Hash), (.int .u64 x_At), (.int .u64 x_Version), (.int .u8 x_Hits)])] h6 (fun vv h7 => ∃ r_2 : Bool, vv = (.bool r_2) ∧ (((!r_2) = true → R (.tuple #[]) h7) ∧ ((!r_2) = false → (I2 (IntKind.i64.wrap (v + 1)) h7 ∧ mu3 (IntKind.i64.wrap (v + 1)) h7 < mu3 v h4)))))))) ∧ ((decide (v < (r_n_1 : Int))) = false → R (.tuple #[]) h4))))))))) :
    HC Try.prog 55 #[yield, (ptr cap0_b cap0_o)] h R := by
  refine hc_of (args := [yield, (ptr cap0_b cap0_o)]) Try.func55 rfl Try.ntmps55 (Nat.le_of_ble_eq_true rfl) ?_
  refine hx_seq ?_
  refine hx_region ?_
  obtain ⟨x, hc1, H⟩ := H
  refine hl_val rfl rfl (v := (.pointer x)) (hv_load TyShQ.agg70 rfl hc1) ?_
  refine hl_step rfl rfl (hs_call TyShQ.cb57 (vs := [(.pointer x)]) rfl (HC.mono H ?_))
  rintro _ h1 ⟨r, r_n, r_c, rfl, H⟩
  refine hl_step rfl rfl (hs_call TyShQ.cb56 (vs := [(.slice r r_n r_c), (.func (.func 58) #[] #[])]) rfl (HC.mono H ?_))
  rintro _ h2 ⟨r_1, r_n_1, r_c_1, rfl, H⟩
  refine hl_val rfl rfl (v := (.slice r_1 r_n_1 r_c_1)) (hv_assign rfl) ?_
  refine hl_nil ?_
  refine seqQ_n ?_
  refine hx_seq ?_
  refine hx_region ?_
  refine hl_val rfl rfl (v := (.slice r_1 r_n_1 r_c_1)) (hv_move rfl) ?_
  refine hl_step rfl rfl (hs_call TyShQ.cb59 (vs := [(.slice r_1 r_n_1 r_c_1), (.func (.func 60) #[] #[])]) rfl (HC.mono H ?_))
  rintro _ h3 ⟨rfl, H⟩
  refine hl_nil ?_
  refine seqQ_n ?_
  refine hx_seq ?_
  refine hx_region ?_
  refine hl_val rfl rfl (v := (.slice r_1 r_n_1 r_c_1)) (hv_move rfl) ?_
  refine hl_val rfl rfl (v := (.int .i64 (r_n_1 : Int))) (hv_len (n := r_n_1) TyShQ.u47 rfl) ?_
  refine hl_val rfl rfl (v := (.int .i64 0)) (hv_move rfl) ?_
  refine hl_nil ?_
  refine seqQ_n ?_
  refine hx_block ?_
  obtain ⟨I2, mu3, Ha4, Hr5⟩ := H
  refine hx_loopT (σ := Int) (fun s => [(0, yield), (11, (.slice r_1 r_n_1 r_c_1)), (12, (.int .i64 (r_n_1 : Int))), (13, (.int .i64 s))]) (fun s h' => I2 s h' ∧ True) (fun s h' => mu3 s h') 0 ⟨Ha4, trivial⟩ (has_cons rfl (has_cons rfl (has_cons rfl (has_cons rfl has_nil)))) ?_
  rintro v ρ h4 ⟨Hi6, -⟩
  have H := Hr5 v h4 Hi6
  refine hx_seq ?_
  refine hx_region ?_
  refine hl_val rfl rfl (v := (.bool (decide (v < (r_n_1 : Int))))) (hv_arith rfl rfl rfl) ?_
  refine hl_nil ?_
  refine seqQ_n ?_
  refine hx_seq ?_
  refine hx_cond (b := decide (v < (r_n_1 : Int))) rfl (fun hb7 => ?_) (fun hb7 => ?_)
  · replace H := H.1 hb7
    refine hx_skip ?_
    refine seqQ_n ?_
    refine hx_seq ?_
    refine hx_block ?_
    refine hx_seq ?_
    refine hx_region ?_
    obtain ⟨r_1_b, r_1_o, hqe, hi8, hi9, Hq⟩ := H
    subst hqe
    have H := Hq; clear Hq
    refine hl_val rfl rfl (v := (ptr r_1_b (r_1_o + (Int.toNat v) * 4))) (hv_index TyShQ.el47 rfl rfl hi8 hi9) ?_
    obtain ⟨x_Hash, x_At, x_Version, x_Hits, hc10, hc11, hc12, hc13, H⟩ := H
    refine hl_val rfl rfl (v := (.agg #[(.int .u64 x_Hash), (.int .u64 x_At), (.int .u64 x_Version), (.int .u8 x_Hits)])) (hv_loads (vs := [(.int .u64 x_Hash), (.int .u64 x_At), (.int .u64 x_Version), (.int .u8 x_Hits)]) TyShQ.agg31 TyShQ.sz31 rfl (hcells_cons hc10 (hcells_cons hc11 (hcells_cons hc12 (hcells_cons hc13 hcells_nil))))) ?_
    refine hl_step rfl rfl (hn_alloc TyShQ.z31 ?_)
    intro e h5 eb14 eh15
    have xx16 : Ext h4 h5 := by rw [eh15]; exact Ext.push _ _
    have lo18 : Array.size h4 ≤ e := Nat.le_of_eq (Eq.symm eb14)
    have hr17 : h5[e]? = some (.cells #[(.int .u64 0), (.int .u64 0), (.int .u64 0), (.int .u8 0)] 31 (0, 0)) := by rw [eh15]; exact push_new eb14
    refine hl_step rfl rfl (hn_stores (vs := [(.int .u64 x_Hash), (.int .u64 x_At), (.int .u64 x_Version), (.int .u8 x_Hits)]) rfl rfl TyShQ.sz31 rfl (HWs_row hr17 (by simp)) ?_)
    intro h6 eh19
    have hr17' : h6[e]? = some (.cells #[(.int .u64 x_Hash), (.int .u64 x_At), (.int .u64 x_Version), (.int .u8 x_Hits)] 31 (0, 0)) := row_hsets_eq eh19 hr17 rfl
    have xv20 := ext_hsets eh19 xx16 lo18
    refine hl_nil ?_
    refine seqQ_n ?_
    refine hx_seq ?_
    refine hx_region ?_
    refine hl_val rfl rfl (v := yield) (hv_move rfl) ?_
    refine hl_val rfl rfl (v := (.agg #[(.int .u64 x_Hash), (.int .u64 x_At), (.int .u64 x_Version), (.int .u8 x_Hits)])) (hv_loads (vs := [(.int .u64 x_Hash), (.int .u64 x_At), (.int .u64 x_Version), (.int .u8 x_Hits)]) TyShQ.agg31 TyShQ.sz31 rfl (hcells_cons (rowcell hr17' rfl) (hcells_cons (rowcell hr17' rfl) (hcells_cons (rowcell hr17' rfl) (hcells_cons (rowcell hr17' rfl) hcells_nil))))) ?_
    replace H := H h6 xv20
    refine hl_step rfl rfl (hs_callF (vs := [(.agg #[(.int .u64 x_Hash), (.int .u64 x_At), (.int .u64 x_Version), (.int .u8 x_Hits)])]) rfl rfl (HCV.mono H ?_))
    rintro _ h7 ⟨r_2, rfl, H⟩
    refine hl_val rfl rfl (v := (.bool (!r_2))) (hv_not (b := r_2) rfl) ?_
    refine hl_nil ?_
    refine seqQ_n ?_
    refine hx_cond (b := !r_2) rfl (fun hb21 => ?_) (fun hb21 => ?_)
    · replace H := H.1 hb21
      refine hx_ret ?_
      refine blockQ_ret ?_
      refine seqQ_ret ?_
      refine seqQ_ret ?_
      refine blockQ_ret ?_
      exact endQ_ret _ (res_none Try.results55 ) H
    · replace H := H.2 hb21
      refine hx_skip ?_
      refine blockQ_n ?_
      refine seqQ_n ?_
      refine hx_region ?_
      refine hl_val rfl rfl (v := (.int .i64 (IntKind.i64.wrap (v + 1)))) (hv_arith rfl rfl rfl) ?_
      refine hl_val rfl rfl (v := (.int .i64 (IntKind.i64.wrap (v + 1)))) (hv_move rfl) ?_
      refine hl_nil ?_
      refine seqQ_n ?_
      exact ⟨IntKind.i64.wrap (v + 1), ⟨⟨H.1, trivial⟩, H.2⟩, (has_cons rfl (has_cons rfl (has_cons rfl (has_cons rfl has_nil))))⟩
  · replace H := H.2 hb7
    refine hx_exit ?_
    refine seqQ_exit ?_
    refine seqQ_exit ?_
    refine blockQ_here ?_
    exact endQ_n _ (res_none Try.results55 ) H

/-- (*cellar/table.Table).All -/
theorem f45_sh (t_b : Nat) (t_o : Nat) (h : Heap) (R : Value → Heap → Prop)
    (H : (∀ t h1, t = Array.size h → h1 = Array.push h (.cells #[(ptr t_b t_o)] 70) → R (.func (.func 55) #[] #[(ptr t 0)]) h1)) :
    HC Try.prog 45 #[(ptr t_b t_o)] h R := by
  refine hc_of (args := [(ptr t_b t_o)]) Try.func45 rfl Try.ntmps45 (Nat.le_of_ble_eq_true rfl) ?_
  refine hx_seq ?_
  refine hx_region ?_
  refine hl_step rfl rfl (hn_box (v := (ptr t_b t_o)) rfl ?_)
  intro t h1 eb1 eh2
  replace H := H t h1 eb1 eh2
  have xx3 : Ext h h1 := by rw [eh2]; exact Ext.push _ _
  refine hl_val rfl rfl (v := .nilFunc) (hv_assign rfl) ?_
  refine hl_nil ?_
  refine seqQ_n ?_
  refine hx_seq ?_
  refine hx_region ?_
  refine hl_val rfl rfl (v := (.func (.func 55) #[] #[(ptr t 0)])) (hv_makeFunc (fv := []) (cv := [(ptr t 0)]) rfl rfl) ?_
  refine hl_val rfl rfl (v := (.func (.func 55) #[] #[(ptr t 0)])) (hv_assign rfl) ?_
  refine hl_nil ?_
  refine seqQ_n ?_
  refine hx_ret ?_
  exact endQ_ret _ (res_one Try.results45 (rv_tmp rfl)) H

end Go.Proofs.Ytkecmljalcfhoaa
