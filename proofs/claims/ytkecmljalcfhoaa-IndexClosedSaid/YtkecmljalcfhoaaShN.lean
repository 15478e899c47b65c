/-
Shallow forms, written by gen.py (a program of this session) out of the print of the program.
-/
import Derived.Test.YtkecmljalcfhoaaMor
import Derived.Test.YtkecmljalcfhoaaProg
namespace Go.Proofs.Ytkecmljalcfhoaa
open Go
set_option maxRecDepth 100000
set_option maxHeartbeats 4000000

theorem Ty.agg31 : aggB Try.prog 31 = some true := by kernel_rfl
theorem Ty.cb50 : CallB Try.prog 50 := fun _ _ => Try.call50 _ _
theorem Ty.cb64 : CallB Try.prog 64 := fun _ _ => Try.call64 _ _
theorem Ty.pl31 : plB Try.prog 31 = some [(0, 1), (1, 1), (2, 1), (3, 1)] := by kernel_rfl
theorem Ty.sz31 : szB Try.prog 31 = some 4 := by kernel_rfl
theorem Ty.up70 : Try.prog.underlying 70 = some (.pointer 87) := by kernel_rfl
theorem Ty.z31 : zeroB Try.prog 31 (.agg #[(.int .u64 0), (.int .u64 0), (.int .u64 0), (.int .u8 0)]) := by unfold zeroB; kernel_rfl

/-- (*cellar/table.Table).made -/
theorem f64_shn  (h : Heap) (R : Value → Heap → Prop)
    (H : R (.bool false) h) :
    HC Try.prog 64 #[(.pointer none)] h R := by
  refine hc_of (args := [(.pointer none)]) Try.func64 rfl Try.ntmps64 (Nat.le_of_ble_eq_true rfl) ?_
  refine hx_seq ?_
  refine hx_region ?_
  refine hl_val rfl rfl (v := (.bool false)) (hv_assign rfl) ?_
  refine hl_nil ?_
  refine seqQ_n ?_
  refine hx_seq ?_
  refine hx_region ?_
  refine hl_val rfl rfl (v := (.pointer none)) (hv_move rfl) ?_
  refine hl_val rfl rfl (v := (.bool false)) (hv_ptrNil Ty.up70 rfl rfl) ?_
  refine hl_val rfl rfl (v := (.bool false)) (hv_move rfl) ?_
  refine hl_no (wanted_n rfl rfl (c := false) rfl rfl) rfl ?_
  refine hl_no (wanted_n rfl rfl (c := false) rfl rfl) rfl ?_
  refine hl_no (wanted_n rfl rfl (c := false) rfl rfl) rfl ?_
  refine hl_no (wanted_n rfl rfl (c := false) rfl rfl) rfl ?_
  refine hl_no (wanted_n rfl rfl (c := false) rfl rfl) rfl ?_
  refine hl_no (wanted_n rfl rfl (c := false) rfl rfl) rfl ?_
  refine hl_val rfl rfl (v := (.bool false)) (hv_pick (t := false) rfl rfl) ?_
  refine hl_val rfl rfl (v := (.bool false)) (hv_assign rfl) ?_
  refine hl_nil ?_
  refine seqQ_n ?_
  refine hx_ret ?_
  exact endQ_ret _ (res_one Try.results64 (rv_tmp rfl)) H

/-- (*cellar/table.Table).Len -/
theorem f48_shn  (h : Heap) (R : Value → Heap → Prop)
    (H : (∃ r : Bool, HC Try.prog 64 #[(.pointer none)] h (fun vv h' => vv = (.bool r) ∧ h' = h) ∧ (((!r) = true → R (.int .i64 0) h) ∧ ((!r) = false → False)))) :
    HC Try.prog 48 #[(.pointer none)] h R := by
  refine hc_of (args := [(.pointer none)]) Try.func48 rfl Try.ntmps48 (Nat.le_of_ble_eq_true rfl) ?_
  refine hx_seq ?_
  refine hx_region ?_
  refine hl_val rfl rfl (v := (.int .i64 0)) (hv_assign rfl) ?_
  refine hl_nil ?_
  refine seqQ_n ?_
  refine hx_seq ?_
  refine hx_seq ?_
  refine hx_region ?_
  refine hl_val rfl rfl (v := (.pointer none)) (hv_move rfl) ?_
  obtain ⟨r, hr1, H⟩ := H
  refine hl_val rfl rfl (v := (.bool r)) (hv_call Ty.cb64 (vs := [(.pointer none)]) rfl hr1) ?_
  refine hl_val rfl rfl (v := (.bool (!r))) (hv_not (b := r) rfl) ?_
  refine hl_nil ?_
  refine seqQ_n ?_
  refine hx_cond (b := !r) rfl (fun hb2 => ?_) (fun hb2 => ?_)
  · replace H := H.1 hb2
    refine hx_seq ?_
    refine hx_region ?_
    refine hl_val rfl rfl (v := (.int .i64 0)) (hv_assign rfl) ?_
    refine hl_nil ?_
    refine seqQ_n ?_
    refine hx_ret ?_
    refine seqQ_ret ?_
    exact endQ_ret _ (res_one Try.results48 (rv_tmp rfl)) H
  · replace H := H.2 hb2
    refine hx_skip ?_
    refine seqQ_n ?_
    refine hx_seq ?_
    refine hx_region ?_
    refine hl_val rfl rfl (v := (.pointer none)) (hv_move rfl) ?_
    exact H.elim

/-- (*cellar/table.Table).Layout -/
theorem f57_shn  (h : Heap) (R : Value → Heap → Prop)
    (H : (∃ r : Bool, HC Try.prog 64 #[(.pointer none)] h (fun vv h' => vv = (.bool r) ∧ h' = h) ∧ (((!r) = true → R (.slice none 0 0) h) ∧ ((!r) = false → False)))) :
    HC Try.prog 57 #[(.pointer none)] h R := by
  refine hc_of (args := [(.pointer none)]) Try.func57 rfl Try.ntmps57 (Nat.le_of_ble_eq_true rfl) ?_
  refine hx_seq ?_
  refine hx_region ?_
  refine hl_val rfl rfl (v := (.slice none 0 0)) (hv_assign rfl) ?_
  refine hl_nil ?_
  refine seqQ_n ?_
  refine hx_seq ?_
  refine hx_seq ?_
  refine hx_region ?_
  refine hl_val rfl rfl (v := (.pointer none)) (hv_move rfl) ?_
  obtain ⟨r, hr1, H⟩ := H
  refine hl_val rfl rfl (v := (.bool r)) (hv_call Ty.cb64 (vs := [(.pointer none)]) rfl hr1) ?_
  refine hl_val rfl rfl (v := (.bool (!r))) (hv_not (b := r) rfl) ?_
  refine hl_nil ?_
  refine seqQ_n ?_
  refine hx_cond (b := !r) rfl (fun hb2 => ?_) (fun hb2 => ?_)
  · replace H := H.1 hb2
    refine hx_seq ?_
    refine hx_region ?_
    refine hl_val rfl rfl (v := (.slice none 0 0)) (hv_assign rfl) ?_
    refine hl_nil ?_
    refine seqQ_n ?_
    refine hx_ret ?_
    refine seqQ_ret ?_
    exact endQ_ret _ (res_one Try.results57 (rv_tmp rfl)) H
  · replace H := H.2 hb2
    refine hx_skip ?_
    refine seqQ_n ?_
    refine hx_seq ?_
    refine hx_region ?_
    refine hl_val rfl rfl (v := (.pointer none)) (hv_move rfl) ?_
    exact H.elim

/-- (*cellar/table.Table).Get -/
theorem f28_shn (hash : Int) (h : Heap) (R : Value → Heap → Prop)
    (H : (∀ nb h1, nb = Array.size h → h1 = Array.push h (.cells #[(.int .u64 0), (.int .u64 0), (.int .u64 0), (.int .u8 0)] 31) → HC Try.prog 50 #[(.pointer none), (.int .u64 hash)] h1 (fun vv h2 => ∃ r : Int, vv = (.int .i64 r) ∧ (((decide (r < 0)) = true → (HWs h2 nb 0 4 ∧ ∀ h3, h3 = hsets h2 nb 0 [(.int .u64 0), (.int .u64 0), (.int .u64 0), (.int .u8 0)] → (∃ res_Hash res_At res_Version res_Hits : Int, hcell h3 nb 0 = some (.int .u64 res_Hash) ∧ hcell h3 nb 1 = some (.int .u64 res_At) ∧ hcell h3 nb 2 = some (.int .u64 res_Version) ∧ hcell h3 nb 3 = some (.int .u8 res_Hits) ∧ R (.tuple #[(.agg #[(.int .u64 res_Hash), (.int .u64 res_At), (.int .u64 res_Version), (.int .u8 res_Hits)]), (.bool false)]) h3))) ∧ ((decide (r < 0)) = false → False))))) :
    HC Try.prog 28 #[(.pointer none), (.int .u64 hash)] h R := by
  refine hc_of (args := [(.pointer none), (.int .u64 hash)]) Try.func28 rfl Try.ntmps28 (Nat.le_of_ble_eq_true rfl) ?_
  refine hx_seq ?_
  refine hx_region ?_
  refine hl_step rfl rfl (hn_alloc Ty.z31 ?_)
  intro nb h1 eb1 eh2
  replace H := H nb h1 eb1 eh2
  refine hl_val rfl rfl (v := (.bool false)) (hv_assign rfl) ?_
  refine hl_nil ?_
  refine seqQ_n ?_
  refine hx_seq ?_
  refine hx_region ?_
  refine hl_val rfl rfl (v := (.pointer none)) (hv_move rfl) ?_
  refine hl_val rfl rfl (v := (.int .u64 hash)) (hv_move rfl) ?_
  refine hl_step rfl rfl (hs_call Ty.cb50 (vs := [(.pointer none), (.int .u64 hash)]) rfl (HC.mono H ?_))
  rintro _ h2 ⟨r, rfl, H⟩
  refine hl_val rfl rfl (v := (.int .i64 r)) (hv_assign rfl) ?_
  refine hl_nil ?_
  refine seqQ_n ?_
  refine hx_seq ?_
  refine hx_seq ?_
  refine hx_region ?_
  refine hl_val rfl rfl (v := (.int .i64 r)) (hv_move rfl) ?_
  refine hl_val rfl rfl (v := (.bool (decide (r < 0)))) (hv_arith rfl rfl rfl) ?_
  refine hl_nil ?_
  refine seqQ_n ?_
  refine hx_cond (b := decide (r < 0)) rfl (fun hb9 => ?_) (fun hb9 => ?_)
  · replace H := H.1 hb9
    refine hx_seq ?_
    refine hx_region ?_
    refine hl_val rfl rfl (v := (.agg #[(.int .u64 0), (.int .u64 0), (.int .u64 0), (.int .u8 0)])) (hv_build (vs := []) (cs := #[(.int .u64 0), (.int .u64 0), (.int .u64 0), (.int .u8 0)]) Ty.z31 Ty.pl31 rfl (by kernel_rfl)) ?_
    obtain ⟨hw3, H⟩ := H
    refine hl_step rfl rfl (hn_stores (vs := [(.int .u64 0), (.int .u64 0), (.int .u64 0), (.int .u8 0)]) rfl rfl Ty.sz31 rfl hw3 ?_)
    intro h3 eh4
    replace H := H h3 eh4
    refine hl_val rfl rfl (v := (.bool false)) (hv_assign rfl) ?_
    refine hl_nil ?_
    refine seqQ_n ?_
    refine hx_ret ?_
    refine seqQ_ret ?_
    obtain ⟨res_Hash, res_At, res_Version, res_Hits, hc5, hc6, hc7, hc8, H⟩ := H
    exact endQ_ret _ (res_two Try.results28 (rv_cell (vs := [(.int .u64 res_Hash), (.int .u64 res_At), (.int .u64 res_Version), (.int .u8 res_Hits)]) Ty.agg31 Ty.sz31 rfl (hcells_cons hc5 (hcells_cons hc6 (hcells_cons hc7 (hcells_cons hc8 hcells_nil))))) (rv_tmp rfl)) H
  · replace H := H.2 hb9
    refine hx_skip ?_
    refine seqQ_n ?_
    refine hx_seq ?_
    refine hx_region ?_
    refine hl_val rfl rfl (v := (.pointer none)) (hv_move rfl) ?_
    exact H.elim

/-- (*cellar/table.Table).Remove -/
theorem f46_shn (hash : Int) (h : Heap) (R : Value → Heap → Prop)
    (H : (∀ nb h1, nb = Array.size h → h1 = Array.push h (.cells #[(.int .u64 0), (.int .u64 0), (.int .u64 0), (.int .u8 0)] 31) → HC Try.prog 50 #[(.pointer none), (.int .u64 hash)] h1 (fun vv h2 => ∃ r : Int, vv = (.int .i64 r) ∧ (((decide (r < 0)) = true → (HWs h2 nb 0 4 ∧ ∀ h3, h3 = hsets h2 nb 0 [(.int .u64 0), (.int .u64 0), (.int .u64 0), (.int .u8 0)] → (∃ res_Hash res_At res_Version res_Hits : Int, hcell h3 nb 0 = some (.int .u64 res_Hash) ∧ hcell h3 nb 1 = some (.int .u64 res_At) ∧ hcell h3 nb 2 = some (.int .u64 res_Version) ∧ hcell h3 nb 3 = some (.int .u8 res_Hits) ∧ R (.tuple #[(.agg #[(.int .u64 res_Hash), (.int .u64 res_At), (.int .u64 res_Version), (.int .u8 res_Hits)]), (.bool false)]) h3))) ∧ ((decide (r < 0)) = false → False))))) :
    HC Try.prog 46 #[(.pointer none), (.int .u64 hash)] h R := by
  refine hc_of (args := [(.pointer none), (.int .u64 hash)]) Try.func46 rfl Try.ntmps46 (Nat.le_of_ble_eq_true rfl) ?_
  refine hx_seq ?_
  refine hx_region ?_
  refine hl_step rfl rfl (hn_alloc Ty.z31 ?_)
  intro nb h1 eb1 eh2
  replace H := H nb h1 eb1 eh2
  refine hl_val rfl rfl (v := (.bool false)) (hv_assign rfl) ?_
  refine hl_nil ?_
  refine seqQ_n ?_
  refine hx_seq ?_
  refine hx_region ?_
  refine hl_val rfl rfl (v := (.pointer none)) (hv_move rfl) ?_
  refine hl_val rfl rfl (v := (.int .u64 hash)) (hv_move rfl) ?_
  refine hl_step rfl rfl (hs_call Ty.cb50 (vs := [(.pointer none), (.int .u64 hash)]) rfl (HC.mono H ?_))
  rintro _ h2 ⟨r, rfl, H⟩
  refine hl_val rfl rfl (v := (.int .i64 r)) (hv_assign rfl) ?_
  refine hl_nil ?_
  refine seqQ_n ?_
  refine hx_seq ?_
  refine hx_seq ?_
  refine hx_region ?_
  refine hl_val rfl rfl (v := (.int .i64 r)) (hv_move rfl) ?_
  refine hl_val rfl rfl (v := (.bool (decide (r < 0)))) (hv_arith rfl rfl rfl) ?_
  refine hl_nil ?_
  refine seqQ_n ?_
  refine hx_cond (b := decide (r < 0)) rfl (fun hb9 => ?_) (fun hb9 => ?_)
  · replace H := H.1 hb9
    refine hx_seq ?_
    refine hx_region ?_
    refine hl_val rfl rfl (v := (.agg #[(.int .u64 0), (.int .u64 0), (.int .u64 0), (.int .u8 0)])) (hv_build (vs := []) (cs := #[(.int .u64 0), (.int .u64 0), (.int .u64 0), (.int .u8 0)]) Ty.z31 Ty.pl31 rfl (by kernel_rfl)) ?_
    obtain ⟨hw3, H⟩ := H
    refine hl_step rfl rfl (hn_stores (vs := [(.int .u64 0), (.int .u64 0), (.int .u64 0), (.int .u8 0)]) rfl rfl Ty.sz31 rfl hw3 ?_)
    intro h3 eh4
    replace H := H h3 eh4
    refine hl_val rfl rfl (v := (.bool false)) (hv_assign rfl) ?_
    refine hl_nil ?_
    refine seqQ_n ?_
    refine hx_ret ?_
    refine seqQ_ret ?_
    obtain ⟨res_Hash, res_At, res_Version, res_Hits, hc5, hc6, hc7, hc8, H⟩ := H
    exact endQ_ret _ (res_two Try.results46 (rv_cell (vs := [(.int .u64 res_Hash), (.int .u64 res_At), (.int .u64 res_Version), (.int .u8 res_Hits)]) Ty.agg31 Ty.sz31 rfl (hcells_cons hc5 (hcells_cons hc6 (hcells_cons hc7 (hcells_cons hc8 hcells_nil))))) (rv_tmp rfl)) H
  · replace H := H.2 hb9
    refine hx_skip ?_
    refine seqQ_n ?_
    refine hx_seq ?_
    refine hx_region ?_
    refine hl_val rfl rfl (v := (.pointer none)) (hv_move rfl) ?_
    exact H.elim

/-- (*cellar/table.Table).Hit -/
theorem f52_shn (hash : Int) (h : Heap) (R : Value → Heap → Prop)
    (H : HC Try.prog 50 #[(.pointer none), (.int .u64 hash)] h (fun vv h1 => ∃ r : Int, vv = (.int .i64 r) ∧ (((decide (r < 0)) = true → R (.bool false) h1) ∧ ((decide (r < 0)) = false → (False ∧ R (.bool true) h1))))) :
    HC Try.prog 52 #[(.pointer none), (.int .u64 hash)] h R := by
  refine hc_of (args := [(.pointer none), (.int .u64 hash)]) Try.func52 rfl Try.ntmps52 (Nat.le_of_ble_eq_true rfl) ?_
  refine hx_seq ?_
  refine hx_region ?_
  refine hl_val rfl rfl (v := (.bool false)) (hv_assign rfl) ?_
  refine hl_nil ?_
  refine seqQ_n ?_
  refine hx_seq ?_
  refine hx_region ?_
  refine hl_val rfl rfl (v := (.pointer none)) (hv_move rfl) ?_
  refine hl_val rfl rfl (v := (.int .u64 hash)) (hv_move rfl) ?_
  refine hl_step rfl rfl (hs_call Ty.cb50 (vs := [(.pointer none), (.int .u64 hash)]) rfl (HC.mono H ?_))
  rintro _ h1 ⟨r, rfl, H⟩
  refine hl_val rfl rfl (v := (.int .i64 r)) (hv_assign rfl) ?_
  refine hl_nil ?_
  refine seqQ_n ?_
  refine hx_seq ?_
  refine hx_seq ?_
  refine hx_region ?_
  refine hl_val rfl rfl (v := (.int .i64 r)) (hv_move rfl) ?_
  refine hl_val rfl rfl (v := (.bool (decide (r < 0)))) (hv_arith rfl rfl rfl) ?_
  refine hl_nil ?_
  refine seqQ_n ?_
  refine hx_cond (b := decide (r < 0)) rfl (fun hb3 => ?_) (fun hb3 => ?_)
  · replace H := H.1 hb3
    refine hx_seq ?_
    refine hx_region ?_
    refine hl_val rfl rfl (v := (.bool false)) (hv_assign rfl) ?_
    refine hl_nil ?_
    refine seqQ_n ?_
    refine hx_ret ?_
    refine seqQ_ret ?_
    exact endQ_ret _ (res_one Try.results52 (rv_tmp rfl)) H
  · replace H := H.2 hb3
    refine hx_skip ?_
    refine seqQ_n ?_
    obtain ⟨Hx1, Hy2⟩ := H
    refine hx_cut (fun ρ h' => h1 = h' ∧ Has ρ []) ?_ ?_
    · have H := Hx1; clear Hx1 Hy2
      refine hx_seq ?_
      refine hx_region ?_
      refine hl_val rfl rfl (v := (.pointer none)) (hv_move rfl) ?_
      exact H.elim
    · have H := Hy2; clear Hx1 Hy2
      rintro ρ _ ⟨rfl, hH⟩
      refine hx_has _ hH ?_
      refine hx_seq ?_
      refine hx_region ?_
      refine hl_val rfl rfl (v := (.bool true)) (hv_assign rfl) ?_
      refine hl_nil ?_
      refine seqQ_n ?_
      refine hx_ret ?_
      exact endQ_ret _ (res_one Try.results52 (rv_tmp rfl)) H

/-- (*cellar/table.Table).All -/
theorem f45_shn  (h : Heap) (R : Value → Heap → Prop)
    (H : (∀ t h1, t = Array.size h → h1 = Array.push h (.cells #[(.pointer none)] 70) → R (.func (.func 55) #[] #[(ptr t 0)]) h1)) :
    HC Try.prog 45 #[(.pointer none)] h R := by
  refine hc_of (args := [(.pointer none)]) Try.func45 rfl Try.ntmps45 (Nat.le_of_ble_eq_true rfl) ?_
  refine hx_seq ?_
  refine hx_region ?_
  refine hl_step rfl rfl (hn_box (v := (.pointer none)) rfl ?_)
  intro t h1 eb1 eh2
  replace H := H t h1 eb1 eh2
  refine hl_val rfl rfl (v := .nilFunc) (hv_assign rfl) ?_
  refine hl_nil ?_
  refine seqQ_n ?_
  refine hx_seq ?_
  refine hx_region ?_
  refine hl_val rfl rfl (v := (.func (.func 55) #[] #[(ptr t 0)])) (hv_makeFunc (fv := []) (cv := [(ptr t 0)]) rfl rfl) ?_
  refine hl_val rfl rfl (v := (.func (.func 55) #[] #[(ptr t 0)])) (hv_assign rfl) ?_
  refine hl_nil ?_
  refine seqQ_n ?_
  refine hx_ret ?_
  exact endQ_ret _ (res_one Try.results45 (rv_tmp rfl)) H

end Go.Proofs.Ytkecmljalcfhoaa
