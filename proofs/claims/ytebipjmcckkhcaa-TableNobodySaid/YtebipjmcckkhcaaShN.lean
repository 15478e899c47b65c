/-
Shallow forms, written by gen.py (a program of this session) out of the print of the program.
-/
import Derived.Test.YtebipjmcckkhcaaMor
import Derived.Test.YtebipjmcckkhcaaProg
namespace Go.Proofs.Ytebipjmcckkhcaa
open Go
set_option maxRecDepth 100000
set_option maxHeartbeats 4000000

theorem Ty.agg29 : aggB Try.prog 29 = some false := by kernel_rfl
theorem Ty.agg31 : aggB Try.prog 31 = some true := by kernel_rfl
theorem Ty.agg35 : aggB Try.prog 35 = some false := by kernel_rfl
theorem Ty.cb13 : CallB Try.prog 13 := fun _ _ => Try.call13 _ _
theorem Ty.cb14 : CallB Try.prog 14 := fun _ _ => Try.call14 _ _
theorem Ty.cb15 : CallB Try.prog 15 := fun _ _ => Try.call15 _ _
theorem Ty.cb16 : CallB Try.prog 16 := fun _ _ => Try.call16 _ _
theorem Ty.cb17 : CallB Try.prog 17 := fun _ _ => Try.call17 _ _
theorem Ty.cb18 : CallB Try.prog 18 := fun _ _ => Try.call18 _ _
theorem Ty.cb19 : CallB Try.prog 19 := fun _ _ => Try.call19 _ _
theorem Ty.cb23 : CallB Try.prog 23 := fun _ _ => Try.call23 _ _
theorem Ty.cb24 : CallB Try.prog 24 := fun _ _ => Try.call24 _ _
theorem Ty.cb26 : CallB Try.prog 26 := fun _ _ => Try.call26 _ _
theorem Ty.cb28 : CallB Try.prog 28 := fun _ _ => Try.call28 _ _
theorem Ty.cb30 : CallB Try.prog 30 := fun _ _ => Try.call30 _ _
theorem Ty.cb31 : CallB Try.prog 31 := fun _ _ => Try.call31 _ _
theorem Ty.cb32 : CallB Try.prog 32 := fun _ _ => Try.call32 _ _
theorem Ty.cb34 : CallB Try.prog 34 := fun _ _ => Try.call34 _ _
theorem Ty.cb9 : CallB Try.prog 9 := fun _ _ => Try.call9 _ _
theorem Ty.fld31_0 : fldB Try.prog 31 0 = some 0 := by kernel_rfl
theorem Ty.mixed : Try.prog.follows .mixedOrders = true := by kernel_rfl
theorem Ty.pl31 : plB Try.prog 31 = some [(0, 1), (1, 1), (2, 1), (3, 1)] := by kernel_rfl
theorem Ty.se31 : seB Try.prog 31 = some [(29, 0), (29, 1), (29, 2), (5, 3)] := by kernel_rfl
theorem Ty.sz31 : szB Try.prog 31 = some 4 := by kernel_rfl
theorem Ty.sz35 : szB Try.prog 35 = some 1 := by kernel_rfl
theorem Ty.u35 : Try.prog.underlying 35 = some (.slice 31) := by kernel_rfl
theorem Ty.up24 : Try.prog.underlying 24 = some (.pointer 60) := by kernel_rfl
theorem Ty.z31 : zeroB Try.prog 31 (.agg #[(.int .u64 0), (.int .u64 0), (.int .u64 0), (.int .u8 0)]) := by unfold zeroB; kernel_rfl
theorem Ty.z35 : zeroB Try.prog 35 (.slice none 0 0) := by unfold zeroB; kernel_rfl

/-- (*cellar/table.Table).made -/
theorem f28_shn  (h : Heap) (R : Value → Heap → Prop)
    (H : R (.bool false) h) :
    HC Try.prog 28 #[(.pointer none)] h R := by
  refine hc_of (args := [(.pointer none)]) Try.func28 rfl Try.ntmps28 (Nat.le_of_ble_eq_true rfl) ?_
  refine hx_seq ?_
  refine hx_region ?_
  refine hl_val rfl rfl (v := (.bool false)) (hv_assign rfl) ?_
  refine hl_nil ?_
  refine seqQ_n ?_
  refine hx_seq ?_
  refine hx_region ?_
  refine hl_val rfl rfl (v := (.pointer none)) (hv_move rfl) ?_
  refine hl_val rfl rfl (v := (.bool false)) (hv_ptrNil Ty.up24 rfl rfl) ?_
  refine hl_val rfl rfl (v := (.bool false)) (hv_move rfl) ?_
  refine hl_no (wanted_n rfl rfl (c := false) rfl rfl) rfl ?_
  refine hl_no (wanted_n rfl rfl (c := false) rfl rfl) rfl ?_
  refine hl_no (wanted_n rfl rfl (c := false) rfl rfl) rfl ?_
  refine hl_no (wanted_n rfl rfl (c := false) rfl rfl) rfl ?_
  refine hl_no (wanted_n rfl rfl (c := false) rfl rfl) rfl ?_
  refine hl_no (wanted_n rfl rfl (c := false) rfl rfl) rfl ?_
  refine hl_val rfl rfl (v := (.bool false)) (hv_pick (t := false) rfl rfl) ?_
  refine hl_val rfl rfl (v := (.bool false)) (hv_assign rfl) ?_
  refine hl_nil ?_
  refine seqQ_n ?_
  refine hx_ret ?_
  exact endQ_ret _ (res_one Try.results28 (rv_tmp rfl)) H

/-- cellar/cellarlaw11.TableNobody -/
theorem f8_shn (o_Hash : Int) (o_At : Int) (o_Version : Int) (o_Hits : Int) (h : Heap) (R : Value → Heap → Prop)
    (H : (∀ o h1, o = Array.size h → h1 = Array.push h (.cells #[(.int .u64 o_Hash), (.int .u64 o_At), (.int .u64 o_Version), (.int .u8 o_Hits)] 31) → (∃ x_Hash x_At x_Version x_Hits : Int, hcell h1 o 0 = some (.int .u64 x_Hash) ∧ hcell h1 o 1 = some (.int .u64 x_At) ∧ hcell h1 o 2 = some (.int .u64 x_Version) ∧ hcell h1 o 3 = some (.int .u8 x_Hits) ∧ HC Try.prog 14 #[(.pointer none), (.agg #[(.int .u64 x_Hash), (.int .u64 x_At), (.int .u64 x_Version), (.int .u8 x_Hits)])] h1 (fun vv h2 => ∃ r0_Hash r0_At r0_Version r0_Hits : Int, ∃ r1 : Bool, ∃ r2 : Int, vv = (.tuple #[(.agg #[(.int .u64 r0_Hash), (.int .u64 r0_At), (.int .u64 r0_Version), (.int .u8 r0_Hits)]), (.bool r1), (.int .i64 r2)]) ∧ (∀ a h3, a = Array.size h2 → h3 = Array.push h2 (.cells #[(.int .u64 0), (.int .u64 0), (.int .u64 0), (.int .u8 0)] 31) → (HWs h3 a 0 4 ∧ ∀ h4, h4 = hsets h3 a 0 [(.int .u64 r0_Hash), (.int .u64 r0_At), (.int .u64 r0_Version), (.int .u8 r0_Hits)] → (∃ x : Int, hcell h4 o 0 = some (.int .u64 x) ∧ HC Try.prog 15 #[(.pointer none), (.int .u64 x)] h4 (fun vv h5 => ∃ r0_Hash_1 r0_At_1 r0_Version_1 r0_Hits_1 : Int, ∃ r1_1 : Bool, vv = (.tuple #[(.agg #[(.int .u64 r0_Hash_1), (.int .u64 r0_At_1), (.int .u64 r0_Version_1), (.int .u8 r0_Hits_1)]), (.bool r1_1)]) ∧ (∀ b h6, b = Array.size h5 → h6 = Array.push h5 (.cells #[(.int .u64 0), (.int .u64 0), (.int .u64 0), (.int .u8 0)] 31) → (HWs h6 b 0 4 ∧ ∀ h7, h7 = hsets h6 b 0 [(.int .u64 r0_Hash_1), (.int .u64 r0_At_1), (.int .u64 r0_Version_1), (.int .u8 r0_Hits_1)] → (∃ x_1 : Int, hcell h7 o 0 = some (.int .u64 x_1) ∧ HC Try.prog 16 #[(.pointer none), (.int .u64 x_1)] h7 (fun vv h8 => ∃ r0_Hash_2 r0_At_2 r0_Version_2 r0_Hits_2 : Int, ∃ r1_2 : Bool, vv = (.tuple #[(.agg #[(.int .u64 r0_Hash_2), (.int .u64 r0_At_2), (.int .u64 r0_Version_2), (.int .u8 r0_Hits_2)]), (.bool r1_2)]) ∧ (∀ c h9, c = Array.size h8 → h9 = Array.push h8 (.cells #[(.int .u64 0), (.int .u64 0), (.int .u64 0), (.int .u8 0)] 31) → (HWs h9 c 0 4 ∧ ∀ h10, h10 = hsets h9 c 0 [(.int .u64 r0_Hash_2), (.int .u64 r0_At_2), (.int .u64 r0_Version_2), (.int .u8 r0_Hits_2)] → (∃ A15 : Bool → Heap → Prop, HC Try.prog 9 #[] h10 (fun vv h12 => ∃ r : Bool, vv = (.bool r) ∧ ((r = true → (∃ x_Hash_1 x_At_1 x_Version_1 x_Hits_1 : Int, hcell h12 a 0 = some (.int .u64 x_Hash_1) ∧ hcell h12 a 1 = some (.int .u64 x_At_1) ∧ hcell h12 a 2 = some (.int .u64 x_Version_1) ∧ hcell h12 a 3 = some (.int .u8 x_Hits_1) ∧ ((((x_Hash_1 == 0 && (x_At_1 == 0 && (x_Version_1 == 0 && (x_Hits_1 == 0 && true))))) = true → (((!r1) = true → (((r2 == 6) = true → (∃ x_Hash_2 x_At_2 x_Version_2 x_Hits_2 : Int, hcell h12 b 0 = some (.int .u64 x_Hash_2) ∧ hcell h12 b 1 = some (.int .u64 x_At_2) ∧ hcell h12 b 2 = some (.int .u64 x_Version_2) ∧ hcell h12 b 3 = some (.int .u8 x_Hits_2) ∧ ((((x_Hash_2 == 0 && (x_At_2 == 0 && (x_Version_2 == 0 && (x_Hits_2 == 0 && true))))) = true → (((!r1_1) = true → (∃ x_Hash_3 x_At_3 x_Version_3 x_Hits_3 : Int, hcell h12 c 0 = some (.int .u64 x_Hash_3) ∧ hcell h12 c 1 = some (.int .u64 x_At_3) ∧ hcell h12 c 2 = some (.int .u64 x_Version_3) ∧ hcell h12 c 3 = some (.int .u8 x_Hits_3) ∧ ((((x_Hash_3 == 0 && (x_At_3 == 0 && (x_Version_3 == 0 && (x_Hits_3 == 0 && true))))) = true → (((!r1_2) = true → (∃ x_2 : Int, hcell h12 o 0 = some (.int .u64 x_2) ∧ HC Try.prog 17 #[(.pointer none), (.int .u64 x_2)] h12 (fun vv h13 => ∃ r_1 : Bool, vv = (.bool r_1) ∧ (((!r_1) = true → HC Try.prog 19 #[(.pointer none)] h13 (fun vv h14 => ∃ r_2 : Int, vv = (.int .i64 r_2) ∧ (((r_2 == 0) = true → HC Try.prog 26 #[(.pointer none)] h14 (fun vv h15 => ∃ r_3 : Int, vv = (.int .i64 r_3) ∧ (((r_3 == 0) = true → HC Try.prog 13 #[(.pointer none)] h15 (fun vv h16 => ∃ r_4 : Option Addr, ∃ r_n r_c : Nat, vv = (.slice r_4 r_n r_c) ∧ ((((r_n : Int) == 0) = true → HC Try.prog 18 #[(.pointer none)] h16 (fun vv h17 => ∃ r_5 : Option Addr, ∃ r_n_1 r_c_1 : Nat, vv = (.slice r_5 r_n_1 r_c_1) ∧ ((((r_n_1 : Int) == 0) = true → HC Try.prog 24 #[(.pointer none)] h17 (fun vv h18 => ∃ r_6 : Option Addr, vv = (.pointer r_6) ∧ (A15 r_6.isNone h18))) ∧ (((r_n_1 : Int) == 0) = false → (A15 false h17))))) ∧ (((r_n : Int) == 0) = false → (A15 false h16))))) ∧ ((r_3 == 0) = false → (A15 false h15))))) ∧ ((r_2 == 0) = false → (A15 false h14))))) ∧ ((!r_1) = false → (A15 false h13)))))) ∧ ((!r1_2) = false → (A15 false h12)))) ∧ (((x_Hash_3 == 0 && (x_At_3 == 0 && (x_Version_3 == 0 && (x_Hits_3 == 0 && true))))) = false → (A15 false h12))))) ∧ ((!r1_1) = false → (A15 false h12)))) ∧ (((x_Hash_2 == 0 && (x_At_2 == 0 && (x_Version_2 == 0 && (x_Hits_2 == 0 && true))))) = false → (A15 false h12))))) ∧ ((r2 == 6) = false → (A15 false h12)))) ∧ ((!r1) = false → (A15 false h12)))) ∧ (((x_Hash_1 == 0 && (x_At_1 == 0 && (x_Version_1 == 0 && (x_Hits_1 == 0 && true))))) = false → (A15 false h12))))) ∧ (r = false → (A15 false h12)))) ∧ (∀ (j : Bool) (h11 : Heap), A15 j h11 → R (.bool j) h11)))))))))))))))) :
    HC Try.prog 8 #[(.agg #[(.int .u64 o_Hash), (.int .u64 o_At), (.int .u64 o_Version), (.int .u8 o_Hits)])] h R := by
  refine hc_of (args := [(.agg #[(.int .u64 o_Hash), (.int .u64 o_At), (.int .u64 o_Version), (.int .u8 o_Hits)])]) Try.func8 rfl Try.ntmps8 (Nat.le_of_ble_eq_true rfl) ?_
  refine hx_seq ?_
  refine hx_region ?_
  refine hl_step rfl rfl (hn_box (v := (.agg #[(.int .u64 o_Hash), (.int .u64 o_At), (.int .u64 o_Version), (.int .u8 o_Hits)])) rfl ?_)
  intro o h1 eb1 eh2
  replace H := H o h1 eb1 eh2
  refine hl_val rfl rfl (v := (.bool false)) (hv_assign rfl) ?_
  refine hl_nil ?_
  refine seqQ_n ?_
  refine hx_seq ?_
  refine hx_region ?_
  refine hl_val rfl rfl (v := (.pointer none)) (hv_assign rfl) ?_
  refine hl_nil ?_
  refine seqQ_n ?_
  refine hx_seq ?_
  refine hx_region ?_
  refine hl_val rfl rfl (v := (.pointer none)) (hv_move rfl) ?_
  obtain ⟨x_Hash, x_At, x_Version, x_Hits, hc47, hc48, hc49, hc50, H⟩ := H
  refine hl_val rfl rfl (v := (.agg #[(.int .u64 x_Hash), (.int .u64 x_At), (.int .u64 x_Version), (.int .u8 x_Hits)])) (hv_loads (vs := [(.int .u64 x_Hash), (.int .u64 x_At), (.int .u64 x_Version), (.int .u8 x_Hits)]) Ty.agg31 Ty.sz31 rfl (hcells_cons hc47 (hcells_cons hc48 (hcells_cons hc49 (hcells_cons hc50 hcells_nil))))) ?_
  refine hl_step rfl rfl (hs_call Ty.cb14 (vs := [(.pointer none), (.agg #[(.int .u64 x_Hash), (.int .u64 x_At), (.int .u64 x_Version), (.int .u8 x_Hits)])]) rfl (HC.mono H ?_))
  rintro _ h2 ⟨r0_Hash, r0_At, r0_Version, r0_Hits, r1, r2, rfl, H⟩
  refine hl_val rfl rfl (v := (.tuple #[(.agg #[(.int .u64 r0_Hash), (.int .u64 r0_At), (.int .u64 r0_Version), (.int .u8 r0_Hits)]), (.bool r1), (.int .i64 r2)])) (hv_move rfl) ?_
  refine hl_val rfl rfl (v := (.agg #[(.int .u64 r0_Hash), (.int .u64 r0_At), (.int .u64 r0_Version), (.int .u8 r0_Hits)])) (hv_extract (vs := #[(.agg #[(.int .u64 r0_Hash), (.int .u64 r0_At), (.int .u64 r0_Version), (.int .u8 r0_Hits)]), (.bool r1), (.int .i64 r2)]) rfl rfl) ?_
  refine hl_val rfl rfl (v := (.bool r1)) (hv_extract (vs := #[(.agg #[(.int .u64 r0_Hash), (.int .u64 r0_At), (.int .u64 r0_Version), (.int .u8 r0_Hits)]), (.bool r1), (.int .i64 r2)]) rfl rfl) ?_
  refine hl_val rfl rfl (v := (.int .i64 r2)) (hv_extract (vs := #[(.agg #[(.int .u64 r0_Hash), (.int .u64 r0_At), (.int .u64 r0_Version), (.int .u8 r0_Hits)]), (.bool r1), (.int .i64 r2)]) rfl rfl) ?_
  refine hl_step rfl rfl (hn_alloc Ty.z31 ?_)
  intro a h3 eb3 eh4
  replace H := H a h3 eb3 eh4
  obtain ⟨hw5, H⟩ := H
  refine hl_step rfl rfl (hn_stores (vs := [(.int .u64 r0_Hash), (.int .u64 r0_At), (.int .u64 r0_Version), (.int .u8 r0_Hits)]) rfl rfl Ty.sz31 rfl hw5 ?_)
  intro h4 eh6
  replace H := H h4 eh6
  refine hl_val rfl rfl (v := (.bool r1)) (hv_assign rfl) ?_
  refine hl_val rfl rfl (v := (.int .i64 r2)) (hv_assign rfl) ?_
  refine hl_nil ?_
  refine seqQ_n ?_
  refine hx_seq ?_
  refine hx_region ?_
  refine hl_val rfl rfl (v := (.pointer none)) (hv_move rfl) ?_
  refine hl_val rfl rfl (v := (ptr o 0)) (hv_field Ty.fld31_0 (b := o) (o := 0) rfl) ?_
  obtain ⟨x, hc46, H⟩ := H
  refine hl_val rfl rfl (v := (.int .u64 x)) (hv_load Ty.agg29 rfl hc46) ?_
  refine hl_step rfl rfl (hs_call Ty.cb15 (vs := [(.pointer none), (.int .u64 x)]) rfl (HC.mono H ?_))
  rintro _ h5 ⟨r0_Hash_1, r0_At_1, r0_Version_1, r0_Hits_1, r1_1, rfl, H⟩
  refine hl_val rfl rfl (v := (.tuple #[(.agg #[(.int .u64 r0_Hash_1), (.int .u64 r0_At_1), (.int .u64 r0_Version_1), (.int .u8 r0_Hits_1)]), (.bool r1_1)])) (hv_move rfl) ?_
  refine hl_val rfl rfl (v := (.agg #[(.int .u64 r0_Hash_1), (.int .u64 r0_At_1), (.int .u64 r0_Version_1), (.int .u8 r0_Hits_1)])) (hv_extract (vs := #[(.agg #[(.int .u64 r0_Hash_1), (.int .u64 r0_At_1), (.int .u64 r0_Version_1), (.int .u8 r0_Hits_1)]), (.bool r1_1)]) rfl rfl) ?_
  refine hl_val rfl rfl (v := (.bool r1_1)) (hv_extract (vs := #[(.agg #[(.int .u64 r0_Hash_1), (.int .u64 r0_At_1), (.int .u64 r0_Version_1), (.int .u8 r0_Hits_1)]), (.bool r1_1)]) rfl rfl) ?_
  refine hl_step rfl rfl (hn_alloc Ty.z31 ?_)
  intro b h6 eb7 eh8
  replace H := H b h6 eb7 eh8
  obtain ⟨hw9, H⟩ := H
  refine hl_step rfl rfl (hn_stores (vs := [(.int .u64 r0_Hash_1), (.int .u64 r0_At_1), (.int .u64 r0_Version_1), (.int .u8 r0_Hits_1)]) rfl rfl Ty.sz31 rfl hw9 ?_)
  intro h7 eh10
  replace H := H h7 eh10
  refine hl_val rfl rfl (v := (.bool r1_1)) (hv_assign rfl) ?_
  refine hl_nil ?_
  refine seqQ_n ?_
  refine hx_seq ?_
  refine hx_region ?_
  refine hl_val rfl rfl (v := (.pointer none)) (hv_move rfl) ?_
  refine hl_val rfl rfl (v := (ptr o 0)) (hv_field Ty.fld31_0 (b := o) (o := 0) rfl) ?_
  obtain ⟨x_1, hc45, H⟩ := H
  refine hl_val rfl rfl (v := (.int .u64 x_1)) (hv_load Ty.agg29 rfl hc45) ?_
  refine hl_step rfl rfl (hs_call Ty.cb16 (vs := [(.pointer none), (.int .u64 x_1)]) rfl (HC.mono H ?_))
  rintro _ h8 ⟨r0_Hash_2, r0_At_2, r0_Version_2, r0_Hits_2, r1_2, rfl, H⟩
  refine hl_val rfl rfl (v := (.tuple #[(.agg #[(.int .u64 r0_Hash_2), (.int .u64 r0_At_2), (.int .u64 r0_Version_2), (.int .u8 r0_Hits_2)]), (.bool r1_2)])) (hv_move rfl) ?_
  refine hl_val rfl rfl (v := (.agg #[(.int .u64 r0_Hash_2), (.int .u64 r0_At_2), (.int .u64 r0_Version_2), (.int .u8 r0_Hits_2)])) (hv_extract (vs := #[(.agg #[(.int .u64 r0_Hash_2), (.int .u64 r0_At_2), (.int .u64 r0_Version_2), (.int .u8 r0_Hits_2)]), (.bool r1_2)]) rfl rfl) ?_
  refine hl_val rfl rfl (v := (.bool r1_2)) (hv_extract (vs := #[(.agg #[(.int .u64 r0_Hash_2), (.int .u64 r0_At_2), (.int .u64 r0_Version_2), (.int .u8 r0_Hits_2)]), (.bool r1_2)]) rfl rfl) ?_
  refine hl_step rfl rfl (hn_alloc Ty.z31 ?_)
  intro c h9 eb11 eh12
  replace H := H c h9 eb11 eh12
  obtain ⟨hw13, H⟩ := H
  refine hl_step rfl rfl (hn_stores (vs := [(.int .u64 r0_Hash_2), (.int .u64 r0_At_2), (.int .u64 r0_Version_2), (.int .u8 r0_Hits_2)]) rfl rfl Ty.sz31 rfl hw13 ?_)
  intro h10 eh14
  replace H := H h10 eh14
  refine hl_val rfl rfl (v := (.bool r1_2)) (hv_assign rfl) ?_
  refine hl_nil ?_
  refine seqQ_n ?_
  obtain ⟨A15, Hx42, Hy43⟩ := H
  refine hx_cut (fun ρ h' => ∃ j : Bool, A15 j h' ∧ Has ρ [(2, (.bool j))]) ?_ ?_
  · have H := Hx42; clear Hx42 Hy43
    refine hx_region ?_
    refine hl_step rfl rfl (hs_call Ty.cb9 (vs := []) rfl (HC.mono H ?_))
    rintro _ h12 ⟨r, rfl, H⟩
    refine hl_val rfl rfl (v := (.bool r)) (hv_move rfl) ?_
    rcases bool_or (r) with hg16 | hg16
    · replace H := H.1 hg16
      obtain ⟨x_Hash_1, x_At_1, x_Version_1, x_Hits_1, hc38, hc39, hc40, hc41, H⟩ := H
      refine hl_yes (wanted_y rfl rfl rfl hg16) rfl (HStep.of_val (v := (.agg #[(.int .u64 x_Hash_1), (.int .u64 x_At_1), (.int .u64 x_Version_1), (.int .u8 x_Hits_1)])) (hv_loads (vs := [(.int .u64 x_Hash_1), (.int .u64 x_At_1), (.int .u64 x_Version_1), (.int .u8 x_Hits_1)]) Ty.agg31 Ty.sz31 rfl (hcells_cons hc38 (hcells_cons hc39 (hcells_cons hc40 (hcells_cons hc41 hcells_nil))))) ?_)
      refine hl_yes (wanted_y rfl rfl rfl hg16) rfl (HStep.of_val (v := (.agg #[(.int .u64 0), (.int .u64 0), (.int .u64 0), (.int .u8 0)])) (hv_build (vs := []) (cs := #[(.int .u64 0), (.int .u64 0), (.int .u64 0), (.int .u8 0)]) Ty.z31 Ty.pl31 rfl (by kernel_rfl)) ?_)
      refine hl_yes (wanted_y rfl rfl rfl hg16) rfl (HStep.of_val (v := (.bool ((x_Hash_1 == 0 && (x_At_1 == 0 && (x_Version_1 == 0 && (x_Hits_1 == 0 && true))))))) (hv_structEq (xs := [(.int .u64 x_Hash_1), (.int .u64 x_At_1), (.int .u64 x_Version_1), (.int .u8 x_Hits_1)]) (ys := [(.int .u64 0), (.int .u64 0), (.int .u64 0), (.int .u8 0)]) (b := (x_Hash_1 == 0 && (x_At_1 == 0 && (x_Version_1 == 0 && (x_Hits_1 == 0 && true))))) Ty.se31 rfl rfl (by kernel_rfl) rfl) ?_)
      refine hl_val rfl rfl (v := (.bool ((x_Hash_1 == 0 && (x_At_1 == 0 && (x_Version_1 == 0 && (x_Hits_1 == 0 && true))))))) (hv_pick_t rfl hg16 rfl) ?_
      refine hl_val rfl rfl (v := (.bool ((x_Hash_1 == 0 && (x_At_1 == 0 && (x_Version_1 == 0 && (x_Hits_1 == 0 && true))))))) (hv_move rfl) ?_
      rcases bool_or (((x_Hash_1 == 0 && (x_At_1 == 0 && (x_Version_1 == 0 && (x_Hits_1 == 0 && true)))))) with hg17 | hg17
      · replace H := H.1 hg17
        refine hl_yes (wanted_y rfl rfl rfl hg17) rfl (HStep.of_val (v := (.bool r1)) (hv_move rfl) ?_)
        refine hl_yes (wanted_y rfl rfl rfl hg17) rfl (HStep.of_val (v := (.bool (!r1))) (hv_not (b := r1) rfl) ?_)
        refine hl_val rfl rfl (v := (.bool (!r1))) (hv_pick_t rfl hg17 rfl) ?_
        refine hl_val rfl rfl (v := (.bool (!r1))) (hv_move rfl) ?_
        rcases bool_or (!r1) with hg18 | hg18
        · replace H := H.1 hg18
          refine hl_yes (wanted_y rfl rfl rfl hg18) rfl (HStep.of_val (v := (.int .i64 r2)) (hv_move rfl) ?_)
          refine hl_yes (wanted_y rfl rfl rfl hg18) rfl (HStep.of_val (v := (.bool (r2 == 6))) (hv_arith rfl rfl rfl) ?_)
          refine hl_val rfl rfl (v := (.bool (r2 == 6))) (hv_pick_t rfl hg18 rfl) ?_
          refine hl_val rfl rfl (v := (.bool (r2 == 6))) (hv_move rfl) ?_
          rcases bool_or (r2 == 6) with hg19 | hg19
          · replace H := H.1 hg19
            obtain ⟨x_Hash_2, x_At_2, x_Version_2, x_Hits_2, hc34, hc35, hc36, hc37, H⟩ := H
            refine hl_yes (wanted_y rfl rfl rfl hg19) rfl (HStep.of_val (v := (.agg #[(.int .u64 x_Hash_2), (.int .u64 x_At_2), (.int .u64 x_Version_2), (.int .u8 x_Hits_2)])) (hv_loads (vs := [(.int .u64 x_Hash_2), (.int .u64 x_At_2), (.int .u64 x_Version_2), (.int .u8 x_Hits_2)]) Ty.agg31 Ty.sz31 rfl (hcells_cons hc34 (hcells_cons hc35 (hcells_cons hc36 (hcells_cons hc37 hcells_nil))))) ?_)
            refine hl_yes (wanted_y rfl rfl rfl hg19) rfl (HStep.of_val (v := (.agg #[(.int .u64 0), (.int .u64 0), (.int .u64 0), (.int .u8 0)])) (hv_build (vs := []) (cs := #[(.int .u64 0), (.int .u64 0), (.int .u64 0), (.int .u8 0)]) Ty.z31 Ty.pl31 rfl (by kernel_rfl)) ?_)
            refine hl_yes (wanted_y rfl rfl rfl hg19) rfl (HStep.of_val (v := (.bool ((x_Hash_2 == 0 && (x_At_2 == 0 && (x_Version_2 == 0 && (x_Hits_2 == 0 && true))))))) (hv_structEq (xs := [(.int .u64 x_Hash_2), (.int .u64 x_At_2), (.int .u64 x_Version_2), (.int .u8 x_Hits_2)]) (ys := [(.int .u64 0), (.int .u64 0), (.int .u64 0), (.int .u8 0)]) (b := (x_Hash_2 == 0 && (x_At_2 == 0 && (x_Version_2 == 0 && (x_Hits_2 == 0 && true))))) Ty.se31 rfl rfl (by kernel_rfl) rfl) ?_)
            refine hl_val rfl rfl (v := (.bool ((x_Hash_2 == 0 && (x_At_2 == 0 && (x_Version_2 == 0 && (x_Hits_2 == 0 && true))))))) (hv_pick_t rfl hg19 rfl) ?_
            refine hl_val rfl rfl (v := (.bool ((x_Hash_2 == 0 && (x_At_2 == 0 && (x_Version_2 == 0 && (x_Hits_2 == 0 && true))))))) (hv_move rfl) ?_
            rcases bool_or (((x_Hash_2 == 0 && (x_At_2 == 0 && (x_Version_2 == 0 && (x_Hits_2 == 0 && true)))))) with hg20 | hg20
            · replace H := H.1 hg20
              refine hl_yes (wanted_y rfl rfl rfl hg20) rfl (HStep.of_val (v := (.bool r1_1)) (hv_move rfl) ?_)
              refine hl_yes (wanted_y rfl rfl rfl hg20) rfl (HStep.of_val (v := (.bool (!r1_1))) (hv_not (b := r1_1) rfl) ?_)
              refine hl_val rfl rfl (v := (.bool (!r1_1))) (hv_pick_t rfl hg20 rfl) ?_
              refine hl_val rfl rfl (v := (.bool (!r1_1))) (hv_move rfl) ?_
              rcases bool_or (!r1_1) with hg21 | hg21
              · replace H := H.1 hg21
                obtain ⟨x_Hash_3, x_At_3, x_Version_3, x_Hits_3, hc30, hc31, hc32, hc33, H⟩ := H
                refine hl_yes (wanted_y rfl rfl rfl hg21) rfl (HStep.of_val (v := (.agg #[(.int .u64 x_Hash_3), (.int .u64 x_At_3), (.int .u64 x_Version_3), (.int .u8 x_Hits_3)])) (hv_loads (vs := [(.int .u64 x_Hash_3), (.int .u64 x_At_3), (.int .u64 x_Version_3), (.int .u8 x_Hits_3)]) Ty.agg31 Ty.sz31 rfl (hcells_cons hc30 (hcells_cons hc31 (hcells_cons hc32 (hcells_cons hc33 hcells_nil))))) ?_)
                refine hl_yes (wanted_y rfl rfl rfl hg21) rfl (HStep.of_val (v := (.agg #[(.int .u64 0), (.int .u64 0), (.int .u64 0), (.int .u8 0)])) (hv_build (vs := []) (cs := #[(.int .u64 0), (.int .u64 0), (.int .u64 0), (.int .u8 0)]) Ty.z31 Ty.pl31 rfl (by kernel_rfl)) ?_)
                refine hl_yes (wanted_y rfl rfl rfl hg21) rfl (HStep.of_val (v := (.bool ((x_Hash_3 == 0 && (x_At_3 == 0 && (x_Version_3 == 0 && (x_Hits_3 == 0 && true))))))) (hv_structEq (xs := [(.int .u64 x_Hash_3), (.int .u64 x_At_3), (.int .u64 x_Version_3), (.int .u8 x_Hits_3)]) (ys := [(.int .u64 0), (.int .u64 0), (.int .u64 0), (.int .u8 0)]) (b := (x_Hash_3 == 0 && (x_At_3 == 0 && (x_Version_3 == 0 && (x_Hits_3 == 0 && true))))) Ty.se31 rfl rfl (by kernel_rfl) rfl) ?_)
                refine hl_val rfl rfl (v := (.bool ((x_Hash_3 == 0 && (x_At_3 == 0 && (x_Version_3 == 0 && (x_Hits_3 == 0 && true))))))) (hv_pick_t rfl hg21 rfl) ?_
                refine hl_val rfl rfl (v := (.bool ((x_Hash_3 == 0 && (x_At_3 == 0 && (x_Version_3 == 0 && (x_Hits_3 == 0 && true))))))) (hv_move rfl) ?_
                rcases bool_or (((x_Hash_3 == 0 && (x_At_3 == 0 && (x_Version_3 == 0 && (x_Hits_3 == 0 && true)))))) with hg22 | hg22
                · replace H := H.1 hg22
                  refine hl_yes (wanted_y rfl rfl rfl hg22) rfl (HStep.of_val (v := (.bool r1_2)) (hv_move rfl) ?_)
                  refine hl_yes (wanted_y rfl rfl rfl hg22) rfl (HStep.of_val (v := (.bool (!r1_2))) (hv_not (b := r1_2) rfl) ?_)
                  refine hl_val rfl rfl (v := (.bool (!r1_2))) (hv_pick_t rfl hg22 rfl) ?_
                  refine hl_val rfl rfl (v := (.bool (!r1_2))) (hv_move rfl) ?_
                  rcases bool_or (!r1_2) with hg23 | hg23
                  · replace H := H.1 hg23
                    refine hl_yes (wanted_y rfl rfl rfl hg23) rfl (HStep.of_val (v := (.pointer none)) (hv_move rfl) ?_)
                    refine hl_yes (wanted_y rfl rfl rfl hg23) rfl (HStep.of_val (v := (ptr o 0)) (hv_field Ty.fld31_0 (b := o) (o := 0) rfl) ?_)
                    obtain ⟨x_2, hc29, H⟩ := H
                    refine hl_yes (wanted_y rfl rfl rfl hg23) rfl (HStep.of_val (v := (.int .u64 x_2)) (hv_load Ty.agg29 rfl hc29) ?_)
                    refine hl_yes (wanted_y rfl rfl rfl hg23) rfl (hs_call Ty.cb17 (vs := [(.pointer none), (.int .u64 x_2)]) rfl (HC.mono H ?_))
                    rintro _ h13 ⟨r_1, rfl, H⟩
                    refine hl_yes (wanted_y rfl rfl rfl hg23) rfl (HStep.of_val (v := (.bool (!r_1))) (hv_not (b := r_1) rfl) ?_)
                    refine hl_val rfl rfl (v := (.bool (!r_1))) (hv_pick_t rfl hg23 rfl) ?_
                    refine hl_val rfl rfl (v := (.bool (!r_1))) (hv_move rfl) ?_
                    rcases bool_or (!r_1) with hg24 | hg24
                    · replace H := H.1 hg24
                      refine hl_yes (wanted_y rfl rfl rfl hg24) rfl (HStep.of_val (v := (.pointer none)) (hv_move rfl) ?_)
                      refine hl_yes (wanted_y rfl rfl rfl hg24) rfl (hs_call Ty.cb19 (vs := [(.pointer none)]) rfl (HC.mono H ?_))
                      rintro _ h14 ⟨r_2, rfl, H⟩
                      refine hl_yes (wanted_y rfl rfl rfl hg24) rfl (HStep.of_val (v := (.bool (r_2 == 0))) (hv_arith rfl rfl rfl) ?_)
                      refine hl_val rfl rfl (v := (.bool (r_2 == 0))) (hv_pick_t rfl hg24 rfl) ?_
                      refine hl_val rfl rfl (v := (.bool (r_2 == 0))) (hv_move rfl) ?_
                      rcases bool_or (r_2 == 0) with hg25 | hg25
                      · replace H := H.1 hg25
                        refine hl_yes (wanted_y rfl rfl rfl hg25) rfl (HStep.of_val (v := (.pointer none)) (hv_move rfl) ?_)
                        refine hl_yes (wanted_y rfl rfl rfl hg25) rfl (hs_call Ty.cb26 (vs := [(.pointer none)]) rfl (HC.mono H ?_))
                        rintro _ h15 ⟨r_3, rfl, H⟩
                        refine hl_yes (wanted_y rfl rfl rfl hg25) rfl (HStep.of_val (v := (.bool (r_3 == 0))) (hv_arith rfl rfl rfl) ?_)
                        refine hl_val rfl rfl (v := (.bool (r_3 == 0))) (hv_pick_t rfl hg25 rfl) ?_
                        refine hl_val rfl rfl (v := (.bool (r_3 == 0))) (hv_move rfl) ?_
                        rcases bool_or (r_3 == 0) with hg26 | hg26
                        · replace H := H.1 hg26
                          refine hl_yes (wanted_y rfl rfl rfl hg26) rfl (HStep.of_val (v := (.pointer none)) (hv_move rfl) ?_)
                          refine hl_yes (wanted_y rfl rfl rfl hg26) rfl (hs_call Ty.cb13 (vs := [(.pointer none)]) rfl (HC.mono H ?_))
                          rintro _ h16 ⟨r_4, r_n, r_c, rfl, H⟩
                          refine hl_yes (wanted_y rfl rfl rfl hg26) rfl (HStep.of_val (v := (.int .i64 (r_n : Int))) (hv_len (n := r_n) Ty.u35 rfl) ?_)
                          refine hl_yes (wanted_y rfl rfl rfl hg26) rfl (HStep.of_val (v := (.bool ((r_n : Int) == 0))) (hv_arith rfl rfl rfl) ?_)
                          refine hl_val rfl rfl (v := (.bool ((r_n : Int) == 0))) (hv_pick_t rfl hg26 rfl) ?_
                          refine hl_val rfl rfl (v := (.bool ((r_n : Int) == 0))) (hv_move rfl) ?_
                          rcases bool_or ((r_n : Int) == 0) with hg27 | hg27
                          · replace H := H.1 hg27
                            refine hl_yes (wanted_y rfl rfl rfl hg27) rfl (HStep.of_val (v := (.pointer none)) (hv_move rfl) ?_)
                            refine hl_yes (wanted_y rfl rfl rfl hg27) rfl (hs_call Ty.cb18 (vs := [(.pointer none)]) rfl (HC.mono H ?_))
                            rintro _ h17 ⟨r_5, r_n_1, r_c_1, rfl, H⟩
                            refine hl_yes (wanted_y rfl rfl rfl hg27) rfl (HStep.of_val (v := (.int .i64 (r_n_1 : Int))) (hv_len (n := r_n_1) Ty.u35 rfl) ?_)
                            refine hl_yes (wanted_y rfl rfl rfl hg27) rfl (HStep.of_val (v := (.bool ((r_n_1 : Int) == 0))) (hv_arith rfl rfl rfl) ?_)
                            refine hl_val rfl rfl (v := (.bool ((r_n_1 : Int) == 0))) (hv_pick_t rfl hg27 rfl) ?_
                            refine hl_val rfl rfl (v := (.bool ((r_n_1 : Int) == 0))) (hv_move rfl) ?_
                            rcases bool_or ((r_n_1 : Int) == 0) with hg28 | hg28
                            · replace H := H.1 hg28
                              refine hl_yes (wanted_y rfl rfl rfl hg28) rfl (HStep.of_val (v := (.pointer none)) (hv_move rfl) ?_)
                              refine hl_yes (wanted_y rfl rfl rfl hg28) rfl (hs_call Ty.cb24 (vs := [(.pointer none)]) rfl (HC.mono H ?_))
                              rintro _ h18 ⟨r_6, rfl, H⟩
                              refine hl_yes (wanted_y rfl rfl rfl hg28) rfl (HStep.of_val (v := (.bool r_6.isNone)) (hv_ptrNil Ty.up24 rfl rfl) ?_)
                              refine hl_val rfl rfl (v := (.bool r_6.isNone)) (hv_pick_t rfl hg28 rfl) ?_
                              refine hl_val rfl rfl (v := (.bool r_6.isNone)) (hv_assign rfl) ?_
                              refine hl_nil ?_
                              refine seqQ_n ?_
                              exact ⟨_, H, (has_cons rfl has_nil)⟩
                            · replace H := H.2 hg28
                              refine hl_no (wanted_n rfl rfl rfl hg28) rfl ?_
                              refine hl_no (wanted_n rfl rfl rfl hg28) rfl ?_
                              refine hl_no (wanted_n rfl rfl rfl hg28) rfl ?_
                              refine hl_val rfl rfl (v := (.bool false)) (hv_pick_f rfl hg28 rfl) ?_
                              refine hl_val rfl rfl (v := (.bool false)) (hv_assign rfl) ?_
                              refine hl_nil ?_
                              refine seqQ_n ?_
                              exact ⟨_, H, (has_cons rfl has_nil)⟩
                          · replace H := H.2 hg27
                            refine hl_no (wanted_n rfl rfl rfl hg27) rfl ?_
                            refine hl_no (wanted_n rfl rfl rfl hg27) rfl ?_
                            refine hl_no (wanted_n rfl rfl rfl hg27) rfl ?_
                            refine hl_no (wanted_n rfl rfl rfl hg27) rfl ?_
                            refine hl_val rfl rfl (v := (.bool false)) (hv_pick_f rfl hg27 rfl) ?_
                            refine hl_val rfl rfl (v := (.bool false)) (hv_move rfl) ?_
                            refine hl_no (wanted_n rfl rfl (c := false) rfl rfl) rfl ?_
                            refine hl_no (wanted_n rfl rfl (c := false) rfl rfl) rfl ?_
                            refine hl_no (wanted_n rfl rfl (c := false) rfl rfl) rfl ?_
                            refine hl_val rfl rfl (v := (.bool false)) (hv_pick (t := false) rfl rfl) ?_
                            refine hl_val rfl rfl (v := (.bool false)) (hv_assign rfl) ?_
                            refine hl_nil ?_
                            refine seqQ_n ?_
                            exact ⟨_, H, (has_cons rfl has_nil)⟩
                        · replace H := H.2 hg26
                          refine hl_no (wanted_n rfl rfl rfl hg26) rfl ?_
                          refine hl_no (wanted_n rfl rfl rfl hg26) rfl ?_
                          refine hl_no (wanted_n rfl rfl rfl hg26) rfl ?_
                          refine hl_no (wanted_n rfl rfl rfl hg26) rfl ?_
                          refine hl_val rfl rfl (v := (.bool false)) (hv_pick_f rfl hg26 rfl) ?_
                          refine hl_val rfl rfl (v := (.bool false)) (hv_move rfl) ?_
                          refine hl_no (wanted_n rfl rfl (c := false) rfl rfl) rfl ?_
                          refine hl_no (wanted_n rfl rfl (c := false) rfl rfl) rfl ?_
                          refine hl_no (wanted_n rfl rfl (c := false) rfl rfl) rfl ?_
                          refine hl_no (wanted_n rfl rfl (c := false) rfl rfl) rfl ?_
                          refine hl_val rfl rfl (v := (.bool false)) (hv_pick (t := false) rfl rfl) ?_
                          refine hl_val rfl rfl (v := (.bool false)) (hv_move rfl) ?_
                          refine hl_no (wanted_n rfl rfl (c := false) rfl rfl) rfl ?_
                          refine hl_no (wanted_n rfl rfl (c := false) rfl rfl) rfl ?_
                          refine hl_no (wanted_n rfl rfl (c := false) rfl rfl) rfl ?_
                          refine hl_val rfl rfl (v := (.bool false)) (hv_pick (t := false) rfl rfl) ?_
                          refine hl_val rfl rfl (v := (.bool false)) (hv_assign rfl) ?_
                          refine hl_nil ?_
                          refine seqQ_n ?_
                          exact ⟨_, H, (has_cons rfl has_nil)⟩
                      · replace H := H.2 hg25
                        refine hl_no (wanted_n rfl rfl rfl hg25) rfl ?_
                        refine hl_no (wanted_n rfl rfl rfl hg25) rfl ?_
                        refine hl_no (wanted_n rfl rfl rfl hg25) rfl ?_
                        refine hl_val rfl rfl (v := (.bool false)) (hv_pick_f rfl hg25 rfl) ?_
                        refine hl_val rfl rfl (v := (.bool false)) (hv_move rfl) ?_
                        refine hl_no (wanted_n rfl rfl (c := false) rfl rfl) rfl ?_
                        refine hl_no (wanted_n rfl rfl (c := false) rfl rfl) rfl ?_
                        refine hl_no (wanted_n rfl rfl (c := false) rfl rfl) rfl ?_
                        refine hl_no (wanted_n rfl rfl (c := false) rfl rfl) rfl ?_
                        refine hl_val rfl rfl (v := (.bool false)) (hv_pick (t := false) rfl rfl) ?_
                        refine hl_val rfl rfl (v := (.bool false)) (hv_move rfl) ?_
                        refine hl_no (wanted_n rfl rfl (c := false) rfl rfl) rfl ?_
                        refine hl_no (wanted_n rfl rfl (c := false) rfl rfl) rfl ?_
                        refine hl_no (wanted_n rfl rfl (c := false) rfl rfl) rfl ?_
                        refine hl_no (wanted_n rfl rfl (c := false) rfl rfl) rfl ?_
                        refine hl_val rfl rfl (v := (.bool false)) (hv_pick (t := false) rfl rfl) ?_
                        refine hl_val rfl rfl (v := (.bool false)) (hv_move rfl) ?_
                        refine hl_no (wanted_n rfl rfl (c := false) rfl rfl) rfl ?_
                        refine hl_no (wanted_n rfl rfl (c := false) rfl rfl) rfl ?_
                        refine hl_no (wanted_n rfl rfl (c := false) rfl rfl) rfl ?_
                        refine hl_val rfl rfl (v := (.bool false)) (hv_pick (t := false) rfl rfl) ?_
                        refine hl_val rfl rfl (v := (.bool false)) (hv_assign rfl) ?_
                        refine hl_nil ?_
                        refine seqQ_n ?_
                        exact ⟨_, H, (has_cons rfl has_nil)⟩
                    · replace H := H.2 hg24
                      refine hl_no (wanted_n rfl rfl rfl hg24) rfl ?_
                      refine hl_no (wanted_n rfl rfl rfl hg24) rfl ?_
                      refine hl_no (wanted_n rfl rfl rfl hg24) rfl ?_
                      refine hl_val rfl rfl (v := (.bool false)) (hv_pick_f rfl hg24 rfl) ?_
                      refine hl_val rfl rfl (v := (.bool false)) (hv_move rfl) ?_
                      refine hl_no (wanted_n rfl rfl (c := false) rfl rfl) rfl ?_
                      refine hl_no (wanted_n rfl rfl (c := false) rfl rfl) rfl ?_
                      refine hl_no (wanted_n rfl rfl (c := false) rfl rfl) rfl ?_
                      refine hl_val rfl rfl (v := (.bool false)) (hv_pick (t := false) rfl rfl) ?_
                      refine hl_val rfl rfl (v := (.bool false)) (hv_move rfl) ?_
                      refine hl_no (wanted_n rfl rfl (c := false) rfl rfl) rfl ?_
                      refine hl_no (wanted_n rfl rfl (c := false) rfl rfl) rfl ?_
                      refine hl_no (wanted_n rfl rfl (c := false) rfl rfl) rfl ?_
                      refine hl_no (wanted_n rfl rfl (c := false) rfl rfl) rfl ?_
                      refine hl_val rfl rfl (v := (.bool false)) (hv_pick (t := false) rfl rfl) ?_
                      refine hl_val rfl rfl (v := (.bool false)) (hv_move rfl) ?_
                      refine hl_no (wanted_n rfl rfl (c := false) rfl rfl) rfl ?_
                      refine hl_no (wanted_n rfl rfl (c := false) rfl rfl) rfl ?_
                      refine hl_no (wanted_n rfl rfl (c := false) rfl rfl) rfl ?_
                      refine hl_no (wanted_n rfl rfl (c := false) rfl rfl) rfl ?_
                      refine hl_val rfl rfl (v := (.bool false)) (hv_pick (t := false) rfl rfl) ?_
                      refine hl_val rfl rfl (v := (.bool false)) (hv_move rfl) ?_
                      refine hl_no (wanted_n rfl rfl (c := false) rfl rfl) rfl ?_
                      refine hl_no (wanted_n rfl rfl (c := false) rfl rfl) rfl ?_
                      refine hl_no (wanted_n rfl rfl (c := false) rfl rfl) rfl ?_
                      refine hl_val rfl rfl (v := (.bool false)) (hv_pick (t := false) rfl rfl) ?_
                      refine hl_val rfl rfl (v := (.bool false)) (hv_assign rfl) ?_
                      refine hl_nil ?_
                      refine seqQ_n ?_
                      exact ⟨_, H, (has_cons rfl has_nil)⟩
                  · replace H := H.2 hg23
                    refine hl_no (wanted_n rfl rfl rfl hg23) rfl ?_
                    refine hl_no (wanted_n rfl rfl rfl hg23) rfl ?_
                    refine hl_no (wanted_n rfl rfl rfl hg23) rfl ?_
                    refine hl_no (wanted_n rfl rfl rfl hg23) rfl ?_
                    refine hl_no (wanted_n rfl rfl rfl hg23) rfl ?_
                    refine hl_val rfl rfl (v := (.bool false)) (hv_pick_f rfl hg23 rfl) ?_
                    refine hl_val rfl rfl (v := (.bool false)) (hv_move rfl) ?_
                    refine hl_no (wanted_n rfl rfl (c := false) rfl rfl) rfl ?_
                    refine hl_no (wanted_n rfl rfl (c := false) rfl rfl) rfl ?_
                    refine hl_no (wanted_n rfl rfl (c := false) rfl rfl) rfl ?_
                    refine hl_val rfl rfl (v := (.bool false)) (hv_pick (t := false) rfl rfl) ?_
                    refine hl_val rfl rfl (v := (.bool false)) (hv_move rfl) ?_
                    refine hl_no (wanted_n rfl rfl (c := false) rfl rfl) rfl ?_
                    refine hl_no (wanted_n rfl rfl (c := false) rfl rfl) rfl ?_
                    refine hl_no (wanted_n rfl rfl (c := false) rfl rfl) rfl ?_
                    refine hl_val rfl rfl (v := (.bool false)) (hv_pick (t := false) rfl rfl) ?_
                    refine hl_val rfl rfl (v := (.bool false)) (hv_move rfl) ?_
                    refine hl_no (wanted_n rfl rfl (c := false) rfl rfl) rfl ?_
                    refine hl_no (wanted_n rfl rfl (c := false) rfl rfl) rfl ?_
                    refine hl_no (wanted_n rfl rfl (c := false) rfl rfl) rfl ?_
                    refine hl_no (wanted_n rfl rfl (c := false) rfl rfl) rfl ?_
                    refine hl_val rfl rfl (v := (.bool false)) (hv_pick (t := false) rfl rfl) ?_
                    refine hl_val rfl rfl (v := (.bool false)) (hv_move rfl) ?_
                    refine hl_no (wanted_n rfl rfl (c := false) rfl rfl) rfl ?_
                    refine hl_no (wanted_n rfl rfl (c := false) rfl rfl) rfl ?_
                    refine hl_no (wanted_n rfl rfl (c := false) rfl rfl) rfl ?_
                    refine hl_no (wanted_n rfl rfl (c := false) rfl rfl) rfl ?_
                    refine hl_val rfl rfl (v := (.bool false)) (hv_pick (t := false) rfl rfl) ?_
                    refine hl_val rfl rfl (v := (.bool false)) (hv_move rfl) ?_
                    refine hl_no (wanted_n rfl rfl (c := false) rfl rfl) rfl ?_
                    refine hl_no (wanted_n rfl rfl (c := false) rfl rfl) rfl ?_
                    refine hl_no (wanted_n rfl rfl (c := false) rfl rfl) rfl ?_
                    refine hl_val rfl rfl (v := (.bool false)) (hv_pick (t := false) rfl rfl) ?_
                    refine hl_val rfl rfl (v := (.bool false)) (hv_assign rfl) ?_
                    refine hl_nil ?_
                    refine seqQ_n ?_
                    exact ⟨_, H, (has_cons rfl has_nil)⟩
                · replace H := H.2 hg22
                  refine hl_no (wanted_n rfl rfl rfl hg22) rfl ?_
                  refine hl_no (wanted_n rfl rfl rfl hg22) rfl ?_
                  refine hl_val rfl rfl (v := (.bool false)) (hv_pick_f rfl hg22 rfl) ?_
                  refine hl_val rfl rfl (v := (.bool false)) (hv_move rfl) ?_
                  refine hl_no (wanted_n rfl rfl (c := false) rfl rfl) rfl ?_
                  refine hl_no (wanted_n rfl rfl (c := false) rfl rfl) rfl ?_
                  refine hl_no (wanted_n rfl rfl (c := false) rfl rfl) rfl ?_
                  refine hl_no (wanted_n rfl rfl (c := false) rfl rfl) rfl ?_
                  refine hl_no (wanted_n rfl rfl (c := false) rfl rfl) rfl ?_
                  refine hl_val rfl rfl (v := (.bool false)) (hv_pick (t := false) rfl rfl) ?_
                  refine hl_val rfl rfl (v := (.bool false)) (hv_move rfl) ?_
                  refine hl_no (wanted_n rfl rfl (c := false) rfl rfl) rfl ?_
                  refine hl_no (wanted_n rfl rfl (c := false) rfl rfl) rfl ?_
                  refine hl_no (wanted_n rfl rfl (c := false) rfl rfl) rfl ?_
                  refine hl_val rfl rfl (v := (.bool false)) (hv_pick (t := false) rfl rfl) ?_
                  refine hl_val rfl rfl (v := (.bool false)) (hv_move rfl) ?_
                  refine hl_no (wanted_n rfl rfl (c := false) rfl rfl) rfl ?_
                  refine hl_no (wanted_n rfl rfl (c := false) rfl rfl) rfl ?_
                  refine hl_no (wanted_n rfl rfl (c := false) rfl rfl) rfl ?_
                  refine hl_val rfl rfl (v := (.bool false)) (hv_pick (t := false) rfl rfl) ?_
                  refine hl_val rfl rfl (v := (.bool false)) (hv_move rfl) ?_
                  refine hl_no (wanted_n rfl rfl (c := false) rfl rfl) rfl ?_
                  refine hl_no (wanted_n rfl rfl (c := false) rfl rfl) rfl ?_
                  refine hl_no (wanted_n rfl rfl (c := false) rfl rfl) rfl ?_
                  refine hl_no (wanted_n rfl rfl (c := false) rfl rfl) rfl ?_
                  refine hl_val rfl rfl (v := (.bool false)) (hv_pick (t := false) rfl rfl) ?_
                  refine hl_val rfl rfl (v := (.bool false)) (hv_move rfl) ?_
                  refine hl_no (wanted_n rfl rfl (c := false) rfl rfl) rfl ?_
                  refine hl_no (wanted_n rfl rfl (c := false) rfl rfl) rfl ?_
                  refine hl_no (wanted_n rfl rfl (c := false) rfl rfl) rfl ?_
                  refine hl_no (wanted_n rfl rfl (c := false) rfl rfl) rfl ?_
                  refine hl_val rfl rfl (v := (.bool false)) (hv_pick (t := false) rfl rfl) ?_
                  refine hl_val rfl rfl (v := (.bool false)) (hv_move rfl) ?_
                  refine hl_no (wanted_n rfl rfl (c := false) rfl rfl) rfl ?_
                  refine hl_no (wanted_n rfl rfl (c := false) rfl rfl) rfl ?_
                  refine hl_no (wanted_n rfl rfl (c := false) rfl rfl) rfl ?_
                  refine hl_val rfl rfl (v := (.bool false)) (hv_pick (t := false) rfl rfl) ?_
                  refine hl_val rfl rfl (v := (.bool false)) (hv_assign rfl) ?_
                  refine hl_nil ?_
                  refine seqQ_n ?_
                  exact ⟨_, H, (has_cons rfl has_nil)⟩
              · replace H := H.2 hg21
                refine hl_no (wanted_n rfl rfl rfl hg21) rfl ?_
                refine hl_no (wanted_n rfl rfl rfl hg21) rfl ?_
                refine hl_no (wanted_n rfl rfl rfl hg21) rfl ?_
                refine hl_val rfl rfl (v := (.bool false)) (hv_pick_f rfl hg21 rfl) ?_
                refine hl_val rfl rfl (v := (.bool false)) (hv_move rfl) ?_
                refine hl_no (wanted_n rfl rfl (c := false) rfl rfl) rfl ?_
                refine hl_no (wanted_n rfl rfl (c := false) rfl rfl) rfl ?_
                refine hl_val rfl rfl (v := (.bool false)) (hv_pick (t := false) rfl rfl) ?_
                refine hl_val rfl rfl (v := (.bool false)) (hv_move rfl) ?_
                refine hl_no (wanted_n rfl rfl (c := false) rfl rfl) rfl ?_
                refine hl_no (wanted_n rfl rfl (c := false) rfl rfl) rfl ?_
                refine hl_no (wanted_n rfl rfl (c := false) rfl rfl) rfl ?_
                refine hl_no (wanted_n rfl rfl (c := false) rfl rfl) rfl ?_
                refine hl_no (wanted_n rfl rfl (c := false) rfl rfl) rfl ?_
                refine hl_val rfl rfl (v := (.bool false)) (hv_pick (t := false) rfl rfl) ?_
                refine hl_val rfl rfl (v := (.bool false)) (hv_move rfl) ?_
                refine hl_no (wanted_n rfl rfl (c := false) rfl rfl) rfl ?_
                refine hl_no (wanted_n rfl rfl (c := false) rfl rfl) rfl ?_
                refine hl_no (wanted_n rfl rfl (c := false) rfl rfl) rfl ?_
                refine hl_val rfl rfl (v := (.bool false)) (hv_pick (t := false) rfl rfl) ?_
                refine hl_val rfl rfl (v := (.bool false)) (hv_move rfl) ?_
                refine hl_no (wanted_n rfl rfl (c := false) rfl rfl) rfl ?_
                refine hl_no (wanted_n rfl rfl (c := false) rfl rfl) rfl ?_
                refine hl_no (wanted_n rfl rfl (c := false) rfl rfl) rfl ?_
                refine hl_val rfl rfl (v := (.bool false)) (hv_pick (t := false) rfl rfl) ?_
                refine hl_val rfl rfl (v := (.bool false)) (hv_move rfl) ?_
                refine hl_no (wanted_n rfl rfl (c := false) rfl rfl) rfl ?_
                refine hl_no (wanted_n rfl rfl (c := false) rfl rfl) rfl ?_
                refine hl_no (wanted_n rfl rfl (c := false) rfl rfl) rfl ?_
                refine hl_no (wanted_n rfl rfl (c := false) rfl rfl) rfl ?_
                refine hl_val rfl rfl (v := (.bool false)) (hv_pick (t := false) rfl rfl) ?_
                refine hl_val rfl rfl (v := (.bool false)) (hv_move rfl) ?_
                refine hl_no (wanted_n rfl rfl (c := false) rfl rfl) rfl ?_
                refine hl_no (wanted_n rfl rfl (c := false) rfl rfl) rfl ?_
                refine hl_no (wanted_n rfl rfl (c := false) rfl rfl) rfl ?_
                refine hl_no (wanted_n rfl rfl (c := false) rfl rfl) rfl ?_
                refine hl_val rfl rfl (v := (.bool false)) (hv_pick (t := false) rfl rfl) ?_
                refine hl_val rfl rfl (v := (.bool false)) (hv_move rfl) ?_
                refine hl_no (wanted_n rfl rfl (c := false) rfl rfl) rfl ?_
                refine hl_no (wanted_n rfl rfl (c := false) rfl rfl) rfl ?_
                refine hl_no (wanted_n rfl rfl (c := false) rfl rfl) rfl ?_
                refine hl_val rfl rfl (v := (.bool false)) (hv_pick (t := false) rfl rfl) ?_
                refine hl_val rfl rfl (v := (.bool false)) (hv_assign rfl) ?_
                refine hl_nil ?_
                refine seqQ_n ?_
                exact ⟨_, H, (has_cons rfl has_nil)⟩
            · replace H := H.2 hg20
              refine hl_no (wanted_n rfl rfl rfl hg20) rfl ?_
              refine hl_no (wanted_n rfl rfl rfl hg20) rfl ?_
              refine hl_val rfl rfl (v := (.bool false)) (hv_pick_f rfl hg20 rfl) ?_
              refine hl_val rfl rfl (v := (.bool false)) (hv_move rfl) ?_
              refine hl_no (wanted_n rfl rfl (c := false) rfl rfl) rfl ?_
              refine hl_no (wanted_n rfl rfl (c := false) rfl rfl) rfl ?_
              refine hl_no (wanted_n rfl rfl (c := false) rfl rfl) rfl ?_
              refine hl_val rfl rfl (v := (.bool false)) (hv_pick (t := false) rfl rfl) ?_
              refine hl_val rfl rfl (v := (.bool false)) (hv_move rfl) ?_
              refine hl_no (wanted_n rfl rfl (c := false) rfl rfl) rfl ?_
              refine hl_no (wanted_n rfl rfl (c := false) rfl rfl) rfl ?_
              refine hl_val rfl rfl (v := (.bool false)) (hv_pick (t := false) rfl rfl) ?_
              refine hl_val rfl rfl (v := (.bool false)) (hv_move rfl) ?_
              refine hl_no (wanted_n rfl rfl (c := false) rfl rfl) rfl ?_
              refine hl_no (wanted_n rfl rfl (c := false) rfl rfl) rfl ?_
              refine hl_no (wanted_n rfl rfl (c := false) rfl rfl) rfl ?_
              refine hl_no (wanted_n rfl rfl (c := false) rfl rfl) rfl ?_
              refine hl_no (wanted_n rfl rfl (c := false) rfl rfl) rfl ?_
              refine hl_val rfl rfl (v := (.bool false)) (hv_pick (t := false) rfl rfl) ?_
              refine hl_val rfl rfl (v := (.bool false)) (hv_move rfl) ?_
              refine hl_no (wanted_n rfl rfl (c := false) rfl rfl) rfl ?_
              refine hl_no (wanted_n rfl rfl (c := false) rfl rfl) rfl ?_
              refine hl_no (wanted_n rfl rfl (c := false) rfl rfl) rfl ?_
              refine hl_val rfl rfl (v := (.bool false)) (hv_pick (t := false) rfl rfl) ?_
              refine hl_val rfl rfl (v := (.bool false)) (hv_move rfl) ?_
              refine hl_no (wanted_n rfl rfl (c := false) rfl rfl) rfl ?_
              refine hl_no (wanted_n rfl rfl (c := false) rfl rfl) rfl ?_
              refine hl_no (wanted_n rfl rfl (c := false) rfl rfl) rfl ?_
              refine hl_val rfl rfl (v := (.bool false)) (hv_pick (t := false) rfl rfl) ?_
              refine hl_val rfl rfl (v := (.bool false)) (hv_move rfl) ?_
              refine hl_no (wanted_n rfl rfl (c := false) rfl rfl) rfl ?_
              refine hl_no (wanted_n rfl rfl (c := false) rfl rfl) rfl ?_
              refine hl_no (wanted_n rfl rfl (c := false) rfl rfl) rfl ?_
              refine hl_no (wanted_n rfl rfl (c := false) rfl rfl) rfl ?_
              refine hl_val rfl rfl (v := (.bool false)) (hv_pick (t := false) rfl rfl) ?_
              refine hl_val rfl rfl (v := (.bool false)) (hv_move rfl) ?_
              refine hl_no (wanted_n rfl rfl (c := false) rfl rfl) rfl ?_
              refine hl_no (wanted_n rfl rfl (c := false) rfl rfl) rfl ?_
              refine hl_no (wanted_n rfl rfl (c := false) rfl rfl) rfl ?_
              refine hl_no (wanted_n rfl rfl (c := false) rfl rfl) rfl ?_
              refine hl_val rfl rfl (v := (.bool false)) (hv_pick (t := false) rfl rfl) ?_
              refine hl_val rfl rfl (v := (.bool false)) (hv_move rfl) ?_
              refine hl_no (wanted_n rfl rfl (c := false) rfl rfl) rfl ?_
              refine hl_no (wanted_n rfl rfl (c := false) rfl rfl) rfl ?_
              refine hl_no (wanted_n rfl rfl (c := false) rfl rfl) rfl ?_
              refine hl_val rfl rfl (v := (.bool false)) (hv_pick (t := false) rfl rfl) ?_
              refine hl_val rfl rfl (v := (.bool false)) (hv_assign rfl) ?_
              refine hl_nil ?_
              refine seqQ_n ?_
              exact ⟨_, H, (has_cons rfl has_nil)⟩
          · replace H := H.2 hg19
            refine hl_no (wanted_n rfl rfl rfl hg19) rfl ?_
            refine hl_no (wanted_n rfl rfl rfl hg19) rfl ?_
            refine hl_no (wanted_n rfl rfl rfl hg19) rfl ?_
            refine hl_val rfl rfl (v := (.bool false)) (hv_pick_f rfl hg19 rfl) ?_
            refine hl_val rfl rfl (v := (.bool false)) (hv_move rfl) ?_
            refine hl_no (wanted_n rfl rfl (c := false) rfl rfl) rfl ?_
            refine hl_no (wanted_n rfl rfl (c := false) rfl rfl) rfl ?_
            refine hl_val rfl rfl (v := (.bool false)) (hv_pick (t := false) rfl rfl) ?_
            refine hl_val rfl rfl (v := (.bool false)) (hv_move rfl) ?_
            refine hl_no (wanted_n rfl rfl (c := false) rfl rfl) rfl ?_
            refine hl_no (wanted_n rfl rfl (c := false) rfl rfl) rfl ?_
            refine hl_no (wanted_n rfl rfl (c := false) rfl rfl) rfl ?_
            refine hl_val rfl rfl (v := (.bool false)) (hv_pick (t := false) rfl rfl) ?_
            refine hl_val rfl rfl (v := (.bool false)) (hv_move rfl) ?_
            refine hl_no (wanted_n rfl rfl (c := false) rfl rfl) rfl ?_
            refine hl_no (wanted_n rfl rfl (c := false) rfl rfl) rfl ?_
            refine hl_val rfl rfl (v := (.bool false)) (hv_pick (t := false) rfl rfl) ?_
            refine hl_val rfl rfl (v := (.bool false)) (hv_move rfl) ?_
            refine hl_no (wanted_n rfl rfl (c := false) rfl rfl) rfl ?_
            refine hl_no (wanted_n rfl rfl (c := false) rfl rfl) rfl ?_
            refine hl_no (wanted_n rfl rfl (c := false) rfl rfl) rfl ?_
            refine hl_no (wanted_n rfl rfl (c := false) rfl rfl) rfl ?_
            refine hl_no (wanted_n rfl rfl (c := false) rfl rfl) rfl ?_
            refine hl_val rfl rfl (v := (.bool false)) (hv_pick (t := false) rfl rfl) ?_
            refine hl_val rfl rfl (v := (.bool false)) (hv_move rfl) ?_
            refine hl_no (wanted_n rfl rfl (c := false) rfl rfl) rfl ?_
            refine hl_no (wanted_n rfl rfl (c := false) rfl rfl) rfl ?_
            refine hl_no (wanted_n rfl rfl (c := false) rfl rfl) rfl ?_
            refine hl_val rfl rfl (v := (.bool false)) (hv_pick (t := false) rfl rfl) ?_
            refine hl_val rfl rfl (v := (.bool false)) (hv_move rfl) ?_
            refine hl_no (wanted_n rfl rfl (c := false) rfl rfl) rfl ?_
            refine hl_no (wanted_n rfl rfl (c := false) rfl rfl) rfl ?_
            refine hl_no (wanted_n rfl rfl (c := false) rfl rfl) rfl ?_
            refine hl_val rfl rfl (v := (.bool false)) (hv_pick (t := false) rfl rfl) ?_
            refine hl_val rfl rfl (v := (.bool false)) (hv_move rfl) ?_
            refine hl_no (wanted_n rfl rfl (c := false) rfl rfl) rfl ?_
            refine hl_no (wanted_n rfl rfl (c := false) rfl rfl) rfl ?_
            refine hl_no (wanted_n rfl rfl (c := false) rfl rfl) rfl ?_
            refine hl_no (wanted_n rfl rfl (c := false) rfl rfl) rfl ?_
            refine hl_val rfl rfl (v := (.bool false)) (hv_pick (t := false) rfl rfl) ?_
            refine hl_val rfl rfl (v := (.bool false)) (hv_move rfl) ?_
            refine hl_no (wanted_n rfl rfl (c := false) rfl rfl) rfl ?_
            refine hl_no (wanted_n rfl rfl (c := false) rfl rfl) rfl ?_
            refine hl_no (wanted_n rfl rfl (c := false) rfl rfl) rfl ?_
            refine hl_no (wanted_n rfl rfl (c := false) rfl rfl) rfl ?_
            refine hl_val rfl rfl (v := (.bool false)) (hv_pick (t := false) rfl rfl) ?_
            refine hl_val rfl rfl (v := (.bool false)) (hv_move rfl) ?_
            refine hl_no (wanted_n rfl rfl (c := false) rfl rfl) rfl ?_
            refine hl_no (wanted_n rfl rfl (c := false) rfl rfl) rfl ?_
            refine hl_no (wanted_n rfl rfl (c := false) rfl rfl) rfl ?_
            refine hl_val rfl rfl (v := (.bool false)) (hv_pick (t := false) rfl rfl) ?_
            refine hl_val rfl rfl (v := (.bool false)) (hv_assign rfl) ?_
            refine hl_nil ?_
            refine seqQ_n ?_
            exact ⟨_, H, (has_cons rfl has_nil)⟩
        · replace H := H.2 hg18
          refine hl_no (wanted_n rfl rfl rfl hg18) rfl ?_
          refine hl_no (wanted_n rfl rfl rfl hg18) rfl ?_
          refine hl_val rfl rfl (v := (.bool false)) (hv_pick_f rfl hg18 rfl) ?_
          refine hl_val rfl rfl (v := (.bool false)) (hv_move rfl) ?_
          refine hl_no (wanted_n rfl rfl (c := false) rfl rfl) rfl ?_
          refine hl_no (wanted_n rfl rfl (c := false) rfl rfl) rfl ?_
          refine hl_no (wanted_n rfl rfl (c := false) rfl rfl) rfl ?_
          refine hl_val rfl rfl (v := (.bool false)) (hv_pick (t := false) rfl rfl) ?_
          refine hl_val rfl rfl (v := (.bool false)) (hv_move rfl) ?_
          refine hl_no (wanted_n rfl rfl (c := false) rfl rfl) rfl ?_
          refine hl_no (wanted_n rfl rfl (c := false) rfl rfl) rfl ?_
          refine hl_val rfl rfl (v := (.bool false)) (hv_pick (t := false) rfl rfl) ?_
          refine hl_val rfl rfl (v := (.bool false)) (hv_move rfl) ?_
          refine hl_no (wanted_n rfl rfl (c := false) rfl rfl) rfl ?_
          refine hl_no (wanted_n rfl rfl (c := false) rfl rfl) rfl ?_
          refine hl_no (wanted_n rfl rfl (c := false) rfl rfl) rfl ?_
          refine hl_val rfl rfl (v := (.bool false)) (hv_pick (t := false) rfl rfl) ?_
          refine hl_val rfl rfl (v := (.bool false)) (hv_move rfl) ?_
          refine hl_no (wanted_n rfl rfl (c := false) rfl rfl) rfl ?_
          refine hl_no (wanted_n rfl rfl (c := false) rfl rfl) rfl ?_
          refine hl_val rfl rfl (v := (.bool false)) (hv_pick (t := false) rfl rfl) ?_
          refine hl_val rfl rfl (v := (.bool false)) (hv_move rfl) ?_
          refine hl_no (wanted_n rfl rfl (c := false) rfl rfl) rfl ?_
          refine hl_no (wanted_n rfl rfl (c := false) rfl rfl) rfl ?_
          refine hl_no (wanted_n rfl rfl (c := false) rfl rfl) rfl ?_
          refine hl_no (wanted_n rfl rfl (c := false) rfl rfl) rfl ?_
          refine hl_no (wanted_n rfl rfl (c := false) rfl rfl) rfl ?_
          refine hl_val rfl rfl (v := (.bool false)) (hv_pick (t := false) rfl rfl) ?_
          refine hl_val rfl rfl (v := (.bool false)) (hv_move rfl) ?_
          refine hl_no (wanted_n rfl rfl (c := false) rfl rfl) rfl ?_
          refine hl_no (wanted_n rfl rfl (c := false) rfl rfl) rfl ?_
          refine hl_no (wanted_n rfl rfl (c := false) rfl rfl) rfl ?_
          refine hl_val rfl rfl (v := (.bool false)) (hv_pick (t := false) rfl rfl) ?_
          refine hl_val rfl rfl (v := (.bool false)) (hv_move rfl) ?_
          refine hl_no (wanted_n rfl rfl (c := false) rfl rfl) rfl ?_
          refine hl_no (wanted_n rfl rfl (c := false) rfl rfl) rfl ?_
          refine hl_no (wanted_n rfl rfl (c := false) rfl rfl) rfl ?_
          refine hl_val rfl rfl (v := (.bool false)) (hv_pick (t := false) rfl rfl) ?_
          refine hl_val rfl rfl (v := (.bool false)) (hv_move rfl) ?_
          refine hl_no (wanted_n rfl rfl (c := false) rfl rfl) rfl ?_
          refine hl_no (wanted_n rfl rfl (c := false) rfl rfl) rfl ?_
          refine hl_no (wanted_n rfl rfl (c := false) rfl rfl) rfl ?_
          refine hl_no (wanted_n rfl rfl (c := false) rfl rfl) rfl ?_
          refine hl_val rfl rfl (v := (.bool false)) (hv_pick (t := false) rfl rfl) ?_
          refine hl_val rfl rfl (v := (.bool false)) (hv_move rfl) ?_
          refine hl_no (wanted_n rfl rfl (c := false) rfl rfl) rfl ?_
          refine hl_no (wanted_n rfl rfl (c := false) rfl rfl) rfl ?_
          refine hl_no (wanted_n rfl rfl (c := false) rfl rfl) rfl ?_
          refine hl_no (wanted_n rfl rfl (c := false) rfl rfl) rfl ?_
          refine hl_val rfl rfl (v := (.bool false)) (hv_pick (t := false) rfl rfl) ?_
          refine hl_val rfl rfl (v := (.bool false)) (hv_move rfl) ?_
          refine hl_no (wanted_n rfl rfl (c := false) rfl rfl) rfl ?_
          refine hl_no (wanted_n rfl rfl (c := false) rfl rfl) rfl ?_
          refine hl_no (wanted_n rfl rfl (c := false) rfl rfl) rfl ?_
          refine hl_val rfl rfl (v := (.bool false)) (hv_pick (t := false) rfl rfl) ?_
          refine hl_val rfl rfl (v := (.bool false)) (hv_assign rfl) ?_
          refine hl_nil ?_
          refine seqQ_n ?_
          exact ⟨_, H, (has_cons rfl has_nil)⟩
      · replace H := H.2 hg17
        refine hl_no (wanted_n rfl rfl rfl hg17) rfl ?_
        refine hl_no (wanted_n rfl rfl rfl hg17) rfl ?_
        refine hl_val rfl rfl (v := (.bool false)) (hv_pick_f rfl hg17 rfl) ?_
        refine hl_val rfl rfl (v := (.bool false)) (hv_move rfl) ?_
        refine hl_no (wanted_n rfl rfl (c := false) rfl rfl) rfl ?_
        refine hl_no (wanted_n rfl rfl (c := false) rfl rfl) rfl ?_
        refine hl_val rfl rfl (v := (.bool false)) (hv_pick (t := false) rfl rfl) ?_
        refine hl_val rfl rfl (v := (.bool false)) (hv_move rfl) ?_
        refine hl_no (wanted_n rfl rfl (c := false) rfl rfl) rfl ?_
        refine hl_no (wanted_n rfl rfl (c := false) rfl rfl) rfl ?_
        refine hl_no (wanted_n rfl rfl (c := false) rfl rfl) rfl ?_
        refine hl_val rfl rfl (v := (.bool false)) (hv_pick (t := false) rfl rfl) ?_
        refine hl_val rfl rfl (v := (.bool false)) (hv_move rfl) ?_
        refine hl_no (wanted_n rfl rfl (c := false) rfl rfl) rfl ?_
        refine hl_no (wanted_n rfl rfl (c := false) rfl rfl) rfl ?_
        refine hl_val rfl rfl (v := (.bool false)) (hv_pick (t := false) rfl rfl) ?_
        refine hl_val rfl rfl (v := (.bool false)) (hv_move rfl) ?_
        refine hl_no (wanted_n rfl rfl (c := false) rfl rfl) rfl ?_
        refine hl_no (wanted_n rfl rfl (c := false) rfl rfl) rfl ?_
        refine hl_no (wanted_n rfl rfl (c := false) rfl rfl) rfl ?_
        refine hl_val rfl rfl (v := (.bool false)) (hv_pick (t := false) rfl rfl) ?_
        refine hl_val rfl rfl (v := (.bool false)) (hv_move rfl) ?_
        refine hl_no (wanted_n rfl rfl (c := false) rfl rfl) rfl ?_
        refine hl_no (wanted_n rfl rfl (c := false) rfl rfl) rfl ?_
        refine hl_val rfl rfl (v := (.bool false)) (hv_pick (t := false) rfl rfl) ?_
        refine hl_val rfl rfl (v := (.bool false)) (hv_move rfl) ?_
        refine hl_no (wanted_n rfl rfl (c := false) rfl rfl) rfl ?_
        refine hl_no (wanted_n rfl rfl (c := false) rfl rfl) rfl ?_
        refine hl_no (wanted_n rfl rfl (c := false) rfl rfl) rfl ?_
        refine hl_no (wanted_n rfl rfl (c := false) rfl rfl) rfl ?_
        refine hl_no (wanted_n rfl rfl (c := false) rfl rfl) rfl ?_
        refine hl_val rfl rfl (v := (.bool false)) (hv_pick (t := false) rfl rfl) ?_
        refine hl_val rfl rfl (v := (.bool false)) (hv_move rfl) ?_
        refine hl_no (wanted_n rfl rfl (c := false) rfl rfl) rfl ?_
        refine hl_no (wanted_n rfl rfl (c := false) rfl rfl) rfl ?_
        refine hl_no (wanted_n rfl rfl (c := false) rfl rfl) rfl ?_
        refine hl_val rfl rfl (v := (.bool false)) (hv_pick (t := false) rfl rfl) ?_
        refine hl_val rfl rfl (v := (.bool false)) (hv_move rfl) ?_
        refine hl_no (wanted_n rfl rfl (c := false) rfl rfl) rfl ?_
        refine hl_no (wanted_n rfl rfl (c := false) rfl rfl) rfl ?_
        refine hl_no (wanted_n rfl rfl (c := false) rfl rfl) rfl ?_
        refine hl_val rfl rfl (v := (.bool false)) (hv_pick (t := false) rfl rfl) ?_
        refine hl_val rfl rfl (v := (.bool false)) (hv_move rfl) ?_
        refine hl_no (wanted_n rfl rfl (c := false) rfl rfl) rfl ?_
        refine hl_no (wanted_n rfl rfl (c := false) rfl rfl) rfl ?_
        refine hl_no (wanted_n rfl rfl (c := false) rfl rfl) rfl ?_
        refine hl_no (wanted_n rfl rfl (c := false) rfl rfl) rfl ?_
        refine hl_val rfl rfl (v := (.bool false)) (hv_pick (t := false) rfl rfl) ?_
        refine hl_val rfl rfl (v := (.bool false)) (hv_move rfl) ?_
        refine hl_no (wanted_n rfl rfl (c := false) rfl rfl) rfl ?_
        refine hl_no (wanted_n rfl rfl (c := false) rfl rfl) rfl ?_
        refine hl_no (wanted_n rfl rfl (c := false) rfl rfl) rfl ?_
        refine hl_no (wanted_n rfl rfl (c := false) rfl rfl) rfl ?_
        refine hl_val rfl rfl (v := (.bool false)) (hv_pick (t := false) rfl rfl) ?_
        refine hl_val rfl rfl (v := (.bool false)) (hv_move rfl) ?_
        refine hl_no (wanted_n rfl rfl (c := false) rfl rfl) rfl ?_
        refine hl_no (wanted_n rfl rfl (c := false) rfl rfl) rfl ?_
        refine hl_no (wanted_n rfl rfl (c := false) rfl rfl) rfl ?_
        refine hl_val rfl rfl (v := (.bool false)) (hv_pick (t := false) rfl rfl) ?_
        refine hl_val rfl rfl (v := (.bool false)) (hv_assign rfl) ?_
        refine hl_nil ?_
        refine seqQ_n ?_
        exact ⟨_, H, (has_cons rfl has_nil)⟩
    · replace H := H.2 hg16
      refine hl_no (wanted_n rfl rfl rfl hg16) rfl ?_
      refine hl_no (wanted_n rfl rfl rfl hg16) rfl ?_
      refine hl_no (wanted_n rfl rfl rfl hg16) rfl ?_
      refine hl_val rfl rfl (v := (.bool false)) (hv_pick_f rfl hg16 rfl) ?_
      refine hl_val rfl rfl (v := (.bool false)) (hv_move rfl) ?_
      refine hl_no (wanted_n rfl rfl (c := false) rfl rfl) rfl ?_
      refine hl_no (wanted_n rfl rfl (c := false) rfl rfl) rfl ?_
      refine hl_val rfl rfl (v := (.bool false)) (hv_pick (t := false) rfl rfl) ?_
      refine hl_val rfl rfl (v := (.bool false)) (hv_move rfl) ?_
      refine hl_no (wanted_n rfl rfl (c := false) rfl rfl) rfl ?_
      refine hl_no (wanted_n rfl rfl (c := false) rfl rfl) rfl ?_
      refine hl_val rfl rfl (v := (.bool false)) (hv_pick (t := false) rfl rfl) ?_
      refine hl_val rfl rfl (v := (.bool false)) (hv_move rfl) ?_
      refine hl_no (wanted_n rfl rfl (c := false) rfl rfl) rfl ?_
      refine hl_no (wanted_n rfl rfl (c := false) rfl rfl) rfl ?_
      refine hl_no (wanted_n rfl rfl (c := false) rfl rfl) rfl ?_
      refine hl_val rfl rfl (v := (.bool false)) (hv_pick (t := false) rfl rfl) ?_
      refine hl_val rfl rfl (v := (.bool false)) (hv_move rfl) ?_
      refine hl_no (wanted_n rfl rfl (c := false) rfl rfl) rfl ?_
      refine hl_no (wanted_n rfl rfl (c := false) rfl rfl) rfl ?_
      refine hl_val rfl rfl (v := (.bool false)) (hv_pick (t := false) rfl rfl) ?_
      refine hl_val rfl rfl (v := (.bool false)) (hv_move rfl) ?_
      refine hl_no (wanted_n rfl rfl (c := false) rfl rfl) rfl ?_
      refine hl_no (wanted_n rfl rfl (c := false) rfl rfl) rfl ?_
      refine hl_no (wanted_n rfl rfl (c := false) rfl rfl) rfl ?_
      refine hl_val rfl rfl (v := (.bool false)) (hv_pick (t := false) rfl rfl) ?_
      refine hl_val rfl rfl (v := (.bool false)) (hv_move rfl) ?_
      refine hl_no (wanted_n rfl rfl (c := false) rfl rfl) rfl ?_
      refine hl_no (wanted_n rfl rfl (c := false) rfl rfl) rfl ?_
      refine hl_val rfl rfl (v := (.bool false)) (hv_pick (t := false) rfl rfl) ?_
      refine hl_val rfl rfl (v := (.bool false)) (hv_move rfl) ?_
      refine hl_no (wanted_n rfl rfl (c := false) rfl rfl) rfl ?_
      refine hl_no (wanted_n rfl rfl (c := false) rfl rfl) rfl ?_
      refine hl_no (wanted_n rfl rfl (c := false) rfl rfl) rfl ?_
      refine hl_no (wanted_n rfl rfl (c := false) rfl rfl) rfl ?_
      refine hl_no (wanted_n rfl rfl (c := false) rfl rfl) rfl ?_
      refine hl_val rfl rfl (v := (.bool false)) (hv_pick (t := false) rfl rfl) ?_
      refine hl_val rfl rfl (v := (.bool false)) (hv_move rfl) ?_
      refine hl_no (wanted_n rfl rfl (c := false) rfl rfl) rfl ?_
      refine hl_no (wanted_n rfl rfl (c := false) rfl rfl) rfl ?_
      refine hl_no (wanted_n rfl rfl (c := false) rfl rfl) rfl ?_
      refine hl_val rfl rfl (v := (.bool false)) (hv_pick (t := false) rfl rfl) ?_
      refine hl_val rfl rfl (v := (.bool false)) (hv_move rfl) ?_
      refine hl_no (wanted_n rfl rfl (c := false) rfl rfl) rfl ?_
      refine hl_no (wanted_n rfl rfl (c := false) rfl rfl) rfl ?_
      refine hl_no (wanted_n rfl rfl (c := false) rfl rfl) rfl ?_
      refine hl_val rfl rfl (v := (.bool false)) (hv_pick (t := false) rfl rfl) ?_
      refine hl_val rfl rfl (v := (.bool false)) (hv_move rfl) ?_
      refine hl_no (wanted_n rfl rfl (c := false) rfl rfl) rfl ?_
      refine hl_no (wanted_n rfl rfl (c := false) rfl rfl) rfl ?_
      refine hl_no (wanted_n rfl rfl (c := false) rfl rfl) rfl ?_
      refine hl_no (wanted_n rfl rfl (c := false) rfl rfl) rfl ?_
      refine hl_val rfl rfl (v := (.bool false)) (hv_pick (t := false) rfl rfl) ?_
      refine hl_val rfl rfl (v := (.bool false)) (hv_move rfl) ?_
      refine hl_no (wanted_n rfl rfl (c := false) rfl rfl) rfl ?_
      refine hl_no (wanted_n rfl rfl (c := false) rfl rfl) rfl ?_
      refine hl_no (wanted_n rfl rfl (c := false) rfl rfl) rfl ?_
      refine hl_no (wanted_n rfl rfl (c := false) rfl rfl) rfl ?_
      refine hl_val rfl rfl (v := (.bool false)) (hv_pick (t := false) rfl rfl) ?_
      refine hl_val rfl rfl (v := (.bool false)) (hv_move rfl) ?_
      refine hl_no (wanted_n rfl rfl (c := false) rfl rfl) rfl ?_
      refine hl_no (wanted_n rfl rfl (c := false) rfl rfl) rfl ?_
      refine hl_no (wanted_n rfl rfl (c := false) rfl rfl) rfl ?_
      refine hl_val rfl rfl (v := (.bool false)) (hv_pick (t := false) rfl rfl) ?_
      refine hl_val rfl rfl (v := (.bool false)) (hv_assign rfl) ?_
      refine hl_nil ?_
      refine seqQ_n ?_
      exact ⟨_, H, (has_cons rfl has_nil)⟩
  · rintro ρ h11 ⟨j, HA44, hH⟩
    have H := Hy43 j h11 HA44; clear Hx42 Hy43
    refine hx_has _ hH ?_
    refine hx_ret ?_
    exact endQ_ret _ (res_one Try.results8 (rv_tmp rfl)) H

/-- (*cellar/table.Table).Layout -/
theorem f13_shn  (h : Heap) (R : Value → Heap → Prop)
    (H : (∃ r : Bool, HC Try.prog 28 #[(.pointer none)] h (fun vv h' => vv = (.bool r) ∧ h' = h) ∧ (((!r) = true → R (.slice none 0 0) h) ∧ ((!r) = false → False)))) :
    HC Try.prog 13 #[(.pointer none)] h R := by
  refine hc_of (args := [(.pointer none)]) Try.func13 rfl Try.ntmps13 (Nat.le_of_ble_eq_true rfl) ?_
  refine hx_seq ?_
  refine hx_region ?_
  refine hl_val rfl rfl (v := (.slice none 0 0)) (hv_assign rfl) ?_
  refine hl_nil ?_
  refine seqQ_n ?_
  refine hx_seq ?_
  refine hx_seq ?_
  refine hx_region ?_
  refine hl_val rfl rfl (v := (.pointer none)) (hv_move rfl) ?_
  obtain ⟨r, hr1, H⟩ := H
  refine hl_val rfl rfl (v := (.bool r)) (hv_call Ty.cb28 (vs := [(.pointer none)]) rfl hr1) ?_
  refine hl_val rfl rfl (v := (.bool (!r))) (hv_not (b := r) rfl) ?_
  refine hl_nil ?_
  refine seqQ_n ?_
  refine hx_cond (b := !r) rfl (fun hb2 => ?_) (fun hb2 => ?_)
  · replace H := H.1 hb2
    refine hx_seq ?_
    refine hx_region ?_
    refine hl_val rfl rfl (v := (.slice none 0 0)) (hv_assign rfl) ?_
    refine hl_nil ?_
    refine seqQ_n ?_
    refine hx_ret ?_
    refine seqQ_ret ?_
    exact endQ_ret _ (res_one Try.results13 (rv_tmp rfl)) H
  · replace H := H.2 hb2
    refine hx_skip ?_
    refine seqQ_n ?_
    refine hx_seq ?_
    refine hx_region ?_
    refine hl_val rfl rfl (v := (.pointer none)) (hv_move rfl) ?_
    exact H.elim

/-- (*cellar/table.Table).Put -/
theorem f14_shn (e_Hash : Int) (e_At : Int) (e_Version : Int) (e_Hits : Int) (h : Heap) (R : Value → Heap → Prop)
    (H : (∀ e h1, e = Array.size h → h1 = Array.push h (.cells #[(.int .u64 e_Hash), (.int .u64 e_At), (.int .u64 e_Version), (.int .u8 e_Hits)] 31) → (∀ old h2, old = Array.size h1 → h2 = Array.push h1 (.cells #[(.int .u64 0), (.int .u64 0), (.int .u64 0), (.int .u8 0)] 31) → (∃ r : Bool, HC Try.prog 28 #[(.pointer none)] h2 (fun vv h' => vv = (.bool r) ∧ h' = h2) ∧ (((!r) = true → (HWs h2 old 0 4 ∧ ∀ h3, h3 = hsets h2 old 0 [(.int .u64 0), (.int .u64 0), (.int .u64 0), (.int .u8 0)] → (∃ old_Hash old_At old_Version old_Hits : Int, hcell h3 old 0 = some (.int .u64 old_Hash) ∧ hcell h3 old 1 = some (.int .u64 old_At) ∧ hcell h3 old 2 = some (.int .u64 old_Version) ∧ hcell h3 old 3 = some (.int .u8 old_Hits) ∧ R (.tuple #[(.agg #[(.int .u64 old_Hash), (.int .u64 old_At), (.int .u64 old_Version), (.int .u8 old_Hits)]), (.bool false), (.int .i64 6)]) h3))) ∧ ((!r) = false → (∃ x_Hash x_At x_Version x_Hits : Int, hcell h2 e 0 = some (.int .u64 x_Hash) ∧ hcell h2 e 1 = some (.int .u64 x_At) ∧ hcell h2 e 2 = some (.int .u64 x_Version) ∧ hcell h2 e 3 = some (.int .u8 x_Hits) ∧ HC Try.prog 30 #[(.agg #[(.int .u64 x_Hash), (.int .u64 x_At), (.int .u64 x_Version), (.int .u8 x_Hits)])] h2 (fun vv h4 => ∃ r_1 : Bool, vv = (.bool r_1) ∧ ((r_1 = true → (HWs h4 old 0 4 ∧ ∀ h5, h5 = hsets h4 old 0 [(.int .u64 0), (.int .u64 0), (.int .u64 0), (.int .u8 0)] → (∃ old_Hash old_At old_Version old_Hits : Int, hcell h5 old 0 = some (.int .u64 old_Hash) ∧ hcell h5 old 1 = some (.int .u64 old_At) ∧ hcell h5 old 2 = some (.int .u64 old_Version) ∧ hcell h5 old 3 = some (.int .u8 old_Hits) ∧ R (.tuple #[(.agg #[(.int .u64 old_Hash), (.int .u64 old_At), (.int .u64 old_Version), (.int .u8 old_Hits)]), (.bool false), (.int .i64 1)]) h5))) ∧ (r_1 = false → (∃ x : Int, hcell h4 e 0 = some (.int .u64 x) ∧ HC Try.prog 31 #[(.pointer none), (.int .u64 x)] h4 (fun vv h6 => ∃ r_2 : Int, vv = (.int .i64 r_2) ∧ (((decide (r_2 ≥ 0)) = true → False) ∧ ((decide (r_2 ≥ 0)) = false → (∃ r_3 : Bool, HC Try.prog 32 #[(.pointer none)] h6 (fun vv h' => vv = (.bool r_3) ∧ h' = h6) ∧ ((r_3 = true → False) ∧ (r_3 = false → (∃ x_Hash_1 x_At_1 x_Version_1 x_Hits_1 : Int, hcell h6 e 0 = some (.int .u64 x_Hash_1) ∧ hcell h6 e 1 = some (.int .u64 x_At_1) ∧ hcell h6 e 2 = some (.int .u64 x_Version_1) ∧ hcell h6 e 3 = some (.int .u8 x_Hits_1) ∧ HC Try.prog 34 #[(.pointer none), (.agg #[(.int .u64 x_Hash_1), (.int .u64 x_At_1), (.int .u64 x_Version_1), (.int .u8 x_Hits_1)])] h6 (fun vv h7 => vv = (.tuple #[]) ∧ (HWs h7 old 0 4 ∧ ∀ h8, h8 = hsets h7 old 0 [(.int .u64 0), (.int .u64 0), (.int .u64 0), (.int .u8 0)] → (∃ old_Hash old_At old_Version old_Hits : Int, hcell h8 old 0 = some (.int .u64 old_Hash) ∧ hcell h8 old 1 = some (.int .u64 old_At) ∧ hcell h8 old 2 = some (.int .u64 old_Version) ∧ hcell h8 old 3 = some (.int .u8 old_Hits) ∧ R (.tuple #[(.agg #[(.int .u64 old_Hash), (.int .u64 old_At), (.int .u64 old_Version), (.int .u8 old_Hits)]), (.bool false), (.int .i64 0)]) h8))))))))))))))))))))) :
    HC Try.prog 14 #[(.pointer none), (.agg #[(.int .u64 e_Hash), (.int .u64 e_At), (.int .u64 e_Version), (.int .u8 e_Hits)])] h R := by
  refine hc_of (args := [(.pointer none), (.agg #[(.int .u64 e_Hash), (.int .u64 e_At), (.int .u64 e_Version), (.int .u8 e_Hits)])]) Try.func14 rfl Try.ntmps14 (Nat.le_of_ble_eq_true rfl) ?_
  refine hx_seq ?_
  refine hx_region ?_
  refine hl_step rfl rfl (hn_box (v := (.agg #[(.int .u64 e_Hash), (.int .u64 e_At), (.int .u64 e_Version), (.int .u8 e_Hits)])) rfl ?_)
  intro e h1 eb1 eh2
  replace H := H e h1 eb1 eh2
  refine hl_step rfl rfl (hn_alloc Ty.z31 ?_)
  intro old h2 eb3 eh4
  replace H := H old h2 eb3 eh4
  refine hl_val rfl rfl (v := (.bool false)) (hv_assign rfl) ?_
  refine hl_val rfl rfl (v := (.int .i64 0)) (hv_assign rfl) ?_
  refine hl_nil ?_
  refine seqQ_n ?_
  refine hx_seq ?_
  refine hx_block ?_
  refine hx_seq ?_
  refine hx_region ?_
  refine hl_val rfl rfl (v := (.pointer none)) (hv_move rfl) ?_
  obtain ⟨r, hr5, H⟩ := H
  refine hl_val rfl rfl (v := (.bool r)) (hv_call Ty.cb28 (vs := [(.pointer none)]) rfl hr5) ?_
  refine hl_val rfl rfl (v := (.bool (!r))) (hv_not (b := r) rfl) ?_
  refine hl_val rfl rfl (v := (.bool (!r))) (hv_assign rfl) ?_
  refine hl_nil ?_
  refine seqQ_n ?_
  refine hx_cond (b := !r) rfl (fun hb37 => ?_) (fun hb37 => ?_)
  · replace H := H.1 hb37
    refine hx_seq ?_
    refine hx_region ?_
    refine hl_val rfl rfl (v := (.agg #[(.int .u64 0), (.int .u64 0), (.int .u64 0), (.int .u8 0)])) (hv_build (vs := []) (cs := #[(.int .u64 0), (.int .u64 0), (.int .u64 0), (.int .u8 0)]) Ty.z31 Ty.pl31 rfl (by kernel_rfl)) ?_
    obtain ⟨hw6, H⟩ := H
    refine hl_step rfl rfl (hn_stores (vs := [(.int .u64 0), (.int .u64 0), (.int .u64 0), (.int .u8 0)]) rfl rfl Ty.sz31 rfl hw6 ?_)
    intro h3 eh7
    replace H := H h3 eh7
    refine hl_val rfl rfl (v := (.bool false)) (hv_assign rfl) ?_
    refine hl_val rfl rfl (v := (.int .i64 6)) (hv_assign rfl) ?_
    refine hl_nil ?_
    refine seqQ_n ?_
    refine hx_ret ?_
    refine blockQ_ret ?_
    refine seqQ_ret ?_
    obtain ⟨old_Hash, old_At, old_Version, old_Hits, hc8, hc9, hc10, hc11, H⟩ := H
    exact endQ_ret _ (res_three Try.results14 (rv_cell (vs := [(.int .u64 old_Hash), (.int .u64 old_At), (.int .u64 old_Version), (.int .u8 old_Hits)]) Ty.agg31 Ty.sz31 rfl (hcells_cons hc8 (hcells_cons hc9 (hcells_cons hc10 (hcells_cons hc11 hcells_nil))))) (rv_tmp rfl) (rv_tmp rfl)) H
  · replace H := H.2 hb37
    refine hx_seq ?_
    refine hx_region ?_
    obtain ⟨x_Hash, x_At, x_Version, x_Hits, hc33, hc34, hc35, hc36, H⟩ := H
    refine hl_val rfl rfl (v := (.agg #[(.int .u64 x_Hash), (.int .u64 x_At), (.int .u64 x_Version), (.int .u8 x_Hits)])) (hv_loads (vs := [(.int .u64 x_Hash), (.int .u64 x_At), (.int .u64 x_Version), (.int .u8 x_Hits)]) Ty.agg31 Ty.sz31 rfl (hcells_cons hc33 (hcells_cons hc34 (hcells_cons hc35 (hcells_cons hc36 hcells_nil))))) ?_
    refine hl_step rfl rfl (hs_call Ty.cb30 (vs := [(.agg #[(.int .u64 x_Hash), (.int .u64 x_At), (.int .u64 x_Version), (.int .u8 x_Hits)])]) rfl (HC.mono H ?_))
    rintro _ h4 ⟨r_1, rfl, H⟩
    refine hl_val rfl rfl (v := (.bool r_1)) (hv_assign rfl) ?_
    refine hl_nil ?_
    refine seqQ_n ?_
    refine hx_cond (b := r_1) rfl (fun hb32 => ?_) (fun hb32 => ?_)
    · replace H := H.1 hb32
      refine hx_seq ?_
      refine hx_region ?_
      refine hl_val rfl rfl (v := (.agg #[(.int .u64 0), (.int .u64 0), (.int .u64 0), (.int .u8 0)])) (hv_build (vs := []) (cs := #[(.int .u64 0), (.int .u64 0), (.int .u64 0), (.int .u8 0)]) Ty.z31 Ty.pl31 rfl (by kernel_rfl)) ?_
      obtain ⟨hw12, H⟩ := H
      refine hl_step rfl rfl (hn_stores (vs := [(.int .u64 0), (.int .u64 0), (.int .u64 0), (.int .u8 0)]) rfl rfl Ty.sz31 rfl hw12 ?_)
      intro h5 eh13
      replace H := H h5 eh13
      refine hl_val rfl rfl (v := (.bool false)) (hv_assign rfl) ?_
      refine hl_val rfl rfl (v := (.int .i64 1)) (hv_assign rfl) ?_
      refine hl_nil ?_
      refine seqQ_n ?_
      refine hx_ret ?_
      refine blockQ_ret ?_
      refine seqQ_ret ?_
      obtain ⟨old_Hash, old_At, old_Version, old_Hits, hc14, hc15, hc16, hc17, H⟩ := H
      exact endQ_ret _ (res_three Try.results14 (rv_cell (vs := [(.int .u64 old_Hash), (.int .u64 old_At), (.int .u64 old_Version), (.int .u8 old_Hits)]) Ty.agg31 Ty.sz31 rfl (hcells_cons hc14 (hcells_cons hc15 (hcells_cons hc16 (hcells_cons hc17 hcells_nil))))) (rv_tmp rfl) (rv_tmp rfl)) H
    · replace H := H.2 hb32
      refine hx_skip ?_
      refine blockQ_n ?_
      refine seqQ_n ?_
      refine hx_seq ?_
      refine hx_seq ?_
      refine hx_region ?_
      refine hl_val rfl rfl (v := (.pointer none)) (hv_move rfl) ?_
      refine hl_val rfl rfl (v := (ptr e 0)) (hv_field Ty.fld31_0 (b := e) (o := 0) rfl) ?_
      obtain ⟨x, hc31, H⟩ := H
      refine hl_val rfl rfl (v := (.int .u64 x)) (hv_load Ty.agg29 rfl hc31) ?_
      refine hl_step rfl rfl (hs_call Ty.cb31 (vs := [(.pointer none), (.int .u64 x)]) rfl (HC.mono H ?_))
      rintro _ h6 ⟨r_2, rfl, H⟩
      refine hl_val rfl rfl (v := (.int .i64 r_2)) (hv_assign rfl) ?_
      refine hl_nil ?_
      refine seqQ_n ?_
      refine hx_seq ?_
      refine hx_region ?_
      refine hl_val rfl rfl (v := (.int .i64 r_2)) (hv_move rfl) ?_
      refine hl_val rfl rfl (v := (.bool (decide (r_2 ≥ 0)))) (hv_arith rfl rfl rfl) ?_
      refine hl_nil ?_
      refine seqQ_n ?_
      refine hx_cond (b := decide (r_2 ≥ 0)) rfl (fun hb30 => ?_) (fun hb30 => ?_)
      · replace H := H.1 hb30
        refine hx_seq ?_
        refine hx_region ?_
        refine hl_val rfl rfl (v := (.pointer none)) (hv_move rfl) ?_
        exact H.elim
      · replace H := H.2 hb30
        refine hx_skip ?_
        refine seqQ_n ?_
        refine hx_seq ?_
        refine hx_seq ?_
        refine hx_region ?_
        refine hl_val rfl rfl (v := (.pointer none)) (hv_move rfl) ?_
        obtain ⟨r_3, hr18, H⟩ := H
        refine hl_val rfl rfl (v := (.bool r_3)) (hv_call Ty.cb32 (vs := [(.pointer none)]) rfl hr18) ?_
        refine hl_nil ?_
        refine seqQ_n ?_
        refine hx_cond (b := r_3) rfl (fun hb29 => ?_) (fun hb29 => ?_)
        · replace H := H.1 hb29
          refine hx_seq ?_
          refine hx_seq ?_
          refine hx_draw Ty.mixed [.pure, .pure, .pure, .read, .pure, .pure, .pure, .read, .pure] [0, 1, 2, 3, 4, 5, 6, 7, 8] (by kernel_rfl) ?_
          refine hp_pure (i := 0) rfl (wanted_0 rfl) rfl (.pointer none) (fun _ => hv_move rfl) ?_
          exact H.elim
        · replace H := H.2 hb29
          refine hx_skip ?_
          refine seqQ_n ?_
          refine hx_seq ?_
          refine hx_region ?_
          refine hl_val rfl rfl (v := (.pointer none)) (hv_move rfl) ?_
          obtain ⟨x_Hash_1, x_At_1, x_Version_1, x_Hits_1, hc25, hc26, hc27, hc28, H⟩ := H
          refine hl_val rfl rfl (v := (.agg #[(.int .u64 x_Hash_1), (.int .u64 x_At_1), (.int .u64 x_Version_1), (.int .u8 x_Hits_1)])) (hv_loads (vs := [(.int .u64 x_Hash_1), (.int .u64 x_At_1), (.int .u64 x_Version_1), (.int .u8 x_Hits_1)]) Ty.agg31 Ty.sz31 rfl (hcells_cons hc25 (hcells_cons hc26 (hcells_cons hc27 (hcells_cons hc28 hcells_nil))))) ?_
          refine hl_step rfl rfl (hs_call Ty.cb34 (vs := [(.pointer none), (.agg #[(.int .u64 x_Hash_1), (.int .u64 x_At_1), (.int .u64 x_Version_1), (.int .u8 x_Hits_1)])]) rfl (HC.mono H ?_))
          rintro _ h7 ⟨rfl, H⟩
          refine hl_nil ?_
          refine seqQ_n ?_
          refine hx_seq ?_
          refine hx_region ?_
          refine hl_val rfl rfl (v := (.agg #[(.int .u64 0), (.int .u64 0), (.int .u64 0), (.int .u8 0)])) (hv_build (vs := []) (cs := #[(.int .u64 0), (.int .u64 0), (.int .u64 0), (.int .u8 0)]) Ty.z31 Ty.pl31 rfl (by kernel_rfl)) ?_
          obtain ⟨hw19, H⟩ := H
          refine hl_step rfl rfl (hn_stores (vs := [(.int .u64 0), (.int .u64 0), (.int .u64 0), (.int .u8 0)]) rfl rfl Ty.sz31 rfl hw19 ?_)
          intro h8 eh20
          replace H := H h8 eh20
          refine hl_val rfl rfl (v := (.bool false)) (hv_assign rfl) ?_
          refine hl_val rfl rfl (v := (.int .i64 0)) (hv_assign rfl) ?_
          refine hl_nil ?_
          refine seqQ_n ?_
          refine hx_ret ?_
          obtain ⟨old_Hash, old_At, old_Version, old_Hits, hc21, hc22, hc23, hc24, H⟩ := H
          exact endQ_ret _ (res_three Try.results14 (rv_cell (vs := [(.int .u64 old_Hash), (.int .u64 old_At), (.int .u64 old_Version), (.int .u8 old_Hits)]) Ty.agg31 Ty.sz31 rfl (hcells_cons hc21 (hcells_cons hc22 (hcells_cons hc23 (hcells_cons hc24 hcells_nil))))) (rv_tmp rfl) (rv_tmp rfl)) H

/-- (*cellar/table.Table).Get -/
theorem f15_shn (hash : Int) (h : Heap) (R : Value → Heap → Prop)
    (H : (∀ nb h1, nb = Array.size h → h1 = Array.push h (.cells #[(.int .u64 0), (.int .u64 0), (.int .u64 0), (.int .u8 0)] 31) → HC Try.prog 31 #[(.pointer none), (.int .u64 hash)] h1 (fun vv h2 => ∃ r : Int, vv = (.int .i64 r) ∧ (((decide (r < 0)) = true → (HWs h2 nb 0 4 ∧ ∀ h3, h3 = hsets h2 nb 0 [(.int .u64 0), (.int .u64 0), (.int .u64 0), (.int .u8 0)] → (∃ res_Hash res_At res_Version res_Hits : Int, hcell h3 nb 0 = some (.int .u64 res_Hash) ∧ hcell h3 nb 1 = some (.int .u64 res_At) ∧ hcell h3 nb 2 = some (.int .u64 res_Version) ∧ hcell h3 nb 3 = some (.int .u8 res_Hits) ∧ R (.tuple #[(.agg #[(.int .u64 res_Hash), (.int .u64 res_At), (.int .u64 res_Version), (.int .u8 res_Hits)]), (.bool false)]) h3))) ∧ ((decide (r < 0)) = false → False))))) :
    HC Try.prog 15 #[(.pointer none), (.int .u64 hash)] h R := by
  refine hc_of (args := [(.pointer none), (.int .u64 hash)]) Try.func15 rfl Try.ntmps15 (Nat.le_of_ble_eq_true rfl) ?_
  refine hx_seq ?_
  refine hx_region ?_
  refine hl_step rfl rfl (hn_alloc Ty.z31 ?_)
  intro nb h1 eb1 eh2
  replace H := H nb h1 eb1 eh2
  refine hl_val rfl rfl (v := (.bool false)) (hv_assign rfl) ?_
  refine hl_nil ?_
  refine seqQ_n ?_
  refine hx_seq ?_
  refine hx_region ?_
  refine hl_val rfl rfl (v := (.pointer none)) (hv_move rfl) ?_
  refine hl_val rfl rfl (v := (.int .u64 hash)) (hv_move rfl) ?_
  refine hl_step rfl rfl (hs_call Ty.cb31 (vs := [(.pointer none), (.int .u64 hash)]) rfl (HC.mono H ?_))
  rintro _ h2 ⟨r, rfl, H⟩
  refine hl_val rfl rfl (v := (.int .i64 r)) (hv_assign rfl) ?_
  refine hl_nil ?_
  refine seqQ_n ?_
  refine hx_seq ?_
  refine hx_seq ?_
  refine hx_region ?_
  refine hl_val rfl rfl (v := (.int .i64 r)) (hv_move rfl) ?_
  refine hl_val rfl rfl (v := (.bool (decide (r < 0)))) (hv_arith rfl rfl rfl) ?_
  refine hl_nil ?_
  refine seqQ_n ?_
  refine hx_cond (b := decide (r < 0)) rfl (fun hb9 => ?_) (fun hb9 => ?_)
  · replace H := H.1 hb9
    refine hx_seq ?_
    refine hx_region ?_
    refine hl_val rfl rfl (v := (.agg #[(.int .u64 0), (.int .u64 0), (.int .u64 0), (.int .u8 0)])) (hv_build (vs := []) (cs := #[(.int .u64 0), (.int .u64 0), (.int .u64 0), (.int .u8 0)]) Ty.z31 Ty.pl31 rfl (by kernel_rfl)) ?_
    obtain ⟨hw3, H⟩ := H
    refine hl_step rfl rfl (hn_stores (vs := [(.int .u64 0), (.int .u64 0), (.int .u64 0), (.int .u8 0)]) rfl rfl Ty.sz31 rfl hw3 ?_)
    intro h3 eh4
    replace H := H h3 eh4
    refine hl_val rfl rfl (v := (.bool false)) (hv_assign rfl) ?_
    refine hl_nil ?_
    refine seqQ_n ?_
    refine hx_ret ?_
    refine seqQ_ret ?_
    obtain ⟨res_Hash, res_At, res_Version, res_Hits, hc5, hc6, hc7, hc8, H⟩ := H
    exact endQ_ret _ (res_two Try.results15 (rv_cell (vs := [(.int .u64 res_Hash), (.int .u64 res_At), (.int .u64 res_Version), (.int .u8 res_Hits)]) Ty.agg31 Ty.sz31 rfl (hcells_cons hc5 (hcells_cons hc6 (hcells_cons hc7 (hcells_cons hc8 hcells_nil))))) (rv_tmp rfl)) H
  · replace H := H.2 hb9
    refine hx_skip ?_
    refine seqQ_n ?_
    refine hx_seq ?_
    refine hx_region ?_
    refine hl_val rfl rfl (v := (.pointer none)) (hv_move rfl) ?_
    exact H.elim

/-- (*cellar/table.Table).Remove -/
theorem f16_shn (hash : Int) (h : Heap) (R : Value → Heap → Prop)
    (H : (∀ nb h1, nb = Array.size h → h1 = Array.push h (.cells #[(.int .u64 0), (.int .u64 0), (.int .u64 0), (.int .u8 0)] 31) → HC Try.prog 31 #[(.pointer none), (.int .u64 hash)] h1 (fun vv h2 => ∃ r : Int, vv = (.int .i64 r) ∧ (((decide (r < 0)) = true → (HWs h2 nb 0 4 ∧ ∀ h3, h3 = hsets h2 nb 0 [(.int .u64 0), (.int .u64 0), (.int .u64 0), (.int .u8 0)] → (∃ res_Hash res_At res_Version res_Hits : Int, hcell h3 nb 0 = some (.int .u64 res_Hash) ∧ hcell h3 nb 1 = some (.int .u64 res_At) ∧ hcell h3 nb 2 = some (.int .u64 res_Version) ∧ hcell h3 nb 3 = some (.int .u8 res_Hits) ∧ R (.tuple #[(.agg #[(.int .u64 res_Hash), (.int .u64 res_At), (.int .u64 res_Version), (.int .u8 res_Hits)]), (.bool false)]) h3))) ∧ ((decide (r < 0)) = false → False))))) :
    HC Try.prog 16 #[(.pointer none), (.int .u64 hash)] h R := by
  refine hc_of (args := [(.pointer none), (.int .u64 hash)]) Try.func16 rfl Try.ntmps16 (Nat.le_of_ble_eq_true rfl) ?_
  refine hx_seq ?_
  refine hx_region ?_
  refine hl_step rfl rfl (hn_alloc Ty.z31 ?_)
  intro nb h1 eb1 eh2
  replace H := H nb h1 eb1 eh2
  refine hl_val rfl rfl (v := (.bool false)) (hv_assign rfl) ?_
  refine hl_nil ?_
  refine seqQ_n ?_
  refine hx_seq ?_
  refine hx_region ?_
  refine hl_val rfl rfl (v := (.pointer none)) (hv_move rfl) ?_
  refine hl_val rfl rfl (v := (.int .u64 hash)) (hv_move rfl) ?_
  refine hl_step rfl rfl (hs_call Ty.cb31 (vs := [(.pointer none), (.int .u64 hash)]) rfl (HC.mono H ?_))
  rintro _ h2 ⟨r, rfl, H⟩
  refine hl_val rfl rfl (v := (.int .i64 r)) (hv_assign rfl) ?_
  refine hl_nil ?_
  refine seqQ_n ?_
  refine hx_seq ?_
  refine hx_seq ?_
  refine hx_region ?_
  refine hl_val rfl rfl (v := (.int .i64 r)) (hv_move rfl) ?_
  refine hl_val rfl rfl (v := (.bool (decide (r < 0)))) (hv_arith rfl rfl rfl) ?_
  refine hl_nil ?_
  refine seqQ_n ?_
  refine hx_cond (b := decide (r < 0)) rfl (fun hb9 => ?_) (fun hb9 => ?_)
  · replace H := H.1 hb9
    refine hx_seq ?_
    refine hx_region ?_
    refine hl_val rfl rfl (v := (.agg #[(.int .u64 0), (.int .u64 0), (.int .u64 0), (.int .u8 0)])) (hv_build (vs := []) (cs := #[(.int .u64 0), (.int .u64 0), (.int .u64 0), (.int .u8 0)]) Ty.z31 Ty.pl31 rfl (by kernel_rfl)) ?_
    obtain ⟨hw3, H⟩ := H
    refine hl_step rfl rfl (hn_stores (vs := [(.int .u64 0), (.int .u64 0), (.int .u64 0), (.int .u8 0)]) rfl rfl Ty.sz31 rfl hw3 ?_)
    intro h3 eh4
    replace H := H h3 eh4
    refine hl_val rfl rfl (v := (.bool false)) (hv_assign rfl) ?_
    refine hl_nil ?_
    refine seqQ_n ?_
    refine hx_ret ?_
    refine seqQ_ret ?_
    obtain ⟨res_Hash, res_At, res_Version, res_Hits, hc5, hc6, hc7, hc8, H⟩ := H
    exact endQ_ret _ (res_two Try.results16 (rv_cell (vs := [(.int .u64 res_Hash), (.int .u64 res_At), (.int .u64 res_Version), (.int .u8 res_Hits)]) Ty.agg31 Ty.sz31 rfl (hcells_cons hc5 (hcells_cons hc6 (hcells_cons hc7 (hcells_cons hc8 hcells_nil))))) (rv_tmp rfl)) H
  · replace H := H.2 hb9
    refine hx_skip ?_
    refine seqQ_n ?_
    refine hx_seq ?_
    refine hx_region ?_
    refine hl_val rfl rfl (v := (.pointer none)) (hv_move rfl) ?_
    exact H.elim

/-- (*cellar/table.Table).Hit -/
theorem f17_shn (hash : Int) (h : Heap) (R : Value → Heap → Prop)
    (H : HC Try.prog 31 #[(.pointer none), (.int .u64 hash)] h (fun vv h1 => ∃ r : Int, vv = (.int .i64 r) ∧ (((decide (r < 0)) = true → R (.bool false) h1) ∧ ((decide (r < 0)) = false → (False ∧ R (.bool true) h1))))) :
    HC Try.prog 17 #[(.pointer none), (.int .u64 hash)] h R := by
  refine hc_of (args := [(.pointer none), (.int .u64 hash)]) Try.func17 rfl Try.ntmps17 (Nat.le_of_ble_eq_true rfl) ?_
  refine hx_seq ?_
  refine hx_region ?_
  refine hl_val rfl rfl (v := (.bool false)) (hv_assign rfl) ?_
  refine hl_nil ?_
  refine seqQ_n ?_
  refine hx_seq ?_
  refine hx_region ?_
  refine hl_val rfl rfl (v := (.pointer none)) (hv_move rfl) ?_
  refine hl_val rfl rfl (v := (.int .u64 hash)) (hv_move rfl) ?_
  refine hl_step rfl rfl (hs_call Ty.cb31 (vs := [(.pointer none), (.int .u64 hash)]) rfl (HC.mono H ?_))
  rintro _ h1 ⟨r, rfl, H⟩
  refine hl_val rfl rfl (v := (.int .i64 r)) (hv_assign rfl) ?_
  refine hl_nil ?_
  refine seqQ_n ?_
  refine hx_seq ?_
  refine hx_seq ?_
  refine hx_region ?_
  refine hl_val rfl rfl (v := (.int .i64 r)) (hv_move rfl) ?_
  refine hl_val rfl rfl (v := (.bool (decide (r < 0)))) (hv_arith rfl rfl rfl) ?_
  refine hl_nil ?_
  refine seqQ_n ?_
  refine hx_cond (b := decide (r < 0)) rfl (fun hb3 => ?_) (fun hb3 => ?_)
  · replace H := H.1 hb3
    refine hx_seq ?_
    refine hx_region ?_
    refine hl_val rfl rfl (v := (.bool false)) (hv_assign rfl) ?_
    refine hl_nil ?_
    refine seqQ_n ?_
    refine hx_ret ?_
    refine seqQ_ret ?_
    exact endQ_ret _ (res_one Try.results17 (rv_tmp rfl)) H
  · replace H := H.2 hb3
    refine hx_skip ?_
    refine seqQ_n ?_
    obtain ⟨Hx1, Hy2⟩ := H
    refine hx_cut (fun ρ h' => h1 = h' ∧ Has ρ []) ?_ ?_
    · have H := Hx1; clear Hx1 Hy2
      refine hx_seq ?_
      refine hx_region ?_
      refine hl_val rfl rfl (v := (.pointer none)) (hv_move rfl) ?_
      exact H.elim
    · have H := Hy2; clear Hx1 Hy2
      rintro ρ _ ⟨rfl, hH⟩
      refine hx_has _ hH ?_
      refine hx_seq ?_
      refine hx_region ?_
      refine hl_val rfl rfl (v := (.bool true)) (hv_assign rfl) ?_
      refine hl_nil ?_
      refine seqQ_n ?_
      refine hx_ret ?_
      exact endQ_ret _ (res_one Try.results17 (rv_tmp rfl)) H

/-- cellar/cellarlaw11.all -/
theorem f18_shn  (h : Heap) (R : Value → Heap → Prop)
    (H : (∀ l h1, l = Array.size h → h1 = Array.push h (.cells #[(.slice none 0 0)] 35) → HC Try.prog 23 #[(.pointer none)] h1 (fun vv h2 => ∃ r : Value, vv = r ∧ (∀ (Lp3 : LoopState → Option Code → Heap → Prop) (l_1 : Nat) (h3 : Heap) (y : Value), (∀ s p h h', Lp3 s p h → h'[l_1]? = h[l_1]? → Lp3 s p h') → l_1 = Array.size h2 + 1 → Ext h2 h3 → Array.size h3 = Array.size h2 + 2 → Lp3 .ready none h3 → (∀ (it_Hash : Int) (it_At : Int) (it_Version : Int) (it_Hits : Int) (h4 : Heap) (K11 : Value → Heap → Prop), Lp3 .ready none h4 → (∀ e h7, e = Array.size h4 → h7 = Array.push h4 (.cells #[(.int .u64 0), (.int .u64 0), (.int .u64 0), (.int .u8 0)] 31) → (HWs h7 e 0 4 ∧ ∀ h8, h8 = hsets h7 e 0 [(.int .u64 it_Hash), (.int .u64 it_At), (.int .u64 it_Version), (.int .u8 it_Hits)] → (Lp3 .ready none h8 ∧ ∀ h9, Only l_1 h8 h9 → Lp3 .busy none h9 → (∃ x : Option Addr, ∃ x_n x_c : Nat, hcell h9 l 0 = some (.slice x x_n x_c) ∧ (∃ x_Hash x_At x_Version x_Hits : Int, hcell h9 e 0 = some (.int .u64 x_Hash) ∧ hcell h9 e 1 = some (.int .u64 x_At) ∧ hcell h9 e 2 = some (.int .u64 x_Version) ∧ hcell h9 e 3 = some (.int .u8 x_Hits) ∧ (∀ nb h10, nb = Array.size h9 → h10 = Array.push h9 (.cells #[(.int .u64 x_Hash), (.int .u64 x_At), (.int .u64 x_Version), (.int .u8 x_Hits)] 31) → HAppend Try.prog 35 35 (.slice x x_n x_c) (.slice (some ⟨nb, 0, none⟩) 1 1) h10 (fun vv h11 => ∃ ap : Option Addr, ∃ ap_n ap_c : Nat, vv = (.slice ap ap_n ap_c) ∧ (HW h11 l 0 ∧ ∀ h12, h12 = hset h11 l 0 (.slice ap ap_n ap_c) → (Lp3 .busy none h12 ∧ ∀ h13, Only l_1 h12 h13 → Lp3 .ready none h13 → K11 (.bool true) h13))))))))) → HCV Try.prog y [(.agg #[(.int .u64 it_Hash), (.int .u64 it_At), (.int .u64 it_Version), (.int .u8 it_Hits)])] h4 K11) → HCF Try.prog r [y] h3 (fun _ h5 => ∃ (st : LoopState) (pend : Option Code), Lp3 st pend h5 ∧ st ≠ .busy ∧ ∀ h6, Only l_1 h5 h6 → Lp3 .exhausted pend h6 → ((pend = none ∧ (∃ x_1 : Option Addr, ∃ x_n_1 x_c_1 : Nat, hcell h6 l 0 = some (.slice x_1 x_n_1 x_c_1) ∧ (∀ h14, Shut' (Array.size h) h6 h14 → R (.slice x_1 x_n_1 x_c_1) h14))))))))) :
    HC Try.prog 18 #[(.pointer none)] h R := by
  refine hc_ofM (args := [(.pointer none)]) Try.func18 rfl Try.ntmps18 (Nat.le_of_ble_eq_true rfl) ?_
  refine hx_seq ?_
  refine hx_region ?_
  refine hl_val rfl rfl (v := (.slice none 0 0)) (hv_assign rfl) ?_
  refine hl_nil ?_
  refine seqQ_n ?_
  refine hx_seq ?_
  refine hx_region ?_
  refine hl_step rfl rfl (hn_alloc Ty.z35 ?_)
  intro l h1 eb1 eh2
  replace H := H l h1 eb1 eh2
  refine hl_nil ?_
  refine seqQ_n ?_
  refine hx_seq ?_
  refine hx_seq ?_
  refine hx_region ?_
  refine hl_val rfl rfl (v := (.pointer none)) (hv_move rfl) ?_
  refine hl_step rfl rfl (hs_call Ty.cb23 (vs := [(.pointer none)]) rfl (HC.mono H ?_))
  rintro _ h2 ⟨r, rfl, H⟩
  refine hl_nil ?_
  refine seqQ_n ?_
  refine hx_block ?_
  refine hx_range rfl rfl rfl (fun h3 l_1 le4 lx5 lz6 La7 => ?_)
  refine HCF.mono (H (fun st p h => LoopAt h l_1 _ _ _ _ _ st p) l_1 h3 _ (fun s p h h' k e => k.same e) le4 lx5 lz6 La7 ?_) ?_
  · intro it_Hash it_At it_Version it_Hits h4 K11 Lb8 H
    refine hcv_yield Lb8 rfl rfl ?_
    refine hx_region ?_
    refine hl_step rfl rfl (hn_alloc Ty.z31 ?_)
    intro e h7 eb14 eh15
    replace H := H e h7 eb14 eh15
    obtain ⟨hw16, H⟩ := H
    refine hl_step rfl rfl (hn_stores (vs := [(.int .u64 it_Hash), (.int .u64 it_At), (.int .u64 it_Version), (.int .u8 it_Hits)]) rfl rfl Ty.sz31 rfl hw16 ?_)
    intro h8 eh17
    replace H := H h8 eh17
    refine hl_nil ?_
    obtain ⟨Lf20, H⟩ := H
    refine ⟨rfl, Lf20, ?_⟩
    intro h9 lo18 Le19
    replace H := H h9 lo18 Le19
    refine hx_block ?_
    refine hx_region ?_
    obtain ⟨x, x_n, x_c, hc29, H⟩ := H
    refine hl_val rfl rfl (v := (.slice x x_n x_c)) (hv_load Ty.agg35 rfl hc29) ?_
    obtain ⟨x_Hash, x_At, x_Version, x_Hits, hc25, hc26, hc27, hc28, H⟩ := H
    refine hl_val rfl rfl (v := (.agg #[(.int .u64 x_Hash), (.int .u64 x_At), (.int .u64 x_Version), (.int .u8 x_Hits)])) (hv_loads (vs := [(.int .u64 x_Hash), (.int .u64 x_At), (.int .u64 x_Version), (.int .u8 x_Hits)]) Ty.agg31 Ty.sz31 rfl (hcells_cons hc25 (hcells_cons hc26 (hcells_cons hc27 (hcells_cons hc28 hcells_nil))))) ?_
    refine hl_step rfl rfl (hn_buildSlice (n := 1) (vs := [(0, (.agg #[(.int .u64 x_Hash), (.int .u64 x_At), (.int .u64 x_Version), (.int .u8 x_Hits)]))]) (cs := #[(.int .u64 x_Hash), (.int .u64 x_At), (.int .u64 x_Version), (.int .u8 x_Hits)]) Ty.u35 Ty.sz31 Ty.z31 rfl rfl (by kernel_rfl) ?_)
    intro nb h10 eb21 eh22
    replace H := H nb h10 eb21 eh22
    refine hl_step rfl rfl (hs_append rfl rfl (HAppend.mono H ?_))
    rintro _ h11 ⟨ap, ap_n, ap_c, rfl, H⟩
    obtain ⟨hw23, H⟩ := H
    refine hl_step rfl rfl (hn_store (v := (.slice ap ap_n ap_c)) rfl rfl Ty.sz35 rfl hw23 ?_)
    intro h12 eh24
    replace H := H h12 eh24
    refine hl_nil ?_
    refine blockQ_n ?_
    exact H
  · rintro _ h5 ⟨st, pend, Lc9, hst13, H⟩
    refine ⟨st, pend, Lc9, hst13, ?_⟩
    intro h6 lo12 Ld10
    replace H := H h6 lo12 Ld10
    obtain ⟨rfl, H⟩ := H
    refine jumpQ_n ?_
    refine blockQ_n ?_
    refine seqQ_n ?_
    refine hx_seq ?_
    refine hx_region ?_
    obtain ⟨x_1, x_n_1, x_c_1, hc30, H⟩ := H
    refine hl_val rfl rfl (v := (.slice x_1 x_n_1 x_c_1)) (hv_load Ty.agg35 rfl hc30) ?_
    refine hl_val rfl rfl (v := (.slice x_1 x_n_1 x_c_1)) (hv_assign rfl) ?_
    refine hl_nil ?_
    refine seqQ_n ?_
    refine hx_ret ?_
    exact endQM_ret _ (fun h' hs => ⟨res_one Try.results18 (rv_tmp rfl), H h' hs⟩)

/-- (*cellar/table.Table).Len -/
theorem f19_shn  (h : Heap) (R : Value → Heap → Prop)
    (H : (∃ r : Bool, HC Try.prog 28 #[(.pointer none)] h (fun vv h' => vv = (.bool r) ∧ h' = h) ∧ (((!r) = true → R (.int .i64 0) h) ∧ ((!r) = false → False)))) :
    HC Try.prog 19 #[(.pointer none)] h R := by
  refine hc_of (args := [(.pointer none)]) Try.func19 rfl Try.ntmps19 (Nat.le_of_ble_eq_true rfl) ?_
  refine hx_seq ?_
  refine hx_region ?_
  refine hl_val rfl rfl (v := (.int .i64 0)) (hv_assign rfl) ?_
  refine hl_nil ?_
  refine seqQ_n ?_
  refine hx_seq ?_
  refine hx_seq ?_
  refine hx_region ?_
  refine hl_val rfl rfl (v := (.pointer none)) (hv_move rfl) ?_
  obtain ⟨r, hr1, H⟩ := H
  refine hl_val rfl rfl (v := (.bool r)) (hv_call Ty.cb28 (vs := [(.pointer none)]) rfl hr1) ?_
  refine hl_val rfl rfl (v := (.bool (!r))) (hv_not (b := r) rfl) ?_
  refine hl_nil ?_
  refine seqQ_n ?_
  refine hx_cond (b := !r) rfl (fun hb2 => ?_) (fun hb2 => ?_)
  · replace H := H.1 hb2
    refine hx_seq ?_
    refine hx_region ?_
    refine hl_val rfl rfl (v := (.int .i64 0)) (hv_assign rfl) ?_
    refine hl_nil ?_
    refine seqQ_n ?_
    refine hx_ret ?_
    refine seqQ_ret ?_
    exact endQ_ret _ (res_one Try.results19 (rv_tmp rfl)) H
  · replace H := H.2 hb2
    refine hx_skip ?_
    refine seqQ_n ?_
    refine hx_seq ?_
    refine hx_region ?_
    refine hl_val rfl rfl (v := (.pointer none)) (hv_move rfl) ?_
    exact H.elim

/-- (*cellar/table.Table).All -/
theorem f23_shn  (h : Heap) (R : Value → Heap → Prop)
    (H : (∀ t h1, t = Array.size h → h1 = Array.push h (.cells #[(.pointer none)] 24) → R (.func (.func 41) #[] #[(ptr t 0)]) h1)) :
    HC Try.prog 23 #[(.pointer none)] h R := by
  refine hc_of (args := [(.pointer none)]) Try.func23 rfl Try.ntmps23 (Nat.le_of_ble_eq_true rfl) ?_
  refine hx_seq ?_
  refine hx_region ?_
  refine hl_step rfl rfl (hn_box (v := (.pointer none)) rfl ?_)
  intro t h1 eb1 eh2
  replace H := H t h1 eb1 eh2
  refine hl_val rfl rfl (v := .nilFunc) (hv_assign rfl) ?_
  refine hl_nil ?_
  refine seqQ_n ?_
  refine hx_seq ?_
  refine hx_region ?_
  refine hl_val rfl rfl (v := (.func (.func 41) #[] #[(ptr t 0)])) (hv_makeFunc (fv := []) (cv := [(ptr t 0)]) rfl rfl) ?_
  refine hl_val rfl rfl (v := (.func (.func 41) #[] #[(ptr t 0)])) (hv_assign rfl) ?_
  refine hl_nil ?_
  refine seqQ_n ?_
  refine hx_ret ?_
  exact endQ_ret _ (res_one Try.results23 (rv_tmp rfl)) H

/-- (*cellar/table.Table).Fork -/
theorem f24_shn  (h : Heap) (R : Value → Heap → Prop)
    (H : (∃ r : Bool, HC Try.prog 28 #[(.pointer none)] h (fun vv h' => vv = (.bool r) ∧ h' = h) ∧ (((!r) = true → R (.pointer none) h) ∧ ((!r) = false → False)))) :
    HC Try.prog 24 #[(.pointer none)] h R := by
  refine hc_of (args := [(.pointer none)]) Try.func24 rfl Try.ntmps24 (Nat.le_of_ble_eq_true rfl) ?_
  refine hx_seq ?_
  refine hx_region ?_
  refine hl_val rfl rfl (v := (.pointer none)) (hv_assign rfl) ?_
  refine hl_nil ?_
  refine seqQ_n ?_
  refine hx_seq ?_
  refine hx_seq ?_
  refine hx_region ?_
  refine hl_val rfl rfl (v := (.pointer none)) (hv_move rfl) ?_
  obtain ⟨r, hr1, H⟩ := H
  refine hl_val rfl rfl (v := (.bool r)) (hv_call Ty.cb28 (vs := [(.pointer none)]) rfl hr1) ?_
  refine hl_val rfl rfl (v := (.bool (!r))) (hv_not (b := r) rfl) ?_
  refine hl_nil ?_
  refine seqQ_n ?_
  refine hx_cond (b := !r) rfl (fun hb2 => ?_) (fun hb2 => ?_)
  · replace H := H.1 hb2
    refine hx_seq ?_
    refine hx_region ?_
    refine hl_val rfl rfl (v := (.pointer none)) (hv_assign rfl) ?_
    refine hl_nil ?_
    refine seqQ_n ?_
    refine hx_ret ?_
    refine seqQ_ret ?_
    exact endQ_ret _ (res_one Try.results24 (rv_tmp rfl)) H
  · replace H := H.2 hb2
    refine hx_skip ?_
    refine seqQ_n ?_
    refine hx_seq ?_
    refine hx_region ?_
    refine hl_val rfl rfl (v := (.pointer none)) (hv_move rfl) ?_
    exact H.elim

/-- (*cellar/table.Table).Longest -/
theorem f26_shn  (h : Heap) (R : Value → Heap → Prop)
    (H : (∃ r : Bool, HC Try.prog 28 #[(.pointer none)] h (fun vv h' => vv = (.bool r) ∧ h' = h) ∧ (((!r) = true → R (.int .i64 0) h) ∧ ((!r) = false → False)))) :
    HC Try.prog 26 #[(.pointer none)] h R := by
  refine hc_of (args := [(.pointer none)]) Try.func26 rfl Try.ntmps26 (Nat.le_of_ble_eq_true rfl) ?_
  refine hx_seq ?_
  refine hx_region ?_
  refine hl_val rfl rfl (v := (.int .i64 0)) (hv_assign rfl) ?_
  refine hl_nil ?_
  refine seqQ_n ?_
  refine hx_seq ?_
  refine hx_seq ?_
  refine hx_region ?_
  refine hl_val rfl rfl (v := (.pointer none)) (hv_move rfl) ?_
  obtain ⟨r, hr1, H⟩ := H
  refine hl_val rfl rfl (v := (.bool r)) (hv_call Ty.cb28 (vs := [(.pointer none)]) rfl hr1) ?_
  refine hl_val rfl rfl (v := (.bool (!r))) (hv_not (b := r) rfl) ?_
  refine hl_nil ?_
  refine seqQ_n ?_
  refine hx_cond (b := !r) rfl (fun hb2 => ?_) (fun hb2 => ?_)
  · replace H := H.1 hb2
    refine hx_seq ?_
    refine hx_region ?_
    refine hl_val rfl rfl (v := (.int .i64 0)) (hv_assign rfl) ?_
    refine hl_nil ?_
    refine seqQ_n ?_
    refine hx_ret ?_
    refine seqQ_ret ?_
    exact endQ_ret _ (res_one Try.results26 (rv_tmp rfl)) H
  · replace H := H.2 hb2
    refine hx_skip ?_
    refine seqQ_n ?_
    refine hx_seq ?_
    refine hx_region ?_
    refine hl_val rfl rfl (v := (.int .i64 0)) (hv_assign rfl) ?_
    refine hl_nil ?_
    refine seqQ_n ?_
    refine hx_seq ?_
    refine hx_seq ?_
    refine hx_region ?_
    refine hl_val rfl rfl (v := (.pointer none)) (hv_move rfl) ?_
    exact H.elim

end Go.Proofs.Ytebipjmcckkhcaa
