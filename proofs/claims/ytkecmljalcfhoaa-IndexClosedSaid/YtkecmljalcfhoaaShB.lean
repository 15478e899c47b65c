/-
Shallow forms, written by gen.py (a program of this session) out of the print of the program.
-/
import Derived.Test.YtkecmljalcfhoaaMor
import Derived.Test.YtkecmljalcfhoaaProg
namespace Go.Proofs.Ytkecmljalcfhoaa
open Go
set_option maxRecDepth 100000
set_option maxHeartbeats 4000000

theorem Ty.agg29 : aggB Try.prog 29 = some false := by kernel_rfl
theorem Ty.agg3 : aggB Try.prog 3 = some false := by kernel_rfl
theorem Ty.agg31 : aggB Try.prog 31 = some true := by kernel_rfl
theorem Ty.agg47 : aggB Try.prog 47 = some false := by kernel_rfl
theorem Ty.agg5 : aggB Try.prog 5 = some false := by kernel_rfl
theorem Ty.by31 : byB Try.prog 31 = some 32 := by kernel_rfl
theorem Ty.cb50 : CallB Try.prog 50 := fun _ _ => Try.call50 _ _
theorem Ty.cb58 : CallB Try.prog 58 := fun _ _ => Try.call58 _ _
theorem Ty.cb62 : CallB Try.prog 62 := fun _ _ => Try.call62 _ _
theorem Ty.cb63 : CallB Try.prog 63 := fun _ _ => Try.call63 _ _
theorem Ty.cb64 : CallB Try.prog 64 := fun _ _ => Try.call64 _ _
theorem Ty.cb67 : CallB Try.prog 67 := fun _ _ => Try.call67 _ _
theorem Ty.cb68 : CallB Try.prog 68 := fun _ _ => Try.call68 _ _
theorem Ty.cb69 : CallB Try.prog 69 := fun _ _ => Try.call69 _ _
theorem Ty.el47 : elB Try.prog 47 = some 4 := by kernel_rfl
theorem Ty.fld31_0 : fldB Try.prog 31 0 = some 0 := by kernel_rfl
theorem Ty.fld31_3 : fldB Try.prog 31 3 = some 3 := by kernel_rfl
theorem Ty.fld87_0 : fldB Try.prog 87 0 = some 0 := by kernel_rfl
theorem Ty.fld87_1 : fldB Try.prog 87 1 = some 1 := by kernel_rfl
theorem Ty.fld87_2 : fldB Try.prog 87 2 = some 2 := by kernel_rfl
theorem Ty.fld87_3 : fldB Try.prog 87 3 = some 3 := by kernel_rfl
theorem Ty.mixed : Try.prog.follows .mixedOrders = true := by kernel_rfl
theorem Ty.pl31 : plB Try.prog 31 = some [(0, 1), (1, 1), (2, 1), (3, 1)] := by kernel_rfl
theorem Ty.pl87 : plB Try.prog 87 = some [(0, 1), (1, 1), (2, 1), (3, 1)] := by kernel_rfl
theorem Ty.sz3 : szB Try.prog 3 = some 1 := by kernel_rfl
theorem Ty.sz31 : szB Try.prog 31 = some 4 := by kernel_rfl
theorem Ty.sz5 : szB Try.prog 5 = some 1 := by kernel_rfl
theorem Ty.u47 : Try.prog.underlying 47 = some (.slice 31) := by kernel_rfl
theorem Ty.z31 : zeroB Try.prog 31 (.agg #[(.int .u64 0), (.int .u64 0), (.int .u64 0), (.int .u8 0)]) := by unfold zeroB; kernel_rfl
theorem Ty.z87 : zeroB Try.prog 87 (.agg #[(.slice none 0 0), (.int .i64 0), (.int .i64 0), (.int .i64 0)]) := by unfold zeroB; kernel_rfl

/-- (*cellar/table.Table).Put -/
theorem f51_sh (t_b : Nat) (t_o : Nat) (e_Hash : Int) (e_At : Int) (e_Version : Int) (e_Hits : Int) (h : Heap) (R : Value → Heap → Prop)
    (H : (∀ e h1, e = Array.size h → h1 = Array.push h (.cells #[(.int .u64 e_Hash), (.int .u64 e_At), (.int .u64 e_Version), (.int .u8 e_Hits)] 31) → (∀ old h2, old = Array.size h1 → h2 = Array.push h1 (.cells #[(.int .u64 0), (.int .u64 0), (.int .u64 0), (.int .u8 0)] 31) → (∃ r : Bool, HC Try.prog 64 #[(ptr t_b t_o)] h2 (fun vv h' => vv = (.bool r) ∧ h' = h2) ∧ (((!r) = true → (HWs h2 old 0 4 ∧ ∀ h3, h3 = hsets h2 old 0 [(.int .u64 0), (.int .u64 0), (.int .u64 0), (.int .u8 0)] → (∃ old_Hash old_At old_Version old_Hits : Int, hcell h3 old 0 = some (.int .u64 old_Hash) ∧ hcell h3 old 1 = some (.int .u64 old_At) ∧ hcell h3 old 2 = some (.int .u64 old_Version) ∧ hcell h3 old 3 = some (.int .u8 old_Hits) ∧ R (.tuple #[(.agg #[(.int .u64 old_Hash), (.int .u64 old_At), (.int .u64 old_Version), (.int .u8 old_Hits)]), (.bool false), (.int .i64 6)]) h3))) ∧ ((!r) = false → (∃ x_Hash x_At x_Version x_Hits : Int, hcell h2 e 0 = some (.int .u64 x_Hash) ∧ hcell h2 e 1 = some (.int .u64 x_At) ∧ hcell h2 e 2 = some (.int .u64 x_Version) ∧ hcell h2 e 3 = some (.int .u8 x_Hits) ∧ HC Try.prog 58 #[(.agg #[(.int .u64 x_Hash), (.int .u64 x_At), (.int .u64 x_Version), (.int .u8 x_Hits)])] h2 (fun vv h4 => ∃ r_1 : Bool, vv = (.bool r_1) ∧ ((r_1 = true → (HWs h4 old 0 4 ∧ ∀ h5, h5 = hsets h4 old 0 [(.int .u64 0), (.int .u64 0), (.int .u64 0), (.int .u8 0)] → (∃ old_Hash old_At old_Version old_Hits : Int, hcell h5 old 0 = some (.int .u64 old_Hash) ∧ hcell h5 old 1 = some (.int .u64 old_At) ∧ hcell h5 old 2 = some (.int .u64 old_Version) ∧ hcell h5 old 3 = some (.int .u8 old_Hits) ∧ R (.tuple #[(.agg #[(.int .u64 old_Hash), (.int .u64 old_At), (.int .u64 old_Version), (.int .u8 old_Hits)]), (.bool false), (.int .i64 1)]) h5))) ∧ (r_1 = false → (∃ x : Int, hcell h4 e 0 = some (.int .u64 x) ∧ HC Try.prog 50 #[(ptr t_b t_o), (.int .u64 x)] h4 (fun vv h6 => ∃ r_2 : Int, vv = (.int .i64 r_2) ∧ (((decide (r_2 ≥ 0)) = true → (∃ x_1 : Option Addr, ∃ x_n x_c : Nat, hcell h6 t_b t_o = some (.slice x_1 x_n x_c) ∧ (∃ x_1_b x_1_o : Nat, x_1 = some ⟨x_1_b, x_1_o, none⟩ ∧ (0 : Int) ≤ r_2 ∧ r_2 < (x_n : Int) ∧ (∃ x_Hash_1 x_At_1 x_Version_1 x_Hits_1 : Int, hcell h6 x_1_b (x_1_o + (Int.toNat r_2) * 4) = some (.int .u64 x_Hash_1) ∧ hcell h6 x_1_b ((x_1_o + (Int.toNat r_2) * 4) + 1) = some (.int .u64 x_At_1) ∧ hcell h6 x_1_b ((x_1_o + (Int.toNat r_2) * 4) + 2) = some (.int .u64 x_Version_1) ∧ hcell h6 x_1_b ((x_1_o + (Int.toNat r_2) * 4) + 3) = some (.int .u8 x_Hits_1) ∧ (HWs h6 old 0 4 ∧ ∀ h7, h7 = hsets h6 old 0 [(.int .u64 x_Hash_1), (.int .u64 x_At_1), (.int .u64 x_Version_1), (.int .u8 x_Hits_1)] → (∃ x_2 : Option Addr, ∃ x_n_1 x_c_1 : Nat, hcell h7 t_b t_o = some (.slice x_2 x_n_1 x_c_1) ∧ (∃ x_Hash_2 x_At_2 x_Version_2 x_Hits_2 : Int, hcell h7 e 0 = some (.int .u64 x_Hash_2) ∧ hcell h7 e 1 = some (.int .u64 x_At_2) ∧ hcell h7 e 2 = some (.int .u64 x_Version_2) ∧ hcell h7 e 3 = some (.int .u8 x_Hits_2) ∧ (∃ x_2_b x_2_o : Nat, x_2 = some ⟨x_2_b, x_2_o, none⟩ ∧ (0 : Int) ≤ r_2 ∧ r_2 < (x_n_1 : Int) ∧ (HWs h7 x_2_b (x_2_o + (Int.toNat r_2) * 4) 4 ∧ ∀ h8, h8 = hsets h7 x_2_b (x_2_o + (Int.toNat r_2) * 4) [(.int .u64 x_Hash_2), (.int .u64 x_At_2), (.int .u64 x_Version_2), (.int .u8 x_Hits_2)] → (∃ x_Hash_3 x_At_3 x_Version_3 x_Hits_3 : Int, hcell h8 old 0 = some (.int .u64 x_Hash_3) ∧ hcell h8 old 1 = some (.int .u64 x_At_3) ∧ hcell h8 old 2 = some (.int .u64 x_Version_3) ∧ hcell h8 old 3 = some (.int .u8 x_Hits_3) ∧ (HWs h8 old 0 4 ∧ ∀ h9, h9 = hsets h8 old 0 [(.int .u64 x_Hash_3), (.int .u64 x_At_3), (.int .u64 x_Version_3), (.int .u8 x_Hits_3)] → (∃ old_Hash old_At old_Version old_Hits : Int, hcell h9 old 0 = some (.int .u64 old_Hash) ∧ hcell h9 old 1 = some (.int .u64 old_At) ∧ hcell h9 old 2 = some (.int .u64 old_Version) ∧ hcell h9 old 3 = some (.int .u8 old_Hits) ∧ R (.tuple #[(.agg #[(.int .u64 old_Hash), (.int .u64 old_At), (.int .u64 old_Version), (.int .u8 old_Hits)]), (.bool true), (.int .i64 0)]) h9)))))))))))) ∧ ((decide (r_2 ≥ 0)) = false → (∃ A46 : Heap → Prop, (∃ r_3 : Bool, HC Try.prog 67 #[(ptr t_b t_o)] h6 (fun vv h' => vv = (.bool r_3) ∧ h' = h6) ∧ ((r_3 = true → (∃ x_1 : Int, hcell h6 t_b (t_o + 1) = some (.int .i64 x_1) ∧ (∃ x_2 : Int, hcell h6 t_b (t_o + 2) = some (.int .i64 x_2) ∧ (((x_1 == x_2) = true → (HWs h6 old 0 4 ∧ ∀ h11, h11 = hsets h6 old 0 [(.int .u64 0), (.int .u64 0), (.int .u64 0), (.int .u8 0)] → (∃ old_Hash old_At old_Version old_Hits : Int, hcell h11 old 0 = some (.int .u64 old_Hash) ∧ hcell h11 old 1 = some (.int .u64 old_At) ∧ hcell h11 old 2 = some (.int .u64 old_Version) ∧ hcell h11 old 3 = some (.int .u8 old_Hits) ∧ R (.tuple #[(.agg #[(.int .u64 old_Hash), (.int .u64 old_At), (.int .u64 old_Version), (.int .u8 old_Hits)]), (.bool false), (.int .i64 2)]) h11))) ∧ ((x_1 == x_2) = false → HC Try.prog 68 #[(ptr t_b t_o)] h6 (fun vv h12 => vv = (.tuple #[]) ∧ (A46 h12))))))) ∧ (r_3 = false → (A46 h6)))) ∧ (∀ (h10 : Heap), A46 h10 → (∃ x_Hash_1 x_At_1 x_Version_1 x_Hits_1 : Int, hcell h10 e 0 = some (.int .u64 x_Hash_1) ∧ hcell h10 e 1 = some (.int .u64 x_At_1) ∧ hcell h10 e 2 = some (.int .u64 x_Version_1) ∧ hcell h10 e 3 = some (.int .u8 x_Hits_1) ∧ HC Try.prog 69 #[(ptr t_b t_o), (.agg #[(.int .u64 x_Hash_1), (.int .u64 x_At_1), (.int .u64 x_Version_1), (.int .u8 x_Hits_1)])] h10 (fun vv h13 => vv = (.tuple #[]) ∧ (HWs h13 old 0 4 ∧ ∀ h14, h14 = hsets h13 old 0 [(.int .u64 0), (.int .u64 0), (.int .u64 0), (.int .u8 0)] → (∃ old_Hash_1 old_At_1 old_Version_1 old_Hits_1 : Int, hcell h14 old 0 = some (.int .u64 old_Hash_1) ∧ hcell h14 old 1 = some (.int .u64 old_At_1) ∧ hcell h14 old 2 = some (.int .u64 old_Version_1) ∧ hcell h14 old 3 = some (.int .u8 old_Hits_1) ∧ R (.tuple #[(.agg #[(.int .u64 old_Hash_1), (.int .u64 old_At_1), (.int .u64 old_Version_1), (.int .u8 old_Hits_1)]), (.bool false), (.int .i64 0)]) h14)))))))))))))))))))) :
    HC Try.prog 51 #[(ptr t_b t_o), (.agg #[(.int .u64 e_Hash), (.int .u64 e_At), (.int .u64 e_Version), (.int .u8 e_Hits)])] h R := by
  refine hc_of (args := [(ptr t_b t_o), (.agg #[(.int .u64 e_Hash), (.int .u64 e_At), (.int .u64 e_Version), (.int .u8 e_Hits)])]) Try.func51 rfl Try.ntmps51 (Nat.le_of_ble_eq_true rfl) ?_
  refine hx_seq ?_
  refine hx_region ?_
  refine hl_step rfl rfl (hn_box (v := (.agg #[(.int .u64 e_Hash), (.int .u64 e_At), (.int .u64 e_Version), (.int .u8 e_Hits)])) rfl ?_)
  intro e h1 eb1 eh2
  replace H := H e h1 eb1 eh2
  refine hl_step rfl rfl (hn_alloc Ty.z31 ?_)
  intro old h2 eb3 eh4
  replace H := H old h2 eb3 eh4
  refine hl_val rfl rfl (v := (.bool false)) (hv_assign rfl) ?_
  refine hl_val rfl rfl (v := (.int .i64 0)) (hv_assign rfl) ?_
  refine hl_nil ?_
  refine seqQ_n ?_
  refine hx_seq ?_
  refine hx_block ?_
  refine hx_seq ?_
  refine hx_region ?_
  refine hl_val rfl rfl (v := (ptr t_b t_o)) (hv_move rfl) ?_
  obtain ⟨r, hr5, H⟩ := H
  refine hl_val rfl rfl (v := (.bool r)) (hv_call Ty.cb64 (vs := [(ptr t_b t_o)]) rfl hr5) ?_
  refine hl_val rfl rfl (v := (.bool (!r))) (hv_not (b := r) rfl) ?_
  refine hl_val rfl rfl (v := (.bool (!r))) (hv_assign rfl) ?_
  refine hl_nil ?_
  refine seqQ_n ?_
  refine hx_cond (b := !r) rfl (fun hb78 => ?_) (fun hb78 => ?_)
  · replace H := H.1 hb78
    refine hx_seq ?_
    refine hx_region ?_
    refine hl_val rfl rfl (v := (.agg #[(.int .u64 0), (.int .u64 0), (.int .u64 0), (.int .u8 0)])) (hv_build (vs := []) (cs := #[(.int .u64 0), (.int .u64 0), (.int .u64 0), (.int .u8 0)]) Ty.z31 Ty.pl31 rfl (by kernel_rfl)) ?_
    obtain ⟨hw6, H⟩ := H
    refine hl_step rfl rfl (hn_stores (vs := [(.int .u64 0), (.int .u64 0), (.int .u64 0), (.int .u8 0)]) rfl rfl Ty.sz31 rfl hw6 ?_)
    intro h3 eh7
    replace H := H h3 eh7
    refine hl_val rfl rfl (v := (.bool false)) (hv_assign rfl) ?_
    refine hl_val rfl rfl (v := (.int .i64 6)) (hv_assign rfl) ?_
    refine hl_nil ?_
    refine seqQ_n ?_
    refine hx_ret ?_
    refine blockQ_ret ?_
    refine seqQ_ret ?_
    obtain ⟨old_Hash, old_At, old_Version, old_Hits, hc8, hc9, hc10, hc11, H⟩ := H
    exact endQ_ret _ (res_three Try.results51 (rv_cell (vs := [(.int .u64 old_Hash), (.int .u64 old_At), (.int .u64 old_Version), (.int .u8 old_Hits)]) Ty.agg31 Ty.sz31 rfl (hcells_cons hc8 (hcells_cons hc9 (hcells_cons hc10 (hcells_cons hc11 hcells_nil))))) (rv_tmp rfl) (rv_tmp rfl)) H
  · replace H := H.2 hb78
    refine hx_seq ?_
    refine hx_region ?_
    obtain ⟨x_Hash, x_At, x_Version, x_Hits, hc74, hc75, hc76, hc77, H⟩ := H
    refine hl_val rfl rfl (v := (.agg #[(.int .u64 x_Hash), (.int .u64 x_At), (.int .u64 x_Version), (.int .u8 x_Hits)])) (hv_loads (vs := [(.int .u64 x_Hash), (.int .u64 x_At), (.int .u64 x_Version), (.int .u8 x_Hits)]) Ty.agg31 Ty.sz31 rfl (hcells_cons hc74 (hcells_cons hc75 (hcells_cons hc76 (hcells_cons hc77 hcells_nil))))) ?_
    refine hl_step rfl rfl (hs_call Ty.cb58 (vs := [(.agg #[(.int .u64 x_Hash), (.int .u64 x_At), (.int .u64 x_Version), (.int .u8 x_Hits)])]) rfl (HC.mono H ?_))
    rintro _ h4 ⟨r_1, rfl, H⟩
    refine hl_val rfl rfl (v := (.bool r_1)) (hv_assign rfl) ?_
    refine hl_nil ?_
    refine seqQ_n ?_
    refine hx_cond (b := r_1) rfl (fun hb73 => ?_) (fun hb73 => ?_)
    · replace H := H.1 hb73
      refine hx_seq ?_
      refine hx_region ?_
      refine hl_val rfl rfl (v := (.agg #[(.int .u64 0), (.int .u64 0), (.int .u64 0), (.int .u8 0)])) (hv_build (vs := []) (cs := #[(.int .u64 0), (.int .u64 0), (.int .u64 0), (.int .u8 0)]) Ty.z31 Ty.pl31 rfl (by kernel_rfl)) ?_
      obtain ⟨hw12, H⟩ := H
      refine hl_step rfl rfl (hn_stores (vs := [(.int .u64 0), (.int .u64 0), (.int .u64 0), (.int .u8 0)]) rfl rfl Ty.sz31 rfl hw12 ?_)
      intro h5 eh13
      replace H := H h5 eh13
      refine hl_val rfl rfl (v := (.bool false)) (hv_assign rfl) ?_
      refine hl_val rfl rfl (v := (.int .i64 1)) (hv_assign rfl) ?_
      refine hl_nil ?_
      refine seqQ_n ?_
      refine hx_ret ?_
      refine blockQ_ret ?_
      refine seqQ_ret ?_
      obtain ⟨old_Hash, old_At, old_Version, old_Hits, hc14, hc15, hc16, hc17, H⟩ := H
      exact endQ_ret _ (res_three Try.results51 (rv_cell (vs := [(.int .u64 old_Hash), (.int .u64 old_At), (.int .u64 old_Version), (.int .u8 old_Hits)]) Ty.agg31 Ty.sz31 rfl (hcells_cons hc14 (hcells_cons hc15 (hcells_cons hc16 (hcells_cons hc17 hcells_nil))))) (rv_tmp rfl) (rv_tmp rfl)) H
    · replace H := H.2 hb73
      refine hx_skip ?_
      refine blockQ_n ?_
      refine seqQ_n ?_
      refine hx_seq ?_
      refine hx_seq ?_
      refine hx_region ?_
      refine hl_val rfl rfl (v := (ptr t_b t_o)) (hv_move rfl) ?_
      refine hl_val rfl rfl (v := (ptr e 0)) (hv_field Ty.fld31_0 (b := e) (o := 0) rfl) ?_
      obtain ⟨x, hc72, H⟩ := H
      refine hl_val rfl rfl (v := (.int .u64 x)) (hv_load Ty.agg29 rfl hc72) ?_
      refine hl_step rfl rfl (hs_call Ty.cb50 (vs := [(ptr t_b t_o), (.int .u64 x)]) rfl (HC.mono H ?_))
      rintro _ h6 ⟨r_2, rfl, H⟩
      refine hl_val rfl rfl (v := (.int .i64 r_2)) (hv_assign rfl) ?_
      refine hl_nil ?_
      refine seqQ_n ?_
      refine hx_seq ?_
      refine hx_region ?_
      refine hl_val rfl rfl (v := (.int .i64 r_2)) (hv_move rfl) ?_
      refine hl_val rfl rfl (v := (.bool (decide (r_2 ≥ 0)))) (hv_arith rfl rfl rfl) ?_
      refine hl_nil ?_
      refine seqQ_n ?_
      refine hx_cond (b := decide (r_2 ≥ 0)) rfl (fun hb71 => ?_) (fun hb71 => ?_)
      · replace H := H.1 hb71
        refine hx_seq ?_
        refine hx_region ?_
        refine hl_val rfl rfl (v := (ptr t_b t_o)) (hv_move rfl) ?_
        refine hl_val rfl rfl (v := (ptr t_b t_o)) (hv_nil rfl) ?_
        refine hl_val rfl rfl (v := (ptr t_b t_o)) (hv_field Ty.fld87_0 (b := t_b) (o := t_o) rfl) ?_
        obtain ⟨x_1, x_n, x_c, hc45, H⟩ := H
        refine hl_val rfl rfl (v := (.slice x_1 x_n x_c)) (hv_load Ty.agg47 rfl hc45) ?_
        refine hl_val rfl rfl (v := (.int .i64 r_2)) (hv_move rfl) ?_
        obtain ⟨x_1_b, x_1_o, hqe, hi18, hi19, Hq⟩ := H
        subst hqe
        have H := Hq; clear Hq
        refine hl_val rfl rfl (v := (ptr x_1_b (x_1_o + (Int.toNat r_2) * 4))) (hv_index Ty.el47 rfl rfl hi18 hi19) ?_
        obtain ⟨x_Hash_1, x_At_1, x_Version_1, x_Hits_1, hc41, hc42, hc43, hc44, H⟩ := H
        refine hl_val rfl rfl (v := (.agg #[(.int .u64 x_Hash_1), (.int .u64 x_At_1), (.int .u64 x_Version_1), (.int .u8 x_Hits_1)])) (hv_loads (vs := [(.int .u64 x_Hash_1), (.int .u64 x_At_1), (.int .u64 x_Version_1), (.int .u8 x_Hits_1)]) Ty.agg31 Ty.sz31 rfl (hcells_cons hc41 (hcells_cons hc42 (hcells_cons hc43 (hcells_cons hc44 hcells_nil))))) ?_
        obtain ⟨hw20, H⟩ := H
        refine hl_step rfl rfl (hn_stores (vs := [(.int .u64 x_Hash_1), (.int .u64 x_At_1), (.int .u64 x_Version_1), (.int .u8 x_Hits_1)]) rfl rfl Ty.sz31 rfl hw20 ?_)
        intro h7 eh21
        replace H := H h7 eh21
        refine hl_nil ?_
        refine seqQ_n ?_
        refine hx_seq ?_
        refine hx_draw Ty.mixed [.pure, .pure, .pure, .read, .pure, .read, .pure, .wild] [0, 1, 2, 3, 4, 5, 6, 7] (by kernel_rfl) ?_
        refine hp_pure (i := 0) rfl (wanted_0 rfl) rfl (ptr t_b t_o) (fun _ => hv_move rfl) ?_
        refine hp_pure (i := 1) rfl (wanted_0 rfl) rfl (ptr t_b t_o) (fun _ => hv_nil rfl) ?_
        refine hp_pure (i := 2) rfl (wanted_0 rfl) rfl (ptr t_b t_o) (fun _ => hv_field Ty.fld87_0 (b := t_b) (o := t_o) rfl) ?_
        obtain ⟨x_2, x_n_1, x_c_1, hc40, H⟩ := H
        refine hp_read (i := 3) rfl (wanted_0 rfl) rfl (.slice x_2 x_n_1 x_c_1) (fun _ he => hv_load Ty.agg47 rfl (he.cell hc40)) ?_
        refine hp_pure (i := 4) rfl (wanted_0 rfl) rfl (.int .i64 r_2) (fun _ => hv_move rfl) ?_
        obtain ⟨x_Hash_2, x_At_2, x_Version_2, x_Hits_2, hc36, hc37, hc38, hc39, H⟩ := H
        refine hp_read (i := 5) rfl (wanted_0 rfl) rfl (.agg #[(.int .u64 x_Hash_2), (.int .u64 x_At_2), (.int .u64 x_Version_2), (.int .u8 x_Hits_2)]) (fun _ he => hv_loads (vs := [(.int .u64 x_Hash_2), (.int .u64 x_At_2), (.int .u64 x_Version_2), (.int .u8 x_Hits_2)]) Ty.agg31 Ty.sz31 rfl (hcells_cons (he.cell hc36) (hcells_cons (he.cell hc37) (hcells_cons (he.cell hc38) (hcells_cons (he.cell hc39) hcells_nil))))) ?_
        obtain ⟨x_2_b, x_2_o, hqe, hi22, hi23, Hq⟩ := H
        subst hqe
        have H := Hq; clear Hq
        refine hp_pure (i := 6) rfl (wanted_0 rfl) rfl (ptr x_2_b (x_2_o + (Int.toNat r_2) * 4)) (fun _ => hv_index Ty.el47 rfl rfl hi22 hi23) ?_
        obtain ⟨hw24, H⟩ := H
        refine hp_wild (i := 7) rfl (wanted_0 rfl) rfl (hn_stores (vs := [(.int .u64 x_Hash_2), (.int .u64 x_At_2), (.int .u64 x_Version_2), (.int .u8 x_Hits_2)]) rfl rfl Ty.sz31 rfl hw24 ?_)
        intro h8 eh25
        replace H := H h8 eh25
        refine hp_nil ?_
        refine seqQ_n ?_
        refine hx_seq ?_
        refine hx_region ?_
        obtain ⟨x_Hash_3, x_At_3, x_Version_3, x_Hits_3, hc32, hc33, hc34, hc35, H⟩ := H
        refine hl_val rfl rfl (v := (.agg #[(.int .u64 x_Hash_3), (.int .u64 x_At_3), (.int .u64 x_Version_3), (.int .u8 x_Hits_3)])) (hv_loads (vs := [(.int .u64 x_Hash_3), (.int .u64 x_At_3), (.int .u64 x_Version_3), (.int .u8 x_Hits_3)]) Ty.agg31 Ty.sz31 rfl (hcells_cons hc32 (hcells_cons hc33 (hcells_cons hc34 (hcells_cons hc35 hcells_nil))))) ?_
        obtain ⟨hw26, H⟩ := H
        refine hl_step rfl rfl (hn_stores (vs := [(.int .u64 x_Hash_3), (.int .u64 x_At_3), (.int .u64 x_Version_3), (.int .u8 x_Hits_3)]) rfl rfl Ty.sz31 rfl hw26 ?_)
        intro h9 eh27
        replace H := H h9 eh27
        refine hl_val rfl rfl (v := (.bool true)) (hv_assign rfl) ?_
        refine hl_val rfl rfl (v := (.int .i64 0)) (hv_assign rfl) ?_
        refine hl_nil ?_
        refine seqQ_n ?_
        refine hx_ret ?_
        refine seqQ_ret ?_
        obtain ⟨old_Hash, old_At, old_Version, old_Hits, hc28, hc29, hc30, hc31, H⟩ := H
        exact endQ_ret _ (res_three Try.results51 (rv_cell (vs := [(.int .u64 old_Hash), (.int .u64 old_At), (.int .u64 old_Version), (.int .u8 old_Hits)]) Ty.agg31 Ty.sz31 rfl (hcells_cons hc28 (hcells_cons hc29 (hcells_cons hc30 (hcells_cons hc31 hcells_nil))))) (rv_tmp rfl) (rv_tmp rfl)) H
      · replace H := H.2 hb71
        refine hx_skip ?_
        refine seqQ_n ?_
        obtain ⟨A46, Hx68, Hy69⟩ := H
        refine hx_cut (fun ρ h' => A46 h' ∧ Has ρ [(0, (ptr t_b t_o)), (3, (ptr e 0)), (4, (ptr old 0))]) ?_ ?_
        · have H := Hx68; clear Hx68 Hy69
          refine hx_seq ?_
          refine hx_region ?_
          refine hl_val rfl rfl (v := (ptr t_b t_o)) (hv_move rfl) ?_
          obtain ⟨r_3, hr47, H⟩ := H
          refine hl_val rfl rfl (v := (.bool r_3)) (hv_call Ty.cb67 (vs := [(ptr t_b t_o)]) rfl hr47) ?_
          refine hl_nil ?_
          refine seqQ_n ?_
          refine hx_cond (b := r_3) rfl (fun hb57 => ?_) (fun hb57 => ?_)
          · replace H := H.1 hb57
            refine hx_seq ?_
            refine hx_seq ?_
            refine hx_draw Ty.mixed [.pure, .pure, .pure, .read, .pure, .pure, .pure, .read, .pure] [0, 1, 2, 3, 4, 5, 6, 7, 8] (by kernel_rfl) ?_
            refine hp_pure (i := 0) rfl (wanted_0 rfl) rfl (ptr t_b t_o) (fun _ => hv_move rfl) ?_
            refine hp_pure (i := 1) rfl (wanted_0 rfl) rfl (ptr t_b t_o) (fun _ => hv_nil rfl) ?_
            refine hp_pure (i := 2) rfl (wanted_0 rfl) rfl (ptr t_b (t_o + 1)) (fun _ => hv_field Ty.fld87_1 (b := t_b) (o := t_o) rfl) ?_
            obtain ⟨x_1, hc56, H⟩ := H
            refine hp_read (i := 3) rfl (wanted_0 rfl) rfl (.int .i64 x_1) (fun _ he => hv_load Ty.agg3 rfl (he.cell hc56)) ?_
            refine hp_pure (i := 4) rfl (wanted_0 rfl) rfl (ptr t_b t_o) (fun _ => hv_move rfl) ?_
            refine hp_pure (i := 5) rfl (wanted_0 rfl) rfl (ptr t_b t_o) (fun _ => hv_nil rfl) ?_
            refine hp_pure (i := 6) rfl (wanted_0 rfl) rfl (ptr t_b (t_o + 2)) (fun _ => hv_field Ty.fld87_2 (b := t_b) (o := t_o) rfl) ?_
            obtain ⟨x_2, hc55, H⟩ := H
            refine hp_read (i := 7) rfl (wanted_0 rfl) rfl (.int .i64 x_2) (fun _ he => hv_load Ty.agg3 rfl (he.cell hc55)) ?_
            refine hp_pure (i := 8) rfl (wanted_0 rfl) rfl (.bool (x_1 == x_2)) (fun _ => hv_arith rfl rfl rfl) ?_
            refine hp_nil ?_
            refine seqQ_n ?_
            refine hx_cond (b := x_1 == x_2) rfl (fun hb54 => ?_) (fun hb54 => ?_)
            · replace H := H.1 hb54
              refine hx_seq ?_
              refine hx_region ?_
              refine hl_val rfl rfl (v := (.agg #[(.int .u64 0), (.int .u64 0), (.int .u64 0), (.int .u8 0)])) (hv_build (vs := []) (cs := #[(.int .u64 0), (.int .u64 0), (.int .u64 0), (.int .u8 0)]) Ty.z31 Ty.pl31 rfl (by kernel_rfl)) ?_
              obtain ⟨hw48, H⟩ := H
              refine hl_step rfl rfl (hn_stores (vs := [(.int .u64 0), (.int .u64 0), (.int .u64 0), (.int .u8 0)]) rfl rfl Ty.sz31 rfl hw48 ?_)
              intro h11 eh49
              replace H := H h11 eh49
              refine hl_val rfl rfl (v := (.bool false)) (hv_assign rfl) ?_
              refine hl_val rfl rfl (v := (.int .i64 2)) (hv_assign rfl) ?_
              refine hl_nil ?_
              refine seqQ_n ?_
              refine hx_ret ?_
              refine seqQ_ret ?_
              refine seqQ_ret ?_
              obtain ⟨old_Hash, old_At, old_Version, old_Hits, hc50, hc51, hc52, hc53, H⟩ := H
              exact endQ_ret _ (res_three Try.results51 (rv_cell (vs := [(.int .u64 old_Hash), (.int .u64 old_At), (.int .u64 old_Version), (.int .u8 old_Hits)]) Ty.agg31 Ty.sz31 rfl (hcells_cons hc50 (hcells_cons hc51 (hcells_cons hc52 (hcells_cons hc53 hcells_nil))))) (rv_tmp rfl) (rv_tmp rfl)) H
            · replace H := H.2 hb54
              refine hx_skip ?_
              refine seqQ_n ?_
              refine hx_region ?_
              refine hl_val rfl rfl (v := (ptr t_b t_o)) (hv_move rfl) ?_
              refine hl_step rfl rfl (hs_call Ty.cb68 (vs := [(ptr t_b t_o)]) rfl (HC.mono H ?_))
              rintro _ h12 ⟨rfl, H⟩
              refine hl_nil ?_
              refine seqQ_n ?_
              exact ⟨H, (has_cons rfl (has_cons rfl (has_cons rfl has_nil)))⟩
          · replace H := H.2 hb57
            refine hx_skip ?_
            refine seqQ_n ?_
            exact ⟨H, (has_cons rfl (has_cons rfl (has_cons rfl has_nil)))⟩
        · rintro ρ h10 ⟨HA70, hH⟩
          have H := Hy69 h10 HA70; clear Hx68 Hy69
          refine hx_has _ hH ?_
          refine hx_seq ?_
          refine hx_region ?_
          refine hl_val rfl rfl (v := (ptr t_b t_o)) (hv_move rfl) ?_
          obtain ⟨x_Hash_1, x_At_1, x_Version_1, x_Hits_1, hc64, hc65, hc66, hc67, H⟩ := H
          refine hl_val rfl rfl (v := (.agg #[(.int .u64 x_Hash_1), (.int .u64 x_At_1), (.int .u64 x_Version_1), (.int .u8 x_Hits_1)])) (hv_loads (vs := [(.int .u64 x_Hash_1), (.int .u64 x_At_1), (.int .u64 x_Version_1), (.int .u8 x_Hits_1)]) Ty.agg31 Ty.sz31 rfl (hcells_cons hc64 (hcells_cons hc65 (hcells_cons hc66 (hcells_cons hc67 hcells_nil))))) ?_
          refine hl_step rfl rfl (hs_call Ty.cb69 (vs := [(ptr t_b t_o), (.agg #[(.int .u64 x_Hash_1), (.int .u64 x_At_1), (.int .u64 x_Version_1), (.int .u8 x_Hits_1)])]) rfl (HC.mono H ?_))
          rintro _ h13 ⟨rfl, H⟩
          refine hl_nil ?_
          refine seqQ_n ?_
          refine hx_seq ?_
          refine hx_region ?_
          refine hl_val rfl rfl (v := (.agg #[(.int .u64 0), (.int .u64 0), (.int .u64 0), (.int .u8 0)])) (hv_build (vs := []) (cs := #[(.int .u64 0), (.int .u64 0), (.int .u64 0), (.int .u8 0)]) Ty.z31 Ty.pl31 rfl (by kernel_rfl)) ?_
          obtain ⟨hw58, H⟩ := H
          refine hl_step rfl rfl (hn_stores (vs := [(.int .u64 0), (.int .u64 0), (.int .u64 0), (.int .u8 0)]) rfl rfl Ty.sz31 rfl hw58 ?_)
          intro h14 eh59
          replace H := H h14 eh59
          refine hl_val rfl rfl (v := (.bool false)) (hv_assign rfl) ?_
          refine hl_val rfl rfl (v := (.int .i64 0)) (hv_assign rfl) ?_
          refine hl_nil ?_
          refine seqQ_n ?_
          refine hx_ret ?_
          obtain ⟨old_Hash_1, old_At_1, old_Version_1, old_Hits_1, hc60, hc61, hc62, hc63, H⟩ := H
          exact endQ_ret _ (res_three Try.results51 (rv_cell (vs := [(.int .u64 old_Hash_1), (.int .u64 old_At_1), (.int .u64 old_Version_1), (.int .u8 old_Hits_1)]) Ty.agg31 Ty.sz31 rfl (hcells_cons hc60 (hcells_cons hc61 (hcells_cons hc62 (hcells_cons hc63 hcells_nil))))) (rv_tmp rfl) (rv_tmp rfl)) H

/-- (*cellar/table.Table).Get -/
theorem f28_sh (t_b : Nat) (t_o : Nat) (hash : Int) (h : Heap) (R : Value → Heap → Prop)
    (H : (∀ nb h1, nb = Array.size h → h1 = Array.push h (.cells #[(.int .u64 0), (.int .u64 0), (.int .u64 0), (.int .u8 0)] 31) → HC Try.prog 50 #[(ptr t_b t_o), (.int .u64 hash)] h1 (fun vv h2 => ∃ r : Int, vv = (.int .i64 r) ∧ (((decide (r < 0)) = true → (HWs h2 nb 0 4 ∧ ∀ h3, h3 = hsets h2 nb 0 [(.int .u64 0), (.int .u64 0), (.int .u64 0), (.int .u8 0)] → (∃ res_Hash res_At res_Version res_Hits : Int, hcell h3 nb 0 = some (.int .u64 res_Hash) ∧ hcell h3 nb 1 = some (.int .u64 res_At) ∧ hcell h3 nb 2 = some (.int .u64 res_Version) ∧ hcell h3 nb 3 = some (.int .u8 res_Hits) ∧ R (.tuple #[(.agg #[(.int .u64 res_Hash), (.int .u64 res_At), (.int .u64 res_Version), (.int .u8 res_Hits)]), (.bool false)]) h3))) ∧ ((decide (r < 0)) = false → (∃ x : Option Addr, ∃ x_n x_c : Nat, hcell h2 t_b t_o = some (.slice x x_n x_c) ∧ (∃ x_b x_o : Nat, x = some ⟨x_b, x_o, none⟩ ∧ (0 : Int) ≤ r ∧ r < (x_n : Int) ∧ (∃ x_Hash x_At x_Version x_Hits : Int, hcell h2 x_b (x_o + (Int.toNat r) * 4) = some (.int .u64 x_Hash) ∧ hcell h2 x_b ((x_o + (Int.toNat r) * 4) + 1) = some (.int .u64 x_At) ∧ hcell h2 x_b ((x_o + (Int.toNat r) * 4) + 2) = some (.int .u64 x_Version) ∧ hcell h2 x_b ((x_o + (Int.toNat r) * 4) + 3) = some (.int .u8 x_Hits) ∧ (HWs h2 nb 0 4 ∧ ∀ h4, h4 = hsets h2 nb 0 [(.int .u64 x_Hash), (.int .u64 x_At), (.int .u64 x_Version), (.int .u8 x_Hits)] → (∃ res_Hash res_At res_Version res_Hits : Int, hcell h4 nb 0 = some (.int .u64 res_Hash) ∧ hcell h4 nb 1 = some (.int .u64 res_At) ∧ hcell h4 nb 2 = some (.int .u64 res_Version) ∧ hcell h4 nb 3 = some (.int .u8 res_Hits) ∧ R (.tuple #[(.agg #[(.int .u64 res_Hash), (.int .u64 res_At), (.int .u64 res_Version), (.int .u8 res_Hits)]), (.bool true)]) h4)))))))))) :
    HC Try.prog 28 #[(ptr t_b t_o), (.int .u64 hash)] h R := by
  refine hc_of (args := [(ptr t_b t_o), (.int .u64 hash)]) Try.func28 rfl Try.ntmps28 (Nat.le_of_ble_eq_true rfl) ?_
  refine hx_seq ?_
  refine hx_region ?_
  refine hl_step rfl rfl (hn_alloc Ty.z31 ?_)
  intro nb h1 eb1 eh2
  replace H := H nb h1 eb1 eh2
  refine hl_val rfl rfl (v := (.bool false)) (hv_assign rfl) ?_
  refine hl_nil ?_
  refine seqQ_n ?_
  refine hx_seq ?_
  refine hx_region ?_
  refine hl_val rfl rfl (v := (ptr t_b t_o)) (hv_move rfl) ?_
  refine hl_val rfl rfl (v := (.int .u64 hash)) (hv_move rfl) ?_
  refine hl_step rfl rfl (hs_call Ty.cb50 (vs := [(ptr t_b t_o), (.int .u64 hash)]) rfl (HC.mono H ?_))
  rintro _ h2 ⟨r, rfl, H⟩
  refine hl_val rfl rfl (v := (.int .i64 r)) (hv_assign rfl) ?_
  refine hl_nil ?_
  refine seqQ_n ?_
  refine hx_seq ?_
  refine hx_seq ?_
  refine hx_region ?_
  refine hl_val rfl rfl (v := (.int .i64 r)) (hv_move rfl) ?_
  refine hl_val rfl rfl (v := (.bool (decide (r < 0)))) (hv_arith rfl rfl rfl) ?_
  refine hl_nil ?_
  refine seqQ_n ?_
  refine hx_cond (b := decide (r < 0)) rfl (fun hb22 => ?_) (fun hb22 => ?_)
  · replace H := H.1 hb22
    refine hx_seq ?_
    refine hx_region ?_
    refine hl_val rfl rfl (v := (.agg #[(.int .u64 0), (.int .u64 0), (.int .u64 0), (.int .u8 0)])) (hv_build (vs := []) (cs := #[(.int .u64 0), (.int .u64 0), (.int .u64 0), (.int .u8 0)]) Ty.z31 Ty.pl31 rfl (by kernel_rfl)) ?_
    obtain ⟨hw3, H⟩ := H
    refine hl_step rfl rfl (hn_stores (vs := [(.int .u64 0), (.int .u64 0), (.int .u64 0), (.int .u8 0)]) rfl rfl Ty.sz31 rfl hw3 ?_)
    intro h3 eh4
    replace H := H h3 eh4
    refine hl_val rfl rfl (v := (.bool false)) (hv_assign rfl) ?_
    refine hl_nil ?_
    refine seqQ_n ?_
    refine hx_ret ?_
    refine seqQ_ret ?_
    obtain ⟨res_Hash, res_At, res_Version, res_Hits, hc5, hc6, hc7, hc8, H⟩ := H
    exact endQ_ret _ (res_two Try.results28 (rv_cell (vs := [(.int .u64 res_Hash), (.int .u64 res_At), (.int .u64 res_Version), (.int .u8 res_Hits)]) Ty.agg31 Ty.sz31 rfl (hcells_cons hc5 (hcells_cons hc6 (hcells_cons hc7 (hcells_cons hc8 hcells_nil))))) (rv_tmp rfl)) H
  · replace H := H.2 hb22
    refine hx_skip ?_
    refine seqQ_n ?_
    refine hx_seq ?_
    refine hx_region ?_
    refine hl_val rfl rfl (v := (ptr t_b t_o)) (hv_move rfl) ?_
    refine hl_val rfl rfl (v := (ptr t_b t_o)) (hv_nil rfl) ?_
    refine hl_val rfl rfl (v := (ptr t_b t_o)) (hv_field Ty.fld87_0 (b := t_b) (o := t_o) rfl) ?_
    obtain ⟨x, x_n, x_c, hc21, H⟩ := H
    refine hl_val rfl rfl (v := (.slice x x_n x_c)) (hv_load Ty.agg47 rfl hc21) ?_
    refine hl_val rfl rfl (v := (.int .i64 r)) (hv_move rfl) ?_
    obtain ⟨x_b, x_o, hqe, hi9, hi10, Hq⟩ := H
    subst hqe
    have H := Hq; clear Hq
    refine hl_val rfl rfl (v := (ptr x_b (x_o + (Int.toNat r) * 4))) (hv_index Ty.el47 rfl rfl hi9 hi10) ?_
    obtain ⟨x_Hash, x_At, x_Version, x_Hits, hc17, hc18, hc19, hc20, H⟩ := H
    refine hl_val rfl rfl (v := (.agg #[(.int .u64 x_Hash), (.int .u64 x_At), (.int .u64 x_Version), (.int .u8 x_Hits)])) (hv_loads (vs := [(.int .u64 x_Hash), (.int .u64 x_At), (.int .u64 x_Version), (.int .u8 x_Hits)]) Ty.agg31 Ty.sz31 rfl (hcells_cons hc17 (hcells_cons hc18 (hcells_cons hc19 (hcells_cons hc20 hcells_nil))))) ?_
    obtain ⟨hw11, H⟩ := H
    refine hl_step rfl rfl (hn_stores (vs := [(.int .u64 x_Hash), (.int .u64 x_At), (.int .u64 x_Version), (.int .u8 x_Hits)]) rfl rfl Ty.sz31 rfl hw11 ?_)
    intro h4 eh12
    replace H := H h4 eh12
    refine hl_val rfl rfl (v := (.bool true)) (hv_assign rfl) ?_
    refine hl_nil ?_
    refine seqQ_n ?_
    refine hx_ret ?_
    obtain ⟨res_Hash, res_At, res_Version, res_Hits, hc13, hc14, hc15, hc16, H⟩ := H
    exact endQ_ret _ (res_two Try.results28 (rv_cell (vs := [(.int .u64 res_Hash), (.int .u64 res_At), (.int .u64 res_Version), (.int .u8 res_Hits)]) Ty.agg31 Ty.sz31 rfl (hcells_cons hc13 (hcells_cons hc14 (hcells_cons hc15 (hcells_cons hc16 hcells_nil))))) (rv_tmp rfl)) H

/-- (*cellar/table.Table).Remove -/
theorem f46_sh (t_b : Nat) (t_o : Nat) (hash : Int) (h : Heap) (R : Value → Heap → Prop)
    (H : (∀ nb h1, nb = Array.size h → h1 = Array.push h (.cells #[(.int .u64 0), (.int .u64 0), (.int .u64 0), (.int .u8 0)] 31) → HC Try.prog 50 #[(ptr t_b t_o), (.int .u64 hash)] h1 (fun vv h2 => ∃ r : Int, vv = (.int .i64 r) ∧ (((decide (r < 0)) = true → (HWs h2 nb 0 4 ∧ ∀ h3, h3 = hsets h2 nb 0 [(.int .u64 0), (.int .u64 0), (.int .u64 0), (.int .u8 0)] → (∃ res_Hash res_At res_Version res_Hits : Int, hcell h3 nb 0 = some (.int .u64 res_Hash) ∧ hcell h3 nb 1 = some (.int .u64 res_At) ∧ hcell h3 nb 2 = some (.int .u64 res_Version) ∧ hcell h3 nb 3 = some (.int .u8 res_Hits) ∧ R (.tuple #[(.agg #[(.int .u64 res_Hash), (.int .u64 res_At), (.int .u64 res_Version), (.int .u8 res_Hits)]), (.bool false)]) h3))) ∧ ((decide (r < 0)) = false → (∃ x : Option Addr, ∃ x_n x_c : Nat, hcell h2 t_b t_o = some (.slice x x_n x_c) ∧ (∃ x_b x_o : Nat, x = some ⟨x_b, x_o, none⟩ ∧ (0 : Int) ≤ r ∧ r < (x_n : Int) ∧ (∃ x_Hash x_At x_Version x_Hits : Int, hcell h2 x_b (x_o + (Int.toNat r) * 4) = some (.int .u64 x_Hash) ∧ hcell h2 x_b ((x_o + (Int.toNat r) * 4) + 1) = some (.int .u64 x_At) ∧ hcell h2 x_b ((x_o + (Int.toNat r) * 4) + 2) = some (.int .u64 x_Version) ∧ hcell h2 x_b ((x_o + (Int.toNat r) * 4) + 3) = some (.int .u8 x_Hits) ∧ (∀ out h4, out = Array.size h2 → h4 = Array.push h2 (.cells #[(.int .u64 0), (.int .u64 0), (.int .u64 0), (.int .u8 0)] 31) → (HWs h4 out 0 4 ∧ ∀ h5, h5 = hsets h4 out 0 [(.int .u64 x_Hash), (.int .u64 x_At), (.int .u64 x_Version), (.int .u8 x_Hits)] → (∃ (I15 : Int → Heap → Prop) (mu16 : Int → Heap → Nat), I15 r h5 ∧ (∀ (atv : Int) (h6 : Heap), I15 atv h6 → (∃ r_1 : Int, HC Try.prog 62 #[(ptr t_b t_o), (.int .i64 atv)] h6 (fun vv h' => vv = (.int .i64 r_1) ∧ h' = h6) ∧ (∃ A21 : Bool → Heap → Prop, (∃ x_1 : Option Addr, ∃ x_n_1 x_c_1 : Nat, hcell h6 t_b t_o = some (.slice x_1 x_n_1 x_c_1) ∧ (∃ x_1_b x_1_o : Nat, x_1 = some ⟨x_1_b, x_1_o, none⟩ ∧ (0 : Int) ≤ r_1 ∧ r_1 < (x_n_1 : Int) ∧ (∃ x_Hash_1 x_At_1 x_Version_1 x_Hits_1 : Int, hcell h6 x_1_b (x_1_o + (Int.toNat r_1) * 4) = some (.int .u64 x_Hash_1) ∧ hcell h6 x_1_b ((x_1_o + (Int.toNat r_1) * 4) + 1) = some (.int .u64 x_At_1) ∧ hcell h6 x_1_b ((x_1_o + (Int.toNat r_1) * 4) + 2) = some (.int .u64 x_Version_1) ∧ hcell h6 x_1_b ((x_1_o + (Int.toNat r_1) * 4) + 3) = some (.int .u8 x_Hits_1) ∧ HC Try.prog 58 #[(.agg #[(.int .u64 x_Hash_1), (.int .u64 x_At_1), (.int .u64 x_Version_1), (.int .u8 x_Hits_1)])] h6 (fun vv h8 => ∃ r_2 : Bool, vv = (.bool r_2) ∧ ((r_2 = true → (A21 true h8)) ∧ (r_2 = false → (∃ r_3 : Int, HC Try.prog 63 #[(ptr t_b t_o), (.int .i64 r_1)] h8 (fun vv h' => vv = (.int .i64 r_3) ∧ h' = h8) ∧ (A21 (r_3 == 0) h8)))))))) ∧ (∀ (j : Bool) (h7 : Heap), A21 j h7 → ((j = true → (∃ x_2 : Option Addr, ∃ x_n_2 x_c_2 : Nat, hcell h7 t_b t_o = some (.slice x_2 x_n_2 x_c_2) ∧ (∃ x_2_b x_2_o : Nat, x_2 = some ⟨x_2_b, x_2_o, none⟩ ∧ (0 : Int) ≤ atv ∧ atv < (x_n_2 : Int) ∧ (HWs h7 x_2_b (x_2_o + (Int.toNat atv) * 4) 4 ∧ ∀ h9, h9 = hsets h7 x_2_b (x_2_o + (Int.toNat atv) * 4) [(.int .u64 0), (.int .u64 0), (.int .u64 0), (.int .u8 0)] → (∃ x_3 : Int, hcell h9 t_b (t_o + 3) = some (.int .i64 x_3) ∧ (HW h9 t_b (t_o + 3) ∧ ∀ h10, h10 = hset h9 t_b (t_o + 3) (.int .i64 (IntKind.i64.wrap (x_3 - 1))) → (∃ x_Hash_2 x_At_2 x_Version_2 x_Hits_2 : Int, hcell h10 out 0 = some (.int .u64 x_Hash_2) ∧ hcell h10 out 1 = some (.int .u64 x_At_2) ∧ hcell h10 out 2 = some (.int .u64 x_Version_2) ∧ hcell h10 out 3 = some (.int .u8 x_Hits_2) ∧ (HWs h10 nb 0 4 ∧ ∀ h11, h11 = hsets h10 nb 0 [(.int .u64 x_Hash_2), (.int .u64 x_At_2), (.int .u64 x_Version_2), (.int .u8 x_Hits_2)] → (∃ res_Hash res_At res_Version res_Hits : Int, hcell h11 nb 0 = some (.int .u64 res_Hash) ∧ hcell h11 nb 1 = some (.int .u64 res_At) ∧ hcell h11 nb 2 = some (.int .u64 res_Version) ∧ hcell h11 nb 3 = some (.int .u8 res_Hits) ∧ R (.tuple #[(.agg #[(.int .u64 res_Hash), (.int .u64 res_At), (.int .u64 res_Version), (.int .u8 res_Hits)]), (.bool true)]) h11))))))))) ∧ (j = false → (∃ x_2 : Option Addr, ∃ x_n_2 x_c_2 : Nat, hcell h7 t_b t_o = some (.slice x_2 x_n_2 x_c_2) ∧ (∃ x_3 : Option Addr, ∃ x_n_3 x_c_3 : Nat, hcell h7 t_b t_o = some (.slice x_3 x_n_3 x_c_3) ∧ (∃ x_3_b x_3_o : Nat, x_3 = some ⟨x_3_b, x_3_o, none⟩ ∧ (0 : Int) ≤ r_1 ∧ r_1 < (x_n_3 : Int) ∧ (∃ x_Hash_2 x_At_2 x_Version_2 x_Hits_2 : Int, hcell h7 x_3_b (x_3_o + (Int.toNat r_1) * 4) = some (.int .u64 x_Hash_2) ∧ hcell h7 x_3_b ((x_3_o + (Int.toNat r_1) * 4) + 1) = some (.int .u64 x_At_2) ∧ hcell h7 x_3_b ((x_3_o + (Int.toNat r_1) * 4) + 2) = some (.int .u64 x_Version_2) ∧ hcell h7 x_3_b ((x_3_o + (Int.toNat r_1) * 4) + 3) = some (.int .u8 x_Hits_2) ∧ (∃ x_2_b x_2_o : Nat, x_2 = some ⟨x_2_b, x_2_o, none⟩ ∧ (0 : Int) ≤ atv ∧ atv < (x_n_2 : Int) ∧ (HWs h7 x_2_b (x_2_o + (Int.toNat atv) * 4) 4 ∧ ∀ h12, h12 = hsets h7 x_2_b (x_2_o + (Int.toNat atv) * 4) [(.int .u64 x_Hash_2), (.int .u64 x_At_2), (.int .u64 x_Version_2), (.int .u8 x_Hits_2)] → (I15 r_1 h12 ∧ mu16 r_1 h12 < mu16 atv h6)))))))))))))))))))))))) :
    HC Try.prog 46 #[(ptr t_b t_o), (.int .u64 hash)] h R := by
  refine hc_of (args := [(ptr t_b t_o), (.int .u64 hash)]) Try.func46 rfl Try.ntmps46 (Nat.le_of_ble_eq_true rfl) ?_
  refine hx_seq ?_
  refine hx_region ?_
  refine hl_step rfl rfl (hn_alloc Ty.z31 ?_)
  intro nb h1 eb1 eh2
  replace H := H nb h1 eb1 eh2
  refine hl_val rfl rfl (v := (.bool false)) (hv_assign rfl) ?_
  refine hl_nil ?_
  refine seqQ_n ?_
  refine hx_seq ?_
  refine hx_region ?_
  refine hl_val rfl rfl (v := (ptr t_b t_o)) (hv_move rfl) ?_
  refine hl_val rfl rfl (v := (.int .u64 hash)) (hv_move rfl) ?_
  refine hl_step rfl rfl (hs_call Ty.cb50 (vs := [(ptr t_b t_o), (.int .u64 hash)]) rfl (HC.mono H ?_))
  rintro _ h2 ⟨r, rfl, H⟩
  refine hl_val rfl rfl (v := (.int .i64 r)) (hv_assign rfl) ?_
  refine hl_nil ?_
  refine seqQ_n ?_
  refine hx_seq ?_
  refine hx_seq ?_
  refine hx_region ?_
  refine hl_val rfl rfl (v := (.int .i64 r)) (hv_move rfl) ?_
  refine hl_val rfl rfl (v := (.bool (decide (r < 0)))) (hv_arith rfl rfl rfl) ?_
  refine hl_nil ?_
  refine seqQ_n ?_
  refine hx_cond (b := decide (r < 0)) rfl (fun hb70 => ?_) (fun hb70 => ?_)
  · replace H := H.1 hb70
    refine hx_seq ?_
    refine hx_region ?_
    refine hl_val rfl rfl (v := (.agg #[(.int .u64 0), (.int .u64 0), (.int .u64 0), (.int .u8 0)])) (hv_build (vs := []) (cs := #[(.int .u64 0), (.int .u64 0), (.int .u64 0), (.int .u8 0)]) Ty.z31 Ty.pl31 rfl (by kernel_rfl)) ?_
    obtain ⟨hw3, H⟩ := H
    refine hl_step rfl rfl (hn_stores (vs := [(.int .u64 0), (.int .u64 0), (.int .u64 0), (.int .u8 0)]) rfl rfl Ty.sz31 rfl hw3 ?_)
    intro h3 eh4
    replace H := H h3 eh4
    refine hl_val rfl rfl (v := (.bool false)) (hv_assign rfl) ?_
    refine hl_nil ?_
    refine seqQ_n ?_
    refine hx_ret ?_
    refine seqQ_ret ?_
    obtain ⟨res_Hash, res_At, res_Version, res_Hits, hc5, hc6, hc7, hc8, H⟩ := H
    exact endQ_ret _ (res_two Try.results46 (rv_cell (vs := [(.int .u64 res_Hash), (.int .u64 res_At), (.int .u64 res_Version), (.int .u8 res_Hits)]) Ty.agg31 Ty.sz31 rfl (hcells_cons hc5 (hcells_cons hc6 (hcells_cons hc7 (hcells_cons hc8 hcells_nil))))) (rv_tmp rfl)) H
  · replace H := H.2 hb70
    refine hx_skip ?_
    refine seqQ_n ?_
    refine hx_seq ?_
    refine hx_region ?_
    refine hl_val rfl rfl (v := (ptr t_b t_o)) (hv_move rfl) ?_
    refine hl_val rfl rfl (v := (ptr t_b t_o)) (hv_nil rfl) ?_
    refine hl_val rfl rfl (v := (ptr t_b t_o)) (hv_field Ty.fld87_0 (b := t_b) (o := t_o) rfl) ?_
    obtain ⟨x, x_n, x_c, hc69, H⟩ := H
    refine hl_val rfl rfl (v := (.slice x x_n x_c)) (hv_load Ty.agg47 rfl hc69) ?_
    refine hl_val rfl rfl (v := (.int .i64 r)) (hv_move rfl) ?_
    obtain ⟨x_b, x_o, hqe, hi9, hi10, Hq⟩ := H
    subst hqe
    have H := Hq; clear Hq
    refine hl_val rfl rfl (v := (ptr x_b (x_o + (Int.toNat r) * 4))) (hv_index Ty.el47 rfl rfl hi9 hi10) ?_
    obtain ⟨x_Hash, x_At, x_Version, x_Hits, hc65, hc66, hc67, hc68, H⟩ := H
    refine hl_val rfl rfl (v := (.agg #[(.int .u64 x_Hash), (.int .u64 x_At), (.int .u64 x_Version), (.int .u8 x_Hits)])) (hv_loads (vs := [(.int .u64 x_Hash), (.int .u64 x_At), (.int .u64 x_Version), (.int .u8 x_Hits)]) Ty.agg31 Ty.sz31 rfl (hcells_cons hc65 (hcells_cons hc66 (hcells_cons hc67 (hcells_cons hc68 hcells_nil))))) ?_
    refine hl_step rfl rfl (hn_alloc Ty.z31 ?_)
    intro out h4 eb11 eh12
    replace H := H out h4 eb11 eh12
    obtain ⟨hw13, H⟩ := H
    refine hl_step rfl rfl (hn_stores (vs := [(.int .u64 x_Hash), (.int .u64 x_At), (.int .u64 x_Version), (.int .u8 x_Hits)]) rfl rfl Ty.sz31 rfl hw13 ?_)
    intro h5 eh14
    replace H := H h5 eh14
    refine hl_nil ?_
    refine seqQ_n ?_
    refine hx_seq ?_
    refine hx_block ?_
    obtain ⟨I15, mu16, Ha17, Hr18⟩ := H
    refine hx_loopT (σ := Int) (fun s => [(0, (ptr t_b t_o)), (4, (ptr nb 0)), (6, (.int .i64 s)), (7, (ptr out 0))]) (fun s h' => I15 s h') (fun s h' => mu16 s h') r Ha17 (has_cons rfl (has_cons rfl (has_cons rfl (has_cons rfl has_nil)))) ?_
    rintro atv ρ h6 Hi19
    have H := Hr18 atv h6 Hi19
    refine hx_block ?_
    refine hx_seq ?_
    refine hx_region ?_
    refine hl_val rfl rfl (v := (ptr t_b t_o)) (hv_move rfl) ?_
    refine hl_val rfl rfl (v := (.int .i64 atv)) (hv_move rfl) ?_
    obtain ⟨r_1, hr20, H⟩ := H
    refine hl_val rfl rfl (v := (.int .i64 r_1)) (hv_call Ty.cb62 (vs := [(ptr t_b t_o), (.int .i64 atv)]) rfl hr20) ?_
    refine hl_val rfl rfl (v := (.int .i64 r_1)) (hv_assign rfl) ?_
    refine hl_nil ?_
    refine seqQ_n ?_
    refine hx_seq ?_
    obtain ⟨A21, Hx62, Hy63⟩ := H
    refine hx_cut (fun ρ h' => ∃ j : Bool, A21 j h' ∧ Has ρ [(0, (ptr t_b t_o)), (4, (ptr nb 0)), (6, (.int .i64 atv)), (7, (ptr out 0)), (8, (.int .i64 r_1)), (38, (.bool j))]) ?_ ?_
    · have H := Hx62; clear Hx62 Hy63
      refine hx_region ?_
      refine hl_val rfl rfl (v := (ptr t_b t_o)) (hv_move rfl) ?_
      refine hl_val rfl rfl (v := (ptr t_b t_o)) (hv_nil rfl) ?_
      refine hl_val rfl rfl (v := (ptr t_b t_o)) (hv_field Ty.fld87_0 (b := t_b) (o := t_o) rfl) ?_
      obtain ⟨x_1, x_n_1, x_c_1, hc30, H⟩ := H
      refine hl_val rfl rfl (v := (.slice x_1 x_n_1 x_c_1)) (hv_load Ty.agg47 rfl hc30) ?_
      refine hl_val rfl rfl (v := (.int .i64 r_1)) (hv_move rfl) ?_
      obtain ⟨x_1_b, x_1_o, hqe, hi22, hi23, Hq⟩ := H
      subst hqe
      have H := Hq; clear Hq
      refine hl_val rfl rfl (v := (ptr x_1_b (x_1_o + (Int.toNat r_1) * 4))) (hv_index Ty.el47 rfl rfl hi22 hi23) ?_
      obtain ⟨x_Hash_1, x_At_1, x_Version_1, x_Hits_1, hc26, hc27, hc28, hc29, H⟩ := H
      refine hl_val rfl rfl (v := (.agg #[(.int .u64 x_Hash_1), (.int .u64 x_At_1), (.int .u64 x_Version_1), (.int .u8 x_Hits_1)])) (hv_loads (vs := [(.int .u64 x_Hash_1), (.int .u64 x_At_1), (.int .u64 x_Version_1), (.int .u8 x_Hits_1)]) Ty.agg31 Ty.sz31 rfl (hcells_cons hc26 (hcells_cons hc27 (hcells_cons hc28 (hcells_cons hc29 hcells_nil))))) ?_
      refine hl_step rfl rfl (hs_call Ty.cb58 (vs := [(.agg #[(.int .u64 x_Hash_1), (.int .u64 x_At_1), (.int .u64 x_Version_1), (.int .u8 x_Hits_1)])]) rfl (HC.mono H ?_))
      rintro _ h8 ⟨r_2, rfl, H⟩
      refine hl_val rfl rfl (v := (.bool r_2)) (hv_move rfl) ?_
      rcases bool_or (r_2) with hg24 | hg24
      · replace H := H.1 hg24
        refine hl_no (wanted_n rfl rfl rfl hg24) rfl ?_
        refine hl_no (wanted_n rfl rfl rfl hg24) rfl ?_
        refine hl_no (wanted_n rfl rfl rfl hg24) rfl ?_
        refine hl_no (wanted_n rfl rfl rfl hg24) rfl ?_
        refine hl_val rfl rfl (v := (.bool true)) (hv_pick_t rfl hg24 rfl) ?_
        refine hl_nil ?_
        refine seqQ_n ?_
        exact ⟨_, H, (has_cons rfl (has_cons rfl (has_cons rfl (has_cons rfl (has_cons rfl (has_cons rfl has_nil))))))⟩
      · replace H := H.2 hg24
        refine hl_yes (wanted_y rfl rfl rfl hg24) rfl (HStep.of_val (v := (ptr t_b t_o)) (hv_move rfl) ?_)
        refine hl_yes (wanted_y rfl rfl rfl hg24) rfl (HStep.of_val (v := (.int .i64 r_1)) (hv_move rfl) ?_)
        obtain ⟨r_3, hr25, H⟩ := H
        refine hl_yes (wanted_y rfl rfl rfl hg24) rfl (HStep.of_val (v := (.int .i64 r_3)) (hv_call Ty.cb63 (vs := [(ptr t_b t_o), (.int .i64 r_1)]) rfl hr25) ?_)
        refine hl_yes (wanted_y rfl rfl rfl hg24) rfl (HStep.of_val (v := (.bool (r_3 == 0))) (hv_arith rfl rfl rfl) ?_)
        refine hl_val rfl rfl (v := (.bool (r_3 == 0))) (hv_pick_f rfl hg24 rfl) ?_
        refine hl_nil ?_
        refine seqQ_n ?_
        exact ⟨_, H, (has_cons rfl (has_cons rfl (has_cons rfl (has_cons rfl (has_cons rfl (has_cons rfl has_nil))))))⟩
    · rintro ρ h7 ⟨j, HA64, hH⟩
      have H := Hy63 j h7 HA64; clear Hx62 Hy63
      refine hx_has _ hH ?_
      refine hx_cond (b := j) rfl (fun hb61 => ?_) (fun hb61 => ?_)
      · replace H := H.1 hb61
        refine hx_exit ?_
        refine seqQ_exit ?_
        refine blockQ_past rfl ?_
        refine seqQ_exit ?_
        refine blockQ_here ?_
        refine seqQ_n ?_
        refine hx_seq ?_
        refine hx_region ?_
        refine hl_val rfl rfl (v := (ptr t_b t_o)) (hv_move rfl) ?_
        refine hl_val rfl rfl (v := (ptr t_b t_o)) (hv_nil rfl) ?_
        refine hl_val rfl rfl (v := (ptr t_b t_o)) (hv_field Ty.fld87_0 (b := t_b) (o := t_o) rfl) ?_
        obtain ⟨x_2, x_n_2, x_c_2, hc48, H⟩ := H
        refine hl_val rfl rfl (v := (.slice x_2 x_n_2 x_c_2)) (hv_load Ty.agg47 rfl hc48) ?_
        refine hl_val rfl rfl (v := (.int .i64 atv)) (hv_move rfl) ?_
        refine hl_val rfl rfl (v := (.agg #[(.int .u64 0), (.int .u64 0), (.int .u64 0), (.int .u8 0)])) (hv_build (vs := []) (cs := #[(.int .u64 0), (.int .u64 0), (.int .u64 0), (.int .u8 0)]) Ty.z31 Ty.pl31 rfl (by kernel_rfl)) ?_
        obtain ⟨x_2_b, x_2_o, hqe, hi31, hi32, Hq⟩ := H
        subst hqe
        have H := Hq; clear Hq
        refine hl_val rfl rfl (v := (ptr x_2_b (x_2_o + (Int.toNat atv) * 4))) (hv_index Ty.el47 rfl rfl hi31 hi32) ?_
        obtain ⟨hw33, H⟩ := H
        refine hl_step rfl rfl (hn_stores (vs := [(.int .u64 0), (.int .u64 0), (.int .u64 0), (.int .u8 0)]) rfl rfl Ty.sz31 rfl hw33 ?_)
        intro h9 eh34
        replace H := H h9 eh34
        refine hl_nil ?_
        refine seqQ_n ?_
        refine hx_seq ?_
        refine hx_region ?_
        refine hl_val rfl rfl (v := (ptr t_b t_o)) (hv_move rfl) ?_
        refine hl_val rfl rfl (v := (ptr t_b t_o)) (hv_nil rfl) ?_
        refine hl_val rfl rfl (v := (ptr t_b (t_o + 3))) (hv_field Ty.fld87_3 (b := t_b) (o := t_o) rfl) ?_
        obtain ⟨x_3, hc47, H⟩ := H
        refine hl_val rfl rfl (v := (.int .i64 x_3)) (hv_load Ty.agg3 rfl hc47) ?_
        refine hl_val rfl rfl (v := (.int .i64 (IntKind.i64.wrap (x_3 - 1)))) (hv_arith rfl rfl rfl) ?_
        refine hl_val rfl rfl (v := (ptr t_b t_o)) (hv_nil rfl) ?_
        refine hl_val rfl rfl (v := (ptr t_b (t_o + 3))) (hv_field Ty.fld87_3 (b := t_b) (o := t_o) rfl) ?_
        obtain ⟨hw35, H⟩ := H
        refine hl_step rfl rfl (hn_store (v := (.int .i64 (IntKind.i64.wrap (x_3 - 1)))) rfl rfl Ty.sz3 rfl hw35 ?_)
        intro h10 eh36
        replace H := H h10 eh36
        refine hl_nil ?_
        refine seqQ_n ?_
        refine hx_seq ?_
        refine hx_region ?_
        obtain ⟨x_Hash_2, x_At_2, x_Version_2, x_Hits_2, hc43, hc44, hc45, hc46, H⟩ := H
        refine hl_val rfl rfl (v := (.agg #[(.int .u64 x_Hash_2), (.int .u64 x_At_2), (.int .u64 x_Version_2), (.int .u8 x_Hits_2)])) (hv_loads (vs := [(.int .u64 x_Hash_2), (.int .u64 x_At_2), (.int .u64 x_Version_2), (.int .u8 x_Hits_2)]) Ty.agg31 Ty.sz31 rfl (hcells_cons hc43 (hcells_cons hc44 (hcells_cons hc45 (hcells_cons hc46 hcells_nil))))) ?_
        obtain ⟨hw37, H⟩ := H
        refine hl_step rfl rfl (hn_stores (vs := [(.int .u64 x_Hash_2), (.int .u64 x_At_2), (.int .u64 x_Version_2), (.int .u8 x_Hits_2)]) rfl rfl Ty.sz31 rfl hw37 ?_)
        intro h11 eh38
        replace H := H h11 eh38
        refine hl_val rfl rfl (v := (.bool true)) (hv_assign rfl) ?_
        refine hl_nil ?_
        refine seqQ_n ?_
        refine hx_ret ?_
        obtain ⟨res_Hash, res_At, res_Version, res_Hits, hc39, hc40, hc41, hc42, H⟩ := H
        exact endQ_ret _ (res_two Try.results46 (rv_cell (vs := [(.int .u64 res_Hash), (.int .u64 res_At), (.int .u64 res_Version), (.int .u8 res_Hits)]) Ty.agg31 Ty.sz31 rfl (hcells_cons hc39 (hcells_cons hc40 (hcells_cons hc41 (hcells_cons hc42 hcells_nil))))) (rv_tmp rfl)) H
      · replace H := H.2 hb61
        refine hx_skip ?_
        refine seqQ_n ?_
        refine hx_seq ?_
        refine hx_draw Ty.mixed [.pure, .pure, .pure, .read, .pure, .pure, .pure, .pure, .read, .pure, .pure, .read, .pure, .wild] [0, 1, 2, 3, 4, 5, 6, 7, 8, 9, 10, 11, 12, 13] (by kernel_rfl) ?_
        refine hp_pure (i := 0) rfl (wanted_0 rfl) rfl (ptr t_b t_o) (fun _ => hv_move rfl) ?_
        refine hp_pure (i := 1) rfl (wanted_0 rfl) rfl (ptr t_b t_o) (fun _ => hv_nil rfl) ?_
        refine hp_pure (i := 2) rfl (wanted_0 rfl) rfl (ptr t_b t_o) (fun _ => hv_field Ty.fld87_0 (b := t_b) (o := t_o) rfl) ?_
        obtain ⟨x_2, x_n_2, x_c_2, hc60, H⟩ := H
        refine hp_read (i := 3) rfl (wanted_0 rfl) rfl (.slice x_2 x_n_2 x_c_2) (fun _ he => hv_load Ty.agg47 rfl (he.cell hc60)) ?_
        refine hp_pure (i := 4) rfl (wanted_0 rfl) rfl (.int .i64 atv) (fun _ => hv_move rfl) ?_
        refine hp_pure (i := 5) rfl (wanted_0 rfl) rfl (ptr t_b t_o) (fun _ => hv_move rfl) ?_
        refine hp_pure (i := 6) rfl (wanted_0 rfl) rfl (ptr t_b t_o) (fun _ => hv_nil rfl) ?_
        refine hp_pure (i := 7) rfl (wanted_0 rfl) rfl (ptr t_b t_o) (fun _ => hv_field Ty.fld87_0 (b := t_b) (o := t_o) rfl) ?_
        obtain ⟨x_3, x_n_3, x_c_3, hc59, H⟩ := H
        refine hp_read (i := 8) rfl (wanted_0 rfl) rfl (.slice x_3 x_n_3 x_c_3) (fun _ he => hv_load Ty.agg47 rfl (he.cell hc59)) ?_
        refine hp_pure (i := 9) rfl (wanted_0 rfl) rfl (.int .i64 r_1) (fun _ => hv_move rfl) ?_
        obtain ⟨x_3_b, x_3_o, hqe, hi49, hi50, Hq⟩ := H
        subst hqe
        have H := Hq; clear Hq
        refine hp_pure (i := 10) rfl (wanted_0 rfl) rfl (ptr x_3_b (x_3_o + (Int.toNat r_1) * 4)) (fun _ => hv_index Ty.el47 rfl rfl hi49 hi50) ?_
        obtain ⟨x_Hash_2, x_At_2, x_Version_2, x_Hits_2, hc55, hc56, hc57, hc58, H⟩ := H
        refine hp_read (i := 11) rfl (wanted_0 rfl) rfl (.agg #[(.int .u64 x_Hash_2), (.int .u64 x_At_2), (.int .u64 x_Version_2), (.int .u8 x_Hits_2)]) (fun _ he => hv_loads (vs := [(.int .u64 x_Hash_2), (.int .u64 x_At_2), (.int .u64 x_Version_2), (.int .u8 x_Hits_2)]) Ty.agg31 Ty.sz31 rfl (hcells_cons (he.cell hc55) (hcells_cons (he.cell hc56) (hcells_cons (he.cell hc57) (hcells_cons (he.cell hc58) hcells_nil))))) ?_
        obtain ⟨x_2_b, x_2_o, hqe, hi51, hi52, Hq⟩ := H
        subst hqe
        have H := Hq; clear Hq
        refine hp_pure (i := 12) rfl (wanted_0 rfl) rfl (ptr x_2_b (x_2_o + (Int.toNat atv) * 4)) (fun _ => hv_index Ty.el47 rfl rfl hi51 hi52) ?_
        obtain ⟨hw53, H⟩ := H
        refine hp_wild (i := 13) rfl (wanted_0 rfl) rfl (hn_stores (vs := [(.int .u64 x_Hash_2), (.int .u64 x_At_2), (.int .u64 x_Version_2), (.int .u8 x_Hits_2)]) rfl rfl Ty.sz31 rfl hw53 ?_)
        intro h12 eh54
        replace H := H h12 eh54
        refine hp_nil ?_
        refine seqQ_n ?_
        refine hx_region ?_
        refine hl_val rfl rfl (v := (.int .i64 r_1)) (hv_move rfl) ?_
        refine hl_val rfl rfl (v := (.int .i64 r_1)) (hv_assign rfl) ?_
        refine hl_nil ?_
        refine blockQ_n ?_
        refine seqQ_n ?_
        exact ⟨r_1, H, (has_cons rfl (has_cons rfl (has_cons rfl (has_cons rfl has_nil))))⟩

/-- (*cellar/table.Table).Hit -/
theorem f52_sh (t_b : Nat) (t_o : Nat) (hash : Int) (h : Heap) (R : Value → Heap → Prop)
    (H : HC Try.prog 50 #[(ptr t_b t_o), (.int .u64 hash)] h (fun vv h1 => ∃ r : Int, vv = (.int .i64 r) ∧ (((decide (r < 0)) = true → R (.bool false) h1) ∧ ((decide (r < 0)) = false → (∃ A1 : Heap → Prop, (∃ x : Option Addr, ∃ x_n x_c : Nat, hcell h1 t_b t_o = some (.slice x x_n x_c) ∧ (∃ x_b x_o : Nat, x = some ⟨x_b, x_o, none⟩ ∧ (0 : Int) ≤ r ∧ r < (x_n : Int) ∧ (∃ x_1 : Int, hcell h1 x_b ((x_o + (Int.toNat r) * 4) + 3) = some (.int .u8 x_1) ∧ (((decide (x_1 < 255)) = true → (∃ x_2 : Option Addr, ∃ x_n_1 x_c_1 : Nat, hcell h1 t_b t_o = some (.slice x_2 x_n_1 x_c_1) ∧ (∃ x_2_b x_2_o : Nat, x_2 = some ⟨x_2_b, x_2_o, none⟩ ∧ (0 : Int) ≤ r ∧ r < (x_n_1 : Int) ∧ (∃ x_3 : Int, hcell h1 x_2_b ((x_2_o + (Int.toNat r) * 4) + 3) = some (.int .u8 x_3) ∧ ((0 : Int) ≤ r ∧ r < (x_n_1 : Int) ∧ (HW h1 x_2_b ((x_2_o + (Int.toNat r) * 4) + 3) ∧ ∀ h3, h3 = hset h1 x_2_b ((x_2_o + (Int.toNat r) * 4) + 3) (.int .u8 (IntKind.u8.wrap (x_3 + 1))) → (A1 h3))))))) ∧ ((decide (x_1 < 255)) = false → (A1 h1)))))) ∧ (∀ (h2 : Heap), A1 h2 → R (.bool true) h2)))))) :
    HC Try.prog 52 #[(ptr t_b t_o), (.int .u64 hash)] h R := by
  refine hc_of (args := [(ptr t_b t_o), (.int .u64 hash)]) Try.func52 rfl Try.ntmps52 (Nat.le_of_ble_eq_true rfl) ?_
  refine hx_seq ?_
  refine hx_region ?_
  refine hl_val rfl rfl (v := (.bool false)) (hv_assign rfl) ?_
  refine hl_nil ?_
  refine seqQ_n ?_
  refine hx_seq ?_
  refine hx_region ?_
  refine hl_val rfl rfl (v := (ptr t_b t_o)) (hv_move rfl) ?_
  refine hl_val rfl rfl (v := (.int .u64 hash)) (hv_move rfl) ?_
  refine hl_step rfl rfl (hs_call Ty.cb50 (vs := [(ptr t_b t_o), (.int .u64 hash)]) rfl (HC.mono H ?_))
  rintro _ h1 ⟨r, rfl, H⟩
  refine hl_val rfl rfl (v := (.int .i64 r)) (hv_assign rfl) ?_
  refine hl_nil ?_
  refine seqQ_n ?_
  refine hx_seq ?_
  refine hx_seq ?_
  refine hx_region ?_
  refine hl_val rfl rfl (v := (.int .i64 r)) (hv_move rfl) ?_
  refine hl_val rfl rfl (v := (.bool (decide (r < 0)))) (hv_arith rfl rfl rfl) ?_
  refine hl_nil ?_
  refine seqQ_n ?_
  refine hx_cond (b := decide (r < 0)) rfl (fun hb18 => ?_) (fun hb18 => ?_)
  · replace H := H.1 hb18
    refine hx_seq ?_
    refine hx_region ?_
    refine hl_val rfl rfl (v := (.bool false)) (hv_assign rfl) ?_
    refine hl_nil ?_
    refine seqQ_n ?_
    refine hx_ret ?_
    refine seqQ_ret ?_
    exact endQ_ret _ (res_one Try.results52 (rv_tmp rfl)) H
  · replace H := H.2 hb18
    refine hx_skip ?_
    refine seqQ_n ?_
    obtain ⟨A1, Hx15, Hy16⟩ := H
    refine hx_cut (fun ρ h' => A1 h' ∧ Has ρ []) ?_ ?_
    · have H := Hx15; clear Hx15 Hy16
      refine hx_seq ?_
      refine hx_region ?_
      refine hl_val rfl rfl (v := (ptr t_b t_o)) (hv_move rfl) ?_
      refine hl_val rfl rfl (v := (ptr t_b t_o)) (hv_nil rfl) ?_
      refine hl_val rfl rfl (v := (ptr t_b t_o)) (hv_field Ty.fld87_0 (b := t_b) (o := t_o) rfl) ?_
      obtain ⟨x, x_n, x_c, hc14, H⟩ := H
      refine hl_val rfl rfl (v := (.slice x x_n x_c)) (hv_load Ty.agg47 rfl hc14) ?_
      refine hl_val rfl rfl (v := (.int .i64 r)) (hv_move rfl) ?_
      obtain ⟨x_b, x_o, hqe, hi2, hi3, Hq⟩ := H
      subst hqe
      have H := Hq; clear Hq
      refine hl_val rfl rfl (v := (ptr x_b (x_o + (Int.toNat r) * 4))) (hv_index Ty.el47 rfl rfl hi2 hi3) ?_
      refine hl_val rfl rfl (v := (ptr x_b ((x_o + (Int.toNat r) * 4) + 3))) (hv_field Ty.fld31_3 (b := x_b) (o := x_o + (Int.toNat r) * 4) rfl) ?_
      obtain ⟨x_1, hc13, H⟩ := H
      refine hl_val rfl rfl (v := (.int .u8 x_1)) (hv_load Ty.agg5 rfl hc13) ?_
      refine hl_val rfl rfl (v := (.bool (decide (x_1 < 255)))) (hv_arith rfl rfl rfl) ?_
      refine hl_nil ?_
      refine seqQ_n ?_
      refine hx_cond (b := decide (x_1 < 255)) rfl (fun hb12 => ?_) (fun hb12 => ?_)
      · replace H := H.1 hb12
        refine hx_region ?_
        refine hl_val rfl rfl (v := (ptr t_b t_o)) (hv_move rfl) ?_
        refine hl_val rfl rfl (v := (ptr t_b t_o)) (hv_nil rfl) ?_
        refine hl_val rfl rfl (v := (ptr t_b t_o)) (hv_field Ty.fld87_0 (b := t_b) (o := t_o) rfl) ?_
        obtain ⟨x_2, x_n_1, x_c_1, hc11, H⟩ := H
        refine hl_val rfl rfl (v := (.slice x_2 x_n_1 x_c_1)) (hv_load Ty.agg47 rfl hc11) ?_
        refine hl_val rfl rfl (v := (.int .i64 r)) (hv_move rfl) ?_
        obtain ⟨x_2_b, x_2_o, hqe, hi4, hi5, Hq⟩ := H
        subst hqe
        have H := Hq; clear Hq
        refine hl_val rfl rfl (v := (ptr x_2_b (x_2_o + (Int.toNat r) * 4))) (hv_index Ty.el47 rfl rfl hi4 hi5) ?_
        refine hl_val rfl rfl (v := (ptr x_2_b ((x_2_o + (Int.toNat r) * 4) + 3))) (hv_field Ty.fld31_3 (b := x_2_b) (o := x_2_o + (Int.toNat r) * 4) rfl) ?_
        obtain ⟨x_3, hc10, H⟩ := H
        refine hl_val rfl rfl (v := (.int .u8 x_3)) (hv_load Ty.agg5 rfl hc10) ?_
        refine hl_val rfl rfl (v := (.int .u8 (IntKind.u8.wrap (x_3 + 1)))) (hv_arith rfl rfl rfl) ?_
        obtain ⟨hi6, hi7, H⟩ := H
        refine hl_val rfl rfl (v := (ptr x_2_b (x_2_o + (Int.toNat r) * 4))) (hv_index Ty.el47 rfl rfl hi6 hi7) ?_
        refine hl_val rfl rfl (v := (ptr x_2_b ((x_2_o + (Int.toNat r) * 4) + 3))) (hv_field Ty.fld31_3 (b := x_2_b) (o := x_2_o + (Int.toNat r) * 4) rfl) ?_
        obtain ⟨hw8, H⟩ := H
        refine hl_step rfl rfl (hn_store (v := (.int .u8 (IntKind.u8.wrap (x_3 + 1)))) rfl rfl Ty.sz5 rfl hw8 ?_)
        intro h3 eh9
        replace H := H h3 eh9
        refine hl_nil ?_
        refine seqQ_n ?_
        exact ⟨H, has_nil⟩
      · replace H := H.2 hb12
        refine hx_skip ?_
        refine seqQ_n ?_
        exact ⟨H, has_nil⟩
    · rintro ρ h2 ⟨HA17, hH⟩
      have H := Hy16 h2 HA17; clear Hx15 Hy16
      refine hx_has _ hH ?_
      refine hx_seq ?_
      refine hx_region ?_
      refine hl_val rfl rfl (v := (.bool true)) (hv_assign rfl) ?_
      refine hl_nil ?_
      refine seqQ_n ?_
      refine hx_ret ?_
      exact endQ_ret _ (res_one Try.results52 (rv_tmp rfl)) H

/-- (*cellar/table.Table).Len -/
theorem f48_sh (t_b : Nat) (t_o : Nat) (h : Heap) (R : Value → Heap → Prop)
    (H : (∃ r : Bool, HC Try.prog 64 #[(ptr t_b t_o)] h (fun vv h' => vv = (.bool r) ∧ h' = h) ∧ (((!r) = true → R (.int .i64 0) h) ∧ ((!r) = false → (∃ x : Int, hcell h t_b (t_o + 3) = some (.int .i64 x) ∧ R (.int .i64 x) h))))) :
    HC Try.prog 48 #[(ptr t_b t_o)] h R := by
  refine hc_of (args := [(ptr t_b t_o)]) Try.func48 rfl Try.ntmps48 (Nat.le_of_ble_eq_true rfl) ?_
  refine hx_seq ?_
  refine hx_region ?_
  refine hl_val rfl rfl (v := (.int .i64 0)) (hv_assign rfl) ?_
  refine hl_nil ?_
  refine seqQ_n ?_
  refine hx_seq ?_
  refine hx_seq ?_
  refine hx_region ?_
  refine hl_val rfl rfl (v := (ptr t_b t_o)) (hv_move rfl) ?_
  obtain ⟨r, hr1, H⟩ := H
  refine hl_val rfl rfl (v := (.bool r)) (hv_call Ty.cb64 (vs := [(ptr t_b t_o)]) rfl hr1) ?_
  refine hl_val rfl rfl (v := (.bool (!r))) (hv_not (b := r) rfl) ?_
  refine hl_nil ?_
  refine seqQ_n ?_
  refine hx_cond (b := !r) rfl (fun hb3 => ?_) (fun hb3 => ?_)
  · replace H := H.1 hb3
    refine hx_seq ?_
    refine hx_region ?_
    refine hl_val rfl rfl (v := (.int .i64 0)) (hv_assign rfl) ?_
    refine hl_nil ?_
    refine seqQ_n ?_
    refine hx_ret ?_
    refine seqQ_ret ?_
    exact endQ_ret _ (res_one Try.results48 (rv_tmp rfl)) H
  · replace H := H.2 hb3
    refine hx_skip ?_
    refine seqQ_n ?_
    refine hx_seq ?_
    refine hx_region ?_
    refine hl_val rfl rfl (v := (ptr t_b t_o)) (hv_move rfl) ?_
    refine hl_val rfl rfl (v := (ptr t_b t_o)) (hv_nil rfl) ?_
    refine hl_val rfl rfl (v := (ptr t_b (t_o + 3))) (hv_field Ty.fld87_3 (b := t_b) (o := t_o) rfl) ?_
    obtain ⟨x, hc2, H⟩ := H
    refine hl_val rfl rfl (v := (.int .i64 x)) (hv_load Ty.agg3 rfl hc2) ?_
    refine hl_val rfl rfl (v := (.int .i64 x)) (hv_assign rfl) ?_
    refine hl_nil ?_
    refine seqQ_n ?_
    refine hx_ret ?_
    exact endQ_ret _ (res_one Try.results48 (rv_tmp rfl)) H

/-- cellar/table.New -/
theorem f49_sh (bits : Int) (most : Int) (h : Heap) (R : Value → Heap → Prop)
    (H : (∃ j : Bool, (((decide (bits < 2)) = true → (j = true)) ∧ ((decide (bits < 2)) = false → (((decide (most < bits)) = true → (j = true)) ∧ ((decide (most < bits)) = false → (j = (decide (most > 16))))))) ∧ ((j = true → R (.tuple #[(.pointer none), (.int .i64 110)]) h) ∧ (j = false → ((0 : Int) ≤ bits ∧ ((0 : Int) ≤ IntKind.i64.wrap (1 * 2 ^ min (Int.toNat bits) 64) ∧ 32 * (IntKind.i64.wrap (1 * 2 ^ min (Int.toNat bits) 64)) ≤ 140737488355328 ∧ IntKind.i64.wrap (1 * 2 ^ min (Int.toNat bits) 64) ≤ 140737488355328 ∧ ∀ nb h1, nb = Array.size h → h1 = Array.push h (.cells (zcells [(.int .u64 0), (.int .u64 0), (.int .u64 0), (.int .u8 0)] (Int.toNat (IntKind.i64.wrap (1 * 2 ^ min (Int.toNat bits) 64)))).toArray 31) → (∀ nb_1 h2, nb_1 = Array.size h1 → h2 = Array.push h1 (.cells #[(.slice (some ⟨nb, 0, none⟩) (Int.toNat (IntKind.i64.wrap (1 * 2 ^ min (Int.toNat bits) 64))) (Int.toNat (IntKind.i64.wrap (1 * 2 ^ min (Int.toNat bits) 64)))), (.int .i64 bits), (.int .i64 most), (.int .i64 0)] 87) → R (.tuple #[(ptr nb_1 0), (.int .i64 0)]) h2))))))) :
    HC Try.prog 49 #[(.int .i64 bits), (.int .i64 most)] h R := by
  refine hc_of (args := [(.int .i64 bits), (.int .i64 most)]) Try.func49 rfl Try.ntmps49 (Nat.le_of_ble_eq_true rfl) ?_
  refine hx_seq ?_
  refine hx_region ?_
  refine hl_val rfl rfl (v := (.pointer none)) (hv_assign rfl) ?_
  refine hl_val rfl rfl (v := (.int .i64 0)) (hv_assign rfl) ?_
  refine hl_nil ?_
  refine seqQ_n ?_
  refine hx_seq ?_
  obtain ⟨j, Hx12, Hy13⟩ := H
  refine hx_cut (fun ρ h' => h = h' ∧ Has ρ [(0, (.int .i64 bits)), (1, (.int .i64 most)), (16, (.bool j))]) ?_ ?_
  · have H := Hx12; clear Hx12 Hy13
    refine hx_region ?_
    refine hl_val rfl rfl (v := (.int .i64 bits)) (hv_move rfl) ?_
    refine hl_val rfl rfl (v := (.bool (decide (bits < 2)))) (hv_arith rfl rfl rfl) ?_
    refine hl_val rfl rfl (v := (.bool (decide (bits < 2)))) (hv_move rfl) ?_
    rcases bool_or (decide (bits < 2)) with hg1 | hg1
    · replace H := H.1 hg1
      refine hl_no (wanted_n rfl rfl rfl hg1) rfl ?_
      refine hl_no (wanted_n rfl rfl rfl hg1) rfl ?_
      refine hl_no (wanted_n rfl rfl rfl hg1) rfl ?_
      refine hl_val rfl rfl (v := (.bool true)) (hv_pick_t rfl hg1 rfl) ?_
      refine hl_val rfl rfl (v := (.bool true)) (hv_move rfl) ?_
      refine hl_no (wanted_n rfl rfl (c := true) rfl rfl) rfl ?_
      refine hl_no (wanted_n rfl rfl (c := true) rfl rfl) rfl ?_
      refine hl_val rfl rfl (v := (.bool true)) (hv_pick (t := true) rfl rfl) ?_
      refine hl_nil ?_
      refine seqQ_n ?_
      obtain rfl := H
      exact ⟨rfl, (has_cons rfl (has_cons rfl (has_cons rfl has_nil)))⟩
    · replace H := H.2 hg1
      refine hl_yes (wanted_y rfl rfl rfl hg1) rfl (HStep.of_val (v := (.int .i64 most)) (hv_move rfl) ?_)
      refine hl_yes (wanted_y rfl rfl rfl hg1) rfl (HStep.of_val (v := (.int .i64 bits)) (hv_move rfl) ?_)
      refine hl_yes (wanted_y rfl rfl rfl hg1) rfl (HStep.of_val (v := (.bool (decide (most < bits)))) (hv_arith rfl rfl rfl) ?_)
      refine hl_val rfl rfl (v := (.bool (decide (most < bits)))) (hv_pick_f rfl hg1 rfl) ?_
      refine hl_val rfl rfl (v := (.bool (decide (most < bits)))) (hv_move rfl) ?_
      rcases bool_or (decide (most < bits)) with hg2 | hg2
      · replace H := H.1 hg2
        refine hl_no (wanted_n rfl rfl rfl hg2) rfl ?_
        refine hl_no (wanted_n rfl rfl rfl hg2) rfl ?_
        refine hl_val rfl rfl (v := (.bool true)) (hv_pick_t rfl hg2 rfl) ?_
        refine hl_nil ?_
        refine seqQ_n ?_
        obtain rfl := H
        exact ⟨rfl, (has_cons rfl (has_cons rfl (has_cons rfl has_nil)))⟩
      · replace H := H.2 hg2
        refine hl_yes (wanted_y rfl rfl rfl hg2) rfl (HStep.of_val (v := (.int .i64 most)) (hv_move rfl) ?_)
        refine hl_yes (wanted_y rfl rfl rfl hg2) rfl (HStep.of_val (v := (.bool (decide (most > 16)))) (hv_arith rfl rfl rfl) ?_)
        refine hl_val rfl rfl (v := (.bool (decide (most > 16)))) (hv_pick_f rfl hg2 rfl) ?_
        refine hl_nil ?_
        refine seqQ_n ?_
        obtain rfl := H
        exact ⟨rfl, (has_cons rfl (has_cons rfl (has_cons rfl has_nil)))⟩
  · have H := Hy13; clear Hx12 Hy13
    rintro ρ _ ⟨rfl, hH⟩
    refine hx_has _ hH ?_
    refine hx_cond (b := j) rfl (fun hb11 => ?_) (fun hb11 => ?_)
    · replace H := H.1 hb11
      refine hx_seq ?_
      refine hx_region ?_
      refine hl_val rfl rfl (v := (.pointer none)) (hv_assign rfl) ?_
      refine hl_val rfl rfl (v := (.int .i64 110)) (hv_assign rfl) ?_
      refine hl_nil ?_
      refine seqQ_n ?_
      refine hx_ret ?_
      refine seqQ_ret ?_
      exact endQ_ret _ (res_two Try.results49 (rv_tmp rfl) (rv_tmp rfl)) H
    · replace H := H.2 hb11
      refine hx_skip ?_
      refine seqQ_n ?_
      refine hx_seq ?_
      refine hx_region ?_
      refine hl_val rfl rfl (v := (.int .i64 bits)) (hv_move rfl) ?_
      obtain ⟨hz10, H⟩ := H
      refine hl_val rfl rfl (v := (.int .i64 (IntKind.i64.wrap (1 * 2 ^ min (Int.toNat bits) 64)))) (hv_shift rfl rfl hz10 rfl) ?_
      obtain ⟨hm5, hm6, hm7, H⟩ := H
      refine hl_step rfl rfl (hn_make (z := (.agg #[(.int .u64 0), (.int .u64 0), (.int .u64 0), (.int .u8 0)])) (zs := [(.int .u64 0), (.int .u64 0), (.int .u64 0), (.int .u8 0)]) (n := IntKind.i64.wrap (1 * 2 ^ min (Int.toNat bits) 64)) Ty.u47 Ty.sz31 Ty.by31 Ty.z31 rfl rfl hm5 hm6 hm7 rfl rfl ?_)
      intro nb h1 eb3 eh4
      replace H := H nb h1 eb3 eh4
      refine hl_val rfl rfl (v := (.int .i64 bits)) (hv_move rfl) ?_
      refine hl_val rfl rfl (v := (.int .i64 most)) (hv_move rfl) ?_
      refine hl_val rfl rfl (v := (.agg #[(.slice (some ⟨nb, 0, none⟩) (Int.toNat (IntKind.i64.wrap (1 * 2 ^ min (Int.toNat bits) 64))) (Int.toNat (IntKind.i64.wrap (1 * 2 ^ min (Int.toNat bits) 64)))), (.int .i64 bits), (.int .i64 most), (.int .i64 0)])) (hv_build (vs := [(0, (.slice (some ⟨nb, 0, none⟩) (Int.toNat (IntKind.i64.wrap (1 * 2 ^ min (Int.toNat bits) 64))) (Int.toNat (IntKind.i64.wrap (1 * 2 ^ min (Int.toNat bits) 64))))), (1, (.int .i64 bits)), (2, (.int .i64 most))]) (cs := #[(.slice (some ⟨nb, 0, none⟩) (Int.toNat (IntKind.i64.wrap (1 * 2 ^ min (Int.toNat bits) 64))) (Int.toNat (IntKind.i64.wrap (1 * 2 ^ min (Int.toNat bits) 64)))), (.int .i64 bits), (.int .i64 most), (.int .i64 0)]) Ty.z87 Ty.pl87 rfl (by kernel_rfl)) ?_
      refine hl_step rfl rfl (hn_box (v := (.agg #[(.slice (some ⟨nb, 0, none⟩) (Int.toNat (IntKind.i64.wrap (1 * 2 ^ min (Int.toNat bits) 64))) (Int.toNat (IntKind.i64.wrap (1 * 2 ^ min (Int.toNat bits) 64)))), (.int .i64 bits), (.int .i64 most), (.int .i64 0)])) rfl ?_)
      intro nb_1 h2 eb8 eh9
      replace H := H nb_1 h2 eb8 eh9
      refine hl_val rfl rfl (v := (ptr nb_1 0)) (hv_assign rfl) ?_
      refine hl_val rfl rfl (v := (.int .i64 0)) (hv_assign rfl) ?_
      refine hl_nil ?_
      refine seqQ_n ?_
      refine hx_ret ?_
      exact endQ_ret _ (res_two Try.results49 (rv_tmp rfl) (rv_tmp rfl)) H

end Go.Proofs.Ytkecmljalcfhoaa
