import Derived.Shelf.SlSortCmp.NoneTotal
import Derived.Test.YtkecmljalcfhoaaProg
import Derived.Test.YtkecmljalcfhoaaPa1
import Derived.Test.YtkecmljalcfhoaaPa2
namespace Go.Proofs.Ytkecmljalcfhoaa
open Go
set_option maxRecDepth 100000
set_option maxHeartbeats 4000000
theorem Ty.agg5 : aggB Try.prog 5 = some false := by kernel_rfl
theorem Ty.cb50 : CallB Try.prog 50 := fun _ _ => Try.call50 _ _
theorem Ty.cb67 : CallB Try.prog 67 := fun _ _ => Try.call67 _ _
theorem Ty.cb68 : CallB Try.prog 68 := fun _ _ => Try.call68 _ _
theorem Ty.fld31_3 : fldB Try.prog 31 3 = some 3 := by kernel_rfl
theorem Ty.fld87_2 : fldB Try.prog 87 2 = some 2 := by kernel_rfl
theorem Ty.pl31 : plB Try.prog 31 = some [(0, 1), (1, 1), (2, 1), (3, 1)] := by kernel_rfl
theorem Ty.pl87 : plB Try.prog 87 = some [(0, 1), (1, 1), (2, 1), (3, 1)] := by kernel_rfl
theorem Ty.sz5 : szB Try.prog 5 = some 1 := by kernel_rfl
theorem Ty.z87 : zeroB Try.prog 87 (.agg #[(.slice none 0 0), (.int .i64 0), (.int .i64 0), (.int .i64 0)]) := by unfold zeroB; kernel_rfl
theorem f51_sh (t_b : Nat) (t_o : Nat) (e_Hash : Int) (e_At : Int) (e_Version : Int) (e_Hits : Int) (h : Heap) (R : Value → Heap → Prop)
    (H : (∀ e h1, e = Array.size h → h1 = Array.push h (.cells #[(.int .u64 e_Hash), (.int .u64 e_At), (.int .u64 e_Version), (.int .u8 e_Hits)] 31) → (∀ old h2, old = Array.size h1 → h2 = Array.push h1 (.cells #[(.int .u64 0), (.int .u64 0), (.int .u64 0), (.int .u8 0)] 31) → (∃ r : Bool, HC Try.prog 64 #[(ptr t_b t_o)] h2 (fun vv h' => vv = (.bool r) ∧ h' = h2) ∧ (((!r) = true → (HWs h2 old 0 4 ∧ ∀ h3, h3 = hsets h2 old 0 [(.int .u64 0), (.int .u64 0), (.int .u64 0), (.int .u8 0)] → (∃ old_Hash old_At old_Version old_Hits : Int, hcell h3 old 0 = some (.int .u64 old_Hash) ∧ hcell h3 old 1 = some (.int .u64 old_At) ∧ hcell h3 old 2 = some (.int .u64 old_Version) ∧ hcell h3 old 3 = some (.int .u8 old_Hits) ∧ R (.tuple #[(.agg #[(.int .u64 old_Hash), (.int .u64 old_At), (.int .u64 old_Version), (.int .u8 old_Hits)]), (.bool false), (.int .i64 6)]) h3))) ∧ ((!r) = false → (∃ x_Hash x_At x_Version x_Hits : Int, hcell h2 e 0 = some (.int .u64 x_Hash) ∧ hcell h2 e 1 = some (.int .u64 x_At) ∧ hcell h2 e 2 = some (.int .u64 x_Version) ∧ hcell h2 e 3 = some (.int .u8 x_Hits) ∧ HC Try.prog 58 #[(.agg #[(.int .u64 x_Hash), (.int .u64 x_At), (.int .u64 x_Version), (.int .u8 x_Hits)])] h2 (fun vv h4 => ∃ r_1 : Bool, vv = (.bool r_1) ∧ ((r_1 = true → (HWs h4 old 0 4 ∧ ∀ h5, h5 = hsets h4 old 0 [(.int .u64 0), (.int .u64 0), (.int .u64 0), (.int .u8 0)] → (∃ old_Hash old_At old_Version old_Hits : Int, hcell h5 old 0 = some (.int .u64 old_Hash) ∧ hcell h5 old 1 = some (.int .u64 old_At) ∧ hcell h5 old 2 = some (.int .u64 old_Version) ∧ hcell h5 old 3 = some (.int .u8 old_Hits) ∧ R (.tuple #[(.agg #[(.int .u64 old_Hash), (.int .u64 old_At), (.int .u64 old_Version), (.int .u8 old_Hits)]), (.bool false), (.int .i64 1)]) h5))) ∧ (r_1 = false → (∃ x : Int, hcell h4 e 0 = some (.int .u64 x) ∧ HC Try.prog 50 #[(ptr t_b t_o), (.int .u64 x)] h4 (fun vv h6 => ∃ r_2 : Int, vv = (.int .i64 r_2) ∧ (((decide (r_2 ≥ 0)) = true → (∃ x_1 : Option Addr, ∃ x_n x_c : Nat, hcell h6 t_b t_o = some (.slice x_1 x_n x_c) ∧ (∃ x_1_b x_1_o : Nat, x_1 = some ⟨x_1_b, x_1_o, none⟩ ∧ (0 : Int) ≤ r_2 ∧ r_2 < (x_n : Int) ∧ (∃ x_Hash_1 x_At_1 x_Version_1 x_Hits_1 : Int, hcell h6 x_1_b (x_1_o + (Int.toNat r_2) * 4) = some (.int .u64 x_Hash_1) ∧ hcell h6 x_1_b ((x_1_o + (Int.toNat r_2) * 4) + 1) = some (.int .u64 x_At_1) ∧ hcell h6 x_1_b ((x_1_o + (Int.toNat r_2) * 4) + 2) = some (.int .u64 x_Version_1) ∧ hcell h6 x_1_b ((x_1_o + (Int.toNat r_2) * 4) + 3) = some (.int .u8 x_Hits_1) ∧ (HWs h6 old 0 4 ∧ ∀ h7, h7 = hsets h6 old 0 [(.int .u64 x_Hash_1), (.int .u64 x_At_1), (.int .u64 x_Version_1), (.int .u8 x_Hits_1)] → (∃ x_2 : Option Addr, ∃ x_n_1 x_c_1 : Nat, hcell h7 t_b t_o = some (.slice x_2 x_n_1 x_c_1) ∧ (∃ x_Hash_2 x_At_2 x_Version_2 x_Hits_2 : Int, hcell h7 e 0 = some (.int .u64 x_Hash_2) ∧ hcell h7 e 1 = some (.int .u64 x_At_2) ∧ hcell h7 e 2 = some (.int .u64 x_Version_2) ∧ hcell h7 e 3 = some (.int .u8 x_Hits_2) ∧ (∃ x_2_b x_2_o : Nat, x_2 = some ⟨x_2_b, x_2_o, none⟩ ∧ (0 : Int) ≤ r_2 ∧ r_2 < (x_n_1 : Int) ∧ (HWs h7 x_2_b (x_2_o + (Int.toNat r_2) * 4) 4 ∧ ∀ h8, h8 = hsets h7 x_2_b (x_2_o + (Int.toNat r_2) * 4) [(.int .u64 x_Hash_2), (.int .u64 x_At_2), (.int .u64 x_Version_2), (.int .u8 x_Hits_2)] → (∃ x_Hash_3 x_At_3 x_Version_3 x_Hits_3 : Int, hcell h8 old 0 = some (.int .u64 x_Hash_3) ∧ hcell h8 old 1 = some (.int .u64 x_At_3) ∧ hcell h8 old 2 = some (.int .u64 x_Version_3) ∧ hcell h8 old 3 = some (.int .u8 x_Hits_3) ∧ (HWs h8 old 0 4 ∧ ∀ h9, h9 = hsets h8 old 0 [(.int .u64 x_Hash_3), (.int .u64 x_At_3), (.int .u64 x_Version_3), (.int .u8 x_Hits_3)] → (∃ old_Hash old_At old_Version old_Hits : Int, hcell h9 old 0 = some (.int .u64 old_Hash) ∧ hcell h9 old 1 = some (.int .u64 old_At) ∧ hcell h9 old 2 = some (.int .u64 old_Version) ∧ hcell h9 old 3 = some (.int .u8 old_Hits) ∧ R (.tuple #[(.agg #[(.int .u64 old_Hash), (.int .u64 old_At), (.int .u64 old_Version), (.int .u8 old_Hits)]), (.bool true), (.int .i64 0)]) h9)))))))))))) ∧ ((decide (r_2 ≥ 0)) = false → (∃ A46 : Heap → Prop, (∃ r_3 : Bool, HC Try.prog 67 #[(ptr t_b t_o)] h6 (fun vv h' => vv = (.bool r_3) ∧ h' = h6) ∧ ((r_3 = true → (∃ x_1 : Int, hcell h6 t_b (t_o + 1) = some (.int .i64 x_1) ∧ (∃ x_2 : Int, hcell h6 t_b (t_o + 2) = some (.int .i64 x_2) ∧ (((x_1 == x_2) = true → (HWs h6 old 0 4 ∧ ∀ h11, h11 = hsets h6 old 0 [(.int .u64 0), (.int .u64 0), (.int .u64 0), (.int .u8 0)] → (∃ old_Hash old_At old_Version old_Hits : Int, hcell h11 old 0 = some (.int .u64 old_Hash) ∧ hcell h11 old 1 = some (.int .u64 old_At) ∧ hcell h11 old 2 = some (.int .u64 old_Version) ∧ hcell h11 old 3 = some (.int .u8 old_Hits) ∧ R (.tuple #[(.agg #[(.int .u64 old_Hash), (.int .u64 old_At), (.int .u64 old_Version), (.int .u8 old_Hits)]), (.bool false), (.int .i64 2)]) h11))) ∧ ((x_1 == x_2) = false → HC Try.prog 68 #[(ptr t_b t_o)] h6 (fun vv h12 => vv = (.tuple #[]) ∧ (A46 h12))))))) ∧ (r_3 = false → (A46 h6)))) ∧ (∀ (h10 : Heap), A46 h10 → (∃ x_Hash_1 x_At_1 x_Version_1 x_Hits_1 : Int, hcell h10 e 0 = some (.int .u64 x_Hash_1) ∧ hcell h10 e 1 = some (.int .u64 x_At_1) ∧ hcell h10 e 2 = some (.int .u64 x_Version_1) ∧ hcell h10 e 3 = some (.int .u8 x_Hits_1) ∧ HC Try.prog 69 #[(ptr t_b t_o), (.agg #[(.int .u64 x_Hash_1), (.int .u64 x_At_1), (.int .u64 x_Version_1), (.int .u8 x_Hits_1)])] h10 (fun vv h13 => vv = (.tuple #[]) ∧ (HWs h13 old 0 4 ∧ ∀ h14, h14 = hsets h13 old 0 [(.int .u64 0), (.int .u64 0), (.int .u64 0), (.int .u8 0)] → (∃ old_Hash_1 old_At_1 old_Version_1 old_Hits_1 : Int, hcell h14 old 0 = some (.int .u64 old_Hash_1) ∧ hcell h14 old 1 = some (.int .u64 old_At_1) ∧ hcell h14 old 2 = some (.int .u64 old_Version_1) ∧ hcell h14 old 3 = some (.int .u8 old_Hits_1) ∧ R (.tuple #[(.agg #[(.int .u64 old_Hash_1), (.int .u64 old_At_1), (.int .u64 old_Version_1), (.int .u8 old_Hits_1)]), (.bool false), (.int .i64 0)]) h14)))))))))))))))))))) :
    HC Try.prog 51 #[(ptr t_b t_o), (.agg #[(.int .u64 e_Hash), (.int .u64 e_At), (.int .u64 e_Version), (.int .u8 e_Hits)])] h R := by
  refine hc_of (args := [(ptr t_b t_o), (.agg #[(.int .u64 e_Hash), (.int .u64 e_At), (.int .u64 e_Version), (.int .u8 e_Hits)])]) Try.func51 rfl Try.ntmps51 (Nat.le_of_ble_eq_true rfl) ?_
  refine hx_seq ?_
  refine hx_region ?_
  refine hl_step rfl rfl (hn_box (v := (.agg #[(.int .u64 e_Hash), (.int .u64 e_At), (.int .u64 e_Version), (.int .u8 e_Hits)])) rfl ?_)
  intro e h1 eb1 eh2
  replace H := H e h1 eb1 eh2
  refine hl_step rfl rfl (hn_alloc Ty.z31 ?_)
  intro old h2 eb3 eh4
  replace H := H old h2 eb3 eh4
  refine hl_val rfl rfl (v := (.bool false)) (hv_assign rfl) ?_
  refine hl_val rfl rfl (v := (.int .i64 0)) (hv_assign rfl) ?_
  refine hl_nil ?_
  refine seqQ_n ?_
  refine hx_seq ?_
  refine hx_block ?_
  refine hx_seq ?_
  refine hx_region ?_
  refine hl_val rfl rfl (v := (ptr t_b t_o)) (hv_move rfl) ?_
  obtain ⟨r, hr5, H⟩ := H
  refine hl_val rfl rfl (v := (.bool r)) (hv_call Ty.cb64 (vs := [(ptr t_b t_o)]) rfl hr5) ?_
  refine hl_val rfl rfl (v := (.bool (!r))) (hv_not (b := r) rfl) ?_
  refine hl_val rfl rfl (v := (.bool (!r))) (hv_assign rfl) ?_
  refine hl_nil ?_
  refine seqQ_n ?_
  refine hx_cond (b := !r) rfl (fun hb78 => ?_) (fun hb78 => ?_)
  · replace H := H.1 hb78
    refine hx_seq ?_
    refine hx_region ?_
    refine hl_val rfl rfl (v := (.agg #[(.int .u64 0), (.int .u64 0), (.int .u64 0), (.int .u8 0)])) (hv_build (vs := []) (cs := #[(.int .u64 0), (.int .u64 0), (.int .u64 0), (.int .u8 0)]) Ty.z31 Ty.pl31 rfl (by kernel_rfl)) ?_
    obtain ⟨hw6, H⟩ := H
    refine hl_step rfl rfl (hn_stores (vs := [(.int .u64 0), (.int .u64 0), (.int .u64 0), (.int .u8 0)]) rfl rfl Ty.sz31 rfl hw6 ?_)
    intro h3 eh7
    replace H := H h3 eh7
    refine hl_val rfl rfl (v := (.bool false)) (hv_assign rfl) ?_
    refine hl_val rfl rfl (v := (.int .i64 6)) (hv_assign rfl) ?_
    refine hl_nil ?_
    refine seqQ_n ?_
    refine hx_ret ?_
    refine blockQ_ret ?_
    refine seqQ_ret ?_
    obtain ⟨old_Hash, old_At, old_Version, old_Hits, hc8, hc9, hc10, hc11, H⟩ := H
    exact endQ_ret _ (res_three Try.results51 (rv_cell (vs := [(.int .u64 old_Hash), (.int .u64 old_At), (.int .u64 old_Version), (.int .u8 old_Hits)]) Ty.agg31 Ty.sz31 rfl (hcells_cons hc8 (hcells_cons hc9 (hcells_cons hc10 (hcells_cons hc11 hcells_nil))))) (rv_tmp rfl) (rv_tmp rfl)) H
  · replace H := H.2 hb78
    refine hx_seq ?_
    refine hx_region ?_
    obtain ⟨x_Hash, x_At, x_Version, x_Hits, hc74, hc75, hc76, hc77, H⟩ := H
    refine hl_val rfl rfl (v := (.agg #[(.int .u64 x_Hash), (.int .u64 x_At), (.int .u64 x_Version), (.int .u8 x_Hits)])) (hv_loads (vs := [(.int .u64 x_Hash), (.int .u64 x_At), (.int .u64 x_Version), (.int .u8 x_Hits)]) Ty.agg31 Ty.sz31 rfl (hcells_cons hc74 (hcells_cons hc75 (hcells_cons hc76 (hcells_cons hc77 hcells_nil))))) ?_
    refine hl_step rfl rfl (hs_call Ty.cb58 (vs := [(.agg #[(.int .u64 x_Hash), (.int .u64 x_At), (.int .u64 x_Version), (.int .u8 x_Hits)])]) rfl (HC.mono H ?_))
    rintro _ h4 ⟨r_1, rfl, H⟩
    refine hl_val rfl rfl (v := (.bool r_1)) (hv_assign rfl) ?_
    refine hl_nil ?_
    refine seqQ_n ?_
    refine hx_cond (b := r_1) rfl (fun hb73 => ?_) (fun hb73 => ?_)
    · replace H := H.1 hb73
      refine hx_seq ?_
      refine hx_region ?_
      refine hl_val rfl rfl (v := (.agg #[(.int .u64 0), (.int .u64 0), (.int .u64 0), (.int .u8 0)])) (hv_build (vs := []) (cs := #[(.int .u64 0), (.int .u64 0), (.int .u64 0), (.int .u8 0)]) Ty.z31 Ty.pl31 rfl (by kernel_rfl)) ?_
      obtain ⟨hw12, H⟩ := H
      refine hl_step rfl rfl (hn_stores (vs := [(.int .u64 0), (.int .u64 0), (.int .u64 0), (.int .u8 0)]) rfl rfl Ty.sz31 rfl hw12 ?_)
      intro h5 eh13
      replace H := H h5 eh13
      refine hl_val rfl rfl (v := (.bool false)) (hv_assign rfl) ?_
      refine hl_val rfl rfl (v := (.int .i64 1)) (hv_assign rfl) ?_
      refine hl_nil ?_
      refine seqQ_n ?_
      refine hx_ret ?_
      refine blockQ_ret ?_
      refine seqQ_ret ?_
      obtain ⟨old_Hash, old_At, old_Version, old_Hits, hc14, hc15, hc16, hc17, H⟩ := H
      exact endQ_ret _ (res_three Try.results51 (rv_cell (vs := [(.int .u64 old_Hash), (.int .u64 old_At), (.int .u64 old_Version), (.int .u8 old_Hits)]) Ty.agg31 Ty.sz31 rfl (hcells_cons hc14 (hcells_cons hc15 (hcells_cons hc16 (hcells_cons hc17 hcells_nil))))) (rv_tmp rfl) (rv_tmp rfl)) H
    · replace H := H.2 hb73
      refine hx_skip ?_
      refine blockQ_n ?_
      refine seqQ_n ?_
      refine hx_seq ?_
      refine hx_seq ?_
      refine hx_region ?_
      refine hl_val rfl rfl (v := (ptr t_b t_o)) (hv_move rfl) ?_
      refine hl_val rfl rfl (v := (ptr e 0)) (hv_field Ty.fld31_0 (b := e) (o := 0) rfl) ?_
      obtain ⟨x, hc72, H⟩ := H
      refine hl_val rfl rfl (v := (.int .u64 x)) (hv_load Ty.agg29 rfl hc72) ?_
      refine hl_step rfl rfl (hs_call Ty.cb50 (vs := [(ptr t_b t_o), (.int .u64 x)]) rfl (HC.mono H ?_))
      rintro _ h6 ⟨r_2, rfl, H⟩
      refine hl_val rfl rfl (v := (.int .i64 r_2)) (hv_assign rfl) ?_
      refine hl_nil ?_
      refine seqQ_n ?_
      refine hx_seq ?_
      refine hx_region ?_
      refine hl_val rfl rfl (v := (.int .i64 r_2)) (hv_move rfl) ?_
      refine hl_val rfl rfl (v := (.bool (decide (r_2 ≥ 0)))) (hv_arith rfl rfl rfl) ?_
      refine hl_nil ?_
      refine seqQ_n ?_
      refine hx_cond (b := decide (r_2 ≥ 0)) rfl (fun hb71 => ?_) (fun hb71 => ?_)
      · replace H := H.1 hb71
        refine hx_seq ?_
        refine hx_region ?_
        refine hl_val rfl rfl (v := (ptr t_b t_o)) (hv_move rfl) ?_
        refine hl_val rfl rfl (v := (ptr t_b t_o)) (hv_nil rfl) ?_
        refine hl_val rfl rfl (v := (ptr t_b t_o)) (hv_field Ty.fld87_0 (b := t_b) (o := t_o) rfl) ?_
        obtain ⟨x_1, x_n, x_c, hc45, H⟩ := H
        refine hl_val rfl rfl (v := (.slice x_1 x_n x_c)) (hv_load Ty.agg47 rfl hc45) ?_
        refine hl_val rfl rfl (v := (.int .i64 r_2)) (hv_move rfl) ?_
        obtain ⟨x_1_b, x_1_o, hqe, hi18, hi19, Hq⟩ := H
        subst hqe
        have H := Hq; clear Hq
        refine hl_val rfl rfl (v := (ptr x_1_b (x_1_o + (Int.toNat r_2) * 4))) (hv_index Ty.el47 rfl rfl hi18 hi19) ?_
        obtain ⟨x_Hash_1, x_At_1, x_Version_1, x_Hits_1, hc41, hc42, hc43, hc44, H⟩ := H
        refine hl_val rfl rfl (v := (.agg #[(.int .u64 x_Hash_1), (.int .u64 x_At_1), (.int .u64 x_Version_1), (.int .u8 x_Hits_1)])) (hv_loads (vs := [(.int .u64 x_Hash_1), (.int .u64 x_At_1), (.int .u64 x_Version_1), (.int .u8 x_Hits_1)]) Ty.agg31 Ty.sz31 rfl (hcells_cons hc41 (hcells_cons hc42 (hcells_cons hc43 (hcells_cons hc44 hcells_nil))))) ?_
        obtain ⟨hw20, H⟩ := H
        refine hl_step rfl rfl (hn_stores (vs := [(.int .u64 x_Hash_1), (.int .u64 x_At_1), (.int .u64 x_Version_1), (.int .u8 x_Hits_1)]) rfl rfl Ty.sz31 rfl hw20 ?_)
        intro h7 eh21
        replace H := H h7 eh21
        refine hl_nil ?_
        refine seqQ_n ?_
        refine hx_seq ?_
        refine hx_draw Ty.mixed [.pure, .pure, .pure, .read, .pure, .read, .pure, .wild] [0, 1, 2, 3, 4, 5, 6, 7] (by kernel_rfl) ?_
        refine hp_pure (i := 0) rfl (wanted_0 rfl) rfl (ptr t_b t_o) (fun _ => hv_move rfl) ?_
        refine hp_pure (i := 1) rfl (wanted_0 rfl) rfl (ptr t_b t_o) (fun _ => hv_nil rfl) ?_
        refine hp_pure (i := 2) rfl (wanted_0 rfl) rfl (ptr t_b t_o) (fun _ => hv_field Ty.fld87_0 (b := t_b) (o := t_o) rfl) ?_
        obtain ⟨x_2, x_n_1, x_c_1, hc40, H⟩ := H
        refine hp_read (i := 3) rfl (wanted_0 rfl) rfl (.slice x_2 x_n_1 x_c_1) (fun _ he => hv_load Ty.agg47 rfl (he.cell hc40)) ?_
        refine hp_pure (i := 4) rfl (wanted_0 rfl) rfl (.int .i64 r_2) (fun _ => hv_move rfl) ?_
        obtain ⟨x_Hash_2, x_At_2, x_Version_2, x_Hits_2, hc36, hc37, hc38, hc39, H⟩ := H
        refine hp_read (i := 5) rfl (wanted_0 rfl) rfl (.agg #[(.int .u64 x_Hash_2), (.int .u64 x_At_2), (.int .u64 x_Version_2), (.int .u8 x_Hits_2)]) (fun _ he => hv_loads (vs := [(.int .u64 x_Hash_2), (.int .u64 x_At_2), (.int .u64 x_Version_2), (.int .u8 x_Hits_2)]) Ty.agg31 Ty.sz31 rfl (hcells_cons (he.cell hc36) (hcells_cons (he.cell hc37) (hcells_cons (he.cell hc38) (hcells_cons (he.cell hc39) hcells_nil))))) ?_
        obtain ⟨x_2_b, x_2_o, hqe, hi22, hi23, Hq⟩ := H
        subst hqe
        have H := Hq; clear Hq
        refine hp_pure (i := 6) rfl (wanted_0 rfl) rfl (ptr x_2_b (x_2_o + (Int.toNat r_2) * 4)) (fun _ => hv_index Ty.el47 rfl rfl hi22 hi23) ?_
        obtain ⟨hw24, H⟩ := H
        refine hp_wild (i := 7) rfl (wanted_0 rfl) rfl (hn_stores (vs := [(.int .u64 x_Hash_2), (.int .u64 x_At_2), (.int .u64 x_Version_2), (.int .u8 x_Hits_2)]) rfl rfl Ty.sz31 rfl hw24 ?_)
        intro h8 eh25
        replace H := H h8 eh25
        refine hp_nil ?_
        refine seqQ_n ?_
        refine hx_seq ?_
        refine hx_region ?_
        obtain ⟨x_Hash_3, x_At_3, x_Version_3, x_Hits_3, hc32, hc33, hc34, hc35, H⟩ := H
        refine hl_val rfl rfl (v := (.agg #[(.int .u64 x_Hash_3), (.int .u64 x_At_3), (.int .u64 x_Version_3), (.int .u8 x_Hits_3)])) (hv_loads (vs := [(.int .u64 x_Hash_3), (.int .u64 x_At_3), (.int .u64 x_Version_3), (.int .u8 x_Hits_3)]) Ty.agg31 Ty.sz31 rfl (hcells_cons hc32 (hcells_cons hc33 (hcells_cons hc34 (hcells_cons hc35 hcells_nil))))) ?_
        obtain ⟨hw26, H⟩ := H
        refine hl_step rfl rfl (hn_stores (vs := [(.int .u64 x_Hash_3), (.int .u64 x_At_3), (.int .u64 x_Version_3), (.int .u8 x_Hits_3)]) rfl rfl Ty.sz31 rfl hw26 ?_)
        intro h9 eh27
        replace H := H h9 eh27
        refine hl_val rfl rfl (v := (.bool true)) (hv_assign rfl) ?_
        refine hl_val rfl rfl (v := (.int .i64 0)) (hv_assign rfl) ?_
        refine hl_nil ?_
        refine seqQ_n ?_
        refine hx_ret ?_
        refine seqQ_ret ?_
        obtain ⟨old_Hash, old_At, old_Version, old_Hits, hc28, hc29, hc30, hc31, H⟩ := H
        exact endQ_ret _ (res_three Try.results51 (rv_cell (vs := [(.int .u64 old_Hash), (.int .u64 old_At), (.int .u64 old_Version), (.int .u8 old_Hits)]) Ty.agg31 Ty.sz31 rfl (hcells_cons hc28 (hcells_cons hc29 (hcells_cons hc30 (hcells_cons hc31 hcells_nil))))) (rv_tmp rfl) (rv_tmp rfl)) H
      · replace H := H.2 hb71
        refine hx_skip ?_
        refine seqQ_n ?_
        obtain ⟨A46, Hx68, Hy69⟩ := H
        refine hx_cut (fun ρ h' => A46 h' ∧ Has ρ [(0, (ptr t_b t_o)), (3, (ptr e 0)), (4, (ptr old 0))]) ?_ ?_
        · have H := Hx68; clear Hx68 Hy69
          refine hx_seq ?_
          refine hx_region ?_
          refine hl_val rfl rfl (v := (ptr t_b t_o)) (hv_move rfl) ?_
          obtain ⟨r_3, hr47, H⟩ := H
          refine hl_val rfl rfl (v := (.bool r_3)) (hv_call Ty.cb67 (vs := [(ptr t_b t_o)]) rfl hr47) ?_
          refine hl_nil ?_
          refine seqQ_n ?_
          refine hx_cond (b := r_3) rfl (fun hb57 => ?_) (fun hb57 => ?_)
          · replace H := H.1 hb57
            refine hx_seq ?_
            refine hx_seq ?_
            refine hx_draw Ty.mixed [.pure, .pure, .pure, .read, .pure, .pure, .pure, .read, .pure] [0, 1, 2, 3, 4, 5, 6, 7, 8] (by kernel_rfl) ?_
            refine hp_pure (i := 0) rfl (wanted_0 rfl) rfl (ptr t_b t_o) (fun _ => hv_move rfl) ?_
            refine hp_pure (i := 1) rfl (wanted_0 rfl) rfl (ptr t_b t_o) (fun _ => hv_nil rfl) ?_
            refine hp_pure (i := 2) rfl (wanted_0 rfl) rfl (ptr t_b (t_o + 1)) (fun _ => hv_field Ty.fld87_1 (b := t_b) (o := t_o) rfl) ?_
            obtain ⟨x_1, hc56, H⟩ := H
            refine hp_read (i := 3) rfl (wanted_0 rfl) rfl (.int .i64 x_1) (fun _ he => hv_load Ty.agg3 rfl (he.cell hc56)) ?_
            refine hp_pure (i := 4) rfl (wanted_0 rfl) rfl (ptr t_b t_o) (fun _ => hv_move rfl) ?_
            refine hp_pure (i := 5) rfl (wanted_0 rfl) rfl (ptr t_b t_o) (fun _ => hv_nil rfl) ?_
            refine hp_pure (i := 6) rfl (wanted_0 rfl) rfl (ptr t_b (t_o + 2)) (fun _ => hv_field Ty.fld87_2 (b := t_b) (o := t_o) rfl) ?_
            obtain ⟨x_2, hc55, H⟩ := H
            refine hp_read (i := 7) rfl (wanted_0 rfl) rfl (.int .i64 x_2) (fun _ he => hv_load Ty.agg3 rfl (he.cell hc55)) ?_
            refine hp_pure (i := 8) rfl (wanted_0 rfl) rfl (.bool (x_1 == x_2)) (fun _ => hv_arith rfl rfl rfl) ?_
            refine hp_nil ?_
            refine seqQ_n ?_
            refine hx_cond (b := x_1 == x_2) rfl (fun hb54 => ?_) (fun hb54 => ?_)
            · replace H := H.1 hb54
              refine hx_seq ?_
              refine hx_region ?_
              refine hl_val rfl rfl (v := (.agg #[(.int .u64 0), (.int .u64 0), (.int .u64 0), (.int .u8 0)])) (hv_build (vs := []) (cs := #[(.int .u64 0), (.int .u64 0), (.int .u64 0), (.int .u8 0)]) Ty.z31 Ty.pl31 rfl (by kernel_rfl)) ?_
              obtain ⟨hw48, H⟩ := H
              refine hl_step rfl rfl (hn_stores (vs := [(.int .u64 0), (.int .u64 0), (.int .u64 0), (.int .u8 0)]) rfl rfl Ty.sz31 rfl hw48 ?_)
              intro h11 eh49
              replace H := H h11 eh49
              refine hl_val rfl rfl (v := (.bool false)) (hv_assign rfl) ?_
              refine hl_val rfl rfl (v := (.int .i64 2)) (hv_assign rfl) ?_
              refine hl_nil ?_
              refine seqQ_n ?_
              refine hx_ret ?_
              refine seqQ_ret ?_
              refine seqQ_ret ?_
              obtain ⟨old_Hash, old_At, old_Version, old_Hits, hc50, hc51, hc52, hc53, H⟩ := H
              exact endQ_ret _ (res_three Try.results51 (rv_cell (vs := [(.int .u64 old_Hash), (.int .u64 old_At), (.int .u64 old_Version), (.int .u8 old_Hits)]) Ty.agg31 Ty.sz31 rfl (hcells_cons hc50 (hcells_cons hc51 (hcells_cons hc52 (hcells_cons hc53 hcells_nil))))) (rv_tmp rfl) (rv_tmp rfl)) H
            · replace H := H.2 hb54
              refine hx_skip ?_
              refine seqQ_n ?_
              refine hx_region ?_
              refine hl_val rfl rfl (v := (ptr t_b t_o)) (hv_move rfl) ?_
              refine hl_step rfl rfl (hs_call Ty.cb68 (vs := [(ptr t_b t_o)]) rfl (HC.mono H ?_))
              rintro _ h12 ⟨rfl, H⟩
              refine hl_nil ?_
              refine seqQ_n ?_
              exact ⟨H, (has_cons rfl (has_cons rfl (has_cons rfl has_nil)))⟩
          · replace H := H.2 hb57
            refine hx_skip ?_
            refine seqQ_n ?_
            exact ⟨H, (has_cons rfl (has_cons rfl (has_cons rfl has_nil)))⟩
        · rintro ρ h10 ⟨HA70, hH⟩
          have H := Hy69 h10 HA70; clear Hx68 Hy69
          refine hx_has _ hH ?_
          refine hx_seq ?_
          refine hx_region ?_
          refine hl_val rfl rfl (v := (ptr t_b t_o)) (hv_move rfl) ?_
          obtain ⟨x_Hash_1, x_At_1, x_Version_1, x_Hits_1, hc64, hc65, hc66, hc67, H⟩ := H
          refine hl_val rfl rfl (v := (.agg #[(.int .u64 x_Hash_1), (.int .u64 x_At_1), (.int .u64 x_Version_1), (.int .u8 x_Hits_1)])) (hv_loads (vs := [(.int .u64 x_Hash_1), (.int .u64 x_At_1), (.int .u64 x_Version_1), (.int .u8 x_Hits_1)]) Ty.agg31 Ty.sz31 rfl (hcells_cons hc64 (hcells_cons hc65 (hcells_cons hc66 (hcells_cons hc67 hcells_nil))))) ?_
          refine hl_step rfl rfl (hs_call Ty.cb69 (vs := [(ptr t_b t_o), (.agg #[(.int .u64 x_Hash_1), (.int .u64 x_At_1), (.int .u64 x_Version_1), (.int .u8 x_Hits_1)])]) rfl (HC.mono H ?_))
          rintro _ h13 ⟨rfl, H⟩
          refine hl_nil ?_
          refine seqQ_n ?_
          refine hx_seq ?_
          refine hx_region ?_
          refine hl_val rfl rfl (v := (.agg #[(.int .u64 0), (.int .u64 0), (.int .u64 0), (.int .u8 0)])) (hv_build (vs := []) (cs := #[(.int .u64 0), (.int .u64 0), (.int .u64 0), (.int .u8 0)]) Ty.z31 Ty.pl31 rfl (by kernel_rfl)) ?_
          obtain ⟨hw58, H⟩ := H
          refine hl_step rfl rfl (hn_stores (vs := [(.int .u64 0), (.int .u64 0), (.int .u64 0), (.int .u8 0)]) rfl rfl Ty.sz31 rfl hw58 ?_)
          intro h14 eh59
          replace H := H h14 eh59
          refine hl_val rfl rfl (v := (.bool false)) (hv_assign rfl) ?_
          refine hl_val rfl rfl (v := (.int .i64 0)) (hv_assign rfl) ?_
          refine hl_nil ?_
          refine seqQ_n ?_
          refine hx_ret ?_
          obtain ⟨old_Hash_1, old_At_1, old_Version_1, old_Hits_1, hc60, hc61, hc62, hc63, H⟩ := H
          exact endQ_ret _ (res_three Try.results51 (rv_cell (vs := [(.int .u64 old_Hash_1), (.int .u64 old_At_1), (.int .u64 old_Version_1), (.int .u8 old_Hits_1)]) Ty.agg31 Ty.sz31 rfl (hcells_cons hc60 (hcells_cons hc61 (hcells_cons hc62 (hcells_cons hc63 hcells_nil))))) (rv_tmp rfl) (rv_tmp rfl)) H
theorem f28_sh (t_b : Nat) (t_o : Nat) (hash : Int) (h : Heap) (R : Value → Heap → Prop)
    (H : (∀ nb h1, nb = Array.size h → h1 = Array.push h (.cells #[(.int .u64 0), (.int .u64 0), (.int .u64 0), (.int .u8 0)] 31) → HC Try.prog 50 #[(ptr t_b t_o), (.int .u64 hash)] h1 (fun vv h2 => ∃ r : Int, vv = (.int .i64 r) ∧ (((decide (r < 0)) = true → (HWs h2 nb 0 4 ∧ ∀ h3, h3 = hsets h2 nb 0 [(.int .u64 0), (.int .u64 0), (.int .u64 0), (.int .u8 0)] → (∃ res_Hash res_At res_Version res_Hits : Int, hcell h3 nb 0 = some (.int .u64 res_Hash) ∧ hcell h3 nb 1 = some (.int .u64 res_At) ∧ hcell h3 nb 2 = some (.int .u64 res_Version) ∧ hcell h3 nb 3 = some (.int .u8 res_Hits) ∧ R (.tuple #[(.agg #[(.int .u64 res_Hash), (.int .u64 res_At), (.int .u64 res_Version), (.int .u8 res_Hits)]), (.bool false)]) h3))) ∧ ((decide (r < 0)) = false → (∃ x : Option Addr, ∃ x_n x_c : Nat, hcell h2 t_b t_o = some (.slice x x_n x_c) ∧ (∃ x_b x_o : Nat, x = some ⟨x_b, x_o, none⟩ ∧ (0 : Int) ≤ r ∧ r < (x_n : Int) ∧ (∃ x_Hash x_At x_Version x_Hits : Int, hcell h2 x_b (x_o + (Int.toNat r) * 4) = some (.int .u64 x_Hash) ∧ hcell h2 x_b ((x_o + (Int.toNat r) * 4) + 1) = some (.int .u64 x_At) ∧ hcell h2 x_b ((x_o + (Int.toNat r) * 4) + 2) = some (.int .u64 x_Version) ∧ hcell h2 x_b ((x_o + (Int.toNat r) * 4) + 3) = some (.int .u8 x_Hits) ∧ (HWs h2 nb 0 4 ∧ ∀ h4, h4 = hsets h2 nb 0 [(.int .u64 x_Hash), (.int .u64 x_At), (.int .u64 x_Version), (.int .u8 x_Hits)] → (∃ res_Hash res_At res_Version res_Hits : Int, hcell h4 nb 0 = some (.int .u64 res_Hash) ∧ hcell h4 nb 1 = some (.int .u64 res_At) ∧ hcell h4 nb 2 = some (.int .u64 res_Version) ∧ hcell h4 nb 3 = some (.int .u8 res_Hits) ∧ R (.tuple #[(.agg #[(.int .u64 res_Hash), (.int .u64 res_At), (.int .u64 res_Version), (.int .u8 res_Hits)]), (.bool true)]) h4)))))))))) :
    HC Try.prog 28 #[(ptr t_b t_o), (.int .u64 hash)] h R := by
  refine hc_of (args := [(ptr t_b t_o), (.int .u64 hash)]) Try.func28 rfl Try.ntmps28 (Nat.le_of_ble_eq_true rfl) ?_
  refine hx_seq ?_
  refine hx_region ?_
  refine hl_step rfl rfl (hn_alloc Ty.z31 ?_)
  intro nb h1 eb1 eh2
  replace H := H nb h1 eb1 eh2
  refine hl_val rfl rfl (v := (.bool false)) (hv_assign rfl) ?_
  refine hl_nil ?_
  refine seqQ_n ?_
  refine hx_seq ?_
  refine hx_region ?_
  refine hl_val rfl rfl (v := (ptr t_b t_o)) (hv_move rfl) ?_
  refine hl_val rfl rfl (v := (.int .u64 hash)) (hv_move rfl) ?_
  refine hl_step rfl rfl (hs_call Ty.cb50 (vs := [(ptr t_b t_o), (.int .u64 hash)]) rfl (HC.mono H ?_))
  rintro _ h2 ⟨r, rfl, H⟩
  refine hl_val rfl rfl (v := (.int .i64 r)) (hv_assign rfl) ?_
  refine hl_nil ?_
  refine seqQ_n ?_
  refine hx_seq ?_
  refine hx_seq ?_
  refine hx_region ?_
  refine hl_val rfl rfl (v := (.int .i64 r)) (hv_move rfl) ?_
  refine hl_val rfl rfl (v := (.bool (decide (r < 0)))) (hv_arith rfl rfl rfl) ?_
  refine hl_nil ?_
  refine seqQ_n ?_
  refine hx_cond (b := decide (r < 0)) rfl (fun hb22 => ?_) (fun hb22 => ?_)
  · replace H := H.1 hb22
    refine hx_seq ?_
    refine hx_region ?_
    refine hl_val rfl rfl (v := (.agg #[(.int .u64 0), (.int .u64 0), (.int .u64 0), (.int .u8 0)])) (hv_build (vs := []) (cs := #[(.int .u64 0), (.int .u64 0), (.int .u64 0), (.int .u8 0)]) Ty.z31 Ty.pl31 rfl (by kernel_rfl)) ?_
    obtain ⟨hw3, H⟩ := H
    refine hl_step rfl rfl (hn_stores (vs := [(.int .u64 0), (.int .u64 0), (.int .u64 0), (.int .u8 0)]) rfl rfl Ty.sz31 rfl hw3 ?_)
    intro h3 eh4
    replace H := H h3 eh4
    refine hl_val rfl rfl (v := (.bool false)) (hv_assign rfl) ?_
    refine hl_nil ?_
    refine seqQ_n ?_
    refine hx_ret ?_
    refine seqQ_ret ?_
    obtain ⟨res_Hash, res_At, res_Version, res_Hits, hc5, hc6, hc7, hc8, H⟩ := H
    exact endQ_ret _ (res_two Try.results28 (rv_cell (vs := [(.int .u64 res_Hash), (.int .u64 res_At), (.int .u64 res_Version), (.int .u8 res_Hits)]) Ty.agg31 Ty.sz31 rfl (hcells_cons hc5 (hcells_cons hc6 (hcells_cons hc7 (hcells_cons hc8 hcells_nil))))) (rv_tmp rfl)) H
  · replace H := H.2 hb22
    refine hx_skip ?_
    refine seqQ_n ?_
    refine hx_seq ?_
    refine hx_region ?_
    refine hl_val rfl rfl (v := (ptr t_b t_o)) (hv_move rfl) ?_
    refine hl_val rfl rfl (v := (ptr t_b t_o)) (hv_nil rfl) ?_
    refine hl_val rfl rfl (v := (ptr t_b t_o)) (hv_field Ty.fld87_0 (b := t_b) (o := t_o) rfl) ?_
    obtain ⟨x, x_n, x_c, hc21, H⟩ := H
    refine hl_val rfl rfl (v := (.slice x x_n x_c)) (hv_load Ty.agg47 rfl hc21) ?_
    refine hl_val rfl rfl (v := (.int .i64 r)) (hv_move rfl) ?_
    obtain ⟨x_b, x_o, hqe, hi9, hi10, Hq⟩ := H
    subst hqe
    have H := Hq; clear Hq
    refine hl_val rfl rfl (v := (ptr x_b (x_o + (Int.toNat r) * 4))) (hv_index Ty.el47 rfl rfl hi9 hi10) ?_
    obtain ⟨x_Hash, x_At, x_Version, x_Hits, hc17, hc18, hc19, hc20, H⟩ := H
    refine hl_val rfl rfl (v := (.agg #[(.int .u64 x_Hash), (.int .u64 x_At), (.int .u64 x_Version), (.int .u8 x_Hits)])) (hv_loads (vs := [(.int .u64 x_Hash), (.int .u64 x_At), (.int .u64 x_Version), (.int .u8 x_Hits)]) Ty.agg31 Ty.sz31 rfl (hcells_cons hc17 (hcells_cons hc18 (hcells_cons hc19 (hcells_cons hc20 hcells_nil))))) ?_
    obtain ⟨hw11, H⟩ := H
    refine hl_step rfl rfl (hn_stores (vs := [(.int .u64 x_Hash), (.int .u64 x_At), (.int .u64 x_Version), (.int .u8 x_Hits)]) rfl rfl Ty.sz31 rfl hw11 ?_)
    intro h4 eh12
    replace H := H h4 eh12
    refine hl_val rfl rfl (v := (.bool true)) (hv_assign rfl) ?_
    refine hl_nil ?_
    refine seqQ_n ?_
    refine hx_ret ?_
    obtain ⟨res_Hash, res_At, res_Version, res_Hits, hc13, hc14, hc15, hc16, H⟩ := H
    exact endQ_ret _ (res_two Try.results28 (rv_cell (vs := [(.int .u64 res_Hash), (.int .u64 res_At), (.int .u64 res_Version), (.int .u8 res_Hits)]) Ty.agg31 Ty.sz31 rfl (hcells_cons hc13 (hcells_cons hc14 (hcells_cons hc15 (hcells_cons hc16 hcells_nil))))) (rv_tmp rfl)) H
theorem f46_sh (t_b : Nat) (t_o : Nat) (hash : Int) (h : Heap) (R : Value → Heap → Prop)
    (H : (∀ nb h1, nb = Array.size h → h1 = Array.push h (.cells #[(.int .u64 0), (.int .u64 0), (.int .u64 0), (.int .u8 0)] 31) → HC Try.prog 50 #[(ptr t_b t_o), (.int .u64 hash)] h1 (fun vv h2 => ∃ r : Int, vv = (.int .i64 r) ∧ (((decide (r < 0)) = true → (HWs h2 nb 0 4 ∧ ∀ h3, h3 = hsets h2 nb 0 [(.int .u64 0), (.int .u64 0), (.int .u64 0), (.int .u8 0)] → (∃ res_Hash res_At res_Version res_Hits : Int, hcell h3 nb 0 = some (.int .u64 res_Hash) ∧ hcell h3 nb 1 = some (.int .u64 res_At) ∧ hcell h3 nb 2 = some (.int .u64 res_Version) ∧ hcell h3 nb 3 = some (.int .u8 res_Hits) ∧ R (.tuple #[(.agg #[(.int .u64 res_Hash), (.int .u64 res_At), (.int .u64 res_Version), (.int .u8 res_Hits)]), (.bool false)]) h3))) ∧ ((decide (r < 0)) = false → (∃ x : Option Addr, ∃ x_n x_c : Nat, hcell h2 t_b t_o = some (.slice x x_n x_c) ∧ (∃ x_b x_o : Nat, x = some ⟨x_b, x_o, none⟩ ∧ (0 : Int) ≤ r ∧ r < (x_n : Int) ∧ (∃ x_Hash x_At x_Version x_Hits : Int, hcell h2 x_b (x_o + (Int.toNat r) * 4) = some (.int .u64 x_Hash) ∧ hcell h2 x_b ((x_o + (Int.toNat r) * 4) + 1) = some (.int .u64 x_At) ∧ hcell h2 x_b ((x_o + (Int.toNat r) * 4) + 2) = some (.int .u64 x_Version) ∧ hcell h2 x_b ((x_o + (Int.toNat r) * 4) + 3) = some (.int .u8 x_Hits) ∧ (∀ out h4, out = Array.size h2 → h4 = Array.push h2 (.cells #[(.int .u64 0), (.int .u64 0), (.int .u64 0), (.int .u8 0)] 31) → (HWs h4 out 0 4 ∧ ∀ h5, h5 = hsets h4 out 0 [(.int .u64 x_Hash), (.int .u64 x_At), (.int .u64 x_Version), (.int .u8 x_Hits)] → (∃ (I15 : Int → Heap → Prop) (mu16 : Int → Heap → Nat), I15 r h5 ∧ (∀ (atv : Int) (h6 : Heap), I15 atv h6 → (∃ r_1 : Int, HC Try.prog 62 #[(ptr t_b t_o), (.int .i64 atv)] h6 (fun vv h' => vv = (.int .i64 r_1) ∧ h' = h6) ∧ (∃ A21 : Bool → Heap → Prop, (∃ x_1 : Option Addr, ∃ x_n_1 x_c_1 : Nat, hcell h6 t_b t_o = some (.slice x_1 x_n_1 x_c_1) ∧ (∃ x_1_b x_1_o : Nat, x_1 = some ⟨x_1_b, x_1_o, none⟩ ∧ (0 : Int) ≤ r_1 ∧ r_1 < (x_n_1 : Int) ∧ (∃ x_Hash_1 x_At_1 x_Version_1 x_Hits_1 : Int, hcell h6 x_1_b (x_1_o + (Int.toNat r_1) * 4) = some (.int .u64 x_Hash_1) ∧ hcell h6 x_1_b ((x_1_o + (Int.toNat r_1) * 4) + 1) = some (.int .u64 x_At_1) ∧ hcell h6 x_1_b ((x_1_o + (Int.toNat r_1) * 4) + 2) = some (.int .u64 x_Version_1) ∧ hcell h6 x_1_b ((x_1_o + (Int.toNat r_1) * 4) + 3) = some (.int .u8 x_Hits_1) ∧ HC Try.prog 58 #[(.agg #[(.int .u64 x_Hash_1), (.int .u64 x_At_1), (.int .u64 x_Version_1), (.int .u8 x_Hits_1)])] h6 (fun vv h8 => ∃ r_2 : Bool, vv = (.bool r_2) ∧ ((r_2 = true → (A21 true h8)) ∧ (r_2 = false → (∃ r_3 : Int, HC Try.prog 63 #[(ptr t_b t_o), (.int .i64 r_1)] h8 (fun vv h' => vv = (.int .i64 r_3) ∧ h' = h8) ∧ (A21 (r_3 == 0) h8)))))))) ∧ (∀ (j : Bool) (h7 : Heap), A21 j h7 → ((j = true → (∃ x_2 : Option Addr, ∃ x_n_2 x_c_2 : Nat, hcell h7 t_b t_o = some (.slice x_2 x_n_2 x_c_2) ∧ (∃ x_2_b x_2_o : Nat, x_2 = some ⟨x_2_b, x_2_o, none⟩ ∧ (0 : Int) ≤ atv ∧ atv < (x_n_2 : Int) ∧ (HWs h7 x_2_b (x_2_o + (Int.toNat atv) * 4) 4 ∧ ∀ h9, h9 = hsets h7 x_2_b (x_2_o + (Int.toNat atv) * 4) [(.int .u64 0), (.int .u64 0), (.int .u64 0), (.int .u8 0)] → (∃ x_3 : Int, hcell h9 t_b (t_o + 3) = some (.int .i64 x_3) ∧ (HW h9 t_b (t_o + 3) ∧ ∀ h10, h10 = hset h9 t_b (t_o + 3) (.int .i64 (IntKind.i64.wrap (x_3 - 1))) → (∃ x_Hash_2 x_At_2 x_Version_2 x_Hits_2 : Int, hcell h10 out 0 = some (.int .u64 x_Hash_2) ∧ hcell h10 out 1 = some (.int .u64 x_At_2) ∧ hcell h10 out 2 = some (.int .u64 x_Version_2) ∧ hcell h10 out 3 = some (.int .u8 x_Hits_2) ∧ (HWs h10 nb 0 4 ∧ ∀ h11, h11 = hsets h10 nb 0 [(.int .u64 x_Hash_2), (.int .u64 x_At_2), (.int .u64 x_Version_2), (.int .u8 x_Hits_2)] → (∃ res_Hash res_At res_Version res_Hits : Int, hcell h11 nb 0 = some (.int .u64 res_Hash) ∧ hcell h11 nb 1 = some (.int .u64 res_At) ∧ hcell h11 nb 2 = some (.int .u64 res_Version) ∧ hcell h11 nb 3 = some (.int .u8 res_Hits) ∧ R (.tuple #[(.agg #[(.int .u64 res_Hash), (.int .u64 res_At), (.int .u64 res_Version), (.int .u8 res_Hits)]), (.bool true)]) h11))))))))) ∧ (j = false → (∃ x_2 : Option Addr, ∃ x_n_2 x_c_2 : Nat, hcell h7 t_b t_o = some (.slice x_2 x_n_2 x_c_2) ∧ (∃ x_3 : Option Addr, ∃ x_n_3 x_c_3 : Nat, hcell h7 t_b t_o = some (.slice x_3 x_n_3 x_c_3) ∧ (∃ x_3_b x_3_o : Nat, x_3 = some ⟨x_3_b, x_3_o, none⟩ ∧ (0 : Int) ≤ r_1 ∧ r_1 < (x_n_3 : Int) ∧ (∃ x_Hash_2 x_At_2 x_Version_2 x_Hits_2 : Int, hcell h7 x_3_b (x_3_o + (Int.toNat r_1) * 4) = some (.int .u64 x_Hash_2) ∧ hcell h7 x_3_b ((x_3_o + (Int.toNat r_1) * 4) + 1) = some (.int .u64 x_At_2) ∧ hcell h7 x_3_b ((x_3_o + (Int.toNat r_1) * 4) + 2) = some (.int .u64 x_Version_2) ∧ hcell h7 x_3_b ((x_3_o + (Int.toNat r_1) * 4) + 3) = some (.int .u8 x_Hits_2) ∧ (∃ x_2_b x_2_o : Nat, x_2 = some ⟨x_2_b, x_2_o, none⟩ ∧ (0 : Int) ≤ atv ∧ atv < (x_n_2 : Int) ∧ (HWs h7 x_2_b (x_2_o + (Int.toNat atv) * 4) 4 ∧ ∀ h12, h12 = hsets h7 x_2_b (x_2_o + (Int.toNat atv) * 4) [(.int .u64 x_Hash_2), (.int .u64 x_At_2), (.int .u64 x_Version_2), (.int .u8 x_Hits_2)] → (I15 r_1 h12 ∧ mu16 r_1 h12 < mu16 atv h6)))))))))))))))))))))))) :
    HC Try.prog 46 #[(ptr t_b t_o), (.int .u64 hash)] h R := by
  refine hc_of (args := [(ptr t_b t_o), (.int .u64 hash)]) Try.func46 rfl Try.ntmps46 (Nat.le_of_ble_eq_true rfl) ?_
  refine hx_seq ?_
  refine hx_region ?_
  refine hl_step rfl rfl (hn_alloc Ty.z31 ?_)
  intro nb h1 eb1 eh2
  replace H := H nb h1 eb1 eh2
  refine hl_val rfl rfl (v := (.bool false)) (hv_assign rfl) ?_
  refine hl_nil ?_
  refine seqQ_n ?_
  refine hx_seq ?_
  refine hx_region ?_
  refine hl_val rfl rfl (v := (ptr t_b t_o)) (hv_move rfl) ?_
  refine hl_val rfl rfl (v := (.int .u64 hash)) (hv_move rfl) ?_
  refine hl_step rfl rfl (hs_call Ty.cb50 (vs := [(ptr t_b t_o), (.int .u64 hash)]) rfl (HC.mono H ?_))
  rintro _ h2 ⟨r, rfl, H⟩
  refine hl_val rfl rfl (v := (.int .i64 r)) (hv_assign rfl) ?_
  refine hl_nil ?_
  refine seqQ_n ?_
  refine hx_seq ?_
  refine hx_seq ?_
  refine hx_region ?_
  refine hl_val rfl rfl (v := (.int .i64 r)) (hv_move rfl) ?_
  refine hl_val rfl rfl (v := (.bool (decide (r < 0)))) (hv_arith rfl rfl rfl) ?_
  refine hl_nil ?_
  refine seqQ_n ?_
  refine hx_cond (b := decide (r < 0)) rfl (fun hb70 => ?_) (fun hb70 => ?_)
  · replace H := H.1 hb70
    refine hx_seq ?_
    refine hx_region ?_
    refine hl_val rfl rfl (v := (.agg #[(.int .u64 0), (.int .u64 0), (.int .u64 0), (.int .u8 0)])) (hv_build (vs := []) (cs := #[(.int .u64 0), (.int .u64 0), (.int .u64 0), (.int .u8 0)]) Ty.z31 Ty.pl31 rfl (by kernel_rfl)) ?_
    obtain ⟨hw3, H⟩ := H
    refine hl_step rfl rfl (hn_stores (vs := [(.int .u64 0), (.int .u64 0), (.int .u64 0), (.int .u8 0)]) rfl rfl Ty.sz31 rfl hw3 ?_)
    intro h3 eh4
    replace H := H h3 eh4
    refine hl_val rfl rfl (v := (.bool false)) (hv_assign rfl) ?_
    refine hl_nil ?_
    refine seqQ_n ?_
    refine hx_ret ?_
    refine seqQ_ret ?_
    obtain ⟨res_Hash, res_At, res_Version, res_Hits, hc5, hc6, hc7, hc8, H⟩ := H
    exact endQ_ret _ (res_two Try.results46 (rv_cell (vs := [(.int .u64 res_Hash), (.int .u64 res_At), (.int .u64 res_Version), (.int .u8 res_Hits)]) Ty.agg31 Ty.sz31 rfl (hcells_cons hc5 (hcells_cons hc6 (hcells_cons hc7 (hcells_cons hc8 hcells_nil))))) (rv_tmp rfl)) H
  · replace H := H.2 hb70
    refine hx_skip ?_
    refine seqQ_n ?_
    refine hx_seq ?_
    refine hx_region ?_
    refine hl_val rfl rfl (v := (ptr t_b t_o)) (hv_move rfl) ?_
    refine hl_val rfl rfl (v := (ptr t_b t_o)) (hv_nil rfl) ?_
    refine hl_val rfl rfl (v := (ptr t_b t_o)) (hv_field Ty.fld87_0 (b := t_b) (o := t_o) rfl) ?_
    obtain ⟨x, x_n, x_c, hc69, H⟩ := H
    refine hl_val rfl rfl (v := (.slice x x_n x_c)) (hv_load Ty.agg47 rfl hc69) ?_
    refine hl_val rfl rfl (v := (.int .i64 r)) (hv_move rfl) ?_
    obtain ⟨x_b, x_o, hqe, hi9, hi10, Hq⟩ := H
    subst hqe
    have H := Hq; clear Hq
    refine hl_val rfl rfl (v := (ptr x_b (x_o + (Int.toNat r) * 4))) (hv_index Ty.el47 rfl rfl hi9 hi10) ?_
    obtain ⟨x_Hash, x_At, x_Version, x_Hits, hc65, hc66, hc67, hc68, H⟩ := H
    refine hl_val rfl rfl (v := (.agg #[(.int .u64 x_Hash), (.int .u64 x_At), (.int .u64 x_Version), (.int .u8 x_Hits)])) (hv_loads (vs := [(.int .u64 x_Hash), (.int .u64 x_At), (.int .u64 x_Version), (.int .u8 x_Hits)]) Ty.agg31 Ty.sz31 rfl (hcells_cons hc65 (hcells_cons hc66 (hcells_cons hc67 (hcells_cons hc68 hcells_nil))))) ?_
    refine hl_step rfl rfl (hn_alloc Ty.z31 ?_)
    intro out h4 eb11 eh12
    replace H := H out h4 eb11 eh12
    obtain ⟨hw13, H⟩ := H
    refine hl_step rfl rfl (hn_stores (vs := [(.int .u64 x_Hash), (.int .u64 x_At), (.int .u64 x_Version), (.int .u8 x_Hits)]) rfl rfl Ty.sz31 rfl hw13 ?_)
    intro h5 eh14
    replace H := H h5 eh14
    refine hl_nil ?_
    refine seqQ_n ?_
    refine hx_seq ?_
    refine hx_block ?_
    obtain ⟨I15, mu16, Ha17, Hr18⟩ := H
    refine hx_loopT (σ := Int) (fun s => [(0, (ptr t_b t_o)), (4, (ptr nb 0)), (6, (.int .i64 s)), (7, (ptr out 0))]) (fun s h' => I15 s h') (fun s h' => mu16 s h') r Ha17 (has_cons rfl (has_cons rfl (has_cons rfl (has_cons rfl has_nil)))) ?_
    rintro atv ρ h6 Hi19
    have H := Hr18 atv h6 Hi19
    refine hx_block ?_
    refine hx_seq ?_
    refine hx_region ?_
    refine hl_val rfl rfl (v := (ptr t_b t_o)) (hv_move rfl) ?_
    refine hl_val rfl rfl (v := (.int .i64 atv)) (hv_move rfl) ?_
    obtain ⟨r_1, hr20, H⟩ := H
    refine hl_val rfl rfl (v := (.int .i64 r_1)) (hv_call Ty.cb62 (vs := [(ptr t_b t_o), (.int .i64 atv)]) rfl hr20) ?_
    refine hl_val rfl rfl (v := (.int .i64 r_1)) (hv_assign rfl) ?_
    refine hl_nil ?_
    refine seqQ_n ?_
    refine hx_seq ?_
    obtain ⟨A21, Hx62, Hy63⟩ := H
    refine hx_cut (fun ρ h' => ∃ j : Bool, A21 j h' ∧ Has ρ [(0, (ptr t_b t_o)), (4, (ptr nb 0)), (6, (.int .i64 atv)), (7, (ptr out 0)), (8, (.int .i64 r_1)), (38, (.bool j))]) ?_ ?_
    · have H := Hx62; clear Hx62 Hy63
      refine hx_region ?_
      refine hl_val rfl rfl (v := (ptr t_b t_o)) (hv_move rfl) ?_
      refine hl_val rfl rfl (v := (ptr t_b t_o)) (hv_nil rfl) ?_
      refine hl_val rfl rfl (v := (ptr t_b t_o)) (hv_field Ty.fld87_0 (b := t_b) (o := t_o) rfl) ?_
      obtain ⟨x_1, x_n_1, x_c_1, hc30, H⟩ := H
      refine hl_val rfl rfl (v := (.slice x_1 x_n_1 x_c_1)) (hv_load Ty.agg47 rfl hc30) ?_
      refine hl_val rfl rfl (v := (.int .i64 r_1)) (hv_move rfl) ?_
      obtain ⟨x_1_b, x_1_o, hqe, hi22, hi23, Hq⟩ := H
      subst hqe
      have H := Hq; clear Hq
      refine hl_val rfl rfl (v := (ptr x_1_b (x_1_o + (Int.toNat r_1) * 4))) (hv_index Ty.el47 rfl rfl hi22 hi23) ?_
      obtain ⟨x_Hash_1, x_At_1, x_Version_1, x_Hits_1, hc26, hc27, hc28, hc29, H⟩ := H
      refine hl_val rfl rfl (v := (.agg #[(.int .u64 x_Hash_1), (.int .u64 x_At_1), (.int .u64 x_Version_1), (.int .u8 x_Hits_1)])) (hv_loads (vs := [(.int .u64 x_Hash_1), (.int .u64 x_At_1), (.int .u64 x_Version_1), (.int .u8 x_Hits_1)]) Ty.agg31 Ty.sz31 rfl (hcells_cons hc26 (hcells_cons hc27 (hcells_cons hc28 (hcells_cons hc29 hcells_nil))))) ?_
      refine hl_step rfl rfl (hs_call Ty.cb58 (vs := [(.agg #[(.int .u64 x_Hash_1), (.int .u64 x_At_1), (.int .u64 x_Version_1), (.int .u8 x_Hits_1)])]) rfl (HC.mono H ?_))
      rintro _ h8 ⟨r_2, rfl, H⟩
      refine hl_val rfl rfl (v := (.bool r_2)) (hv_move rfl) ?_
      rcases bool_or (r_2) with hg24 | hg24
      · replace H := H.1 hg24
        refine hl_no (wanted_n rfl rfl rfl hg24) rfl ?_
        refine hl_no (wanted_n rfl rfl rfl hg24) rfl ?_
        refine hl_no (wanted_n rfl rfl rfl hg24) rfl ?_
        refine hl_no (wanted_n rfl rfl rfl hg24) rfl ?_
        refine hl_val rfl rfl (v := (.bool true)) (hv_pick_t rfl hg24 rfl) ?_
        refine hl_nil ?_
        refine seqQ_n ?_
        exact ⟨_, H, (has_cons rfl (has_cons rfl (has_cons rfl (has_cons rfl (has_cons rfl (has_cons rfl has_nil))))))⟩
      · replace H := H.2 hg24
        refine hl_yes (wanted_y rfl rfl rfl hg24) rfl (HStep.of_val (v := (ptr t_b t_o)) (hv_move rfl) ?_)
        refine hl_yes (wanted_y rfl rfl rfl hg24) rfl (HStep.of_val (v := (.int .i64 r_1)) (hv_move rfl) ?_)
        obtain ⟨r_3, hr25, H⟩ := H
        refine hl_yes (wanted_y rfl rfl rfl hg24) rfl (HStep.of_val (v := (.int .i64 r_3)) (hv_call Ty.cb63 (vs := [(ptr t_b t_o), (.int .i64 r_1)]) rfl hr25) ?_)
        refine hl_yes (wanted_y rfl rfl rfl hg24) rfl (HStep.of_val (v := (.bool (r_3 == 0))) (hv_arith rfl rfl rfl) ?_)
        refine hl_val rfl rfl (v := (.bool (r_3 == 0))) (hv_pick_f rfl hg24 rfl) ?_
        refine hl_nil ?_
        refine seqQ_n ?_
        exact ⟨_, H, (has_cons rfl (has_cons rfl (has_cons rfl (has_cons rfl (has_cons rfl (has_cons rfl has_nil))))))⟩
    · rintro ρ h7 ⟨j, HA64, hH⟩
      have H := Hy63 j h7 HA64; clear Hx62 Hy63
      refine hx_has _ hH ?_
      refine hx_cond (b := j) rfl (fun hb61 => ?_) (fun hb61 => ?_)
      · replace H := H.1 hb61
        refine hx_exit ?_
        refine seqQ_exit ?_
        refine blockQ_past rfl ?_
        refine seqQ_exit ?_
        refine blockQ_here ?_
        refine seqQ_n ?_
        refine hx_seq ?_
        refine hx_region ?_
        refine hl_val rfl rfl (v := (ptr t_b t_o)) (hv_move rfl) ?_
        refine hl_val rfl rfl (v := (ptr t_b t_o)) (hv_nil rfl) ?_
        refine hl_val rfl rfl (v := (ptr t_b t_o)) (hv_field Ty.fld87_0 (b := t_b) (o := t_o) rfl) ?_
        obtain ⟨x_2, x_n_2, x_c_2, hc48, H⟩ := H
        refine hl_val rfl rfl (v := (.slice x_2 x_n_2 x_c_2)) (hv_load Ty.agg47 rfl hc48) ?_
        refine hl_val rfl rfl (v := (.int .i64 atv)) (hv_move rfl) ?_
        refine hl_val rfl rfl (v := (.agg #[(.int .u64 0), (.int .u64 0), (.int .u64 0), (.int .u8 0)])) (hv_build (vs := []) (cs := #[(.int .u64 0), (.int .u64 0), (.int .u64 0), (.int .u8 0)]) Ty.z31 Ty.pl31 rfl (by kernel_rfl)) ?_
        obtain ⟨x_2_b, x_2_o, hqe, hi31, hi32, Hq⟩ := H
        subst hqe
        have H := Hq; clear Hq
        refine hl_val rfl rfl (v := (ptr x_2_b (x_2_o + (Int.toNat atv) * 4))) (hv_index Ty.el47 rfl rfl hi31 hi32) ?_
        obtain ⟨hw33, H⟩ := H
        refine hl_step rfl rfl (hn_stores (vs := [(.int .u64 0), (.int .u64 0), (.int .u64 0), (.int .u8 0)]) rfl rfl Ty.sz31 rfl hw33 ?_)
        intro h9 eh34
        replace H := H h9 eh34
        refine hl_nil ?_
        refine seqQ_n ?_
        refine hx_seq ?_
        refine hx_region ?_
        refine hl_val rfl rfl (v := (ptr t_b t_o)) (hv_move rfl) ?_
        refine hl_val rfl rfl (v := (ptr t_b t_o)) (hv_nil rfl) ?_
        refine hl_val rfl rfl (v := (ptr t_b (t_o + 3))) (hv_field Ty.fld87_3 (b := t_b) (o := t_o) rfl) ?_
        obtain ⟨x_3, hc47, H⟩ := H
        refine hl_val rfl rfl (v := (.int .i64 x_3)) (hv_load Ty.agg3 rfl hc47) ?_
        refine hl_val rfl rfl (v := (.int .i64 (IntKind.i64.wrap (x_3 - 1)))) (hv_arith rfl rfl rfl) ?_
        refine hl_val rfl rfl (v := (ptr t_b t_o)) (hv_nil rfl) ?_
        refine hl_val rfl rfl (v := (ptr t_b (t_o + 3))) (hv_field Ty.fld87_3 (b := t_b) (o := t_o) rfl) ?_
        obtain ⟨hw35, H⟩ := H
        refine hl_step rfl rfl (hn_store (v := (.int .i64 (IntKind.i64.wrap (x_3 - 1)))) rfl rfl Ty.sz3 rfl hw35 ?_)
        intro h10 eh36
        replace H := H h10 eh36
        refine hl_nil ?_
        refine seqQ_n ?_
        refine hx_seq ?_
        refine hx_region ?_
        obtain ⟨x_Hash_2, x_At_2, x_Version_2, x_Hits_2, hc43, hc44, hc45, hc46, H⟩ := H
        refine hl_val rfl rfl (v := (.agg #[(.int .u64 x_Hash_2), (.int .u64 x_At_2), (.int .u64 x_Version_2), (.int .u8 x_Hits_2)])) (hv_loads (vs := [(.int .u64 x_Hash_2), (.int .u64 x_At_2), (.int .u64 x_Version_2), (.int .u8 x_Hits_2)]) Ty.agg31 Ty.sz31 rfl (hcells_cons hc43 (hcells_cons hc44 (hcells_cons hc45 (hcells_cons hc46 hcells_nil))))) ?_
        obtain ⟨hw37, H⟩ := H
        refine hl_step rfl rfl (hn_stores (vs := [(.int .u64 x_Hash_2), (.int .u64 x_At_2), (.int .u64 x_Version_2), (.int .u8 x_Hits_2)]) rfl rfl Ty.sz31 rfl hw37 ?_)
        intro h11 eh38
        replace H := H h11 eh38
        refine hl_val rfl rfl (v := (.bool true)) (hv_assign rfl) ?_
        refine hl_nil ?_
        refine seqQ_n ?_
        refine hx_ret ?_
        obtain ⟨res_Hash, res_At, res_Version, res_Hits, hc39, hc40, hc41, hc42, H⟩ := H
        exact endQ_ret _ (res_two Try.results46 (rv_cell (vs := [(.int .u64 res_Hash), (.int .u64 res_At), (.int .u64 res_Version), (.int .u8 res_Hits)]) Ty.agg31 Ty.sz31 rfl (hcells_cons hc39 (hcells_cons hc40 (hcells_cons hc41 (hcells_cons hc42 hcells_nil))))) (rv_tmp rfl)) H
      · replace H := H.2 hb61
        refine hx_skip ?_
        refine seqQ_n ?_
        refine hx_seq ?_
        refine hx_draw Ty.mixed [.pure, .pure, .pure, .read, .pure, .pure, .pure, .pure, .read, .pure, .pure, .read, .pure, .wild] [0, 1, 2, 3, 4, 5, 6, 7, 8, 9, 10, 11, 12, 13] (by kernel_rfl) ?_
        refine hp_pure (i := 0) rfl (wanted_0 rfl) rfl (ptr t_b t_o) (fun _ => hv_move rfl) ?_
        refine hp_pure (i := 1) rfl (wanted_0 rfl) rfl (ptr t_b t_o) (fun _ => hv_nil rfl) ?_
        refine hp_pure (i := 2) rfl (wanted_0 rfl) rfl (ptr t_b t_o) (fun _ => hv_field Ty.fld87_0 (b := t_b) (o := t_o) rfl) ?_
        obtain ⟨x_2, x_n_2, x_c_2, hc60, H⟩ := H
        refine hp_read (i := 3) rfl (wanted_0 rfl) rfl (.slice x_2 x_n_2 x_c_2) (fun _ he => hv_load Ty.agg47 rfl (he.cell hc60)) ?_
        refine hp_pure (i := 4) rfl (wanted_0 rfl) rfl (.int .i64 atv) (fun _ => hv_move rfl) ?_
        refine hp_pure (i := 5) rfl (wanted_0 rfl) rfl (ptr t_b t_o) (fun _ => hv_move rfl) ?_
        refine hp_pure (i := 6) rfl (wanted_0 rfl) rfl (ptr t_b t_o) (fun _ => hv_nil rfl) ?_
        refine hp_pure (i := 7) rfl (wanted_0 rfl) rfl (ptr t_b t_o) (fun _ => hv_field Ty.fld87_0 (b := t_b) (o := t_o) rfl) ?_
        obtain ⟨x_3, x_n_3, x_c_3, hc59, H⟩ := H
        refine hp_read (i := 8) rfl (wanted_0 rfl) rfl (.slice x_3 x_n_3 x_c_3) (fun _ he => hv_load Ty.agg47 rfl (he.cell hc59)) ?_
        refine hp_pure (i := 9) rfl (wanted_0 rfl) rfl (.int .i64 r_1) (fun _ => hv_move rfl) ?_
        obtain ⟨x_3_b, x_3_o, hqe, hi49, hi50, Hq⟩ := H
        subst hqe
        have H := Hq; clear Hq
        refine hp_pure (i := 10) rfl (wanted_0 rfl) rfl (ptr x_3_b (x_3_o + (Int.toNat r_1) * 4)) (fun _ => hv_index Ty.el47 rfl rfl hi49 hi50) ?_
        obtain ⟨x_Hash_2, x_At_2, x_Version_2, x_Hits_2, hc55, hc56, hc57, hc58, H⟩ := H
        refine hp_read (i := 11) rfl (wanted_0 rfl) rfl (.agg #[(.int .u64 x_Hash_2), (.int .u64 x_At_2), (.int .u64 x_Version_2), (.int .u8 x_Hits_2)]) (fun _ he => hv_loads (vs := [(.int .u64 x_Hash_2), (.int .u64 x_At_2), (.int .u64 x_Version_2), (.int .u8 x_Hits_2)]) Ty.agg31 Ty.sz31 rfl (hcells_cons (he.cell hc55) (hcells_cons (he.cell hc56) (hcells_cons (he.cell hc57) (hcells_cons (he.cell hc58) hcells_nil))))) ?_
        obtain ⟨x_2_b, x_2_o, hqe, hi51, hi52, Hq⟩ := H
        subst hqe
        have H := Hq; clear Hq
        refine hp_pure (i := 12) rfl (wanted_0 rfl) rfl (ptr x_2_b (x_2_o + (Int.toNat atv) * 4)) (fun _ => hv_index Ty.el47 rfl rfl hi51 hi52) ?_
        obtain ⟨hw53, H⟩ := H
        refine hp_wild (i := 13) rfl (wanted_0 rfl) rfl (hn_stores (vs := [(.int .u64 x_Hash_2), (.int .u64 x_At_2), (.int .u64 x_Version_2), (.int .u8 x_Hits_2)]) rfl rfl Ty.sz31 rfl hw53 ?_)
        intro h12 eh54
        replace H := H h12 eh54
        refine hp_nil ?_
        refine seqQ_n ?_
        refine hx_region ?_
        refine hl_val rfl rfl (v := (.int .i64 r_1)) (hv_move rfl) ?_
        refine hl_val rfl rfl (v := (.int .i64 r_1)) (hv_assign rfl) ?_
        refine hl_nil ?_
        refine blockQ_n ?_
        refine seqQ_n ?_
        exact ⟨r_1, H, (has_cons rfl (has_cons rfl (has_cons rfl (has_cons rfl has_nil))))⟩
theorem f52_sh (t_b : Nat) (t_o : Nat) (hash : Int) (h : Heap) (R : Value → Heap → Prop)
    (H : HC Try.prog 50 #[(ptr t_b t_o), (.int .u64 hash)] h (fun vv h1 => ∃ r : Int, vv = (.int .i64 r) ∧ (((decide (r < 0)) = true → R (.bool false) h1) ∧ ((decide (r < 0)) = false → (∃ A1 : Heap → Prop, (∃ x : Option Addr, ∃ x_n x_c : Nat, hcell h1 t_b t_o = some (.slice x x_n x_c) ∧ (∃ x_b x_o : Nat, x = some ⟨x_b, x_o, none⟩ ∧ (0 : Int) ≤ r ∧ r < (x_n : Int) ∧ (∃ x_1 : Int, hcell h1 x_b ((x_o + (Int.toNat r) * 4) + 3) = some (.int .u8 x_1) ∧ (((decide (x_1 < 255)) = true → (∃ x_2 : Option Addr, ∃ x_n_1 x_c_1 : Nat, hcell h1 t_b t_o = some (.slice x_2 x_n_1 x_c_1) ∧ (∃ x_2_b x_2_o : Nat, x_2 = some ⟨x_2_b, x_2_o, none⟩ ∧ (0 : Int) ≤ r ∧ r < (x_n_1 : Int) ∧ (∃ x_3 : Int, hcell h1 x_2_b ((x_2_o + (Int.toNat r) * 4) + 3) = some (.int .u8 x_3) ∧ ((0 : Int) ≤ r ∧ r < (x_n_1 : Int) ∧ (HW h1 x_2_b ((x_2_o + (Int.toNat r) * 4) + 3) ∧ ∀ h3, h3 = hset h1 x_2_b ((x_2_o + (Int.toNat r) * 4) + 3) (.int .u8 (IntKind.u8.wrap (x_3 + 1))) → (A1 h3))))))) ∧ ((decide (x_1 < 255)) = false → (A1 h1)))))) ∧ (∀ (h2 : Heap), A1 h2 → R (.bool true) h2)))))) :
    HC Try.prog 52 #[(ptr t_b t_o), (.int .u64 hash)] h R := by
  refine hc_of (args := [(ptr t_b t_o), (.int .u64 hash)]) Try.func52 rfl Try.ntmps52 (Nat.le_of_ble_eq_true rfl) ?_
  refine hx_seq ?_
  refine hx_region ?_
  refine hl_val rfl rfl (v := (.bool false)) (hv_assign rfl) ?_
  refine hl_nil ?_
  refine seqQ_n ?_
  refine hx_seq ?_
  refine hx_region ?_
  refine hl_val rfl rfl (v := (ptr t_b t_o)) (hv_move rfl) ?_
  refine hl_val rfl rfl (v := (.int .u64 hash)) (hv_move rfl) ?_
  refine hl_step rfl rfl (hs_call Ty.cb50 (vs := [(ptr t_b t_o), (.int .u64 hash)]) rfl (HC.mono H ?_))
  rintro _ h1 ⟨r, rfl, H⟩
  refine hl_val rfl rfl (v := (.int .i64 r)) (hv_assign rfl) ?_
  refine hl_nil ?_
  refine seqQ_n ?_
  refine hx_seq ?_
  refine hx_seq ?_
  refine hx_region ?_
  refine hl_val rfl rfl (v := (.int .i64 r)) (hv_move rfl) ?_
  refine hl_val rfl rfl (v := (.bool (decide (r < 0)))) (hv_arith rfl rfl rfl) ?_
  refine hl_nil ?_
  refine seqQ_n ?_
  refine hx_cond (b := decide (r < 0)) rfl (fun hb18 => ?_) (fun hb18 => ?_)
  · replace H := H.1 hb18
    refine hx_seq ?_
    refine hx_region ?_
    refine hl_val rfl rfl (v := (.bool false)) (hv_assign rfl) ?_
    refine hl_nil ?_
    refine seqQ_n ?_
    refine hx_ret ?_
    refine seqQ_ret ?_
    exact endQ_ret _ (res_one Try.results52 (rv_tmp rfl)) H
  · replace H := H.2 hb18
    refine hx_skip ?_
    refine seqQ_n ?_
    obtain ⟨A1, Hx15, Hy16⟩ := H
    refine hx_cut (fun ρ h' => A1 h' ∧ Has ρ []) ?_ ?_
    · have H := Hx15; clear Hx15 Hy16
      refine hx_seq ?_
      refine hx_region ?_
      refine hl_val rfl rfl (v := (ptr t_b t_o)) (hv_move rfl) ?_
      refine hl_val rfl rfl (v := (ptr t_b t_o)) (hv_nil rfl) ?_
      refine hl_val rfl rfl (v := (ptr t_b t_o)) (hv_field Ty.fld87_0 (b := t_b) (o := t_o) rfl) ?_
      obtain ⟨x, x_n, x_c, hc14, H⟩ := H
      refine hl_val rfl rfl (v := (.slice x x_n x_c)) (hv_load Ty.agg47 rfl hc14) ?_
      refine hl_val rfl rfl (v := (.int .i64 r)) (hv_move rfl) ?_
      obtain ⟨x_b, x_o, hqe, hi2, hi3, Hq⟩ := H
      subst hqe
      have H := Hq; clear Hq
      refine hl_val rfl rfl (v := (ptr x_b (x_o + (Int.toNat r) * 4))) (hv_index Ty.el47 rfl rfl hi2 hi3) ?_
      refine hl_val rfl rfl (v := (ptr x_b ((x_o + (Int.toNat r) * 4) + 3))) (hv_field Ty.fld31_3 (b := x_b) (o := x_o + (Int.toNat r) * 4) rfl) ?_
      obtain ⟨x_1, hc13, H⟩ := H
      refine hl_val rfl rfl (v := (.int .u8 x_1)) (hv_load Ty.agg5 rfl hc13) ?_
      refine hl_val rfl rfl (v := (.bool (decide (x_1 < 255)))) (hv_arith rfl rfl rfl) ?_
      refine hl_nil ?_
      refine seqQ_n ?_
      refine hx_cond (b := decide (x_1 < 255)) rfl (fun hb12 => ?_) (fun hb12 => ?_)
      · replace H := H.1 hb12
        refine hx_region ?_
        refine hl_val rfl rfl (v := (ptr t_b t_o)) (hv_move rfl) ?_
        refine hl_val rfl rfl (v := (ptr t_b t_o)) (hv_nil rfl) ?_
        refine hl_val rfl rfl (v := (ptr t_b t_o)) (hv_field Ty.fld87_0 (b := t_b) (o := t_o) rfl) ?_
        obtain ⟨x_2, x_n_1, x_c_1, hc11, H⟩ := H
        refine hl_val rfl rfl (v := (.slice x_2 x_n_1 x_c_1)) (hv_load Ty.agg47 rfl hc11) ?_
        refine hl_val rfl rfl (v := (.int .i64 r)) (hv_move rfl) ?_
        obtain ⟨x_2_b, x_2_o, hqe, hi4, hi5, Hq⟩ := H
        subst hqe
        have H := Hq; clear Hq
        refine hl_val rfl rfl (v := (ptr x_2_b (x_2_o + (Int.toNat r) * 4))) (hv_index Ty.el47 rfl rfl hi4 hi5) ?_
        refine hl_val rfl rfl (v := (ptr x_2_b ((x_2_o + (Int.toNat r) * 4) + 3))) (hv_field Ty.fld31_3 (b := x_2_b) (o := x_2_o + (Int.toNat r) * 4) rfl) ?_
        obtain ⟨x_3, hc10, H⟩ := H
        refine hl_val rfl rfl (v := (.int .u8 x_3)) (hv_load Ty.agg5 rfl hc10) ?_
        refine hl_val rfl rfl (v := (.int .u8 (IntKind.u8.wrap (x_3 + 1)))) (hv_arith rfl rfl rfl) ?_
        obtain ⟨hi6, hi7, H⟩ := H
        refine hl_val rfl rfl (v := (ptr x_2_b (x_2_o + (Int.toNat r) * 4))) (hv_index Ty.el47 rfl rfl hi6 hi7) ?_
        refine hl_val rfl rfl (v := (ptr x_2_b ((x_2_o + (Int.toNat r) * 4) + 3))) (hv_field Ty.fld31_3 (b := x_2_b) (o := x_2_o + (Int.toNat r) * 4) rfl) ?_
        obtain ⟨hw8, H⟩ := H
        refine hl_step rfl rfl (hn_store (v := (.int .u8 (IntKind.u8.wrap (x_3 + 1)))) rfl rfl Ty.sz5 rfl hw8 ?_)
        intro h3 eh9
        replace H := H h3 eh9
        refine hl_nil ?_
        refine seqQ_n ?_
        exact ⟨H, has_nil⟩
      · replace H := H.2 hb12
        refine hx_skip ?_
        refine seqQ_n ?_
        exact ⟨H, has_nil⟩
    · rintro ρ h2 ⟨HA17, hH⟩
      have H := Hy16 h2 HA17; clear Hx15 Hy16
      refine hx_has _ hH ?_
      refine hx_seq ?_
      refine hx_region ?_
      refine hl_val rfl rfl (v := (.bool true)) (hv_assign rfl) ?_
      refine hl_nil ?_
      refine seqQ_n ?_
      refine hx_ret ?_
      exact endQ_ret _ (res_one Try.results52 (rv_tmp rfl)) H
theorem f48_sh (t_b : Nat) (t_o : Nat) (h : Heap) (R : Value → Heap → Prop)
    (H : (∃ r : Bool, HC Try.prog 64 #[(ptr t_b t_o)] h (fun vv h' => vv = (.bool r) ∧ h' = h) ∧ (((!r) = true → R (.int .i64 0) h) ∧ ((!r) = false → (∃ x : Int, hcell h t_b (t_o + 3) = some (.int .i64 x) ∧ R (.int .i64 x) h))))) :
    HC Try.prog 48 #[(ptr t_b t_o)] h R := by
  refine hc_of (args := [(ptr t_b t_o)]) Try.func48 rfl Try.ntmps48 (Nat.le_of_ble_eq_true rfl) ?_
  refine hx_seq ?_
  refine hx_region ?_
  refine hl_val rfl rfl (v := (.int .i64 0)) (hv_assign rfl) ?_
  refine hl_nil ?_
  refine seqQ_n ?_
  refine hx_seq ?_
  refine hx_seq ?_
  refine hx_region ?_
  refine hl_val rfl rfl (v := (ptr t_b t_o)) (hv_move rfl) ?_
  obtain ⟨r, hr1, H⟩ := H
  refine hl_val rfl rfl (v := (.bool r)) (hv_call Ty.cb64 (vs := [(ptr t_b t_o)]) rfl hr1) ?_
  refine hl_val rfl rfl (v := (.bool (!r))) (hv_not (b := r) rfl) ?_
  refine hl_nil ?_
  refine seqQ_n ?_
  refine hx_cond (b := !r) rfl (fun hb3 => ?_) (fun hb3 => ?_)
  · replace H := H.1 hb3
    refine hx_seq ?_
    refine hx_region ?_
    refine hl_val rfl rfl (v := (.int .i64 0)) (hv_assign rfl) ?_
    refine hl_nil ?_
    refine seqQ_n ?_
    refine hx_ret ?_
    refine seqQ_ret ?_
    exact endQ_ret _ (res_one Try.results48 (rv_tmp rfl)) H
  · replace H := H.2 hb3
    refine hx_skip ?_
    refine seqQ_n ?_
    refine hx_seq ?_
    refine hx_region ?_
    refine hl_val rfl rfl (v := (ptr t_b t_o)) (hv_move rfl) ?_
    refine hl_val rfl rfl (v := (ptr t_b t_o)) (hv_nil rfl) ?_
    refine hl_val rfl rfl (v := (ptr t_b (t_o + 3))) (hv_field Ty.fld87_3 (b := t_b) (o := t_o) rfl) ?_
    obtain ⟨x, hc2, H⟩ := H
    refine hl_val rfl rfl (v := (.int .i64 x)) (hv_load Ty.agg3 rfl hc2) ?_
    refine hl_val rfl rfl (v := (.int .i64 x)) (hv_assign rfl) ?_
    refine hl_nil ?_
    refine seqQ_n ?_
    refine hx_ret ?_
    exact endQ_ret _ (res_one Try.results48 (rv_tmp rfl)) H
theorem f49_sh (bits : Int) (most : Int) (h : Heap) (R : Value → Heap → Prop)
    (H : (∃ j : Bool, (((decide (bits < 2)) = true → (j = true)) ∧ ((decide (bits < 2)) = false → (((decide (most < bits)) = true → (j = true)) ∧ ((decide (most < bits)) = false → (j = (decide (most > 16))))))) ∧ ((j = true → R (.tuple #[(.pointer none), (.int .i64 110)]) h) ∧ (j = false → ((0 : Int) ≤ bits ∧ ((0 : Int) ≤ IntKind.i64.wrap (1 * 2 ^ min (Int.toNat bits) 64) ∧ 32 * (IntKind.i64.wrap (1 * 2 ^ min (Int.toNat bits) 64)) ≤ 140737488355328 ∧ IntKind.i64.wrap (1 * 2 ^ min (Int.toNat bits) 64) ≤ 140737488355328 ∧ ∀ nb h1, nb = Array.size h → h1 = Array.push h (.cells (zcells [(.int .u64 0), (.int .u64 0), (.int .u64 0), (.int .u8 0)] (Int.toNat (IntKind.i64.wrap (1 * 2 ^ min (Int.toNat bits) 64)))).toArray 31) → (∀ nb_1 h2, nb_1 = Array.size h1 → h2 = Array.push h1 (.cells #[(.slice (some ⟨nb, 0, none⟩) (Int.toNat (IntKind.i64.wrap (1 * 2 ^ min (Int.toNat bits) 64))) (Int.toNat (IntKind.i64.wrap (1 * 2 ^ min (Int.toNat bits) 64)))), (.int .i64 bits), (.int .i64 most), (.int .i64 0)] 87) → R (.tuple #[(ptr nb_1 0), (.int .i64 0)]) h2))))))) :
    HC Try.prog 49 #[(.int .i64 bits), (.int .i64 most)] h R := by
  refine hc_of (args := [(.int .i64 bits), (.int .i64 most)]) Try.func49 rfl Try.ntmps49 (Nat.le_of_ble_eq_true rfl) ?_
  refine hx_seq ?_
  refine hx_region ?_
  refine hl_val rfl rfl (v := (.pointer none)) (hv_assign rfl) ?_
  refine hl_val rfl rfl (v := (.int .i64 0)) (hv_assign rfl) ?_
  refine hl_nil ?_
  refine seqQ_n ?_
  refine hx_seq ?_
  obtain ⟨j, Hx12, Hy13⟩ := H
  refine hx_cut (fun ρ h' => h = h' ∧ Has ρ [(0, (.int .i64 bits)), (1, (.int .i64 most)), (16, (.bool j))]) ?_ ?_
  · have H := Hx12; clear Hx12 Hy13
    refine hx_region ?_
    refine hl_val rfl rfl (v := (.int .i64 bits)) (hv_move rfl) ?_
    refine hl_val rfl rfl (v := (.bool (decide (bits < 2)))) (hv_arith rfl rfl rfl) ?_
    refine hl_val rfl rfl (v := (.bool (decide (bits < 2)))) (hv_move rfl) ?_
    rcases bool_or (decide (bits < 2)) with hg1 | hg1
    · replace H := H.1 hg1
      refine hl_no (wanted_n rfl rfl rfl hg1) rfl ?_
      refine hl_no (wanted_n rfl rfl rfl hg1) rfl ?_
      refine hl_no (wanted_n rfl rfl rfl hg1) rfl ?_
      refine hl_val rfl rfl (v := (.bool true)) (hv_pick_t rfl hg1 rfl) ?_
      refine hl_val rfl rfl (v := (.bool true)) (hv_move rfl) ?_
      refine hl_no (wanted_n rfl rfl (c := true) rfl rfl) rfl ?_
      refine hl_no (wanted_n rfl rfl (c := true) rfl rfl) rfl ?_
      refine hl_val rfl rfl (v := (.bool true)) (hv_pick (t := true) rfl rfl) ?_
      refine hl_nil ?_
      refine seqQ_n ?_
      obtain rfl := H
      exact ⟨rfl, (has_cons rfl (has_cons rfl (has_cons rfl has_nil)))⟩
    · replace H := H.2 hg1
      refine hl_yes (wanted_y rfl rfl rfl hg1) rfl (HStep.of_val (v := (.int .i64 most)) (hv_move rfl) ?_)
      refine hl_yes (wanted_y rfl rfl rfl hg1) rfl (HStep.of_val (v := (.int .i64 bits)) (hv_move rfl) ?_)
      refine hl_yes (wanted_y rfl rfl rfl hg1) rfl (HStep.of_val (v := (.bool (decide (most < bits)))) (hv_arith rfl rfl rfl) ?_)
      refine hl_val rfl rfl (v := (.bool (decide (most < bits)))) (hv_pick_f rfl hg1 rfl) ?_
      refine hl_val rfl rfl (v := (.bool (decide (most < bits)))) (hv_move rfl) ?_
      rcases bool_or (decide (most < bits)) with hg2 | hg2
      · replace H := H.1 hg2
        refine hl_no (wanted_n rfl rfl rfl hg2) rfl ?_
        refine hl_no (wanted_n rfl rfl rfl hg2) rfl ?_
        refine hl_val rfl rfl (v := (.bool true)) (hv_pick_t rfl hg2 rfl) ?_
        refine hl_nil ?_
        refine seqQ_n ?_
        obtain rfl := H
        exact ⟨rfl, (has_cons rfl (has_cons rfl (has_cons rfl has_nil)))⟩
      · replace H := H.2 hg2
        refine hl_yes (wanted_y rfl rfl rfl hg2) rfl (HStep.of_val (v := (.int .i64 most)) (hv_move rfl) ?_)
        refine hl_yes (wanted_y rfl rfl rfl hg2) rfl (HStep.of_val (v := (.bool (decide (most > 16)))) (hv_arith rfl rfl rfl) ?_)
        refine hl_val rfl rfl (v := (.bool (decide (most > 16)))) (hv_pick_f rfl hg2 rfl) ?_
        refine hl_nil ?_
        refine seqQ_n ?_
        obtain rfl := H
        exact ⟨rfl, (has_cons rfl (has_cons rfl (has_cons rfl has_nil)))⟩
  · have H := Hy13; clear Hx12 Hy13
    rintro ρ _ ⟨rfl, hH⟩
    refine hx_has _ hH ?_
    refine hx_cond (b := j) rfl (fun hb11 => ?_) (fun hb11 => ?_)
    · replace H := H.1 hb11
      refine hx_seq ?_
      refine hx_region ?_
      refine hl_val rfl rfl (v := (.pointer none)) (hv_assign rfl) ?_
      refine hl_val rfl rfl (v := (.int .i64 110)) (hv_assign rfl) ?_
      refine hl_nil ?_
      refine seqQ_n ?_
      refine hx_ret ?_
      refine seqQ_ret ?_
      exact endQ_ret _ (res_two Try.results49 (rv_tmp rfl) (rv_tmp rfl)) H
    · replace H := H.2 hb11
      refine hx_skip ?_
      refine seqQ_n ?_
      refine hx_seq ?_
      refine hx_region ?_
      refine hl_val rfl rfl (v := (.int .i64 bits)) (hv_move rfl) ?_
      obtain ⟨hz10, H⟩ := H
      refine hl_val rfl rfl (v := (.int .i64 (IntKind.i64.wrap (1 * 2 ^ min (Int.toNat bits) 64)))) (hv_shift rfl rfl hz10 rfl) ?_
      obtain ⟨hm5, hm6, hm7, H⟩ := H
      refine hl_step rfl rfl (hn_make (z := (.agg #[(.int .u64 0), (.int .u64 0), (.int .u64 0), (.int .u8 0)])) (zs := [(.int .u64 0), (.int .u64 0), (.int .u64 0), (.int .u8 0)]) (n := IntKind.i64.wrap (1 * 2 ^ min (Int.toNat bits) 64)) Ty.u47 Ty.sz31 Ty.by31 Ty.z31 rfl rfl hm5 hm6 hm7 rfl rfl ?_)
      intro nb h1 eb3 eh4
      replace H := H nb h1 eb3 eh4
      refine hl_val rfl rfl (v := (.int .i64 bits)) (hv_move rfl) ?_
      refine hl_val rfl rfl (v := (.int .i64 most)) (hv_move rfl) ?_
      refine hl_val rfl rfl (v := (.agg #[(.slice (some ⟨nb, 0, none⟩) (Int.toNat (IntKind.i64.wrap (1 * 2 ^ min (Int.toNat bits) 64))) (Int.toNat (IntKind.i64.wrap (1 * 2 ^ min (Int.toNat bits) 64)))), (.int .i64 bits), (.int .i64 most), (.int .i64 0)])) (hv_build (vs := [(0, (.slice (some ⟨nb, 0, none⟩) (Int.toNat (IntKind.i64.wrap (1 * 2 ^ min (Int.toNat bits) 64))) (Int.toNat (IntKind.i64.wrap (1 * 2 ^ min (Int.toNat bits) 64))))), (1, (.int .i64 bits)), (2, (.int .i64 most))]) (cs := #[(.slice (some ⟨nb, 0, none⟩) (Int.toNat (IntKind.i64.wrap (1 * 2 ^ min (Int.toNat bits) 64))) (Int.toNat (IntKind.i64.wrap (1 * 2 ^ min (Int.toNat bits) 64)))), (.int .i64 bits), (.int .i64 most), (.int .i64 0)]) Ty.z87 Ty.pl87 rfl (by kernel_rfl)) ?_
      refine hl_step rfl rfl (hn_box (v := (.agg #[(.slice (some ⟨nb, 0, none⟩) (Int.toNat (IntKind.i64.wrap (1 * 2 ^ min (Int.toNat bits) 64))) (Int.toNat (IntKind.i64.wrap (1 * 2 ^ min (Int.toNat bits) 64)))), (.int .i64 bits), (.int .i64 most), (.int .i64 0)])) rfl ?_)
      intro nb_1 h2 eb8 eh9
      replace H := H nb_1 h2 eb8 eh9
      refine hl_val rfl rfl (v := (ptr nb_1 0)) (hv_assign rfl) ?_
      refine hl_val rfl rfl (v := (.int .i64 0)) (hv_assign rfl) ?_
      refine hl_nil ?_
      refine seqQ_n ?_
      refine hx_ret ?_
      exact endQ_ret _ (res_two Try.results49 (rv_tmp rfl) (rv_tmp rfl)) H
end Go.Proofs.Ytkecmljalcfhoaa
namespace Go.Proofs.Ytkecmljalcfhoaa
open Go RH
structure TabOK (h : Heap) (p q B m : Nat) (s : RH.Sl) : Prop where
  at_ : ∃ cap cs, TabAt h p q B m (cntO s (2 ^ B)) cap cs s
  g : RGood (2 ^ B) B s
  room : 8 * cntO s (2 ^ B) ≤ 7 * 2 ^ B
def EntsAt (h : Heap) (b n : Nat) (s : RH.Sl) : Prop := ∃ c, h[b]? = some (.cells c 31 (0, 0)) ∧ n * 4 ≤ c.size ∧ ∀ i, i < n → EntAt c i (s i)
theorem EntsAt.ext {h h' : Heap} (he : Ext h h') {b n : Nat} {s : RH.Sl} : EntsAt h b n s → EntsAt h' b n s := fun ⟨c, h1, h2⟩ => ⟨c, he.row h1, h2⟩
theorem EntsAt.lt {h : Heap} {b n : Nat} {s : RH.Sl} : EntsAt h b n s → b < h.size := fun ⟨_, h1, _⟩ => row_lt h1
theorem EntsAt.e0 {h : Heap} {b n : Nat} {s : RH.Sl} (x : EntsAt h b n s) {i : Int} (h0 : 0 ≤ i) (h1 : i < (n : Int)) : hcell h b (0 + i.toNat * 4) = some (.int .u64 (s i.toNat).h) := by
  obtain ⟨c, r, _, e⟩ := x; rw [hcell_row r, Nat.zero_add]; exact (e i.toNat (by omega)).c0
theorem EntsAt.e1 {h : Heap} {b n : Nat} {s : RH.Sl} (x : EntsAt h b n s) {i : Int} (h0 : 0 ≤ i) (h1 : i < (n : Int)) : hcell h b (0 + i.toNat * 4 + 1) = some (.int .u64 (s i.toNat).a) := by
  obtain ⟨c, r, _, e⟩ := x; rw [hcell_row r, Nat.zero_add]; exact (e i.toNat (by omega)).c1
theorem EntsAt.e2 {h : Heap} {b n : Nat} {s : RH.Sl} (x : EntsAt h b n s) {i : Int} (h0 : 0 ≤ i) (h1 : i < (n : Int)) : hcell h b (0 + i.toNat * 4 + 2) = some (.int .u64 (s i.toNat).v) := by
  obtain ⟨c, r, _, e⟩ := x; rw [hcell_row r, Nat.zero_add]; exact (e i.toNat (by omega)).c2
theorem EntsAt.e3 {h : Heap} {b n : Nat} {s : RH.Sl} (x : EntsAt h b n s) {i : Int} (h0 : 0 ≤ i) (h1 : i < (n : Int)) : hcell h b (0 + i.toNat * 4 + 3) = some (.int .u8 (s i.toNat).k) := by
  obtain ⟨c, r, _, e⟩ := x; rw [hcell_row r, Nat.zero_add]; exact (e i.toNat (by omega)).c3
section
variable {h : Heap} {p q B m : Nat} {s : RH.Sl}
theorem TabOK.hole (t : TabOK h p q B m s) : ∃ z, z < 2 ^ B ∧ ¬ occd s z := by
  obtain ⟨cap, cs, ta⟩ := t.at_
  have h4 := pow4 ta.b2
  have := t.room
  exact cnt_hole _ (by omega)
theorem TabOK.ext (t : TabOK h p q B m s) {h' : Heap} (he : Ext h h') : TabOK h' p q B m s :=
  ⟨let ⟨cap, cs, ta⟩ := t.at_; ⟨cap, cs, ta.ext he⟩, t.g, t.room⟩
theorem TabOK.fr (t : TabOK h p q B m s) {h' : Heap} {S : Nat → Prop} (he : Fr S h h') (hp : ¬ S p) (hq : ¬ S q) : TabOK h' p q B m s :=
  ⟨let ⟨cap, cs, ta⟩ := t.at_; ⟨cap, cs, ta.fr he hp hq⟩, t.g, t.room⟩
theorem TabOK.lt (t : TabOK h p q B m s) : p < h.size ∧ q < h.size := let ⟨_, _, ta⟩ := t.at_; ta.lt
theorem TabOK.bnd (t : TabOK h p q B m s) : 2 ≤ B ∧ B ≤ m ∧ m ≤ 16 := let ⟨_, _, ta⟩ := t.at_; ⟨ta.b2, ta.bm, ta.m16⟩
theorem TabOK.le (t : TabOK h p q B m s) : 2 ^ B ≤ 65536 := let ⟨_, _, ta⟩ := t.at_; ta.le
theorem TabAt.entsAt {n cap : Nat} {cs : Array Value} (t : TabAt h p q B m n cap cs s) : EntsAt h q (2 ^ B) s := ⟨cs, t.row, t.len, t.ents⟩
theorem len_c (t : TabOK h p q B m s) : HC Try.prog 48 #[ptr p 0] h fun v h' => h' = h ∧ v = .int .i64 (cntO s (2 ^ B)) := by
  obtain ⟨cap, cs, ta⟩ := t.at_
  exact f48_sh _ _ _ _ ⟨true, made_c ta, fun h => by simp at h, fun _ => ⟨_, ta.c3, rfl, rfl⟩⟩
theorem zents {n : Nat} : ∀ i, i < n → EntAt (zcells [.int .u64 0, .int .u64 0, .int .u64 0, .int .u8 0] n).toArray i z0 := by
  intro i hi
  have key : ∀ k, k < 4 → (zcells [Value.int .u64 0, .int .u64 0, .int .u64 0, .int .u8 0] n).toArray[i * 4 + k]? = [Value.int .u64 0, .int .u64 0, .int .u64 0, .int .u8 0][k]? := by
    intro k hk
    rw [List.getElem?_toArray, zcells_getElem _ _ _ (by simp only [List.length_cons, List.length_nil]; omega)]
    simp only [List.length_cons, List.length_nil]
    have : (i * 4 + k) % (0 + 1 + 1 + 1 + 1) = k := by omega
    rw [this]
  exact ⟨key 0 (by omega), key 1 (by omega), key 2 (by omega), key 3 (by omega)⟩
theorem pow2_wrap {b : Nat} (hb : b ≤ 17) : IntKind.i64.wrap (1 * 2 ^ min (Int.toNat (b : Int)) 64) = ((2 ^ b : Nat) : Int) := by
  have h1 : 2 ^ b ≤ 2 ^ 17 := Nat.pow_le_pow_right (by omega) hb
  have h2 : (2 : Nat) ^ 17 = 131072 := rfl
  have e1 : min (Int.toNat (b : Int)) 64 = b := by omega
  have e2 : ((2 : Int) ^ b) = ((2 ^ b : Nat) : Int) := by norm_cast
  rw [e1, e2, Int.one_mul]
  generalize 2 ^ b = N at *
  rw [w64 (by omega) (by omega)]
theorem new_c {bits most : Nat} (h1 : 2 ≤ bits) (h2 : bits ≤ most) (h3 : most ≤ 16) (h : Heap) :
    HC Try.prog 49 #[.int .i64 bits, .int .i64 most] h fun v h' => Ext h h' ∧ ∃ p q, v = .tuple #[ptr p 0, .int .i64 0] ∧ h.size ≤ p ∧ h.size ≤ q ∧ TabOK h' p q bits most (fun _ => z0) := by
  have hle : 2 ^ bits ≤ 65536 := pow_le (by omega)
  refine f49_sh _ _ _ _ ⟨false, ⟨fun h => ?_, fun _ => ⟨fun h => ?_, fun _ => ?_⟩⟩, fun h => by simp at h, fun _ => ⟨by omega, ?_⟩⟩
  · simp only [decide_eq_true_eq] at h; omega
  · simp only [decide_eq_true_eq] at h; omega
  · exact (decide_eq_false (by omega)).symm
  rw [pow2_wrap (by omega)]
  have hp0 : (0 : Int) ≤ ((2 ^ bits : Nat) : Int) := Int.natCast_nonneg _
  refine ⟨hp0, by omega, by omega, ?_⟩
  rintro nb ha rfl rfl nb' hb rfl rfl
  rw [Int.toNat_natCast]
  refine ⟨(Ext.push _ _).trans (Ext.push _ _), _, _, rfl, by simp, Nat.le_refl _, ⟨2 ^ bits, (zcells [.int .u64 0, .int .u64 0, .int .u64 0, .int .u8 0] (2 ^ bits)).toArray, ?_⟩, good_zero, by rw [cnt_zero]; omega⟩
  rw [cnt_zero]
  exact ⟨push_new rfl, (Ext.push _ _).row (push_new rfl), by rw [List.size_toArray, zcells_length]; simp, Nat.le_refl _, zents, h1, h2, h3⟩
theorem new_no {bits most : Int} (hn : bits < 2 ∨ most < bits ∨ 16 < most) (h : Heap) : HC Try.prog 49 #[.int .i64 bits, .int .i64 most] h fun v h' => h' = h ∧ v = .tuple #[.pointer none, .int .i64 110] := by
  refine f49_sh _ _ _ _ ⟨true, ⟨fun _ => rfl, fun ha => ⟨fun _ => rfl, fun hb => ?_⟩⟩, fun _ => ⟨rfl, rfl⟩, fun h => by simp at h⟩
  simp only [decide_eq_false_iff_not] at ha hb
  exact (decide_eq_true (by omega)).symm
theorem get_c (t : TabOK h p q B m s) {x : Nat} (hx : x < 18446744073709551616) : HC Try.prog 28 #[ptr p 0, .int .u64 x] h fun v h' => Ext h h' ∧
    ((∃ e, InT (2 ^ B) s e ∧ e.h = x ∧ v = .tuple #[.agg #[.int .u64 e.h, .int .u64 e.a, .int .u64 e.v, .int .u8 e.k], .bool true]) ∨
      ((∀ e, InT (2 ^ B) s e → e.h ≠ x) ∧ v = .tuple #[.agg #[.int .u64 0, .int .u64 0, .int .u64 0, .int .u8 0], .bool false])) := by
  obtain ⟨z, hz, hh⟩ := t.hole
  refine f28_sh _ _ _ _ _ ?_
  rintro nb h1 rfl rfl
  have x1 := Box.new (h := h) z0 rfl
  have t1 := t.ext (Ext.push h (.cells #[.int .u64 z0.h, .int .u64 z0.a, .int .u64 z0.v, .int .u8 z0.k] 31))
  have e1 := Ext.push h (.cells #[.int .u64 z0.h, .int .u64 z0.a, .int .u64 z0.v, .int .u8 z0.k] 31)
  obtain ⟨cap, cs, ta⟩ := t1.at_
  refine (find_c ta t1.g hz hh hx).mono ?_
  rintro _ h2 ⟨he, hres⟩
  have x2 := x1.ext he
  have ee : ∀ vs, Ext h (hsets h2 h.size 0 vs) := fun vs => (e1.trans he |>.fr (fun b => b = h.size)).trans (fr_hsets (fun b => b = h.size) (fun _ => rfl)) (fun _ _ h => h) |>.ext (fun i hi h' => by omega)
  rcases hres with ⟨i, hi, ho, hix, rfl⟩ | ⟨hno, rfl⟩
  · refine ⟨_, rfl, fun h => by simp only [decide_eq_true_eq] at h; omega, fun _ => ?_⟩
    have t2 := ta.ext he
    refine ⟨_, _, _, t2.c0, _, _, rfl, by omega, by omega, _, _, _, _, t2.e0 (by omega) (by omega), t2.e1 (by omega) (by omega), t2.e2 (by omega) (by omega), t2.e3 (by omega) (by omega), x2.hw, ?_⟩
    intro h4 e4
    have x4 := x2.put (s i)
    rw [show h4 = _ from e4]
    refine ⟨_, _, _, _, x4.c0, x4.c1, x4.c2, x4.c3, ee _, .inl ⟨s i, ⟨i, hi, rfl, ho⟩, hix, rfl⟩⟩
  · refine ⟨_, rfl, fun _ => ⟨x2.hw, ?_⟩, fun h => by simp at h⟩
    intro h3 e3
    have x3 := x2.put z0
    rw [show h3 = _ from e3]
    refine ⟨_, _, _, _, x3.c0, x3.c1, x3.c2, x3.c3, ee _, .inr ⟨?_, rfl⟩⟩
    rintro e ⟨i, hi, hs, hea⟩
    subst hs
    exact hno i hi hea
theorem hit_c (t : TabOK h p q B m s) {x : Nat} (hx : x < 18446744073709551616) : HC Try.prog 52 #[ptr p 0, .int .u64 x] h fun v h' => Fr (fun b => b = q) h h' ∧
    ((∃ e s', InT (2 ^ B) s e ∧ e.h = x ∧ v = .bool true ∧ TabOK h' p q B m s' ∧ (∀ y, InT (2 ^ B) s' y ↔ (InT (2 ^ B) s y ∧ y ≠ e) ∨ y = ⟨e.h, e.a, e.v, if e.k < 255 then e.k + 1 else e.k⟩)) ∨
      ((∀ e, InT (2 ^ B) s e → e.h ≠ x) ∧ v = .bool false ∧ TabOK h' p q B m s)) := by
  obtain ⟨z, hz, hh⟩ := t.hole
  obtain ⟨cap, cs, ta⟩ := t.at_
  refine f52_sh _ _ _ _ _ ((find_c ta t.g hz hh hx).mono ?_)
  rintro _ h1 ⟨he, ⟨i, hi, ho, hix, rfl⟩ | ⟨hno, rfl⟩⟩
  · refine ⟨_, rfl, fun h => by simp only [decide_eq_true_eq] at h; omega, fun _ => ?_⟩
    have t1 := ta.ext he
    have hw := t.g.wf i hi
    refine ⟨fun h' => Fr (fun b => b = q) h h' ∧ ∃ s', TabOK h' p q B m s' ∧ (∀ y, InT (2 ^ B) s' y ↔ (InT (2 ^ B) s y ∧ y ≠ s i) ∨ y = ⟨(s i).h, (s i).a, (s i).v, if (s i).k < 255 then (s i).k + 1 else (s i).k⟩),
      ⟨_, _, _, t1.c0, _, _, rfl, by omega, by omega, _, t1.e3 (by omega) (by omega), fun hlt => ?_, fun hge => ?_⟩, ?_⟩
    · have hk : (s i).k < 255 := by have := of_decide_eq_true hlt; simp only [Int.toNat_natCast] at this; omega
      refine ⟨_, _, _, t1.c0, _, _, rfl, by omega, by omega, _, t1.e3 (by omega) (by omega), by omega, by omega, HW_row t1.row (by have := t1.len; simp only [Int.toNat_natCast]; omega), ?_⟩
      intro h3 e3
      rw [show h3 = _ from e3]
      simp only [Int.toNat_natCast]
      rw [wu8 (by omega) (by omega)]
      have ec : (((s i).k : Int) + 1) = (((s i).k + 1 : Nat) : Int) := by omega
      rw [ec]
      let e' : Ent := ⟨(s i).h, (s i).a, (s i).v, (s i).k + 1⟩
      have hw' : e'.wf := ⟨hw.1, hw.2.1, hw.2.2.1, by show (s i).k + 1 < 256; omega⟩
      refine ⟨(he.fr _).trans (fr_hset (fun b => b = q) (fun _ => rfl)) (fun _ _ h => h), stt s i e', ⟨⟨cap, cs.setIfInBounds (0 + i * 4 + 3) (.int .u8 (((s i).k + 1 : Nat) : Int)), ?_⟩, good_upd t.g hi rfl hw' ho ho, by rw [cnt_upd (e := e') ho ho]; exact t.room⟩, ?_⟩
      · rw [cnt_upd (e := e') ho ho]
        refine ⟨by rw [hset_ne t1.ne]; exact t1.tab, hset_row t1.row, by simpa using t1.len, t1.cap, ?_, t1.b2, t1.bm, t1.m16⟩
        intro j hj
        have hj0 := t1.ents j hj
        have hlen := t1.len
        by_cases hji : j = i
        · subst hji
          rw [st_same]
          refine ⟨?_, ?_, ?_, ?_⟩
          · rw [Array.getElem?_setIfInBounds_ne (by omega)]; exact hj0.c0
          · rw [Array.getElem?_setIfInBounds_ne (by omega)]; exact hj0.c1
          · rw [Array.getElem?_setIfInBounds_ne (by omega)]; exact hj0.c2
          · have e0 : 0 + j * 4 + 3 = j * 4 + 3 := by omega
            rw [e0, Array.getElem?_setIfInBounds]
            have : j * 4 + 3 < cs.size := by omega
            simp [this, e']
        · rw [st_ne _ _ hji]
          refine ⟨?_, ?_, ?_, ?_⟩
          · rw [Array.getElem?_setIfInBounds_ne (by omega)]; exact hj0.c0
          · rw [Array.getElem?_setIfInBounds_ne (by omega)]; exact hj0.c1
          · rw [Array.getElem?_setIfInBounds_ne (by omega)]; exact hj0.c2
          · rw [Array.getElem?_setIfInBounds_ne (by omega)]; exact hj0.c3
      · rw [if_pos hk]; exact upd_in t.g hi ho ho
    · have hk : ¬ (s i).k < 255 := by have := of_decide_eq_false hge; simp only [Int.toNat_natCast] at this; omega
      refine ⟨he.fr _, s, t.ext he, fun y => ?_⟩
      rw [if_neg hk]
      have hs : (⟨(s i).h, (s i).a, (s i).v, (s i).k⟩ : Ent) = s i := rfl
      rw [hs]
      constructor
      · intro hy
        by_cases hys : y = s i
        · exact .inr hys
        · exact .inl ⟨hy, hys⟩
      · rintro (⟨hy, _⟩ | rfl)
        · exact hy
        · exact ⟨i, hi, rfl, ho⟩
    · rintro h2 ⟨hf, s', hs'⟩
      exact ⟨hf, .inl ⟨s i, s', ⟨i, hi, rfl, ho⟩, hix, rfl, hs'⟩⟩
  · refine ⟨_, rfl, fun _ => ⟨he.fr _, .inr ⟨?_, rfl, t.ext he⟩⟩, fun h => by simp at h⟩
    rintro e ⟨i, hi, hs, hea⟩
    subst hs
    exact hno i hi hea
where
  upd_in {B : Nat} {s : RH.Sl} (g : RGood (2 ^ B) B s) {i : Nat} (hi : i < 2 ^ B) (ho : occd s i) {e : Ent} (ha : e.a ≠ 0) : ∀ y, InT (2 ^ B) (stt s i e) y ↔ (InT (2 ^ B) s y ∧ y ≠ s i) ∨ y = e := by
    intro y
    rw [in_st hi ha]
    constructor
    · rintro (rfl | ⟨j, hj, hji, hy, hya⟩)
      · exact .inr rfl
      · refine .inl ⟨⟨j, hj, hy, hya⟩, fun hq => hji (g.uniq j i hj hi ?_ ho (by rw [hy, hq]))⟩
        unfold occd; rw [hy]; exact hya
    · rintro (⟨⟨j, hj, hy, hya⟩, hq⟩ | rfl)
      · exact .inr ⟨j, hj, fun h => hq (by rw [← hy, h]), hy, hya⟩
      · exact .inl rfl
end
end Go.Proofs.Ytkecmljalcfhoaa
namespace Go.Proofs.Ytkecmljalcfhoaa
open Go RH
section
variable {h : Heap} {p q B m : Nat} {s : RH.Sl}
theorem cnt_split (s : RH.Sl) (k : Nat) : cntO s (k + 1) = cntO s k + (if occd s k then 1 else 0) := rfl
theorem cnt_mono (s : RH.Sl) {a b : Nat} (hab : a ≤ b) : cntO s a ≤ cntO s b := by
  induction b with
  | zero => have : a = 0 := by omega
            subst this; exact Nat.le_refl _
  | succ b ih =>
    by_cases h : a = b + 1
    · subst h; exact Nat.le_refl _
    · have := ih (by omega); rw [cnt_split]; omega
theorem grow_c (t : TabOK h p q B m s) (hb : B < m) : HC Try.prog 68 #[ptr p 0] h fun v h' => v = .tuple #[] ∧ Fr (fun b => b = p) h h' ∧ ∃ q' s', h.size ≤ q' ∧ TabOK h' p q' (B + 1) m s' ∧
    (∀ x, InT (2 ^ (B + 1)) s' x ↔ InT (2 ^ B) s x) ∧ cntO s' (2 ^ (B + 1)) = cntO s (2 ^ B) := by
  obtain ⟨cap, cs, ta⟩ := t.at_
  have hm := ta.m16
  have hle := ta.le
  have h4 := pow4 ta.b2
  have hpow : 2 ^ (B + 1) = 2 * 2 ^ B := by rw [Nat.pow_succ, Nat.mul_comm]
  obtain ⟨hpl, hql⟩ := ta.lt
  have hpq := ta.ne
  refine f68_sh _ _ _ _ ⟨_, _, _, ta.c0, _, ta.c1, ta.hw3 1 (by omega), ?_⟩
  intro h1 e1
  have r1 : h1[p]? = some (.cells #[.slice (some ⟨q, 0, none⟩) (2 ^ B) cap, .int .i64 ((B + 1 : Nat) : Int), .int .i64 m, .int .i64 (cntO s (2 ^ B))] 87 (0, 0)) := by
    rw [e1, w64 (by omega) (by omega), hset_row ta.tab]; rfl
  have f1 : Fr (fun b => b = p) h h1 := by rw [e1]; exact fr_hset (fun b => b = p) (fun _ => rfl)
  clear e1
  refine ⟨((B + 1 : Nat) : Int), by rw [hcell_row r1]; rfl, by omega, ?_⟩
  rw [pow2_wrap (by omega)]
  have hp0 : (0 : Int) ≤ ((2 ^ (B + 1) : Nat) : Int) := Int.natCast_nonneg _
  have hle2 : 2 ^ (B + 1) ≤ 131072 := by omega
  refine ⟨hp0, by omega, by omega, ?_⟩
  intro nb h2 enb eh2
  rw [Int.toNat_natCast] at eh2 ⊢
  have r2 := (Ext.push h1 (.cells (zcells [.int .u64 0, .int .u64 0, .int .u64 0, .int .u8 0] (2 ^ (B + 1))).toArray 31)).row r1
  have z2 : h2[nb]? = some (.cells (zcells [.int .u64 0, .int .u64 0, .int .u64 0, .int .u8 0] (2 ^ (B + 1))).toArray 31 (0, 0)) := by rw [eh2]; exact push_new enb
  rw [← eh2] at r2
  have f2 : Fr (fun b => b = p) h h2 := by rw [eh2]; exact f1.trans (fr_push _) (fun _ _ h => h)
  have hnb : h.size ≤ nb := by rw [enb]; exact f1.size
  clear enb eh2
  refine ⟨HW_row r2 (by simp), ?_⟩
  intro h3 e3
  have r3 : h3[p]? = some (.cells #[.slice (some ⟨nb, 0, none⟩) (2 ^ (B + 1)) (2 ^ (B + 1)), .int .i64 ((B + 1 : Nat) : Int), .int .i64 m, .int .i64 (cntO s (2 ^ B))] 87 (0, 0)) := by
    rw [e3, hset_row r2]; rfl
  have z3 : h3[nb]? = some (.cells (zcells [.int .u64 0, .int .u64 0, .int .u64 0, .int .u8 0] (2 ^ (B + 1))).toArray 31 (0, 0)) := by rw [e3, hset_ne (by omega)]; exact z2
  have f3 : Fr (fun b => b = p) h h3 := by rw [e3]; exact f2.trans (fr_hset (fun b => b = p) (fun _ => rfl)) (fun _ _ h => h)
  clear e3
  refine ⟨HW_row r3 (by simp), ?_⟩
  intro h4 e4
  have r4 : h4[p]? = some (.cells #[.slice (some ⟨nb, 0, none⟩) (2 ^ (B + 1)) (2 ^ (B + 1)), .int .i64 ((B + 1 : Nat) : Int), .int .i64 m, .int .i64 ((0 : Nat) : Int)] 87 (0, 0)) := by
    rw [e4, hset_row r3]; rfl
  have z4 : h4[nb]? = some (.cells (zcells [.int .u64 0, .int .u64 0, .int .u64 0, .int .u8 0] (2 ^ (B + 1))).toArray 31 (0, 0)) := by rw [e4, hset_ne (by omega)]; exact z3
  have f4 : Fr (fun b => b = p) h h4 := by rw [e4]; exact f3.trans (fr_hset (fun b => b = p) (fun _ => rfl)) (fun _ _ h => h)
  clear e4 r1 r2 r3 z2 z3 f1 f2 f3
  have t4 : TabAt h4 p nb (B + 1) m 0 (2 ^ (B + 1)) (zcells [.int .u64 0, .int .u64 0, .int .u64 0, .int .u8 0] (2 ^ (B + 1))).toArray (fun _ => z0) :=
    ⟨r4, z4, by rw [List.size_toArray, zcells_length]; simp, Nat.le_refl _, zents, by have := ta.b2; omega, by omega, hm⟩
  have x0 : EntsAt h q (2 ^ B) s := ta.entsAt
  let Inv : Nat → Heap → Prop := fun k h5 => k ≤ 2 ^ B ∧ Fr (fun b => b = p) h h5 ∧ ∃ cs' s', TabAt h5 p nb (B + 1) m (cntO s k) (2 ^ (B + 1)) cs' s' ∧ RGood (2 ^ (B + 1)) (B + 1) s' ∧ cntO s' (2 ^ (B + 1)) = cntO s k ∧
    (∀ x, InT (2 ^ (B + 1)) s' x ↔ ∃ i, i < k ∧ s i = x ∧ x.a ≠ 0)
  refine ⟨fun v h5 => ∃ k : Nat, v = k ∧ Inv k h5, fun v _ => 2 ^ B - v.toNat, ⟨0, rfl, Nat.zero_le _, f4, _, _, t4, good_zero, cnt_zero _, fun x => ?_⟩, ?_⟩
  · constructor
    · rintro ⟨i, _, hx, ha⟩; subst hx; exact absurd rfl ha
    · rintro ⟨i, hi, _⟩; omega
  rintro _ h5 ⟨k, rfl, hk, f5, cs', s', t5, g5, c5, i5⟩
  have x5 : EntsAt h5 q (2 ^ B) s := by
    obtain ⟨c, hr, hc⟩ := x0
    exact ⟨c, f5.row hr (fun e => hpq e.symm), hc⟩
  refine ⟨fun hlt => ?_, fun hge => ?_⟩
  · have hk' : k < 2 ^ B := by have := of_decide_eq_true hlt; omega
    have hp0' : (0 : Int) ≤ (k : Int) := Int.natCast_nonneg _
    have hk2 : (k : Int) < ((2 ^ B : Nat) : Int) := by omega
    have hw := t.g.wf k hk'
    refine ⟨fun h6 => Inv (k + 1) h6, ⟨_, _, rfl, hp0', hk2, _, _, _, _, x5.e0 hp0' hk2, x5.e1 hp0' hk2, x5.e2 hp0' hk2, x5.e3 hp0' hk2, ?_⟩, ?_⟩
    · intro eb h7 e1 e2
      subst e1; subst e2
      have b7 := Box.new (h := h5) z0 rfl
      refine ⟨b7.hw, ?_⟩
      intro h8 e8
      have b8 := b7.put (s k)
      rw [show h8 = _ from e8]
      clear e8
      have f8 : Fr (fun b => b = h5.size) h5 (hsets (Array.push h5 (.cells #[.int .u64 z0.h, .int .u64 z0.a, .int .u64 z0.v, .int .u8 z0.k] 31)) h5.size 0 [.int .u64 (s k).h, .int .u64 (s k).a, .int .u64 (s k).v, .int .u8 (s k).k]) :=
        (fr_push _).trans (fr_hsets (fun b => b = h5.size) (fun _ => rfl)) (fun _ _ h => h)
      have ex8 := f8.ext (fun i hi h' => by omega)
      refine ⟨_, _, _, _, b8.c0, b8.c1, b8.c2, b8.c3, (empty_c _ _ _ _ _).mono ?_⟩
      rintro _ h9 ⟨rfl, he9⟩
      have b9 := b8.ext he9
      have ex9 := ex8.trans he9
      have t9 := t5.ext ex9
      have f9 : Fr (fun b => b = p) h h9 := f5.trans (ex9.fr _) (fun _ _ h => h)
      refine ⟨_, rfl, fun hemp => ?_, fun hemp => ?_⟩
      · have ho : ¬ occd s k := by unfold occd; simpa using hemp
        refine ⟨hk', f9, cs', s', ?_, g5, ?_, fun x => ?_⟩
        · rw [cnt_split, if_neg ho]; exact t9
        · rw [cnt_split, if_neg ho]; exact c5
        · rw [i5]
          constructor
          · rintro ⟨i, hi, hx⟩; exact ⟨i, by omega, hx⟩
          · rintro ⟨i, hi, hx, hxa⟩
            refine ⟨i, ?_, hx, hxa⟩
            have : i ≠ k := fun e => ho (by unfold occd; rw [← e, hx]; exact hxa)
            omega
      · have ho : occd s k := by unfold occd; simpa using hemp
        have hcm := cnt_mono s (Nat.le_of_lt hk')
        have hcl := cnt_le s (2 ^ B)
        obtain ⟨z, hz, hh⟩ := cnt_hole (s := s') (2 ^ (B + 1)) (by omega)
        refine ⟨_, _, _, _, b9.c0, b9.c1, b9.c2, b9.c3, (lay_c t9 g5 hz hh ho hw ?_ (by omega)).mono ?_⟩
        · intro i hi hoi hx
          obtain ⟨j, hj, hs, _⟩ := (i5 (s' i)).1 ⟨i, hi, rfl, hoi⟩
          have := t.g.uniq j k (by omega) hk' (by unfold occd; rw [hs]; exact hoi) ho (by rw [hs, hx])
          omega
        · rintro _ h10 ⟨rfl, cs2, s2, t10, g10, i10, c10, f10⟩
          refine ⟨rfl, hk', f9.trans f10 (fun i hi hor => ?_), cs2, s2, ?_, g10, ?_, fun x => ?_⟩
          · rcases hor with h' | h'
            · exact h'
            · omega
          · rw [cnt_split, if_pos ho]; exact t10
          · rw [cnt_split, if_pos ho, c10, c5]
          · rw [i10, i5]
            constructor
            · rintro (⟨i, hi, hx⟩ | rfl)
              · exact ⟨i, by omega, hx⟩
              · exact ⟨k, by omega, rfl, ho⟩
            · rintro ⟨i, hi, hx, hxa⟩
              by_cases hik : i = k
              · subst hik; exact .inr hx.symm
              · exact .inl ⟨i, by omega, hx, hxa⟩
    · intro h6 hi6
      refine ⟨⟨k + 1, ?_, hi6⟩, ?_⟩
      · rw [w64 (by omega) (by omega)]; omega
      · show 2 ^ B - Int.toNat (IntKind.i64.wrap ((k : Int) + 1)) < 2 ^ B - Int.toNat (k : Int)
        rw [w64 (by omega) (by omega)]; omega
  · have hkk : k = 2 ^ B := by have := of_decide_eq_false hge; omega
    subst hkk
    refine ⟨rfl, f5, nb, s', hnb, ⟨⟨_, _, by rw [c5]; exact t5⟩, g5, ?_⟩, fun x => ?_, c5⟩
    · have := t.room; rw [c5]; omega
    · rw [i5]; exact Iff.rfl
end
end Go.Proofs.Ytkecmljalcfhoaa
namespace Go.Proofs.Ytkecmljalcfhoaa
open Go RH
section
variable {h : Heap} {p q B m : Nat} {s : RH.Sl}
def ev0 : Value := .agg #[.int .u64 0, .int .u64 0, .int .u64 0, .int .u8 0]
def entV (e : Ent) : Value := .agg #[.int .u64 e.h, .int .u64 e.a, .int .u64 e.v, .int .u8 e.k]
inductive PutR (B m : Nat) (s : RH.Sl) (e : Ent) (B' : Nat) (s' : RH.Sl) : Value → Prop
  | arg : e.a = 0 → B' = B → s' = s → PutR B m s e B' s' (.tuple #[ev0, .bool false, .int .i64 1])
  | had (o : Ent) : e.a ≠ 0 → InT (2 ^ B) s o → o.h = e.h → B' = B → (∀ y, InT (2 ^ B) s' y ↔ (InT (2 ^ B) s y ∧ y ≠ o) ∨ y = e) → PutR B m s e B' s' (.tuple #[entV o, .bool true, .int .i64 0])
  | full : e.a ≠ 0 → (∀ o, InT (2 ^ B) s o → o.h ≠ e.h) → B = m → 7 * 2 ^ B < 8 * (cntO s (2 ^ B) + 1) → B' = B → s' = s → PutR B m s e B' s' (.tuple #[ev0, .bool false, .int .i64 2])
  | new : e.a ≠ 0 → (∀ o, InT (2 ^ B) s o → o.h ≠ e.h) → (if 7 * 2 ^ B < 8 * (cntO s (2 ^ B) + 1) then B < m ∧ B' = B + 1 else B' = B) → (∀ y, InT (2 ^ B') s' y ↔ InT (2 ^ B) s y ∨ y = e) →
      cntO s' (2 ^ B') = cntO s (2 ^ B) + 1 → PutR B m s e B' s' (.tuple #[ev0, .bool false, .int .i64 0])
set_option maxHeartbeats 4000000 in
theorem put_c (t : TabOK h p q B m s) {e : Ent} (hw : e.wf) : HC Try.prog 51 #[ptr p 0, entV e] h fun v h' => Fr (PQ p q) h h' ∧ ∃ q' B' s', (q' = q ∨ h.size ≤ q') ∧ TabOK h' p q' B' m s' ∧ PutR B m s e B' s' v := by
  obtain ⟨z, hz, hh⟩ := t.hole
  obtain ⟨hpl, hql⟩ := t.lt
  have hle := t.le
  refine f51_sh _ _ _ _ _ _ _ _ ?_
  intro eb h1 e1 e2 ob h2 e3 e4
  subst e1; subst e2; subst e3; subst e4
  have x1 := Box.new (h := h) e rfl
  have ex1 := Ext.push h (.cells #[.int .u64 e.h, .int .u64 e.a, .int .u64 e.v, .int .u8 e.k] 31)
  generalize hg1 : Array.push h (.cells #[.int .u64 e.h, .int .u64 e.a, .int .u64 e.v, .int .u8 e.k] 31) = H1 at *
  have hs1 : H1.size = h.size + 1 := by rw [← hg1]; simp
  have o2 := Box.new (h := H1) z0 rfl
  have ex2 := ex1.trans (Ext.push H1 (.cells #[.int .u64 z0.h, .int .u64 z0.a, .int .u64 z0.v, .int .u8 z0.k] 31))
  have x2 := x1.ext (Ext.push H1 (.cells #[.int .u64 z0.h, .int .u64 z0.a, .int .u64 z0.v, .int .u8 z0.k] 31))
  have hz2 : (Array.push H1 (.cells #[.int .u64 0, .int .u64 0, .int .u64 0, .int .u8 0] 31)) = (Array.push H1 (.cells #[.int .u64 z0.h, .int .u64 z0.a, .int .u64 z0.v, .int .u8 z0.k] 31)) := rfl
  rw [hz2]
  generalize hg2 : Array.push H1 (.cells #[.int .u64 z0.h, .int .u64 z0.a, .int .u64 z0.v, .int .u8 z0.k] 31) = H2 at *
  have hs2 : H2.size = h.size + 2 := by rw [← hg2]; simp [hs1]
  clear hg1 hg2 hz2
  have t2 := t.ext ex2
  obtain ⟨cap, cs, ta2⟩ := t2.at_
  -- what the last stores into the result's block change
  have fin : ∀ {H : Heap} {S : Nat → Prop} (vs : List Value), Fr S h H → Fr S h (hsets H H1.size 0 vs) := by
    intro H S vs hf
    refine hf.trans (fr_hsets (fun b => b = H1.size) (fun _ => rfl)) (fun i hi h' => ?_)
    omega
  have nS : ¬ PQ p q H1.size := by unfold PQ; omega
  have nE : ¬ PQ p q h.size := by unfold PQ; omega
  refine ⟨true, made_c ta2, fun h => by simp at h, fun _ => ⟨_, _, _, _, x2.c0, x2.c1, x2.c2, x2.c3, (empty_c _ _ _ _ _).mono ?_⟩⟩
  rintro _ h4 ⟨rfl, he4⟩
  have x4 := x2.ext he4
  have o4 := o2.ext he4
  have ex4 := ex2.trans he4
  have t4 := t.ext ex4
  refine ⟨_, rfl, fun hemp => ?_, fun hemp => ?_⟩
  · have ha : e.a = 0 := by have := eq_of_beq hemp; omega
    refine ⟨o4.hw, ?_⟩
    intro h5 e5
    have o5 := o4.put z0
    have f5 := fin [.int .u64 z0.h, .int .u64 z0.a, .int .u64 z0.v, .int .u8 z0.k] (ex4.fr (PQ p q))
    have t5 : TabOK (hsets h4 H1.size 0 [.int .u64 z0.h, .int .u64 z0.a, .int .u64 z0.v, .int .u8 z0.k]) p q B m s := t4.fr (fr_hsets (fun b => b = H1.size) (fun _ => rfl)) (by omega) (by omega)
    have e5' : h5 = hsets h4 H1.size 0 [.int .u64 z0.h, .int .u64 z0.a, .int .u64 z0.v, .int .u8 z0.k] := e5
    clear e5
    rw [← e5'] at o5 f5 t5
    clear e5'
    exact ⟨_, _, _, _, o5.c0, o5.c1, o5.c2, o5.c3, f5, q, B, s, .inl rfl, t5, .arg ha rfl rfl⟩
  · have ha : e.a ≠ 0 := fun h => by simp [h] at hemp
    obtain ⟨cap4, cs4, ta4⟩ := t4.at_
    refine ⟨_, x4.c0, (find_c ta4 t.g hz hh hw.1).mono ?_⟩
    rintro _ h6 ⟨he6, hres⟩
    have x6 := x4.ext he6
    have o6 := o4.ext he6
    have ex6 := ex4.trans he6
    have t6 := t.ext ex6
    obtain ⟨cap6, cs6, ta6⟩ := t6.at_
    rcases hres with ⟨i, hi, ho, hix, rfl⟩ | ⟨hno, rfl⟩
    · refine ⟨_, rfl, fun _ => ?_, fun h => by simp only [decide_eq_false_iff_not] at h; omega⟩
      refine ⟨_, _, _, ta6.c0, _, _, rfl, by omega, by omega, _, _, _, _, ta6.e0 (by omega) (by omega), ta6.e1 (by omega) (by omega), ta6.e2 (by omega) (by omega), ta6.e3 (by omega) (by omega), o6.hw, ?_⟩
      intro h7 e7
      have o7 := o6.put (s i)
      have ta7 := ta6.fr (fr_hsets (h := h6) (b := H1.size) (o := 0) (vs := [.int .u64 (s i).h, .int .u64 (s i).a, .int .u64 (s i).v, .int .u8 (s i).k]) (fun b => b = H1.size) (fun _ => rfl)) (by omega) (by omega)
      have x7 := x6.fr (fr_hsets (h := h6) (b := H1.size) (o := 0) (vs := [.int .u64 (s i).h, .int .u64 (s i).a, .int .u64 (s i).v, .int .u8 (s i).k]) (fun b => b = H1.size) (fun _ => rfl)) (by omega)
      have f7 := fin [.int .u64 (s i).h, .int .u64 (s i).a, .int .u64 (s i).v, .int .u8 (s i).k] (ex6.fr (PQ p q))
      have e7' : h7 = hsets h6 H1.size 0 [.int .u64 (s i).h, .int .u64 (s i).a, .int .u64 (s i).v, .int .u8 (s i).k] := e7
      clear e7
      rw [← e7'] at o7 ta7 x7 f7
      clear e7'
      refine ⟨_, _, _, ta7.c0, _, _, _, _, x7.c0, x7.c1, x7.c2, x7.c3, _, _, rfl, by omega, by omega, ta7.hw (by omega) (by omega), ?_⟩
      intro h8 e8
      have ta8 := ta7.put hi e
      have o8 := o7.fr (fr_hsets (h := h7) (b := q) (o := 0 + i * 4) (vs := [.int .u64 e.h, .int .u64 e.a, .int .u64 e.v, .int .u8 e.k]) (fun b => b = q) (fun _ => rfl)) (by omega)
      have f8 : Fr (PQ p q) h (hsets h7 q (0 + i * 4) [.int .u64 e.h, .int .u64 e.a, .int .u64 e.v, .int .u8 e.k]) := f7.trans (fr_hsets (PQ p q) (fun _ => .inr rfl)) (fun _ _ h => h)
      have e8' : h8 = hsets h7 q (0 + i * 4) [.int .u64 e.h, .int .u64 e.a, .int .u64 e.v, .int .u8 e.k] := e8
      clear e8
      rw [← e8'] at ta8 o8 f8
      clear e8'
      refine ⟨_, _, _, _, o8.c0, o8.c1, o8.c2, o8.c3, o8.hw, ?_⟩
      intro h9 e9
      have o9 := o8.put (s i)
      have f9 := fin [.int .u64 (s i).h, .int .u64 (s i).a, .int .u64 (s i).v, .int .u8 (s i).k] f8
      have hN : 2 ^ B * 4 ≤ cs6.size := ta6.len
      have ta9 := ta8.fr (fr_hsets (h := h8) (b := H1.size) (o := 0) (vs := [.int .u64 (s i).h, .int .u64 (s i).a, .int .u64 (s i).v, .int .u8 (s i).k]) (fun b => b = H1.size) (fun _ => rfl)) (by omega) (by omega)
      have e9' : h9 = hsets h8 H1.size 0 [.int .u64 (s i).h, .int .u64 (s i).a, .int .u64 (s i).v, .int .u8 (s i).k] := e9
      clear e9
      rw [← e9'] at o9 ta9 f9
      clear e9'
      refine ⟨_, _, _, _, o9.c0, o9.c1, o9.c2, o9.c3, f9, q, B, stt s i e, .inl rfl, ⟨⟨_, _, by rw [cnt_upd ho ha]; exact ta9⟩, good_upd t.g hi hix.symm hw ho ha, by rw [cnt_upd ho ha]; exact t.room⟩,
        .had (s i) ha ⟨i, hi, rfl, ho⟩ hix rfl (hit_c.upd_in t.g hi ho ha)⟩
    · refine ⟨_, rfl, fun h => by simp at h, fun _ => ?_⟩
      have hno' : ∀ o, InT (2 ^ B) s o → o.h ≠ e.h := by rintro o ⟨i, hi, rfl, hoa⟩; exact hno i hi hoa
      have hcl := cnt_le s (2 ^ B)
      refine ⟨fun h10 => Fr (PQ p q) h h10 ∧ Box h10 h.size e ∧ Box h10 H1.size z0 ∧ ∃ q' B' s', (q' = q ∨ h.size + 2 ≤ q') ∧ TabOK h10 p q' B' m s' ∧ (∀ x, InT (2 ^ B') s' x ↔ InT (2 ^ B) s x) ∧ cntO s' (2 ^ B') = cntO s (2 ^ B) ∧ 8 * (cntO s (2 ^ B) + 1) ≤ 7 * 2 ^ B' ∧
          (if 7 * 2 ^ B < 8 * (cntO s (2 ^ B) + 1) then B < m ∧ B' = B + 1 else B' = B), ⟨_, full_c ta6 hcl, fun hfull => ?_, fun hfull => ?_⟩, ?_⟩
      · have hf := of_decide_eq_true hfull
        refine ⟨_, ta6.c1, _, ta6.c2, fun heq => ?_, fun hne => ?_⟩
        · have hBm : B = m := by have := eq_of_beq heq; omega
          refine ⟨o6.hw, ?_⟩
          intro h11 e11
          have o11 := o6.put z0
          have f11 := fin [.int .u64 z0.h, .int .u64 z0.a, .int .u64 z0.v, .int .u8 z0.k] (ex6.fr (PQ p q))
          have t11 : TabOK (hsets h6 H1.size 0 [.int .u64 z0.h, .int .u64 z0.a, .int .u64 z0.v, .int .u8 z0.k]) p q B m s := t6.fr (fr_hsets (fun b => b = H1.size) (fun _ => rfl)) (by omega) (by omega)
          have e11' : h11 = hsets h6 H1.size 0 [.int .u64 z0.h, .int .u64 z0.a, .int .u64 z0.v, .int .u8 z0.k] := e11
          clear e11
          rw [← e11'] at o11 f11 t11
          clear e11'
          exact ⟨_, _, _, _, o11.c0, o11.c1, o11.c2, o11.c3, f11, q, B, s, .inl rfl, t11, .full ha hno' hBm hf rfl rfl⟩
        · have hBm : B < m := by
            have h1 : B ≠ m := fun h => by simp [h] at hne
            have := t.bnd; omega
          refine (grow_c t6 hBm).mono ?_
          rintro _ h12 ⟨rfl, f12, q', s', hq', t12, i12, c12⟩
          have hpow : 2 ^ (B + 1) = 2 * 2 ^ B := by rw [Nat.pow_succ, Nat.mul_comm]
          have h6s : h.size + 2 ≤ h6.size := by have := he6.size; have := he4.size; omega
          have h4B := pow4 t.bnd.1
          refine ⟨rfl, (ex6.fr (PQ p q)).trans f12 (fun i hi h' => .inl h'), x6.fr f12 (by omega), o6.fr f12 (by omega), q', B + 1, s', .inr (by omega), t12, i12, c12, by omega, ?_⟩
          rw [if_pos hf]; exact ⟨hBm, rfl⟩
      · have hf := of_decide_eq_false hfull
        refine ⟨ex6.fr _, x6, o6, q, B, s, .inl rfl, t6, fun _ => Iff.rfl, rfl, by omega, ?_⟩
        rw [if_neg hf]
      · rintro h10 ⟨f10, x10, o10, q', B', s', hq', t10, i10, c10, hroom, hgrow⟩
        obtain ⟨z', hz', hh'⟩ := t10.hole
        obtain ⟨cap10, cs10, ta10⟩ := t10.at_
        have hcl' := cnt_le s' (2 ^ B')
        have hle' := t10.le
        refine ⟨_, _, _, _, x10.c0, x10.c1, x10.c2, x10.c3, (lay_c ta10 t10.g hz' hh' ha hw ?_ (by omega)).mono ?_⟩
        · intro i hi hoi hx
          exact hno' (s' i) ((i10 _).1 ⟨i, hi, rfl, hoi⟩) hx
        · rintro _ h13 ⟨rfl, cs13, s13, ta13, g13, i13, c13, f13⟩
          have nP : ¬ PQ p q' H1.size := by unfold PQ; omega
          have o13 := o10.fr f13 nP
          refine ⟨rfl, o13.hw, ?_⟩
          intro h14 e14
          have o14 := o13.put z0
          have f14 := fin [.int .u64 z0.h, .int .u64 z0.a, .int .u64 z0.v, .int .u8 z0.k] (f10.trans f13 (fun i hi h' => by
            rcases h' with h' | h'
            · exact .inl h'
            · rcases hq' with hq' | hq'
              · exact .inr (h'.trans hq')
              · omega))
          have ta14 := ta13.fr (fr_hsets (h := h13) (b := H1.size) (o := 0) (vs := [.int .u64 z0.h, .int .u64 z0.a, .int .u64 z0.v, .int .u8 z0.k]) (fun b => b = H1.size) (fun _ => rfl)) (by omega) (by omega)
          have e14' : h14 = hsets h13 H1.size 0 [.int .u64 z0.h, .int .u64 z0.a, .int .u64 z0.v, .int .u8 z0.k] := e14
          clear e14
          rw [← e14'] at o14 f14 ta14
          clear e14'
          refine ⟨_, _, _, _, o14.c0, o14.c1, o14.c2, o14.c3, f14, q', B', s13, hq'.imp id (fun h => by omega), ⟨⟨_, _, by rw [c13]; exact ta14⟩, g13, by omega⟩, .new ha hno' hgrow (fun y => by rw [i13, i10]) (by omega)⟩
end
end Go.Proofs.Ytkecmljalcfhoaa
namespace Go.Proofs.Ytkecmljalcfhoaa
open Go RH
section
variable {h : Heap} {p q B m : Nat} {s : RH.Sl}
def RemR (B : Nat) (s : RH.Sl) (x : Nat) (s' : RH.Sl) (v : Value) : Prop :=
  (∃ e, InT (2 ^ B) s e ∧ e.h = x ∧ v = .tuple #[entV e, .bool true] ∧ ∀ y, InT (2 ^ B) s' y ↔ InT (2 ^ B) s y ∧ y ≠ e) ∨
  ((∀ e, InT (2 ^ B) s e → e.h ≠ x) ∧ v = .tuple #[ev0, .bool false] ∧ s' = s)
set_option maxHeartbeats 4000000 in
theorem remove_c (t : TabOK h p q B m s) {x : Nat} (hx : x < 18446744073709551616) : HC Try.prog 46 #[ptr p 0, .int .u64 x] h fun v h' => Fr (PQ p q) h h' ∧ ∃ s', TabOK h' p q B m s' ∧ RemR B s x s' v := by
  obtain ⟨z, hz, hh⟩ := t.hole
  obtain ⟨hpl, hql⟩ := t.lt
  obtain ⟨hb2, hbm, hm16⟩ := t.bnd
  have hB : B ≤ 64 := by omega
  have hle := t.le
  refine f46_sh _ _ _ _ _ ?_
  intro nb h1 e1 e2
  subst e1; subst e2
  have b1 := Box.new (h := h) z0 rfl
  have ex1 := Ext.push h (.cells #[.int .u64 z0.h, .int .u64 z0.a, .int .u64 z0.v, .int .u8 z0.k] 31)
  have hz1 : (Array.push h (.cells #[.int .u64 0, .int .u64 0, .int .u64 0, .int .u8 0] 31)) = (Array.push h (.cells #[.int .u64 z0.h, .int .u64 z0.a, .int .u64 z0.v, .int .u8 z0.k] 31)) := rfl
  rw [hz1]
  generalize hg1 : Array.push h (.cells #[.int .u64 z0.h, .int .u64 z0.a, .int .u64 z0.v, .int .u8 z0.k] 31) = H1 at *
  have hs1 : H1.size = h.size + 1 := by rw [← hg1]; simp
  clear hg1 hz1
  have t1 := t.ext ex1
  obtain ⟨cap, cs, ta1⟩ := t1.at_
  have nN : ¬ PQ p q h.size := by unfold PQ; omega
  refine (find_c ta1 t1.g hz hh hx).mono ?_
  rintro _ h2 ⟨he2, hres⟩
  have b2 := b1.ext he2
  have ex2 := ex1.trans he2
  have ta2 := ta1.ext he2
  have hs2 : H1.size ≤ h2.size := he2.size
  rcases hres with ⟨i, hi, ho, hix, rfl⟩ | ⟨hno, rfl⟩
  case inr =>
    refine ⟨_, rfl, fun _ => ⟨b2.hw, ?_⟩, fun h => by simp at h⟩
    intro h3 e3
    have b3 := b2.put z0
    have f3 : Fr (PQ p q) h (hsets h2 h.size 0 [.int .u64 z0.h, .int .u64 z0.a, .int .u64 z0.v, .int .u8 z0.k]) := (ex2.fr _).trans (fr_hsets (fun b => b = h.size) (fun _ => rfl)) (fun i hi h' => by omega)
    have t3 : TabOK (hsets h2 h.size 0 [.int .u64 z0.h, .int .u64 z0.a, .int .u64 z0.v, .int .u8 z0.k]) p q B m s := (t.ext ex2).fr (fr_hsets (fun b => b = h.size) (fun _ => rfl)) (by omega) (by omega)
    have e3' : h3 = hsets h2 h.size 0 [.int .u64 z0.h, .int .u64 z0.a, .int .u64 z0.v, .int .u8 z0.k] := e3
    clear e3
    rw [← e3'] at b3 f3 t3
    clear e3'
    refine ⟨_, _, _, _, b3.c0, b3.c1, b3.c2, b3.c3, f3, s, t3, .inr ⟨?_, rfl, rfl⟩⟩
    rintro o ⟨i, hi, rfl, hoa⟩
    exact hno i hi hoa
  refine ⟨_, rfl, fun h => by simp only [decide_eq_true_eq] at h; omega, fun _ => ?_⟩
  refine ⟨_, _, _, ta2.c0, _, _, rfl, by omega, by omega, _, _, _, _, ta2.e0 (by omega) (by omega), ta2.e1 (by omega) (by omega), ta2.e2 (by omega) (by omega), ta2.e3 (by omega) (by omega), ?_⟩
  intro out h4 e4 e4h
  simp only [Int.toNat_natCast] at *
  have o4 := Box.new (h := h2) z0 e4
  have ex4 := ex2.trans (Ext.push h2 (.cells #[.int .u64 z0.h, .int .u64 z0.a, .int .u64 z0.v, .int .u8 z0.k] 31))
  have ta4 := ta2.ext (Ext.push h2 (.cells #[.int .u64 z0.h, .int .u64 z0.a, .int .u64 z0.v, .int .u8 z0.k] 31))
  have b4 := b2.ext (Ext.push h2 (.cells #[.int .u64 z0.h, .int .u64 z0.a, .int .u64 z0.v, .int .u8 z0.k] 31))
  have e4h' : h4 = (Array.push h2 (.cells #[.int .u64 z0.h, .int .u64 z0.a, .int .u64 z0.v, .int .u8 z0.k] 31)) := e4h
  clear e4h
  rw [← e4h'] at o4 ex4 ta4 b4
  clear e4h'
  have hout : h.size < out := by omega
  have nO : ¬ PQ p q out := by unfold PQ; omega
  clear e4
  refine ⟨o4.hw, ?_⟩
  intro h5 e5
  have o5 := o4.put (s i)
  have f5 : Fr (PQ p q) h (hsets h4 out 0 [.int .u64 (s i).h, .int .u64 (s i).a, .int .u64 (s i).v, .int .u8 (s i).k]) := (ex4.fr _).trans (fr_hsets (fun b => b = out) (fun _ => rfl)) (fun i hi h' => by omega)
  have ta5 := ta4.fr (fr_hsets (h := h4) (b := out) (o := 0) (vs := [.int .u64 (s i).h, .int .u64 (s i).a, .int .u64 (s i).v, .int .u8 (s i).k]) (fun b => b = out) (fun _ => rfl)) (by omega) (by omega)
  have b5 := b4.fr (fr_hsets (h := h4) (b := out) (o := 0) (vs := [.int .u64 (s i).h, .int .u64 (s i).a, .int .u64 (s i).v, .int .u8 (s i).k]) (fun b => b = out) (fun _ => rfl)) (by omega)
  have e5' : h5 = hsets h4 out 0 [.int .u64 (s i).h, .int .u64 (s i).a, .int .u64 (s i).v, .int .u8 (s i).k] := e5
  clear e5
  rw [← e5'] at o5 f5 ta5 b5
  clear e5'
  clear ta4 b4 o4 ex4 ta2 b2 ex2 he2 ta1 t1 b1 ex1
  refine ⟨fun a h6 => ∃ an : Nat, a = an ∧ ∃ cs' s', TabAt h6 p q B m (cntO s (2 ^ B)) cap cs' s' ∧ RemI (2 ^ B) B s (s i) z s' an ∧ Box h6 out (s i) ∧ Box h6 h.size z0 ∧ Fr (PQ p q) h h6,
    fun a _ => df (2 ^ B) a.toNat z, ⟨i, rfl, cs, s, ta5, RemI.start t.g hz hh hi ho, o5, b5, f5⟩, ?_⟩
  rintro _ h6 ⟨a, rfl, cs6, s6, ta6, r, o6, b6, f6⟩
  have hal := r.at_lt
  have hnl := nx_lt hal
  have hw := r.wf _ hnl
  refine ⟨_, next_c ta6 hal, ?_⟩
  refine ⟨fun j h7 => Ext h6 h7 ∧ (j = true → (¬ occd s6 (nx (2 ^ B) a) ∨ ds (2 ^ B) B (nx (2 ^ B) a) (s6 (nx (2 ^ B) a)).h = 0)) ∧ (j = false → occd s6 (nx (2 ^ B) a) ∧ 0 < ds (2 ^ B) B (nx (2 ^ B) a) (s6 (nx (2 ^ B) a)).h), ?_, ?_⟩
  · refine ⟨_, _, _, ta6.c0, _, _, rfl, by omega, by omega, _, _, _, _, ta6.e0 (by omega) (by omega), ta6.e1 (by omega) (by omega), ta6.e2 (by omega) (by omega), ta6.e3 (by omega) (by omega), (empty_c _ _ _ _ _).mono ?_⟩
    rintro _ h8 ⟨rfl, he8⟩
    simp only [Int.toNat_natCast]
    refine ⟨_, rfl, fun hb => ⟨he8, fun _ => .inl (by unfold occd; simpa using hb), fun h => by simp at h⟩, fun hb => ?_⟩
    have ho6 : occd s6 (nx (2 ^ B) a) := by unfold occd; simpa using hb
    refine ⟨_, dist_c (ta6.ext he8) hnl hw, he8, fun hj => .inr ?_, fun hj => ⟨ho6, ?_⟩⟩
    · have := eq_of_beq hj; omega
    · have h1 : ds (2 ^ B) B (nx (2 ^ B) a) (s6 (nx (2 ^ B) a)).h ≠ 0 := fun h => by simp [h] at hj
      omega
  · rintro j h7 ⟨he7, hj1, hj0⟩
    have ta7 := ta6.ext he7
    have o7 := o6.ext he7
    have b7 := b6.ext he7
    have f7 := f6.trans (he7.fr (PQ p q)) (fun _ _ h => h)
    refine ⟨fun hj => ?_, fun hj => ?_⟩
    · obtain ⟨g', i', c'⟩ := r.done rfl hb2 (hj1 hj)
      refine ⟨_, _, _, ta7.c0, _, _, rfl, by omega, by omega, ta7.hw (by omega) (by omega), ?_⟩
      intro h9 e9
      have ta9 := ta7.put hal z0
      have f9 : Fr (PQ p q) h (hsets h7 q (0 + a * 4) [.int .u64 z0.h, .int .u64 z0.a, .int .u64 z0.v, .int .u8 z0.k]) := f7.trans (fr_hsets (PQ p q) (fun _ => .inr rfl)) (fun _ _ h => h)
      have o9 := o7.fr (fr_hsets (h := h7) (b := q) (o := 0 + a * 4) (vs := [.int .u64 z0.h, .int .u64 z0.a, .int .u64 z0.v, .int .u8 z0.k]) (PQ p q) (fun _ => .inr rfl)) nO
      have b9 := b7.fr (fr_hsets (h := h7) (b := q) (o := 0 + a * 4) (vs := [.int .u64 z0.h, .int .u64 z0.a, .int .u64 z0.v, .int .u8 z0.k]) (PQ p q) (fun _ => .inr rfl)) nN
      have e9' : h9 = hsets h7 q (0 + a * 4) [.int .u64 z0.h, .int .u64 z0.a, .int .u64 z0.v, .int .u8 z0.k] := e9
      clear e9
      rw [← e9'] at ta9 f9 o9 b9
      clear e9'
      refine ⟨_, ta9.c3, ta9.hw3 3 (by omega), ?_⟩
      intro h10 e10
      have hcl := cnt_le s (2 ^ B)
      have ec : IntKind.i64.wrap ((cntO s (2 ^ B) : Int) - 1) = ((cntO (stt s6 a z0) (2 ^ B) : Nat) : Int) := by
        rw [w64 (by omega) (by omega)]; omega
      rw [ec] at e10
      have ta10 := ta9.setN (cntO (stt s6 a z0) (2 ^ B))
      have f10 : Fr (PQ p q) h (hset h9 p 3 (.int .i64 (cntO (stt s6 a z0) (2 ^ B)))) := f9.trans (fr_hset (PQ p q) (fun _ => .inl rfl)) (fun _ _ h => h)
      have o10 := o9.fr (fr_hset (h := h9) (b := p) (o := 3) (v := .int .i64 (cntO (stt s6 a z0) (2 ^ B))) (PQ p q) (fun _ => .inl rfl)) nO
      have b10 := b9.fr (fr_hset (h := h9) (b := p) (o := 3) (v := .int .i64 (cntO (stt s6 a z0) (2 ^ B))) (PQ p q) (fun _ => .inl rfl)) nN
      have e10' : h10 = hset h9 p 3 (.int .i64 (cntO (stt s6 a z0) (2 ^ B))) := e10
      clear e10
      rw [← e10'] at ta10 f10 o10 b10
      clear e10'
      refine ⟨_, _, _, _, o10.c0, o10.c1, o10.c2, o10.c3, b10.hw, ?_⟩
      intro h11 e11
      have b11 := b10.put (s i)
      have f11 : Fr (PQ p q) h (hsets h10 h.size 0 [.int .u64 (s i).h, .int .u64 (s i).a, .int .u64 (s i).v, .int .u8 (s i).k]) := f10.trans (fr_hsets (fun b => b = h.size) (fun _ => rfl)) (fun i hi h' => by omega)
      have ta11 := ta10.fr (fr_hsets (h := h10) (b := h.size) (o := 0) (vs := [.int .u64 (s i).h, .int .u64 (s i).a, .int .u64 (s i).v, .int .u8 (s i).k]) (fun b => b = h.size) (fun _ => rfl)) (by omega) (by omega)
      have e11' : h11 = hsets h10 h.size 0 [.int .u64 (s i).h, .int .u64 (s i).a, .int .u64 (s i).v, .int .u8 (s i).k] := e11
      clear e11
      rw [← e11'] at b11 f11 ta11
      clear e11'
      have hroom := t.room
      exact ⟨_, _, _, _, b11.c0, b11.c1, b11.c2, b11.c3, f11, _, ⟨⟨_, _, ta11⟩, g', by omega⟩, .inl ⟨s i, ⟨i, hi, rfl, ho⟩, hix, rfl, i'⟩⟩
    · obtain ⟨ho6, hd6⟩ := hj0 hj
      refine ⟨_, _, _, ta7.c0, _, _, _, ta7.c0, _, _, rfl, by omega, by omega, _, _, _, _, ta7.e0 (by omega) (by omega), ta7.e1 (by omega) (by omega), ta7.e2 (by omega) (by omega), ta7.e3 (by omega) (by omega), _, _, rfl, by omega, by omega, ta7.hw (by omega) (by omega), ?_⟩
      intro h12 e12
      have ta12 := ta7.put hal (s6 (nx (2 ^ B) a))
      have f12 : Fr (PQ p q) h (hsets h7 q (0 + a * 4) [.int .u64 (s6 (nx (2 ^ B) a)).h, .int .u64 (s6 (nx (2 ^ B) a)).a, .int .u64 (s6 (nx (2 ^ B) a)).v, .int .u8 (s6 (nx (2 ^ B) a)).k]) := f7.trans (fr_hsets (PQ p q) (fun _ => .inr rfl)) (fun _ _ h => h)
      have o12 := o7.fr (fr_hsets (h := h7) (b := q) (o := 0 + a * 4) (vs := [.int .u64 (s6 (nx (2 ^ B) a)).h, .int .u64 (s6 (nx (2 ^ B) a)).a, .int .u64 (s6 (nx (2 ^ B) a)).v, .int .u8 (s6 (nx (2 ^ B) a)).k]) (PQ p q) (fun _ => .inr rfl)) nO
      have b12 := b7.fr (fr_hsets (h := h7) (b := q) (o := 0 + a * 4) (vs := [.int .u64 (s6 (nx (2 ^ B) a)).h, .int .u64 (s6 (nx (2 ^ B) a)).a, .int .u64 (s6 (nx (2 ^ B) a)).v, .int .u8 (s6 (nx (2 ^ B) a)).k]) (PQ p q) (fun _ => .inr rfl)) nN
      have e12' : h12 = hsets h7 q (0 + a * 4) [.int .u64 (s6 (nx (2 ^ B) a)).h, .int .u64 (s6 (nx (2 ^ B) a)).a, .int .u64 (s6 (nx (2 ^ B) a)).v, .int .u8 (s6 (nx (2 ^ B) a)).k] := e12
      clear e12
      rw [← e12'] at ta12 f12 o12 b12
      clear e12'
      refine ⟨⟨_, rfl, _, _, ta12, r.move rfl hb2 hB ho6 hd6, o12, b12, f12⟩, ?_⟩
      exact df_step hz hal (Ne.symm r.z_ne)
end
end Go.Proofs.Ytkecmljalcfhoaa
namespace Go.Proofs.Ytkecmljalcfhoaa
open Go RH
def eEnt : Elt Ent := ⟨4, fun e => [.int .u64 e.h, .int .u64 e.a, .int .u64 e.v, .int .u8 e.k], fun _ => rfl, fun x v hv => by simp at hv; rcases hv with rfl | rfl | rfl | rfl <;> rfl⟩
theorem aEnt : AppT Try.prog 47 31 eEnt.k 32 := ⟨by kernel_rfl, by kernel_rfl, by kernel_rfl, ⟨.agg #[.int .u64 0, .int .u64 0, .int .u64 0, .int .u8 0], [.int .u64 0, .int .u64 0, .int .u64 0, .int .u8 0], by unfold zeroB; kernel_rfl, rfl, rfl⟩, by decide⟩
instance : Inhabited Ent := ⟨z0⟩
theorem Sl.set1 {α : Type} {E : Elt α} {h : Heap} {b o c : Nat} {L : List α} {T : TypeId} {N : Nat} (s : Sl E h (some ⟨b, o, none⟩) c L) (w : Own E.k T N h (some ⟨b, o, none⟩) c) {i r : Nat} {x x' : α} {v : Value} (hx : L[i]? = some x) (hr : r < E.k) (he : E.enc x' = (E.enc x).set r v) :
    Sl E (hset h b (o + i * E.k + r) v) (some ⟨b, o, none⟩) c (L.set i x') := by
  obtain ⟨cs, hrow, hcs, _⟩ := w.row
  have hi := (List.getElem?_eq_some_iff.1 hx).1
  have hle := s.le
  have f1 : (i + 1) * E.k ≤ c * E.k := Nat.mul_le_mul_right _ (by omega)
  rw [Nat.add_mul] at f1
  have hat : hcell (hset h b (o + i * E.k + r) v) b (o + i * E.k + r) = some v := by
    have hb : o + i * E.k + r < cs.size := by omega
    rw [hcell_row (hset_row hrow), Array.getElem?_setIfInBounds]; simp [hb]
  refine ⟨by simpa using s.le, .inr ⟨b, o, rfl, fun j y hy => ?_⟩⟩
  rw [List.getElem?_set] at hy
  split at hy
  · rename_i hij
    subst hij
    cases hy
    obtain ⟨b', o', e, hc⟩ := s.at hx
    cases e
    refine HCells.mk fun q u hu => ?_
    rw [he, List.getElem?_set] at hu
    split at hu
    · rename_i hq
      subst hq
      rw [if_pos (by rw [E.len]; exact hr)] at hu
      cases hu; exact hat
    · rename_i hq
      rw [hcell_hset_ne (by omega)]
      exact hc.get hu
  · rename_i hij
    obtain ⟨b', o', e, hc⟩ := s.at hy
    cases e
    refine HCells.mk fun q u hu => ?_
    have hq := (List.getElem?_eq_some_iff.1 hu).1
    rw [E.len] at hq
    rw [hcell_hset_ne ?_]
    · exact hc.get hu
    · rcases Nat.lt_or_gt_of_ne hij with g | g
      · have : (i + 1) * E.k ≤ j * E.k := Nat.mul_le_mul_right _ g
        rw [Nat.add_mul] at this; omega
      · have : (j + 1) * E.k ≤ i * E.k := Nat.mul_le_mul_right _ g
        rw [Nat.add_mul] at this; omega
theorem pos_ex : ∀ {L : List Ent}, Srt L → ∀ v : Nat, ∃ i is, Pos L v i is
  | [], _, v => ⟨0, false, by simp, by simp, by simp, by simp, by simp⟩
  | e :: L, hL, v => by
    have l1 := List.pairwise_cons.1 hL
    rcases Nat.lt_trichotomy e.h v with g | g | g
    · obtain ⟨i, is, p⟩ := pos_ex l1.2 v
      refine ⟨i + 1, is, by simpa using p.le, fun y hy => ?_, fun y hy => p.hi y (by simpa using hy), fun q => by simpa using p.yes q, fun q y hy => ?_⟩
      · rcases List.mem_cons.1 (by simpa using hy) with r | r
        · rw [r]; exact g
        · exact p.lo y r
      · rcases List.mem_cons.1 hy with r | r
        · rw [r]; omega
        · exact p.no q y r
    · refine ⟨0, true, by simp, by simp, fun y hy => ?_, fun _ => ⟨e, by simp, g⟩, fun q => by cases q⟩
      rcases List.mem_cons.1 (by simpa using hy) with r | r
      · rw [r]; omega
      · have := l1.1 y r; omega
    · refine ⟨0, false, by simp, by simp, fun y hy => ?_, (fun q => by cases q), fun _ y hy => ?_⟩
      · rcases List.mem_cons.1 (by simpa using hy) with r | r
        · rw [r]; omega
        · have := l1.1 y r; omega
      · rcases List.mem_cons.1 hy with r | r
        · rw [r]; omega
        · have := l1.1 y r; omega
theorem kp_of {bs : List Nat} {h0 h h' : Heap} (e : Ext h0 h) (e' : Ext h0 h') (hb : ∀ b ∈ bs, b < h0.size) : Kp bs h h' :=
  fun b hm _ => (e'.block b (hb b hm)).trans (e.block b (hb b hm)).symm
theorem fit_fr (S : Nat → Prop) : Fit (Fr S) := ⟨fun _ _ x => x.fr S, fun _ _ _ f g => f.trans g fun _ _ h => h⟩
theorem ent_lit {nb : Nat} {h h' : Heap} (eb : nb = h.size) (eh : h' = h.push (.cells #[] 31)) : Sl eEnt h' (some ⟨nb, 0, none⟩) 0 [] ∧ Own eEnt.k 31 h.size h' (some ⟨nb, 0, none⟩) 0 ∧ Ext h h' := by
  obtain ⟨a1, c1, e1, x1, s1, w1⟩ := New.lit (E := eEnt) (h0 := h) (n := 0) (L := ([] : List Ent)) (Ext.refl h) eb eh rfl rfl
  cases e1; exact ⟨s1, w1, x1⟩
theorem EntsAt.set {h : Heap} {b n : Nat} {s : RH.Sl} (x : EntsAt h b n s) {j : Nat} (hj : j < n) (e : Ent) :
    HWs h b (0 + j * 4) 4 ∧ EntsAt (hsets h b (0 + j * 4) [.int .u64 e.h, .int .u64 e.a, .int .u64 e.v, .int .u8 e.k]) b n (stt s j e) := by
  obtain ⟨c, r, hl, he⟩ := x
  exact ⟨HWs_row r (by omega), _, hsets_row _ r, by rw [sets_size]; exact hl, ents_set hl he hj e⟩
theorem EntsAt.fr {h h' : Heap} {S : Nat → Prop} (f : Fr S h h') {b n : Nat} {s : RH.Sl} (hn : ¬ S b) : EntsAt h b n s → EntsAt h' b n s := fun ⟨c, h1, h2⟩ => ⟨c, f.row h1 hn, h2⟩
theorem EntsAt.sl {h : Heap} {b n c : Nat} {s : RH.Sl} (x : EntsAt h b n s) (hc : n ≤ c) : Sl eEnt h (some ⟨b, 0, none⟩) c (lay n s) := by
  obtain ⟨cs, r, hl, he⟩ := x
  refine ⟨by rw [lay_len]; exact hc, .inr ⟨b, 0, rfl, fun i y hy => ?_⟩⟩
  have hi : i < n := by have := (List.getElem?_eq_some_iff.1 hy).1; rwa [lay_len] at this
  rw [lay_get _ _ hi] at hy
  cases hy
  have e := he i hi
  have e0 : 0 + i * 4 = i * 4 := by omega
  have q0 : hcell h b (0 + i * 4) = some (.int .u64 (s i).h) := by rw [hcell_row r, e0]; exact e.c0
  have q1 : hcell h b (0 + i * 4 + 1) = some (.int .u64 (s i).a) := by rw [hcell_row r, e0]; exact e.c1
  have q2 : hcell h b (0 + i * 4 + 1 + 1) = some (.int .u64 (s i).v) := by rw [hcell_row r, e0]; exact e.c2
  have q3 : hcell h b (0 + i * 4 + 1 + 1 + 1) = some (.int .u8 (s i).k) := by rw [hcell_row r, e0]; exact e.c3
  exact ⟨q0, q1, q2, q3, trivial⟩
theorem app_at {α : Type} {E : Elt α} {T : TypeId} {N : Nat} {h : Heap} {a : Option Addr} {c : Nat} {L : List α} {P : Program} {t : TypeId} {by_ : Nat} (A : AppT P t T E.k by_) {n n2 : Nat}
    {a2 : Option Addr} {c2 : Nat} {L2 : List α} (s : Sl E h a c L) (w : Own E.k T N h a c) (hn : n = L.length) (s2 : Sl E h a2 c2 L2) (hn2 : n2 = L2.length) (hN : N ≤ h.size) (hsz : (n + n2) * by_ ≤ 140737488355328) {K : Value → Heap → Prop}
    (hk : ∀ a' c' h', Fr (blkA a) h h' → Sl E h' a' c' (L ++ L2) → Own E.k T N h' a' c' → (∀ b, blkA a' b → blkA a b ∨ h.size ≤ b) → K (.slice a' (n + n2) c') h') :
    HAppend P t t (.slice a n c) (.slice a2 n2 c2) h K := by
  subst hn; subst hn2; exact app_sl A s w s2 hN hsz hk
end Go.Proofs.Ytkecmljalcfhoaa
namespace Go.Proofs.Ytkecmljalcfhoaa
open Go Go.Shelf Go.Proofs
def Lay.sortMt_ren : Go.Shelf.Ren := ⟨fun | 6 => 59 | 15 => 72 | 14 => 71 | 28 => 82 | 29 => 83 | 20 => 74 | 21 => 75 | 22 => 76 | 23 => 77 | 24 => 78 | 25 => 79 | 26 => 80 | 27 => 81 | 46 => 84 | 47 => 85 | 48 => 86 | 49 => 87 | 50 => 88 | 57 => 89 | n => n, fun | 22 => 47 | 24 => 31 | 25 => 96 | 3 => 3 | 39 => 52 | 0 => 0 | 53 => 111 | 55 => 29 | 4 => 4 | 46 => 104 | 45 => 103 | 50 => 108 | 5 => 5 | 9 => 9 | 66 => 112 | 70 => 116 | 76 => 118 | 77 => 119 | n => n, fun | n => n⟩
theorem Lay.sortMt : Go.Proofs.SlLaysF0.n6 Try.prog Lay.sortMt_ren := {
  mixed := by kernel_rfl,
  f6 := ⟨Try.f59.name, by decide, Try.func59.trans (congrArg some (by kernel_rfl))⟩,
  f14 := ⟨Try.f71.name, by decide, Try.func71.trans (congrArg some (by kernel_rfl))⟩,
  f15 := Try.func72.trans (congrArg some (by kernel_rfl)),
  f20 := ⟨Try.f74.name, by decide, Try.func74.trans (congrArg some (by kernel_rfl))⟩,
  f21 := ⟨Try.f75.name, by decide, Try.func75.trans (congrArg some (by kernel_rfl))⟩,
  f22 := ⟨Try.f76.name, by decide, Try.func76.trans (congrArg some (by kernel_rfl))⟩,
  f23 := ⟨Try.f77.name, by decide, Try.func77.trans (congrArg some (by kernel_rfl))⟩,
  f24 := ⟨Try.f78.name, by decide, Try.func78.trans (congrArg some (by kernel_rfl))⟩,
  f25 := ⟨Try.f79.name, by decide, Try.func79.trans (congrArg some (by kernel_rfl))⟩,
  f26 := ⟨Try.f80.name, by decide, Try.func80.trans (congrArg some (by kernel_rfl))⟩,
  f27 := ⟨Try.f81.name, by decide, Try.func81.trans (congrArg some (by kernel_rfl))⟩,
  f28 := Try.func82.trans (congrArg some (by kernel_rfl)),
  f29 := Try.func83.trans (congrArg some (by kernel_rfl)),
  f46 := ⟨Try.f84.name, by decide, Try.func84.trans (congrArg some (by kernel_rfl))⟩,
  f47 := Try.func85.trans (congrArg some (by kernel_rfl)),
  f48 := Try.func86.trans (congrArg some (by kernel_rfl)),
  f49 := ⟨Try.f87.name, by decide, Try.func87.trans (congrArg some (by kernel_rfl))⟩,
  f50 := ⟨Try.f88.name, by decide, Try.func88.trans (congrArg some (by kernel_rfl))⟩,
  f57 := ⟨Try.f89.name, by decide, Try.func89.trans (congrArg some (by kernel_rfl))⟩,
  t0 := Try.underlying0,
  a0 := Try.isAgg0,
  z0 := Try.sizeOf0,
  v0 := Try.zeroValue0,
  t3 := Try.underlying3,
  a3 := Try.isAgg3,
  z3 := Try.sizeOf3,
  v3 := Try.zeroValue3,
  t4 := Try.underlying4,
  a4 := Try.isAgg4,
  z4 := Try.sizeOf4,
  v4 := Try.zeroValue4,
  t5 := Try.underlying5,
  a5 := Try.isAgg5,
  z5 := Try.sizeOf5,
  v5 := Try.zeroValue5,
  t9 := Try.underlying9,
  a9 := Try.isAgg9,
  z9 := Try.sizeOf9,
  v9 := Try.zeroValue9,
  t22 := Try.underlying47,
  a22 := Try.isAgg47,
  z22 := Try.sizeOf47,
  v22 := Try.zeroValue47,
  t25 := Try.underlying96,
  a25 := Try.isAgg96,
  z25 := Try.sizeOf96,
  v25 := Try.zeroValue96,
  t39 := Try.underlying52,
  a39 := Try.isAgg52,
  z39 := Try.sizeOf52,
  v39 := Try.zeroValue52,
  t45 := Try.underlying103,
  a45 := Try.isAgg103,
  z45 := Try.sizeOf103,
  v45 := Try.zeroValue103,
  t46 := Try.underlying104,
  a46 := Try.isAgg104,
  z46 := Try.sizeOf104,
  v46 := Try.zeroValue104,
  t50 := Try.underlying108,
  a50 := Try.isAgg108,
  z50 := Try.sizeOf108,
  v50 := Try.zeroValue108,
  t53 := Try.underlying111,
  a53 := Try.isAgg111,
  z53 := Try.sizeOf111,
  v53 := Try.zeroValue111,
  t55 := Try.underlying29,
  a55 := Try.isAgg29,
  z55 := Try.sizeOf29,
  v55 := Try.zeroValue29,
  t66 := Try.underlying112,
  a66 := Try.isAgg112,
  z66 := Try.sizeOf112,
  v66 := Try.zeroValue112,
  t70 := Try.underlying116,
  a70 := Try.isAgg116,
  z70 := Try.sizeOf116,
  v70 := Try.zeroValue116,
  t76 := Try.underlying118,
  a76 := Try.isAgg118,
  z76 := Try.sizeOf118,
  v76 := Try.zeroValue118,
  t77 := Try.underlying119,
  a77 := Try.isAgg119,
  z77 := Try.sizeOf119,
  v77 := Try.zeroValue119 }
end Go.Proofs.Ytkecmljalcfhoaa
namespace Go.Proofs.Ytkecmljalcfhoaa
open Go RH
theorem isNaN_c (x : Int) (h : Heap) : HC Try.prog 73 #[.int .u64 x] h fun v h' => v = .bool false ∧ Ext h h' :=
  f73_sh _ _ _ ⟨by simp, Ext.refl _⟩
def ucmp (x y : Int) : Int := if x < y then -1 else if y < x then 1 else 0
end Go.Proofs.Ytkecmljalcfhoaa
namespace Go.Proofs.Ytkecmljalcfhoaa
open Go
open Go.Proofs.Ytkecmljalcfhoaa renaming hl_val → lv, hl_step → lp, hl_nil → ln, hx_seq → xs, hx_region → xr, hx_cond → xc, hx_skip → xi, hx_ret → xt, seqQ_n → qn, seqQ_ret → qr, hv_move → vm, hv_assign → va, hv_arith → vr, hs_call → sc
set_option maxRecDepth 100000
set_option maxHeartbeats 4000000
theorem TyShS.cb73 : CallB Try.prog 73 := fun _ _ => Try.call73 _ _
theorem f61_sh (x : Int) (y : Int) (h : Heap) (R : Value → Heap → Prop)
  (H : (((decide (x < y)) = true → (∀ (h2 : Heap), Ext h h2 → R (.int .i64 (-1)) h2)) ∧ ((decide (x < y)) = false → (((decide (x > y)) = true → (∀ (h2 : Heap), Ext h h2 → R (.int .i64 1) h2)) ∧ ((decide (x > y)) = false → (∀ (h2 : Heap), Ext h h2 → R (.int .i64 0) h2)))))) :
  HC Try.prog 61 #[(.int .u64 x), (.int .u64 y)] h R := by
 refine hc_of (args := [(.int .u64 x), (.int .u64 y)]) Try.func61 rfl Try.ntmps61 (Nat.le_of_ble_eq_true rfl) ?_
 refine xs (xr ?_)
 refine lv rfl rfl (va rfl) ?_
 refine ln (qn (xs (xr ?_)))
 refine lv rfl rfl (vm rfl) ?_
 refine lp rfl rfl (sc TyShS.cb73 rfl (HC.mono (isNaN_c x _) ?_))
 rintro _ h1 ⟨rfl, a4⟩
 refine lv rfl rfl (va rfl) ?_
 refine ln (qn (xs (xr ?_)))
 refine lv rfl rfl (vm rfl) ?_
 refine lp rfl rfl (sc TyShS.cb73 rfl (HC.mono (isNaN_c y _) ?_))
 rintro _ h2 ⟨rfl, a3⟩
 have a0 := Ext.trans a4 a3
 refine lv rfl rfl (va rfl) ?_
 refine ln (qn (xs (xs (xr ?_))))
 refine lv rfl rfl (vm rfl) ?_
 refine ln (qn ?_)
 refine xc (b := false) rfl (fun hb => by cases hb) (fun _ => ?_)
 refine xi (qn (xs (xs (xr ?_))))
 refine lv rfl rfl (vm rfl) ?_
 refine ln (qn ?_)
 refine xc (b := false) rfl (fun hb => by cases hb) (fun _ => ?_)
 refine xi (qn (xs (xs (xr ?_))))
 refine lv rfl rfl (vm rfl) (lv rfl rfl (vm rfl) (lv rfl rfl (vr rfl rfl rfl) ?_))
 refine ln (qn ?_)
 refine xc (b := decide (x < y)) rfl (fun a2 => ?_) (fun a2 => ?_)
 ·replace H := H.1 a2
  refine xs (xr ?_)
  refine lv rfl rfl (va rfl) ?_
  refine ln (qn (xt (qr ?_)))
  replace H := H h2 a0
  exact endQ_ret _ (res_one Try.results61 (rv_tmp rfl)) H
 ·replace H := H.2 a2
  refine xi (qn (xs (xs (xr ?_))))
  refine lv rfl rfl (vm rfl) (lv rfl rfl (vm rfl) (lv rfl rfl (vr rfl rfl rfl) ?_))
  refine ln (qn ?_)
  refine xc (b := decide (x > y)) rfl (fun a1 => ?_) (fun a1 => ?_)
  ·replace H := H.1 a1
   refine xs (xr ?_)
   refine lv rfl rfl (va rfl) ?_
   refine ln (qn (xt (qr ?_)))
   replace H := H h2 a0
   exact endQ_ret _ (res_one Try.results61 (rv_tmp rfl)) H
  ·replace H := H.2 a1
   refine xi (qn (xs (xr ?_)))
   refine lv rfl rfl (va rfl) ?_
   refine ln (qn (xt ?_))
   replace H := H h2 a0
   exact endQ_ret _ (res_one Try.results61 (rv_tmp rfl)) H
end Go.Proofs.Ytkecmljalcfhoaa
namespace Go.Proofs.Ytkecmljalcfhoaa
open Go RH
theorem cmpU_c (x y : Int) (h : Heap) : HC Try.prog 61 #[.int .u64 x, .int .u64 y] h fun v h' => v = .int .i64 (ucmp x y) ∧ Ext h h' := by
  unfold ucmp
  refine f61_sh _ _ _ _ ⟨fun e _ x => ⟨?_, x⟩, fun e => ⟨fun e2 _ x => ⟨?_, x⟩, fun e2 _ x => ⟨?_, x⟩⟩⟩
  · rw [if_pos (of_decide_eq_true e)]
  · rw [if_neg (of_decide_eq_false e), if_pos (of_decide_eq_true e2)]
  · rw [if_neg (of_decide_eq_false e), if_neg (of_decide_eq_false e2)]
end Go.Proofs.Ytkecmljalcfhoaa
namespace Go.Proofs.Ytkecmljalcfhoaa
open Go
open Go.Proofs.Ytkecmljalcfhoaa renaming hl_val → lv, hl_step → lp, hl_nil → ln, hx_seq → xs, hx_region → xr, hx_ret → xt, seqQ_n → qn, hv_assign → va, hv_load → vl, hv_field → vf, rowcell → rc, hs_call → sc
set_option maxRecDepth 100000
set_option maxHeartbeats 4000000
theorem TyShT.agg29 : aggB Try.prog 29 = some false := by kernel_rfl
theorem TyShT.cb61 : CallB Try.prog 61 := fun _ _ => Try.call61 _ _
theorem TyShT.fld31_0 : fldB Try.prog 31 0 = some 0 := by kernel_rfl
theorem ext_pushed_f60_sh {h h1 : Heap} {o : Obj} (e : h1 = Array.push h o) : Ext h h1 := by rw [e]; exact Ext.push _ _
theorem f60_sh (a1 : Int) (a7 : Int) (a2 : Int) (a5 : Int) (a0 : Int) (a8 : Int) (a3 : Int) (a4 : Int) (h : Heap) (R : Value → Heap → Prop)
  (H : (∀ (h3 : Heap), Ext h h3 → R (.int .i64 (ucmp a1 a0)) h3)) :
  HC Try.prog 60 #[(.agg #[(.int .u64 a1), (.int .u64 a7), (.int .u64 a2), (.int .u8 a5)]), (.agg #[(.int .u64 a0), (.int .u64 a8), (.int .u64 a3), (.int .u8 a4)])] h R := by
 refine hc_of (args := [(.agg #[(.int .u64 a1), (.int .u64 a7), (.int .u64 a2), (.int .u8 a5)]), (.agg #[(.int .u64 a0), (.int .u64 a8), (.int .u64 a3), (.int .u8 a4)])]) Try.func60 rfl Try.ntmps60 (Nat.le_of_ble_eq_true rfl) ?_
 refine xs (xr ?_)
 refine lp rfl rfl (hn_box (v := (.agg #[(.int .u64 a1), (.int .u64 a7), (.int .u64 a2), (.int .u8 a5)])) rfl ?_)
 intro a h1 b4 b6
 have b2 := ext_pushed_f60_sh b6
 have c1 : Array.size h ≤ a := Nat.le_of_eq (Eq.symm b4)
 have a6 : h1[a]? = some (.cells #[(.int .u64 a1), (.int .u64 a7), (.int .u64 a2), (.int .u8 a5)] 31 (0, 0)) := by rw [b6]; exact push_new b4
 refine lp rfl rfl (hn_box (v := (.agg #[(.int .u64 a0), (.int .u64 a8), (.int .u64 a3), (.int .u8 a4)])) rfl ?_)
 intro b h2 b1 b3
 have b5 := ext_pushed_f60_sh b3
 have c0 := Nat.ne_of_lt (Nat.lt_of_lt_of_eq (row_lt a6) (Eq.symm b1))
 have b9 : Array.size h ≤ b := Nat.le_trans (Ext.size b2) (Nat.le_of_eq (Eq.symm b1))
 have b0 : h2[b]? = some (.cells #[(.int .u64 a0), (.int .u64 a8), (.int .u64 a3), (.int .u8 a4)] 31 (0, 0)) := by rw [b3]; exact push_new b1
 replace a6 := Ext.row b5 a6
 have b8 := Ext.trans b2 b5
 refine lv rfl rfl (va rfl) ?_
 refine ln (qn (xs (xr ?_)))
 refine lv rfl rfl (v := (ptr a 0)) (vf TyShT.fld31_0 (b := a) (o := 0) rfl) (lv rfl rfl (vl TyShT.agg29 rfl (rc a6 rfl)) (lv rfl rfl (v := (ptr b 0)) (vf TyShT.fld31_0 (b := b) (o := 0) rfl) (lv rfl rfl (vl TyShT.agg29 rfl (rc b0 rfl)) ?_)))
 refine lp rfl rfl (sc TyShT.cb61 rfl (HC.mono (cmpU_c a1 a0 _) ?_))
 rintro _ h3 ⟨rfl, a9⟩
 replace a6 := Ext.row a9 a6
 replace b0 := Ext.row a9 b0
 have b7 := Ext.trans b8 a9
 refine lv rfl rfl (va rfl) ?_
 refine ln (qn (xt ?_))
 replace H := H h3 b7
 exact endQ_ret _ (res_one Try.results60 (rv_tmp rfl)) H
end Go.Proofs.Ytkecmljalcfhoaa
namespace Go.Proofs.Ytkecmljalcfhoaa
open Go
open Go.Proofs.Ytkecmljalcfhoaa renaming hl_val → lv, hl_step → lp, hl_nil → ln, hx_seq → xs, hx_region → xr, hx_cond → xc, hx_block → xb, hx_loopT → xl, hx_cut → xk, hx_has → xh, hx_skip → xi, hx_ret → xt, hx_exit → xe, seqQ_n → qn, seqQ_ret → qr, seqQ_exit → qe, blockQ_n → bn, blockQ_ret → br, blockQ_here → bh, hv_move → vm, hv_assign → va, hv_arith → vr, hv_load → vl, hv_loads → vL, hv_field → vf, hv_index → vi, has_cons → hc, has_nil → hn, hcells_cons → cc, hcells_nil → cn, rowcell → rc, hs_call → sc
set_option maxRecDepth 100000
set_option maxHeartbeats 4000000
theorem TyShQ.agg31 : aggB Try.prog 31 = some true := by kernel_rfl
theorem TyShQ.agg70 : aggB Try.prog 70 = some false := by kernel_rfl
theorem TyShQ.cb56 : CallB Try.prog 56 := fun _ _ => Try.call56 _ _
theorem TyShQ.cb57 : CallB Try.prog 57 := fun _ _ => Try.call57 _ _
theorem TyShQ.cb59 : CallB Try.prog 59 := fun _ _ => Try.call59 _ _
theorem TyShQ.cb70 : CallB Try.prog 70 := fun _ _ => Try.call70 _ _
theorem TyShQ.el47 : elB Try.prog 47 = some 4 := by kernel_rfl
theorem TyShQ.sz31 : szB Try.prog 31 = some 4 := by kernel_rfl
theorem TyShQ.u47 : Try.prog.underlying 47 = some (.slice 31) := by kernel_rfl
theorem TyShQ.z31 : zeroB Try.prog 31 (.agg #[(.int .u64 0), (.int .u64 0), (.int .u64 0), (.int .u8 0)]) := by unfold zeroB; kernel_rfl
theorem ext_pushed_f45_sh {h h1 : Heap} {o : Obj} (e : h1 = Array.push h o) : Ext h h1 := by rw [e]; exact Ext.push _ _
theorem f56_sh (sv : Option Addr) (a1 : Nat) (a4 : Nat) (a9 : Value) (h : Heap) (R : Value → Heap → Prop)
  (H : HC Try.prog 70 #[(.slice sv a1 a4), a9] h (fun vv h1 => ∃ r : Int, vv = (.int .i64 r) ∧ (((r == (-1)) = true → R (.slice sv a1 a4) h1) ∧ ((r == (-1)) = false → (∃ (I2 : Int → Int → Heap → Prop) (b5 : Int → Int → Heap → Nat), I2 r (IntKind.i64.wrap (r + 1)) h1 ∧ (∀ (i : Int) (j : Int) (h2 : Heap), I2 i j h2 → (((decide (j < (a1 : Int))) = true → (∃ b3 : Int → Heap → Prop, (∃ a7 a8 : Nat, sv = some ⟨a7, a8, none⟩ ∧ (0 : Int) ≤ j ∧ j < (a1 : Int) ∧ (∃ a2 a5 a0 a3 : Int, hcell h2 a7 (a8 + (Int.toNat j) * 4) = some (.int .u64 a2) ∧ hcell h2 a7 ((a8 + (Int.toNat j) * 4) + 1) = some (.int .u64 a5) ∧ hcell h2 a7 ((a8 + (Int.toNat j) * 4) + 2) = some (.int .u64 a0) ∧ hcell h2 a7 ((a8 + (Int.toNat j) * 4) + 3) = some (.int .u8 a3) ∧ (∀ (v : Nat) (h5 : Heap), Array.size h2 ≤ v → v < Array.size h5 → Ext h2 h5 → HCV Try.prog a9 [(.agg #[(.int .u64 a2), (.int .u64 a5), (.int .u64 a0), (.int .u8 a3)])] h5 (fun vv h6 => Kp [v] h5 h6 ∧ ∃ b2 : Bool, vv = (.bool b2) ∧ (((!b2) = true → ((0 : Int) ≤ i ∧ i < (a1 : Int) ∧ (HWs h6 a7 (a8 + (Int.toNat i) * 4) 4 ∧ ∀ h7, h7 = hsets h6 a7 (a8 + (Int.toNat i) * 4) [(.int .u64 a2), (.int .u64 a5), (.int .u64 a0), (.int .u8 a3)] → (b3 (IntKind.i64.wrap (i + 1)) h7)))) ∧ ((!b2) = false → (b3 i h6))))))) ∧ (∀ (b0 : Int) (h3 : Heap), b3 b0 h3 → (I2 b0 (IntKind.i64.wrap (j + 1)) h3 ∧ b5 b0 (IntKind.i64.wrap (j + 1)) h3 < b5 i j h2)))) ∧ ((decide (j < (a1 : Int))) = false → (0 ≤ (i : Int) ∧ i ≤ (a1 : Int) ∧ (a1 : Int) ≤ (a4 : Int) ∧ ∀ sl : Option Addr, sl = slA sv (Int.toNat i) 4 a4 → (((Int.toNat (a1 : Int) - Int.toNat i) ≠ 0 → ∃ cb co : Nat, sl = some ⟨cb, co, none⟩ ∧ HWs h2 cb co ((Int.toNat (a1 : Int) - Int.toNat i) * 4)) ∧ ∀ h8, ((Int.toNat (a1 : Int) - Int.toNat i) = 0 → h8 = h2) → (∀ cb co : Nat, (Int.toNat (a1 : Int) - Int.toNat i) ≠ 0 → sl = some ⟨cb, co, none⟩ → h8 = hsets h2 cb co (zcells [(.int .u64 0), (.int .u64 0), (.int .u64 0), (.int .u8 0)] (Int.toNat (a1 : Int) - Int.toNat i))) → (0 ≤ ((0 : Int) : Int) ∧ (0 : Int) ≤ i ∧ i ≤ (a4 : Int) ∧ ∀ b1 : Option Addr, b1 = slA sv (Int.toNat 0) 4 a4 → R (.slice b1 (Int.toNat i - Int.toNat 0) (a4 - Int.toNat 0)) h8))))))))))) :
  HC Try.prog 56 #[(.slice sv a1 a4), a9] h R := by
 refine hc_of (args := [(.slice sv a1 a4), a9]) Try.func56 rfl Try.ntmps56 (Nat.le_of_ble_eq_true rfl) ?_
 refine xs (xr ?_)
 refine lv rfl rfl (va rfl) ?_
 refine ln (qn (xs (xr ?_)))
 refine lv rfl rfl (vm rfl) (lv rfl rfl (vm rfl) ?_)
 refine lp rfl rfl (sc TyShQ.cb70 rfl (HC.mono H ?_))
 rintro _ h1 ⟨r, rfl, H⟩
 refine lv rfl rfl (va rfl) ?_
 refine ln (qn (xs (xs (xr ?_))))
 refine lv rfl rfl (vm rfl) (lv rfl rfl (vr rfl rfl rfl) ?_)
 refine ln (qn ?_)
 refine xc (b := r == (-1)) rfl (fun c3 => ?_) (fun c3 => ?_)
 ·replace H := H.1 c3
  refine xs (xr ?_)
  refine lv rfl rfl (vm rfl) (lv rfl rfl (va rfl) ?_)
  refine ln (qn (xt (qr ?_)))
  exact endQ_ret _ (res_one Try.results56 (rv_tmp rfl)) H
 ·replace H := H.2 c3
  refine xi (qn (xs (xs (xr ?_))))
  refine lv rfl rfl (vm rfl) (lv rfl rfl (vr rfl rfl rfl) (lv rfl rfl (va rfl) ?_))
  refine ln (qn (xb ?_))
  obtain ⟨I2, b5, f0, e8⟩ := H
  refine xl (σ := Int × Int) (fun s => [(0, (.slice sv a1 a4)), (1, a9), (5, (.int .i64 s.1)), (6, (.int .i64 s.2))]) (fun s h' => I2 s.1 s.2 h' ∧ True) (fun s h' => b5 s.1 s.2 h') (r, IntKind.i64.wrap (r + 1)) ⟨f0, trivial⟩ (hc rfl (hc rfl (hc rfl (hc rfl hn)))) ?_
  rintro ⟨i, j⟩ ρ h2 ⟨f1, -⟩
  have H := e8 i j h2 f1
  refine xs (xs (xr ?_))
  refine lv rfl rfl (vm rfl) (lv rfl rfl (vm rfl) (lv rfl rfl (v := (.int .i64 (a1 : Int))) (hv_len (n := a1) TyShQ.u47 rfl) (lv rfl rfl (vr rfl rfl rfl) ?_)))
  refine ln (qn ?_)
  refine xc (b := decide (j < (a1 : Int))) rfl (fun c2 => ?_) (fun c2 => ?_)
  ·replace H := H.1 c2
   refine xi (qn ?_)
   obtain ⟨b3, c4, b8⟩ := H
   refine xk (fun ρ h' => ∃ b0 : Int, (b3 b0 h' ∧ True) ∧ Has ρ [(0, (.slice sv a1 a4)), (1, a9), (5, (.int .i64 b0)), (6, (.int .i64 j))]) ?_ ?_
   ·have H := c4; clear c4 b8
    refine xb (xs (xr ?_))
    refine lv rfl rfl (vm rfl) (lv rfl rfl (vm rfl) ?_)
    obtain ⟨a7, a8, e9, d8, d2, Hq⟩ := H
    subst e9
    have H := Hq; clear Hq
    refine lv rfl rfl (v := (ptr a7 (a8 + (Int.toNat j) * 4))) (vi TyShQ.el47 rfl rfl d8 d2) ?_
    obtain ⟨a2, a5, a0, a3, c5, c7, c8, d5, H⟩ := H
    refine lv rfl rfl (vL (vs := [(.int .u64 a2), (.int .u64 a5), (.int .u64 a0), (.int .u8 a3)]) TyShQ.agg31 TyShQ.sz31 rfl (cc c5 (cc c7 (cc c8 (cc d5 cn))))) ?_
    refine lp rfl rfl (hn_alloc TyShQ.z31 ?_)
    intro v h4 b6 b7
    have e1 := ext_pushed_f45_sh b7
    have c1 : Array.size h2 ≤ v := Nat.le_of_eq (Eq.symm b6)
    have c0 : h4[v]? = some (.cells #[(.int .u64 0), (.int .u64 0), (.int .u64 0), (.int .u8 0)] 31 (0, 0)) := by rw [b7]; exact push_new b6
    refine lp rfl rfl (hn_stores (vs := [(.int .u64 a2), (.int .u64 a5), (.int .u64 a0), (.int .u8 a3)]) rfl rfl TyShQ.sz31 rfl (HWs_row c0 (by simp)) ?_)
    intro h5 b9
    have a6 : h5[v]? = some (.cells #[(.int .u64 a2), (.int .u64 a5), (.int .u64 a0), (.int .u8 a3)] 31 (0, 0)) := row_hsets_eq b9 c0 rfl
    have e2 := ext_hsets b9 e1 c1
    refine ln (qn (xs (xr ?_)))
    refine lv rfl rfl (vm rfl) (lv rfl rfl (vL (vs := [(.int .u64 a2), (.int .u64 a5), (.int .u64 a0), (.int .u8 a3)]) TyShQ.agg31 TyShQ.sz31 rfl (cc (rc a6 rfl) (cc (rc a6 rfl) (cc (rc a6 rfl) (cc (rc a6 rfl) cn))))) ?_)
    replace H := H v h5 c1 (row_lt a6) e2
    refine lp rfl rfl (hs_callF (vs := [(.agg #[(.int .u64 a2), (.int .u64 a5), (.int .u64 a0), (.int .u8 a3)])]) rfl rfl (HCV.mono H ?_))
    rintro _ h6 ⟨d7, b2, rfl, H⟩
    replace a6 := Kp.row d7 (by simp) a6
    refine lv rfl rfl (v := (.bool (!b2))) (hv_not (b := b2) rfl) ?_
    refine ln (qn ?_)
    refine xc (b := !b2) rfl (fun b4 => ?_) (fun b4 => ?_)
    ·replace H := H.1 b4
     refine xs (xr ?_)
     refine lv rfl rfl (vm rfl) (lv rfl rfl (vm rfl) (lv rfl rfl (vL (vs := [(.int .u64 a2), (.int .u64 a5), (.int .u64 a0), (.int .u8 a3)]) TyShQ.agg31 TyShQ.sz31 rfl (cc (rc a6 rfl) (cc (rc a6 rfl) (cc (rc a6 rfl) (cc (rc a6 rfl) cn))))) ?_))
     obtain ⟨d3, e5, H⟩ := H
     refine lv rfl rfl (v := (ptr a7 (a8 + (Int.toNat i) * 4))) (vi TyShQ.el47 rfl rfl d3 e5) ?_
     obtain ⟨e4, H⟩ := H
     refine lp rfl rfl (hn_stores (vs := [(.int .u64 a2), (.int .u64 a5), (.int .u64 a0), (.int .u8 a3)]) rfl rfl TyShQ.sz31 rfl e4 ?_)
     intro h7 e6
     replace H := H h7 e6
     refine ln (qn (xr ?_))
     refine lv rfl rfl (vm rfl) (lv rfl rfl (vr rfl rfl rfl) (lv rfl rfl (va rfl) ?_))
     refine ln (bn (qn ?_))
     exact ⟨_, ⟨H, trivial⟩, (hc rfl (hc rfl (hc rfl (hc rfl hn))))⟩
    ·replace H := H.2 b4
     refine xi (bn (qn ?_))
     exact ⟨_, ⟨H, trivial⟩, (hc rfl (hc rfl (hc rfl (hc rfl hn))))⟩
   ·rintro ρ h3 ⟨b0, ⟨e7, -⟩, hH⟩
    have H := b8 b0 h3 e7; clear c4 b8
    refine xh _ hH ?_
    refine xr ?_
    refine lv rfl rfl (vm rfl) (lv rfl rfl (vr rfl rfl rfl) (lv rfl rfl (va rfl) ?_))
    refine ln (qn ?_)
    exact ⟨(b0, IntKind.i64.wrap (j + 1)), ⟨⟨H.1, trivial⟩, H.2⟩, (hc rfl (hc rfl (hc rfl (hc rfl hn))))⟩
  ·replace H := H.2 c2
   refine xe (qe (qe (bh (qn (xs (xr ?_))))))
   refine lv rfl rfl (vm rfl) (lv rfl rfl (vm rfl) ?_)
   obtain ⟨c6, e3, d1, H⟩ := H
   obtain ⟨sl, hq34⟩ : ∃ q, q = slA sv (Int.toNat i) 4 a4 := ⟨_, rfl⟩
   replace H := H sl hq34
   refine lv rfl rfl (v := (.slice sl (Int.toNat (a1 : Int) - Int.toNat i) (a4 - Int.toNat i))) (hv_slice (l := i) (r := (a1 : Int)) TyShQ.u47 TyShQ.sz31 rfl (sl_some rfl) sh_none c6 e3 d1 hq34) ?_
   obtain ⟨d9, H⟩ := H
   refine lp rfl rfl (hn_clear2 (zs := [(.int .u64 0), (.int .u64 0), (.int .u64 0), (.int .u8 0)]) TyShQ.u47 TyShQ.z31 rfl (by decide) rfl rfl d9 ?_)
   intro h8 d6 d0
   replace H := H h8 d6 d0
   refine ln (qn (xs (xr ?_)))
   refine lv rfl rfl (vm rfl) (lv rfl rfl (vm rfl) ?_)
   obtain ⟨d4, c9, e0, H⟩ := H
   obtain ⟨b1, hq41⟩ : ∃ q, q = slA sv (Int.toNat 0) 4 a4 := ⟨_, rfl⟩
   replace H := H b1 hq41
   refine lv rfl rfl (v := (.slice b1 (Int.toNat i - Int.toNat 0) (a4 - Int.toNat 0))) (hv_slice (l := 0) (r := i) TyShQ.u47 TyShQ.sz31 rfl sl_none (sh_some rfl) d4 c9 e0 hq41) (lv rfl rfl (va rfl) ?_)
   refine ln (qn (xt ?_))
   exact endQ_ret _ (res_one Try.results56 (rv_tmp rfl)) H
theorem f70_sh (sv : Option Addr) (a3 : Nat) (a7 : Nat) (f : Value) (h : Heap) (R : Value → Heap → Prop)
  (H : (∃ (I1 : Int → Heap → Prop) (a9 : Int → Heap → Nat), I1 0 h ∧ (∀ (v : Int) (h1 : Heap), I1 v h1 → (((decide (v < (a3 : Int))) = true → (∃ a4 a5 : Nat, sv = some ⟨a4, a5, none⟩ ∧ (0 : Int) ≤ v ∧ v < (a3 : Int) ∧ (∃ a1 a6 a0 a2 : Int, hcell h1 a4 (a5 + (Int.toNat v) * 4) = some (.int .u64 a1) ∧ hcell h1 a4 ((a5 + (Int.toNat v) * 4) + 1) = some (.int .u64 a6) ∧ hcell h1 a4 ((a5 + (Int.toNat v) * 4) + 2) = some (.int .u64 a0) ∧ hcell h1 a4 ((a5 + (Int.toNat v) * 4) + 3) = some (.int .u8 a2) ∧ HCV Try.prog f [(.agg #[(.int .u64 a1), (.int .u64 a6), (.int .u64 a0), (.int .u8 a2)])] h1 (fun vv h2 => ∃ r : Bool, vv = (.bool r) ∧ ((r = true → R (.int .i64 v) h2) ∧ (r = false → (I1 (IntKind.i64.wrap (v + 1)) h2 ∧ a9 (IntKind.i64.wrap (v + 1)) h2 < a9 v h1))))))) ∧ ((decide (v < (a3 : Int))) = false → R (.int .i64 (-1)) h1))))) :
  HC Try.prog 70 #[(.slice sv a3 a7), f] h R := by
 refine hc_of (args := [(.slice sv a3 a7), f]) Try.func70 rfl Try.ntmps70 (Nat.le_of_ble_eq_true rfl) ?_
 refine xs (xr ?_)
 refine lv rfl rfl (va rfl) ?_
 refine ln (qn (xs (xs (xr ?_))))
 refine lv rfl rfl (vm rfl) (lv rfl rfl (v := (.int .i64 (a3 : Int))) (hv_len (n := a3) TyShQ.u47 rfl) (lv rfl rfl (vm rfl) ?_))
 refine ln (qn (xb ?_))
 obtain ⟨I1, a9, b9, b7⟩ := H
 refine xl (σ := Int) (fun s => [(0, (.slice sv a3 a7)), (1, f), (7, (.int .i64 (a3 : Int))), (8, (.int .i64 s))]) (fun s h' => I1 s h' ∧ True) (fun s h' => a9 s h') 0 ⟨b9, trivial⟩ (hc rfl (hc rfl (hc rfl (hc rfl hn)))) ?_
 rintro v ρ h1 ⟨b6, -⟩
 have H := b7 v h1 b6
 refine xs (xr ?_)
 refine lv rfl rfl (vr rfl rfl rfl) ?_
 refine ln (qn (xs ?_))
 refine xc (b := decide (v < (a3 : Int))) rfl (fun b0 => ?_) (fun b0 => ?_)
 ·replace H := H.1 b0
  refine xi (qn (xs (xb (xs (xr ?_)))))
  refine lv rfl rfl (vm rfl) (lv rfl rfl (va rfl) ?_)
  refine ln (qn (xs (xr ?_)))
  refine lv rfl rfl (vm rfl) (lv rfl rfl (vm rfl) (lv rfl rfl (vm rfl) ?_))
  obtain ⟨a4, a5, b4, b8, c0, Hq⟩ := H
  subst b4
  have H := Hq; clear Hq
  refine lv rfl rfl (v := (ptr a4 (a5 + (Int.toNat v) * 4))) (vi TyShQ.el47 rfl rfl b8 c0) ?_
  obtain ⟨a1, a6, a0, a2, b5, b2, b1, b3, H⟩ := H
  refine lv rfl rfl (vL (vs := [(.int .u64 a1), (.int .u64 a6), (.int .u64 a0), (.int .u8 a2)]) TyShQ.agg31 TyShQ.sz31 rfl (cc b5 (cc b2 (cc b1 (cc b3 cn))))) ?_
  refine lp rfl rfl (hs_callF (vs := [(.agg #[(.int .u64 a1), (.int .u64 a6), (.int .u64 a0), (.int .u8 a2)])]) rfl rfl (HCV.mono H ?_))
  rintro _ h2 ⟨r, rfl, H⟩
  refine ln (qn ?_)
  refine xc (b := r) rfl (fun a8 => ?_) (fun a8 => ?_)
  ·replace H := H.1 a8
   refine xs (xr ?_)
   refine lv rfl rfl (vm rfl) (lv rfl rfl (va rfl) ?_)
   refine ln (qn (xt (br (qr (qr (br (qr ?_)))))))
   exact endQ_ret _ (res_one Try.results70 (rv_tmp rfl)) H
  ·replace H := H.2 a8
   refine xi (bn (qn (xr ?_)))
   refine lv rfl rfl (vr rfl rfl rfl) (lv rfl rfl (vm rfl) ?_)
   refine ln (qn ?_)
   exact ⟨IntKind.i64.wrap (v + 1), ⟨⟨H.1, trivial⟩, H.2⟩, (hc rfl (hc rfl (hc rfl (hc rfl hn))))⟩
 ·replace H := H.2 b0
  refine xe (qe (qe (bh (qn (xs (xr ?_))))))
  refine lv rfl rfl (va rfl) ?_
  refine ln (qn (xt ?_))
  exact endQ_ret _ (res_one Try.results70 (rv_tmp rfl)) H
theorem f55_sh (a8 : Value) (b2 : Nat) (b3 : Nat) (h : Heap) (R : Value → Heap → Prop)
  (H : (∃ x : Option Addr, hcell h b2 b3 = some (.pointer x) ∧ HC Try.prog 57 #[(.pointer x)] h (fun vv h1 => ∃ r : Option Addr, ∃ b7 b5 : Nat, vv = (.slice r b7 b5) ∧ HC Try.prog 56 #[(.slice r b7 b5), (.func (.func 58) #[] #[])] h1 (fun vv h2 => ∃ a9 : Option Addr, ∃ a1 a4 : Nat, vv = (.slice a9 a1 a4) ∧ HC Try.prog 59 #[(.slice a9 a1 a4), (.func (.func 60) #[] #[])] h2 (fun vv h3 => vv = (.tuple #[]) ∧ (∃ (I2 : Int → Heap → Prop) (b6 : Int → Heap → Nat), I2 0 h3 ∧ (∀ (v : Int) (h4 : Heap), I2 v h4 → (((decide (v < (a1 : Int))) = true → (∃ a6 a7 : Nat, a9 = some ⟨a6, a7, none⟩ ∧ (0 : Int) ≤ v ∧ v < (a1 : Int) ∧ (∃ a2 a5 a0 a3 : Int, hcell h4 a6 (a7 + (Int.toNat v) * 4) = some (.int .u64 a2) ∧ hcell h4 a6 ((a7 + (Int.toNat v) * 4) + 1) = some (.int .u64 a5) ∧ hcell h4 a6 ((a7 + (Int.toNat v) * 4) + 2) = some (.int .u64 a0) ∧ hcell h4 a6 ((a7 + (Int.toNat v) * 4) + 3) = some (.int .u8 a3) ∧ (∀ (h6 : Heap), Ext h4 h6 → HCV Try.prog a8 [(.agg #[(.int .u64 a2), (.int .u64 a5), (.int .u64 a0), (.int .u8 a3)])] h6 (fun vv h7 => ∃ b1 : Bool, vv = (.bool b1) ∧ (((!b1) = true → R (.tuple #[]) h7) ∧ ((!b1) = false → (I2 (IntKind.i64.wrap (v + 1)) h7 ∧ b6 (IntKind.i64.wrap (v + 1)) h7 < b6 v h4)))))))) ∧ ((decide (v < (a1 : Int))) = false → R (.tuple #[]) h4))))))))) :
  HC Try.prog 55 #[a8, (ptr b2 b3)] h R := by
 refine hc_of (args := [a8, (ptr b2 b3)]) Try.func55 rfl Try.ntmps55 (Nat.le_of_ble_eq_true rfl) ?_
 refine xs (xr ?_)
 obtain ⟨x, d4, H⟩ := H
 refine lv rfl rfl (vl TyShQ.agg70 rfl d4) ?_
 refine lp rfl rfl (sc TyShQ.cb57 rfl (HC.mono H ?_))
 rintro _ h1 ⟨r, b7, b5, rfl, H⟩
 refine lp rfl rfl (sc TyShQ.cb56 rfl (HC.mono H ?_))
 rintro _ h2 ⟨a9, a1, a4, rfl, H⟩
 refine lv rfl rfl (va rfl) ?_
 refine ln (qn (xs (xr ?_)))
 refine lv rfl rfl (vm rfl) ?_
 refine lp rfl rfl (sc TyShQ.cb59 rfl (HC.mono H ?_))
 rintro _ h3 ⟨rfl, H⟩
 refine ln (qn (xs (xr ?_)))
 refine lv rfl rfl (vm rfl) (lv rfl rfl (v := (.int .i64 (a1 : Int))) (hv_len (n := a1) TyShQ.u47 rfl) (lv rfl rfl (vm rfl) ?_))
 refine ln (qn (xb ?_))
 obtain ⟨I2, b6, d6, d1⟩ := H
 refine xl (σ := Int) (fun s => [(0, a8), (11, (.slice a9 a1 a4)), (12, (.int .i64 (a1 : Int))), (13, (.int .i64 s))]) (fun s h' => I2 s h' ∧ True) (fun s h' => b6 s h') 0 ⟨d6, trivial⟩ (hc rfl (hc rfl (hc rfl (hc rfl hn)))) ?_
 rintro v ρ h4 ⟨d3, -⟩
 have H := d1 v h4 d3
 refine xs (xr ?_)
 refine lv rfl rfl (vr rfl rfl rfl) ?_
 refine ln (qn (xs ?_))
 refine xc (b := decide (v < (a1 : Int))) rfl (fun c1 => ?_) (fun c1 => ?_)
 ·replace H := H.1 c1
  refine xi (qn (xs (xb (xs (xr ?_)))))
  obtain ⟨a6, a7, d0, d5, d2, Hq⟩ := H
  subst d0
  have H := Hq; clear Hq
  refine lv rfl rfl (v := (ptr a6 (a7 + (Int.toNat v) * 4))) (vi TyShQ.el47 rfl rfl d5 d2) ?_
  obtain ⟨a2, a5, a0, a3, c8, c5, c7, c4, H⟩ := H
  refine lv rfl rfl (vL (vs := [(.int .u64 a2), (.int .u64 a5), (.int .u64 a0), (.int .u8 a3)]) TyShQ.agg31 TyShQ.sz31 rfl (cc c8 (cc c5 (cc c7 (cc c4 cn))))) ?_
  refine lp rfl rfl (hn_alloc TyShQ.z31 ?_)
  intro e h5 b9 c2
  have c9 := ext_pushed_f45_sh c2
  have c6 : Array.size h4 ≤ e := Nat.le_of_eq (Eq.symm b9)
  have b8 : h5[e]? = some (.cells #[(.int .u64 0), (.int .u64 0), (.int .u64 0), (.int .u8 0)] 31 (0, 0)) := by rw [c2]; exact push_new b9
  refine lp rfl rfl (hn_stores (vs := [(.int .u64 a2), (.int .u64 a5), (.int .u64 a0), (.int .u8 a3)]) rfl rfl TyShQ.sz31 rfl (HWs_row b8 (by simp)) ?_)
  intro h6 c0
  have b0 : h6[e]? = some (.cells #[(.int .u64 a2), (.int .u64 a5), (.int .u64 a0), (.int .u8 a3)] 31 (0, 0)) := row_hsets_eq c0 b8 rfl
  have c3 := ext_hsets c0 c9 c6
  refine ln (qn (xs (xr ?_)))
  refine lv rfl rfl (vm rfl) (lv rfl rfl (vL (vs := [(.int .u64 a2), (.int .u64 a5), (.int .u64 a0), (.int .u8 a3)]) TyShQ.agg31 TyShQ.sz31 rfl (cc (rc b0 rfl) (cc (rc b0 rfl) (cc (rc b0 rfl) (cc (rc b0 rfl) cn))))) ?_)
  replace H := H h6 c3
  refine lp rfl rfl (hs_callF (vs := [(.agg #[(.int .u64 a2), (.int .u64 a5), (.int .u64 a0), (.int .u8 a3)])]) rfl rfl (HCV.mono H ?_))
  rintro _ h7 ⟨b1, rfl, H⟩
  refine lv rfl rfl (v := (.bool (!b1))) (hv_not (b := b1) rfl) ?_
  refine ln (qn ?_)
  refine xc (b := !b1) rfl (fun b4 => ?_) (fun b4 => ?_)
  ·replace H := H.1 b4
   refine xt (br (qr (qr (br ?_))))
   exact endQ_ret _ (res_none Try.results55 ) H
  ·replace H := H.2 b4
   refine xi (bn (qn (xr ?_)))
   refine lv rfl rfl (vr rfl rfl rfl) (lv rfl rfl (vm rfl) ?_)
   refine ln (qn ?_)
   exact ⟨IntKind.i64.wrap (v + 1), ⟨⟨H.1, trivial⟩, H.2⟩, (hc rfl (hc rfl (hc rfl (hc rfl hn))))⟩
 ·replace H := H.2 c1
  refine xe (qe (qe (bh ?_)))
  exact endQ_n _ (res_none Try.results55 ) H
theorem f45_sh (a1 : Nat) (a0 : Nat) (h : Heap) (R : Value → Heap → Prop)
  (H : (∀ t h1, t = Array.size h → h1 = Array.push h (.cells #[(ptr a1 a0)] 70) → R (.func (.func 55) #[] #[(ptr t 0)]) h1)) :
  HC Try.prog 45 #[(ptr a1 a0)] h R := by
 refine hc_of (args := [(ptr a1 a0)]) Try.func45 rfl Try.ntmps45 (Nat.le_of_ble_eq_true rfl) ?_
 refine xs (xr ?_)
 refine lp rfl rfl (hn_box (v := (ptr a1 a0)) rfl ?_)
 intro t h1 a3 a2
 replace H := H t h1 a3 a2
 have a4 := ext_pushed_f45_sh a2
 refine lv rfl rfl (va rfl) ?_
 refine ln (qn (xs (xr ?_)))
 refine lv rfl rfl (v := (.func (.func 55) #[] #[(ptr t 0)])) (hv_makeFunc (fv := []) (cv := [(ptr t 0)]) rfl rfl) (lv rfl rfl (va rfl) ?_)
 refine ln (qn (xt ?_))
 exact endQ_ret _ (res_one Try.results45 (rv_tmp rfl)) H
end Go.Proofs.Ytkecmljalcfhoaa
namespace Go.Proofs.Ytkecmljalcfhoaa
open Go RH
def isE (e : Ent) : Bool := e.a != 0
theorem cb30 : CallB Try.prog 58 := fun _ _ => Try.call58 _ _
theorem isE_c (e : Ent) (h : Heap) : HCV Try.prog (.func (.func 58) #[] #[]) [.agg #[.int .u64 e.h, .int .u64 e.a, .int .u64 e.v, .int .u8 e.k]] h fun v h' => v = .bool (!isE e) ∧ Ext h h' :=
  hcv_func cb30 ((empty_c _ _ _ _ h).mono fun v h' ⟨e1, e2⟩ => ⟨by
    rw [e1]; congr 1; unfold isE
    rw [Bool.eq_iff_iff]; simp, e2⟩)
section
variable {N : Nat} {h : Heap} {a : Option Addr} {c : Nat} {M : List Ent}
theorem filter_take {M : List Ent} {t : Nat} (ht : t < M.length) : (M.take (t + 1)).filter isE = (M.take t).filter isE ++ if isE M[t] then [M[t]] else [] := by
  rw [List.take_add_one, List.getElem?_eq_getElem ht, List.filter_append]
  congr 1
  simp [List.filter_cons]
theorem idx_c (s : Sl eEnt h a c M) (hl : M.length ≤ 1099511627776) :
    HC Try.prog 70 #[.slice a M.length c, .func (.func 58) #[] #[]] h fun v h' => Ext h h' ∧ ((v = .int .i64 (-1) ∧ M.filter isE = M) ∨ ∃ k, v = .int .i64 (k : Nat) ∧ k < M.length ∧ (M.take (k + 1)).filter isE = M.take k) := by
  refine f70_sh _ _ _ _ _ _ ⟨fun i h1 => ∃ k : Nat, i = k ∧ k ≤ M.length ∧ Ext h h1 ∧ (M.take k).filter isE = M.take k, fun i _ => M.length - i.toNat, ⟨0, rfl, Nat.zero_le _, Ext.refl _, by simp⟩, ?_⟩
  rintro _ h1 ⟨k, rfl, hk, x1, hf⟩
  refine ⟨fun hlt => ?_, fun hge => ?_⟩
  · have hkl := lt_of_dec hlt
    obtain ⟨b, o, e, d⟩ := (s.ext x1).at (List.getElem?_eq_getElem hkl)
    refine ⟨b, o, e, by omega, by omega, _, _, _, _, d.1, d.2.1, d.2.2.1, d.2.2.2.1, (isE_c _ _).mono ?_⟩
    rintro _ h2 ⟨rfl, x2⟩
    refine ⟨_, rfl, fun q => ⟨x1.trans x2, .inr ⟨k, rfl, hkl, ?_⟩⟩, fun q => ?_⟩
    · have : isE M[k] = false := by simpa using q
      rw [filter_take hkl, this, hf]; simp
    · have he : isE M[k] = true := by simpa using q
      rw [wadd k (by omega)]
      refine ⟨⟨k + 1, rfl, hkl, x1.trans x2, ?_⟩, by simp only [Int.toNat_natCast]; omega⟩
      rw [filter_take hkl, he, hf, List.take_add_one, List.getElem?_eq_getElem hkl]; rfl
  · have hkl : k = M.length := by have := ge_of_dec hge; omega
    rw [hkl, List.take_length] at hf
    exact ⟨x1, .inl ⟨rfl, hf⟩⟩
set_option maxHeartbeats 4000000 in
theorem delf_c (s : Sl eEnt h a c M) (w : Own eEnt.k 31 N h a c) (hl : M.length ≤ 1099511627776) :
    HC Try.prog 56 #[.slice a M.length c, .func (.func 58) #[] #[]] h fun v h' => Fr (blkA a) h h' ∧ ∃ a' c', v = .slice a' (M.filter isE).length c' ∧ Sl eEnt h' a' c' (M.filter isE) ∧ Own eEnt.k 31 N h' a' c' ∧ ∀ b, blkA a' b → blkA a b := by
  have hle := s.le
  refine f56_sh _ _ _ _ _ _ ((idx_c s hl).mono ?_)
  rintro _ h1 ⟨x1, ⟨rfl, hf⟩ | ⟨k, rfl, hk, hf⟩⟩
  · refine ⟨_, rfl, fun _ => ?_, fun q => by simp at q⟩
    rw [hf]
    exact ⟨x1.fr _, a, c, rfl, s.ext x1, w.ext x1, fun _ h => h⟩
  obtain ⟨b, o, rfl, hc⟩ := s.addr (by omega)
  refine ⟨_, rfl, fun q => by simp at q, fun _ => ?_⟩
  refine ⟨fun i j h2 => ∃ (u t : Nat) (M' : List Ent), i = u ∧ j = t ∧ u < t ∧ t ≤ M.length ∧ M'.length = M.length ∧ M'.take u = (M.take t).filter isE ∧ (∀ q, t ≤ q → M'[q]? = M[q]?) ∧ Sl eEnt h2 (some ⟨b, o, none⟩) c M' ∧ Own eEnt.k 31 N h2 (some ⟨b, o, none⟩) c ∧ Fr (blkA (some ⟨b, o, none⟩)) h h2,
    fun _ j _ => M.length - j.toNat, ⟨k, k + 1, M, rfl, wadd k (by omega), by omega, by omega, rfl, hf.symm, fun _ _ => rfl, s.ext x1, w.ext x1, x1.fr _⟩, ?_⟩
  rintro _ _ h2 ⟨u, t, M', rfl, rfl, hut, ht, hM, htk, hsame, s2, w2, f2⟩
  refine ⟨fun hlt => ?_, fun hge => ?_⟩
  · have htl := lt_of_dec hlt
    have hx : M'[t]? = some M[t] := by rw [hsame t (Nat.le_refl _)]; exact List.getElem?_eq_getElem htl
    obtain ⟨b', o', e, d⟩ := s2.at hx
    cases e
    refine ⟨fun i h3 => ∃ (u' : Nat) (M'' : List Ent), i = u' ∧ u' < t + 1 ∧ M''.length = M.length ∧ M''.take u' = (M.take (t + 1)).filter isE ∧ (∀ q, t + 1 ≤ q → M''[q]? = M[q]?) ∧ Sl eEnt h3 (some ⟨b, o, none⟩) c M'' ∧ Own eEnt.k 31 N h3 (some ⟨b, o, none⟩) c ∧ Fr (blkA (some ⟨b, o, none⟩)) h h3,
      ⟨b, o, rfl, by omega, by omega, _, _, _, _, d.1, d.2.1, d.2.2.1, d.2.2.2.1, fun v h5 lo5 lt5 x5 => (isE_c _ _).mono ?_⟩, ?_⟩
    · rintro _ h6 ⟨rfl, x6⟩
      have x56 := x5.trans x6
      refine ⟨x6.kp _, _, rfl, fun q => ?_, fun q => ?_⟩
      · have he : isE M[t] = true := by simpa using q
        obtain ⟨hw, s3, w3⟩ := (s2.ext x56).put (w2.ext x56) (i := u) (by omega) M[t]
        refine ⟨by omega, by omega, hw, ?_⟩
        rintro h7 e7
        have eh : h7 = hsets h6 b (o + u * eEnt.k) (eEnt.enc M[t]) := e7
        rw [← eh] at s3 w3
        rw [wadd u (by omega)]
        refine ⟨u + 1, M'.set u M[t], rfl, by omega, by simpa using hM, ?_, fun q hq => ?_, s3, w3, ?_⟩
        · rw [filter_take htl, he, ← htk, List.take_add_one, List.getElem?_set_self (by omega), List.take_set_of_le (Nat.le_refl _)]
          rfl
        · rw [List.getElem?_set_ne (by omega)]; exact hsame q (by omega)
        · rw [eh]
          exact (f2.trans (x56.fr _) fun _ _ h => h).trans (fr_hsets (fun b' => b' = b) (fun _ => rfl)) (fun i _ hi => by rw [blkA_some]; exact hi)
      · have he : isE M[t] = false := by simpa using q
        refine ⟨u, M', rfl, by omega, hM, ?_, fun q hq => hsame q (by omega), s2.ext x56, w2.ext x56, f2.trans (x56.fr _) fun _ _ h => h⟩
        rw [filter_take htl, he, htk]; simp
    · rintro _ h3 ⟨u', M'', rfl, hu', hM'', htk', hsame', s3, w3, f3⟩
      rw [wadd t (by omega)]
      exact ⟨⟨u', t + 1, M'', rfl, rfl, hu', htl, hM'', htk', hsame', s3, w3, f3⟩, by simp only [Int.toNat_natCast]; omega⟩
  · have htl : t = M.length := by have := ge_of_dec hge; omega
    rw [htl, List.take_length] at htk
    have hulen : u = (M.filter isE).length := by
      have := congrArg List.length htk
      rw [List.length_take] at this; omega
    obtain ⟨cs, hrow, hcs, _⟩ := w2.row
    refine ⟨by omega, by omega, by omega, fun sl1 es1 => ?_⟩
    obtain ⟨o3, eo3, ho3⟩ := slA_some (b := b) (o := o) (l := u) (sz := 4) (m := c)
    have es1' : sl1 = some ⟨b, o3, none⟩ := es1.trans eo3
    have ho3' : M.length - u ≠ 0 → o3 = o + u * 4 := fun hn => ho3 (by omega)
    refine ⟨fun hn => ⟨b, o3, es1', ?_⟩, fun h4 q1 q2 => ?_⟩
    · rw [ho3' (by simpa using hn)]
      have k2 : eEnt.k = 4 := rfl
      rw [k2] at hcs
      refine HWs_row hrow ?_
      simp; omega
    · refine ⟨by omega, by omega, by omega, fun sl2 es2 => ?_⟩
      have final : Fr (blkA (some ⟨b, o, none⟩)) h h4 ∧ Sl eEnt h4 (some ⟨b, o, none⟩) c (M.filter isE) ∧ Own eEnt.k 31 N h4 (some ⟨b, o, none⟩) c := by
        by_cases hn : M.length - u = 0
        · rw [q1 (by simpa using hn)]
          have : M'.take u = M' := List.take_of_length_le (by omega)
          rw [← htk, this]
          exact ⟨f2, s2, w2⟩
        · rw [q2 b o3 (by simpa using hn) es1']
          refine ⟨f2.trans (fr_hsets (fun b' => b' = b) (fun _ => rfl)) (fun i _ hi => by rw [blkA_some]; exact hi), ?_, Own.hsets w2 _ _ _⟩
          rw [← htk]
          exact s2.before (by rw [ho3' hn]; exact Nat.le_refl _) _
      obtain ⟨g1, g2, g3⟩ := final
      have es2' : sl2 = some ⟨b, o, none⟩ := by
        rw [es2]; unfold slA; split <;> simp [add_lit]
      refine ⟨g1, sl2, c, ?_, by rw [es2']; exact g2, by rw [es2']; exact g3, fun b' hb' => by rw [es2'] at hb'; exact hb'⟩
      rw [← hulen]; simp
def ecmp (x y : Ent) : Int := ucmp x.h y.h
theorem lt_ecmp (x y : Ent) : ltOf ecmp x y = decide (x.h < y.h) := by
  unfold ltOf ecmp ucmp
  rw [Bool.eq_iff_iff]
  simp only [decide_eq_true_eq]
  split
  · simp; omega
  · split
    · simp; omega
    · simp; omega
theorem swo_ecmp : Go.Sort.SWO (ltOf ecmp) where
  irrefl x := by rw [lt_ecmp]; simp
  trans x y z h1 h2 := by rw [lt_ecmp] at *; simp at *; omega
  ntrans x y z h1 h2 := by rw [lt_ecmp] at *; simp at *; omega
theorem sort_c (s : Sl eEnt h a c M) (w : Own eEnt.k 31 N h a c) (hl : M.length ≤ 1099511627776) :
    HC Try.prog 59 #[.slice a M.length c, .func (.func 60) #[] #[]] h fun v h' => v = .tuple #[] ∧ Fr (blkA a) h h' ∧ ∃ L', L'.Perm M ∧ L'.Pairwise (fun x y => x.h ≤ y.h) ∧ Sl eEnt h' a c L' ∧ Own eEnt.k 31 N h' a c := by
  refine (hc_sort Lay.sortMt eEnt Try.isAgg31 Try.sizeOf31 ecmp swo_ecmp 60 #[] (fun args w => Try.call60 args w) s w (fun h1 _ x y => ?_) (by omega)).mono ?_
  · exact f60_sh _ _ _ _ _ _ _ _ _ _ fun h3 x3 => ⟨rfl, x3⟩
  · rintro v h' ⟨rfl, f, L', hp, hs, s', w'⟩
    exact ⟨rfl, f, L', hp, hs.imp fun h => by rw [lt_ecmp] at h; simpa using h, s', w'⟩
end
end Go.Proofs.Ytkecmljalcfhoaa
namespace Go.Proofs.Ytkecmljalcfhoaa
open Go RH
section
variable {h : Heap} {p q B m : Nat} {s : RH.Sl} {L : List Ent}
theorem clone_n {n c : Nat} (x : EntsAt h q n s) (hc : n ≤ c) (hn : n ≤ 65536) : HC Try.prog 65 #[.slice (some ⟨q, 0, none⟩) n c] h fun v h' => New eEnt 31 h h' v (lay n s) := by
  refine f65_sh _ _ _ _ _ ⟨fun h => by simp at h, fun _ nb h1 eb eh => ?_⟩
  obtain ⟨s0, w0, x0⟩ := ent_lit eb eh
  refine app_own (n := 0) aEnt x0 s0 w0 rfl ((x.ext x0).sl hc) (lay_len _ _).symm (by omega) ?_
  intro a1 c1 h2 x2 _ s2 w2 _
  refine ⟨_, _, _, rfl, a1, c1, ?_, x2, s2.cast (by simp), w2⟩
  rw [lay_len, Nat.zero_add]
theorem layout_n (t : TabOK h p q B m s) : HC Try.prog 57 #[ptr p 0] h fun v h' => New eEnt 31 h h' v (lay (2 ^ B) s) := by
  obtain ⟨cap, cs, ta⟩ := t.at_
  refine f57_sh _ _ _ _ ⟨true, made_c ta, fun h => by simp at h, fun _ => ⟨_, _, _, ta.c0, (clone_n ta.entsAt ta.cap ta.le).mono ?_⟩⟩
  rintro _ h1 ⟨a, c, rfl, x⟩
  exact ⟨_, _, _, rfl, a, c, rfl, x⟩
def Yw (h h3 : Heap) (b : Nat) : Prop := b < h.size ∨ h3.size ≤ b
set_option maxHeartbeats 4000000 in
theorem all_it {cb : Nat} {y : Value} {R : Value → Heap → Prop} (t : TabOK h p q B m s) (r : Rel B s L) (hc : hcell h cb 0 = some (ptr p 0)) (hl : L.length ≤ 65536)
    (hs : ∀ h3, Ext h h3 → ∃ J : Nat → Heap → Prop, J 0 h3 ∧
      (∀ k (hk : k < L.length) h4, Fr (Yw h h3) h3 h4 → J k h4 → ∀ h6, Ext h4 h6 → HCV Try.prog y [.agg #[.int .u64 L[k].h, .int .u64 L[k].a, .int .u64 L[k].v, .int .u8 L[k].k]] h6 fun vv h7 => Fr (Yw h h3) h6 h7 ∧
        ∃ b : Bool, vv = .bool b ∧ (b = false → R (.tuple #[]) h7) ∧ (b = true → J (k + 1) h7)) ∧
      (∀ h4, Fr (Yw h h3) h3 h4 → J L.length h4 → R (.tuple #[]) h4)) :
    HC Try.prog 55 #[y, ptr cb 0] h R := by
  have hle := t.le
  refine f55_sh _ _ _ _ _ ⟨_, hc, (layout_n t).mono ?_⟩
  rintro _ h1 ⟨a1, c1, rfl, x1, s1, w1⟩
  refine ⟨_, _, _, rfl, (delf_c s1 w1 (by rw [lay_len]; omega)).mono ?_⟩
  rintro _ h2 ⟨f2, a2, c2, rfl, s2, w2, b2⟩
  have ho : (lay (2 ^ B) s).filter isE = oc (2 ^ B) s := rfl
  rw [ho] at s2 ⊢
  have hlen : (oc (2 ^ B) s).length = L.length := (r.perm t.g).length_eq
  refine ⟨_, _, _, rfl, (sort_c s2 w2 (by omega)).mono ?_⟩
  rintro _ h3 ⟨rfl, f3, L', hp, hsrt, s3, w3⟩
  have e := r.sorted t.g hp hsrt
  subst e
  have x2 := w1.grown x1 f2
  have x3 := w2.grown x2 f3
  obtain ⟨J, j0, jstep, jend⟩ := hs h3 x3
  have hout : ∀ b, blkA a2 b → ¬ Yw h h3 b := fun b hb g => by
    have := w3.low hb
    rcases g with g | g <;> omega
  rw [hlen]
  refine ⟨rfl, fun v h4 => ∃ k : Nat, v = k ∧ k ≤ L'.length ∧ Fr (Yw h h3) h3 h4 ∧ J k h4, fun v _ => L'.length - v.toNat, ⟨0, rfl, Nat.zero_le _, Fr.refl _ _, j0⟩, ?_⟩
  rintro _ h4 ⟨k, rfl, hk, f4, j4⟩
  refine ⟨fun hlt => ?_, fun hge => ?_⟩
  · have hkl := lt_of_dec hlt
    obtain ⟨b, o, ea, d⟩ := (s3.fr f4 hout).at (List.getElem?_eq_getElem hkl)
    refine ⟨b, o, ea, by omega, by omega, _, _, _, _, d.1, d.2.1, d.2.2.1, d.2.2.2.1, fun h6 x6 => ?_⟩
    refine HCV.mono (jstep k hkl h4 f4 j4 h6 x6) ?_
    rintro _ h7 ⟨f7, b', rfl, k1, k2⟩
    refine ⟨b', rfl, fun q => k1 (by simpa using q), fun q => ?_⟩
    rw [wadd k (by omega)]
    refine ⟨⟨k + 1, rfl, hkl, (f4.trans (x6.fr (Yw h h3)) fun _ _ g => g).trans f7 fun _ _ g => g, k2 (by simpa using q)⟩, by simp only [Int.toNat_natCast]; omega⟩
  · have hkl : k = L'.length := by have := ge_of_dec hge; omega
    subst hkl
    exact jend h4 f4 j4
end
end Go.Proofs.Ytkecmljalcfhoaa
namespace Go.Proofs.Ytkecmljalcfhoaa
namespace Ix
open Go RH
def look (L : List Ent) (v : Nat) : Option Ent := L.find? fun e => e.h == v
theorem look_some {L : List Ent} (hL : Srt L) {v : Nat} {e : Ent} : look L v = some e ↔ e ∈ L ∧ e.h = v := by
  unfold look
  constructor
  · intro h
    exact ⟨List.mem_of_find?_eq_some h, by simpa using List.find?_some h⟩
  · rintro ⟨h1, h2⟩
    cases hf : L.find? fun e => e.h == v with
    | none => have := List.find?_eq_none.1 hf e h1; simp [h2] at this
    | some y =>
      have y1 := List.mem_of_find?_eq_some hf
      have y2 : y.h = v := by simpa using List.find?_some hf
      rw [hL.eq y1 h1 (y2.trans h2.symm)]
theorem look_none {L : List Ent} {v : Nat} : look L v = none ↔ ∀ e ∈ L, e.h ≠ v := by
  unfold look
  rw [List.find?_eq_none]
  simp
def putS (L : List Ent) (e : Ent) : List Ent := (L.filter fun y => decide (y.h < e.h)) ++ e :: (L.filter fun y => decide (e.h < y.h))
def delS (L : List Ent) (v : Nat) : List Ent := L.filter fun y => decide (y.h ≠ v)
theorem putS_mem {L : List Ent} {e y : Ent} : y ∈ putS L e ↔ (y ∈ L ∧ y.h ≠ e.h) ∨ y = e := by
  unfold putS
  simp only [List.mem_append, List.mem_cons, List.mem_filter, decide_eq_true_eq]
  constructor
  · rintro (⟨h1, h2⟩ | h | ⟨h1, h2⟩)
    · exact .inl ⟨h1, by omega⟩
    · exact .inr h
    · exact .inl ⟨h1, by omega⟩
  · rintro (⟨h1, h2⟩ | h)
    · rcases Nat.lt_or_gt_of_ne h2 with g | g
      · exact .inl ⟨h1, g⟩
      · exact .inr (.inr ⟨h1, g⟩)
    · exact .inr (.inl h)
theorem putS_srt {L : List Ent} (hL : Srt L) (e : Ent) : Srt (putS L e) := by
  unfold putS
  refine List.pairwise_append.2 ⟨hL.filter _, List.pairwise_cons.2 ⟨fun y hy => ?_, hL.filter _⟩, fun y hy z hz => ?_⟩
  · simpa using (List.mem_filter.1 hy).2
  · have h1 : y.h < e.h := by simpa using (List.mem_filter.1 hy).2
    rcases List.mem_cons.1 hz with g | g
    · rw [g]; exact h1
    · have h2 : e.h < z.h := by simpa using (List.mem_filter.1 g).2
      omega
theorem delS_mem {L : List Ent} {v : Nat} {y : Ent} : y ∈ delS L v ↔ y ∈ L ∧ y.h ≠ v := by
  unfold delS; simp [List.mem_filter]
theorem delS_srt {L : List Ent} (hL : Srt L) (v : Nat) : Srt (delS L v) := hL.filter _
theorem is_put {L L' : List Ent} (hL : Srt L) (hL' : Srt L') {e : Ent} (h : ∀ y, y ∈ L' ↔ (y ∈ L ∧ y.h ≠ e.h) ∨ y = e) : L' = putS L e :=
  srt_ext hL' (putS_srt hL e) fun y => (h y).trans putS_mem.symm
theorem is_del {L L' : List Ent} (hL : Srt L) (hL' : Srt L') {v : Nat} (h : ∀ y, y ∈ L' ↔ y ∈ L ∧ y.h ≠ v) : L' = delS L v :=
  srt_ext hL' (delS_srt hL v) fun y => (h y).trans delS_mem.symm
abbrev R3 := Ent × Bool × Int
abbrev R2 := Ent × Bool
def v3 (r : R3) : Value := .tuple #[.agg #[.int .u64 r.1.h, .int .u64 r.1.a, .int .u64 r.1.v, .int .u8 r.1.k], .bool r.2.1, .int .i64 r.2.2]
def v2 (r : R2) : Value := .tuple #[.agg #[.int .u64 r.1.h, .int .u64 r.1.a, .int .u64 r.1.v, .int .u8 r.1.k], .bool r.2]
def mGet (L : List Ent) (v : Nat) : R2 := match look L v with | some e => (e, true) | none => (z0, false)
def tPut (m : Nat) (L : List Ent) (e : Ent) : R3 × List Ent :=
  if e.a = 0 then ((z0, false, 1), L) else match look L e.h with
    | some o => ((o, true, 0), putS L e)
    | none => if 7 * 2 ^ m < 8 * (L.length + 1) then ((z0, false, 2), L) else ((z0, false, 0), putS L e)
def mPut (m : Nat) (L : List Ent) (e : Ent) : R3 × List Ent :=
  if e.a = 0 then ((z0, false, 1), L) else match look L e.h with
    | some o => if e.v < o.v then ((z0, false, 120), L) else ((o, true, 0), putS L e)
    | none => if 7 * 2 ^ m < 8 * (L.length + 1) then ((z0, false, 2), L) else ((z0, false, 0), putS L e)
def mDel (L : List Ent) (v : Nat) : R2 × List Ent := match look L v with | some e => ((e, true), delS L v) | none => ((z0, false), L)
def up (e : Ent) : Ent := ⟨e.h, e.a, e.v, if e.k < 255 then e.k + 1 else e.k⟩
def mHit (L : List Ent) (v : Nat) : Bool × List Ent := match look L v with | some e => (true, putS L (up e)) | none => (false, L)
def mDelIf (L : List Ent) (v at_ : Nat) : Bool × List Ent := match look L v with | some e => if e.a = at_ then (true, delS L v) else (false, L) | none => (false, L)
def mMove (L : List Ent) (v fr to : Nat) : Bool × List Ent := match look L v with | some e => if e.a = fr ∧ to ≠ 0 then (true, putS L ⟨e.h, to, e.v, e.k⟩) else (false, L) | none => (false, L)
section
variable {B m : Nat} {s s' : RH.Sl} {L : List Ent}
theorem rel_same {L' : List Ent} (hL : Srt L') (h : ∀ e, InT (2 ^ B) s' e ↔ e ∈ L') : Rel B s' L' := ⟨hL, h⟩
theorem put_plain {e : Ent} {B' : Nat} {v : Value} (rel : Rel B s L) (g : RGood (2 ^ B) B s) (hb : 2 ≤ B) (hm : B ≤ m) (room : 8 * cntO s (2 ^ B) ≤ 7 * 2 ^ B) (pr : PutR B m s e B' s' v) : v = v3 (tPut m L e).1 ∧ Rel B' s' (tPut m L e).2 := by
  have hlen := rel.len g
  unfold tPut
  have h4 := pow4 hb
  cases pr with
  | arg ha hB hs => subst hB; subst hs; rw [if_pos ha]; exact ⟨rfl, rel⟩
  | had o ha ho hoh hB hmm =>
    have hl : look L e.h = some o := (look_some rel.srt).2 ⟨(rel.mem o).1 ho, hoh⟩
    subst hB
    rw [if_neg ha, hl]
    refine ⟨rfl, putS_srt rel.srt e, fun y => ?_⟩
    rw [hmm y, putS_mem, rel.mem y]
    constructor
    · rintro (⟨h1, h2⟩ | h1)
      · exact .inl ⟨h1, fun q => h2 (rel.srt.eq h1 ((rel.mem o).1 ho) (q.trans hoh.symm))⟩
      · exact .inr h1
    · rintro (⟨h1, h2⟩ | h1)
      · exact .inl ⟨h1, fun q => h2 (by rw [q]; exact hoh)⟩
      · exact .inr h1
  | full ha hno hBm hf hB hs =>
    have hl : look L e.h = none := look_none.2 fun y hy => hno y ((rel.mem y).2 hy)
    subst hB; subst hs; subst hBm
    rw [if_neg ha, hl]
    simp only
    rw [if_pos (by omega)]
    exact ⟨rfl, rel⟩
  | new ha hno hc hmm hcnt =>
    have hl : look L e.h = none := look_none.2 fun y hy => hno y ((rel.mem y).2 hy)
    rw [if_neg ha, hl]
    simp only
    have hpow : 2 ^ B ≤ 2 ^ m := Nat.pow_le_pow_right (by omega) hm
    rw [if_neg ?_]
    · refine ⟨rfl, putS_srt rel.srt e, fun y => ?_⟩
      rw [hmm y, putS_mem, rel.mem y]
      constructor
      · rintro (h1 | h1)
        · exact .inl ⟨h1, fun q => hno y ((rel.mem y).2 h1) q⟩
        · exact .inr h1
      · rintro (⟨h1, _⟩ | h1)
        · exact .inl h1
        · exact .inr h1
    · split at hc
      · have : 2 ^ (B + 1) ≤ 2 ^ m := Nat.pow_le_pow_right (by omega) hc.1
        rw [Nat.pow_succ] at this
        omega
      · omega
theorem rem_plain {v : Nat} {r : Value} (rel : Rel B s L) (rr : RemR B s v s' r) : r = v2 (mDel L v).1 ∧ Rel B s' (mDel L v).2 := by
  unfold mDel
  rcases rr with ⟨y, hy, hyh, rfl, hmm⟩ | ⟨hno, rfl, rfl⟩
  · have hl : look L v = some y := (look_some rel.srt).2 ⟨(rel.mem y).1 hy, hyh⟩
    rw [hl]
    refine ⟨rfl, delS_srt rel.srt v, fun z => ?_⟩
    rw [hmm z, delS_mem, rel.mem z]
    constructor
    · rintro ⟨h1, h2⟩; exact ⟨h1, fun q => h2 (rel.srt.eq h1 ((rel.mem y).1 hy) (q.trans hyh.symm))⟩
    · rintro ⟨h1, h2⟩; exact ⟨h1, fun q => h2 (by rw [q]; exact hyh)⟩
  · have hl : look L v = none := look_none.2 fun y hy => hno y ((rel.mem y).2 hy)
    rw [hl]
    exact ⟨rfl, rel⟩
end
end Ix
end Go.Proofs.Ytkecmljalcfhoaa
