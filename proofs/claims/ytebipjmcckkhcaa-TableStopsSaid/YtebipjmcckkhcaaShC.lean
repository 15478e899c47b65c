/-
Shallow forms, written by gen.py (a program of this session) out of the print of the program.
-/
import Derived.Test.YtebipjmcckkhcaaMor
import Derived.Test.YtebipjmcckkhcaaProg
namespace Go.Proofs.Ytebipjmcckkhcaa
open Go
set_option maxRecDepth 100000
set_option maxHeartbeats 4000000

theorem Ty.agg29 : aggB Try.prog 29 = some false := by kernel_rfl
theorem Ty.agg3 : aggB Try.prog 3 = some false := by kernel_rfl
theorem Ty.agg31 : aggB Try.prog 31 = some true := by kernel_rfl
theorem Ty.agg33 : aggB Try.prog 33 = some true := by kernel_rfl
theorem Ty.cb10 : CallB Try.prog 10 := fun _ _ => Try.call10 _ _
theorem Ty.cb11 : CallB Try.prog 11 := fun _ _ => Try.call11 _ _
theorem Ty.cb12 : CallB Try.prog 12 := fun _ _ => Try.call12 _ _
theorem Ty.cb13 : CallB Try.prog 13 := fun _ _ => Try.call13 _ _
theorem Ty.cb14 : CallB Try.prog 14 := fun _ _ => Try.call14 _ _
theorem Ty.cb16 : CallB Try.prog 16 := fun _ _ => Try.call16 _ _
theorem Ty.cb17 : CallB Try.prog 17 := fun _ _ => Try.call17 _ _
theorem Ty.cb19 : CallB Try.prog 19 := fun _ _ => Try.call19 _ _
theorem Ty.cb9 : CallB Try.prog 9 := fun _ _ => Try.call9 _ _
theorem Ty.el22 : elB Try.prog 22 = some 5 := by kernel_rfl
theorem Ty.el35 : elB Try.prog 35 = some 4 := by kernel_rfl
theorem Ty.fld31_0 : fldB Try.prog 31 0 = some 0 := by kernel_rfl
theorem Ty.fld31_1 : fldB Try.prog 31 1 = some 1 := by kernel_rfl
theorem Ty.fld33_0 : fldB Try.prog 33 0 = some 0 := by kernel_rfl
theorem Ty.fld33_1 : fldB Try.prog 33 1 = some 1 := by kernel_rfl
theorem Ty.mixed : Try.prog.follows .mixedOrders = true := by kernel_rfl
theorem Ty.pl31 : plB Try.prog 31 = some [(0, 1), (1, 1), (2, 1), (3, 1)] := by kernel_rfl
theorem Ty.se31 : seB Try.prog 31 = some [(29, 0), (29, 1), (29, 2), (5, 3)] := by kernel_rfl
theorem Ty.sz31 : szB Try.prog 31 = some 4 := by kernel_rfl
theorem Ty.sz33 : szB Try.prog 33 = some 5 := by kernel_rfl
theorem Ty.u22 : Try.prog.underlying 22 = some (.slice 33) := by kernel_rfl
theorem Ty.u29 : Try.prog.underlying 29 = some (.int .u64) := by kernel_rfl
theorem Ty.u3 : Try.prog.underlying 3 = some (.int .i64) := by kernel_rfl
theorem Ty.u35 : Try.prog.underlying 35 = some (.slice 31) := by kernel_rfl
theorem Ty.up24 : Try.prog.underlying 24 = some (.pointer 60) := by kernel_rfl
theorem Ty.z31 : zeroB Try.prog 31 (.agg #[(.int .u64 0), (.int .u64 0), (.int .u64 0), (.int .u8 0)]) := by unfold zeroB; kernel_rfl

/-- cellar/cellarlaw11.lives -/
theorem f9_sh  (h : Heap) (R : Value → Heap → Prop)
    (H : HC Try.prog 10 #[(.int .i64 2), (.int .i64 2)] h (fun vv h1 => ∃ r0 : Option Addr, ∃ r1 : Int, vv = (.tuple #[(.pointer r0), (.int .i64 r1)]) ∧ (∃ j : Bool, (((r1 != 0) = true → (j = true)) ∧ ((r1 != 0) = false → (j = r0.isNone))) ∧ ((j = true → R (.bool false) h1) ∧ (j = false → HC Try.prog 14 #[(.pointer r0), (.agg #[(.int .u64 4611686018427387904), (.int .u64 5), (.int .u64 0), (.int .u8 0)])] h1 (fun vv h2 => ∃ r0_Hash r0_At r0_Version r0_Hits : Int, ∃ r1_1 : Bool, ∃ r2 : Int, vv = (.tuple #[(.agg #[(.int .u64 r0_Hash), (.int .u64 r0_At), (.int .u64 r0_Version), (.int .u8 r0_Hits)]), (.bool r1_1), (.int .i64 r2)]) ∧ (∀ x h3, x = Array.size h2 → h3 = Array.push h2 (.cells #[(.int .u64 0), (.int .u64 0), (.int .u64 0), (.int .u8 0)] 31) → (HWs h3 x 0 4 ∧ ∀ h4, h4 = hsets h3 x 0 [(.int .u64 r0_Hash), (.int .u64 r0_At), (.int .u64 r0_Version), (.int .u8 r0_Hits)] → HC Try.prog 13 #[(.pointer r0)] h4 (fun vv h5 => ∃ r : Option Addr, ∃ r_n r_c : Nat, vv = (.slice r r_n r_c) ∧ (∃ A6 : Bool → Heap → Prop, (((!r1_1) = true → (((r2 == 0) = true → ((((r_n : Int) == 4) = true → (∃ r_b r_o : Nat, r = some ⟨r_b, r_o, none⟩ ∧ (0 : Int) ≤ 1 ∧ 1 < (r_n : Int) ∧ (∃ x_1 : Int, hcell h5 r_b ((r_o + (Int.toNat 1) * 4) + 1) = some (.int .u64 x_1) ∧ (((x_1 == 5) = true → ((0 : Int) ≤ 0 ∧ 0 < (r_n : Int) ∧ (∃ x_2 : Int, hcell h5 r_b ((r_o + (Int.toNat 0) * 4) + 1) = some (.int .u64 x_2) ∧ (((x_2 == 0) = true → HC Try.prog 19 #[(.pointer r0)] h5 (fun vv h7 => ∃ r_1 : Int, vv = (.int .i64 r_1) ∧ (A6 (r_1 == 1) h7))) ∧ ((x_2 == 0) = false → (A6 false h5)))))) ∧ ((x_1 == 5) = false → (A6 false h5)))))) ∧ (((r_n : Int) == 4) = false → (A6 false h5)))) ∧ ((r2 == 0) = false → (A6 false h5)))) ∧ ((!r1_1) = false → (A6 false h5))) ∧ (∀ (j_1 : Bool) (h6 : Heap), A6 j_1 h6 → R (.bool j_1) h6))))))))))) :
    HC Try.prog 9 #[] h R := by
  refine hc_of (args := []) Try.func9 rfl Try.ntmps9 (Nat.le_of_ble_eq_true rfl) ?_
  refine hx_seq ?_
  refine hx_region ?_
  refine hl_val rfl rfl (v := (.bool false)) (hv_assign rfl) ?_
  refine hl_nil ?_
  refine seqQ_n ?_
  refine hx_seq ?_
  refine hx_region ?_
  refine hl_step rfl rfl (hs_call Ty.cb10 (vs := [(.int .i64 2), (.int .i64 2)]) rfl (HC.mono H ?_))
  rintro _ h1 ⟨r0, r1, rfl, H⟩
  refine hl_val rfl rfl (v := (.tuple #[(.pointer r0), (.int .i64 r1)])) (hv_move rfl) ?_
  refine hl_val rfl rfl (v := (.pointer r0)) (hv_extract (vs := #[(.pointer r0), (.int .i64 r1)]) rfl rfl) ?_
  refine hl_val rfl rfl (v := (.int .i64 r1)) (hv_extract (vs := #[(.pointer r0), (.int .i64 r1)]) rfl rfl) ?_
  refine hl_val rfl rfl (v := (.pointer r0)) (hv_assign rfl) ?_
  refine hl_val rfl rfl (v := (.int .i64 r1)) (hv_assign rfl) ?_
  refine hl_nil ?_
  refine seqQ_n ?_
  refine hx_seq ?_
  obtain ⟨j, Hx22, Hy23⟩ := H
  refine hx_cut (fun ρ h' => h1 = h' ∧ Has ρ [(1, (.pointer r0)), (15, (.bool j))]) ?_ ?_
  · have H := Hx22; clear Hx22 Hy23
    refine hx_region ?_
    refine hl_val rfl rfl (v := (.int .i64 r1)) (hv_move rfl) ?_
    refine hl_val rfl rfl (v := (.bool (r1 != 0))) (hv_arith rfl rfl rfl) ?_
    refine hl_val rfl rfl (v := (.bool (r1 != 0))) (hv_move rfl) ?_
    rcases bool_or (r1 != 0) with hg1 | hg1
    · replace H := H.1 hg1
      refine hl_no (wanted_n rfl rfl rfl hg1) rfl ?_
      refine hl_no (wanted_n rfl rfl rfl hg1) rfl ?_
      refine hl_val rfl rfl (v := (.bool true)) (hv_pick_t rfl hg1 rfl) ?_
      refine hl_nil ?_
      refine seqQ_n ?_
      obtain rfl := H
      exact ⟨rfl, (has_cons rfl (has_cons rfl has_nil))⟩
    · replace H := H.2 hg1
      refine hl_yes (wanted_y rfl rfl rfl hg1) rfl (HStep.of_val (v := (.pointer r0)) (hv_move rfl) ?_)
      refine hl_yes (wanted_y rfl rfl rfl hg1) rfl (HStep.of_val (v := (.bool r0.isNone)) (hv_ptrNil Ty.up24 rfl rfl) ?_)
      refine hl_val rfl rfl (v := (.bool r0.isNone)) (hv_pick_f rfl hg1 rfl) ?_
      refine hl_nil ?_
      refine seqQ_n ?_
      obtain rfl := H
      exact ⟨rfl, (has_cons rfl (has_cons rfl has_nil))⟩
  · have H := Hy23; clear Hx22 Hy23
    rintro ρ _ ⟨rfl, hH⟩
    refine hx_has _ hH ?_
    refine hx_cond (b := j) rfl (fun hb21 => ?_) (fun hb21 => ?_)
    · replace H := H.1 hb21
      refine hx_seq ?_
      refine hx_region ?_
      refine hl_val rfl rfl (v := (.bool false)) (hv_assign rfl) ?_
      refine hl_nil ?_
      refine seqQ_n ?_
      refine hx_ret ?_
      refine seqQ_ret ?_
      exact endQ_ret _ (res_one Try.results9 (rv_tmp rfl)) H
    · replace H := H.2 hb21
      refine hx_skip ?_
      refine seqQ_n ?_
      refine hx_seq ?_
      refine hx_region ?_
      refine hl_val rfl rfl (v := (.pointer r0)) (hv_move rfl) ?_
      refine hl_val rfl rfl (v := (.agg #[(.int .u64 4611686018427387904), (.int .u64 5), (.int .u64 0), (.int .u8 0)])) (hv_build (vs := [(0, (.int .u64 4611686018427387904)), (1, (.int .u64 5))]) (cs := #[(.int .u64 4611686018427387904), (.int .u64 5), (.int .u64 0), (.int .u8 0)]) Ty.z31 Ty.pl31 rfl (by kernel_rfl)) ?_
      refine hl_step rfl rfl (hs_call Ty.cb14 (vs := [(.pointer r0), (.agg #[(.int .u64 4611686018427387904), (.int .u64 5), (.int .u64 0), (.int .u8 0)])]) rfl (HC.mono H ?_))
      rintro _ h2 ⟨r0_Hash, r0_At, r0_Version, r0_Hits, r1_1, r2, rfl, H⟩
      refine hl_val rfl rfl (v := (.tuple #[(.agg #[(.int .u64 r0_Hash), (.int .u64 r0_At), (.int .u64 r0_Version), (.int .u8 r0_Hits)]), (.bool r1_1), (.int .i64 r2)])) (hv_move rfl) ?_
      refine hl_val rfl rfl (v := (.agg #[(.int .u64 r0_Hash), (.int .u64 r0_At), (.int .u64 r0_Version), (.int .u8 r0_Hits)])) (hv_extract (vs := #[(.agg #[(.int .u64 r0_Hash), (.int .u64 r0_At), (.int .u64 r0_Version), (.int .u8 r0_Hits)]), (.bool r1_1), (.int .i64 r2)]) rfl rfl) ?_
      refine hl_val rfl rfl (v := (.bool r1_1)) (hv_extract (vs := #[(.agg #[(.int .u64 r0_Hash), (.int .u64 r0_At), (.int .u64 r0_Version), (.int .u8 r0_Hits)]), (.bool r1_1), (.int .i64 r2)]) rfl rfl) ?_
      refine hl_val rfl rfl (v := (.int .i64 r2)) (hv_extract (vs := #[(.agg #[(.int .u64 r0_Hash), (.int .u64 r0_At), (.int .u64 r0_Version), (.int .u8 r0_Hits)]), (.bool r1_1), (.int .i64 r2)]) rfl rfl) ?_
      refine hl_step rfl rfl (hn_alloc Ty.z31 ?_)
      intro x h3 eb2 eh3
      replace H := H x h3 eb2 eh3
      obtain ⟨hw4, H⟩ := H
      refine hl_step rfl rfl (hn_stores (vs := [(.int .u64 r0_Hash), (.int .u64 r0_At), (.int .u64 r0_Version), (.int .u8 r0_Hits)]) rfl rfl Ty.sz31 rfl hw4 ?_)
      intro h4 eh5
      replace H := H h4 eh5
      refine hl_val rfl rfl (v := (.bool r1_1)) (hv_assign rfl) ?_
      refine hl_val rfl rfl (v := (.int .i64 r2)) (hv_assign rfl) ?_
      refine hl_nil ?_
      refine seqQ_n ?_
      refine hx_seq ?_
      refine hx_region ?_
      refine hl_val rfl rfl (v := (.pointer r0)) (hv_move rfl) ?_
      refine hl_step rfl rfl (hs_call Ty.cb13 (vs := [(.pointer r0)]) rfl (HC.mono H ?_))
      rintro _ h5 ⟨r, r_n, r_c, rfl, H⟩
      refine hl_val rfl rfl (v := (.slice r r_n r_c)) (hv_assign rfl) ?_
      refine hl_nil ?_
      refine seqQ_n ?_
      obtain ⟨A6, Hx18, Hy19⟩ := H
      refine hx_cut (fun ρ h' => ∃ j_1 : Bool, A6 j_1 h' ∧ Has ρ [(0, (.bool j_1))]) ?_ ?_
      · have H := Hx18; clear Hx18 Hy19
        refine hx_region ?_
        refine hl_val rfl rfl (v := (.bool r1_1)) (hv_move rfl) ?_
        refine hl_val rfl rfl (v := (.bool (!r1_1))) (hv_not (b := r1_1) rfl) ?_
        refine hl_val rfl rfl (v := (.bool (!r1_1))) (hv_move rfl) ?_
        rcases bool_or (!r1_1) with hg7 | hg7
        · replace H := H.1 hg7
          refine hl_yes (wanted_y rfl rfl rfl hg7) rfl (HStep.of_val (v := (.int .i64 r2)) (hv_move rfl) ?_)
          refine hl_yes (wanted_y rfl rfl rfl hg7) rfl (HStep.of_val (v := (.bool (r2 == 0))) (hv_arith rfl rfl rfl) ?_)
          refine hl_val rfl rfl (v := (.bool (r2 == 0))) (hv_pick_t rfl hg7 rfl) ?_
          refine hl_val rfl rfl (v := (.bool (r2 == 0))) (hv_move rfl) ?_
          rcases bool_or (r2 == 0) with hg8 | hg8
          · replace H := H.1 hg8
            refine hl_yes (wanted_y rfl rfl rfl hg8) rfl (HStep.of_val (v := (.slice r r_n r_c)) (hv_move rfl) ?_)
            refine hl_yes (wanted_y rfl rfl rfl hg8) rfl (HStep.of_val (v := (.int .i64 (r_n : Int))) (hv_len (n := r_n) Ty.u35 rfl) ?_)
            refine hl_yes (wanted_y rfl rfl rfl hg8) rfl (HStep.of_val (v := (.bool ((r_n : Int) == 4))) (hv_arith rfl rfl rfl) ?_)
            refine hl_val rfl rfl (v := (.bool ((r_n : Int) == 4))) (hv_pick_t rfl hg8 rfl) ?_
            refine hl_val rfl rfl (v := (.bool ((r_n : Int) == 4))) (hv_move rfl) ?_
            rcases bool_or ((r_n : Int) == 4) with hg9 | hg9
            · replace H := H.1 hg9
              refine hl_yes (wanted_y rfl rfl rfl hg9) rfl (HStep.of_val (v := (.slice r r_n r_c)) (hv_move rfl) ?_)
              obtain ⟨r_b, r_o, hqe, hi10, hi11, Hq⟩ := H
              subst hqe
              have H := Hq; clear Hq
              refine hl_yes (wanted_y rfl rfl rfl hg9) rfl (HStep.of_val (v := (ptr r_b (r_o + (Int.toNat 1) * 4))) (hv_index Ty.el35 rfl rfl hi10 hi11) ?_)
              refine hl_yes (wanted_y rfl rfl rfl hg9) rfl (HStep.of_val (v := (ptr r_b ((r_o + (Int.toNat 1) * 4) + 1))) (hv_field Ty.fld31_1 (b := r_b) (o := r_o + (Int.toNat 1) * 4) rfl) ?_)
              obtain ⟨x_1, hc17, H⟩ := H
              refine hl_yes (wanted_y rfl rfl rfl hg9) rfl (HStep.of_val (v := (.int .u64 x_1)) (hv_load Ty.agg29 rfl hc17) ?_)
              refine hl_yes (wanted_y rfl rfl rfl hg9) rfl (HStep.of_val (v := (.bool (x_1 == 5))) (hv_arith rfl rfl rfl) ?_)
              refine hl_val rfl rfl (v := (.bool (x_1 == 5))) (hv_pick_t rfl hg9 rfl) ?_
              refine hl_val rfl rfl (v := (.bool (x_1 == 5))) (hv_move rfl) ?_
              rcases bool_or (x_1 == 5) with hg12 | hg12
              · replace H := H.1 hg12
                refine hl_yes (wanted_y rfl rfl rfl hg12) rfl (HStep.of_val (v := (.slice (some ⟨r_b, r_o, none⟩) r_n r_c)) (hv_move rfl) ?_)
                obtain ⟨hi13, hi14, H⟩ := H
                refine hl_yes (wanted_y rfl rfl rfl hg12) rfl (HStep.of_val (v := (ptr r_b (r_o + (Int.toNat 0) * 4))) (hv_index Ty.el35 rfl rfl hi13 hi14) ?_)
                refine hl_yes (wanted_y rfl rfl rfl hg12) rfl (HStep.of_val (v := (ptr r_b ((r_o + (Int.toNat 0) * 4) + 1))) (hv_field Ty.fld31_1 (b := r_b) (o := r_o + (Int.toNat 0) * 4) rfl) ?_)
                obtain ⟨x_2, hc16, H⟩ := H
                refine hl_yes (wanted_y rfl rfl rfl hg12) rfl (HStep.of_val (v := (.int .u64 x_2)) (hv_load Ty.agg29 rfl hc16) ?_)
                refine hl_yes (wanted_y rfl rfl rfl hg12) rfl (HStep.of_val (v := (.bool (x_2 == 0))) (hv_arith rfl rfl rfl) ?_)
                refine hl_val rfl rfl (v := (.bool (x_2 == 0))) (hv_pick_t rfl hg12 rfl) ?_
                refine hl_val rfl rfl (v := (.bool (x_2 == 0))) (hv_move rfl) ?_
                rcases bool_or (x_2 == 0) with hg15 | hg15
                · replace H := H.1 hg15
                  refine hl_yes (wanted_y rfl rfl rfl hg15) rfl (HStep.of_val (v := (.pointer r0)) (hv_move rfl) ?_)
                  refine hl_yes (wanted_y rfl rfl rfl hg15) rfl (hs_call Ty.cb19 (vs := [(.pointer r0)]) rfl (HC.mono H ?_))
                  rintro _ h7 ⟨r_1, rfl, H⟩
                  refine hl_yes (wanted_y rfl rfl rfl hg15) rfl (HStep.of_val (v := (.bool (r_1 == 1))) (hv_arith rfl rfl rfl) ?_)
                  refine hl_val rfl rfl (v := (.bool (r_1 == 1))) (hv_pick_t rfl hg15 rfl) ?_
                  refine hl_val rfl rfl (v := (.bool (r_1 == 1))) (hv_assign rfl) ?_
                  refine hl_nil ?_
                  refine seqQ_n ?_
                  exact ⟨_, H, (has_cons rfl has_nil)⟩
                · replace H := H.2 hg15
                  refine hl_no (wanted_n rfl rfl rfl hg15) rfl ?_
                  refine hl_no (wanted_n rfl rfl rfl hg15) rfl ?_
                  refine hl_no (wanted_n rfl rfl rfl hg15) rfl ?_
                  refine hl_val rfl rfl (v := (.bool false)) (hv_pick_f rfl hg15 rfl) ?_
                  refine hl_val rfl rfl (v := (.bool false)) (hv_assign rfl) ?_
                  refine hl_nil ?_
                  refine seqQ_n ?_
                  exact ⟨_, H, (has_cons rfl has_nil)⟩
              · replace H := H.2 hg12
                refine hl_no (wanted_n rfl rfl rfl hg12) rfl ?_
                refine hl_no (wanted_n rfl rfl rfl hg12) rfl ?_
                refine hl_no (wanted_n rfl rfl rfl hg12) rfl ?_
                refine hl_no (wanted_n rfl rfl rfl hg12) rfl ?_
                refine hl_no (wanted_n rfl rfl rfl hg12) rfl ?_
                refine hl_val rfl rfl (v := (.bool false)) (hv_pick_f rfl hg12 rfl) ?_
                refine hl_val rfl rfl (v := (.bool false)) (hv_move rfl) ?_
                refine hl_no (wanted_n rfl rfl (c := false) rfl rfl) rfl ?_
                refine hl_no (wanted_n rfl rfl (c := false) rfl rfl) rfl ?_
                refine hl_no (wanted_n rfl rfl (c := false) rfl rfl) rfl ?_
                refine hl_val rfl rfl (v := (.bool false)) (hv_pick (t := false) rfl rfl) ?_
                refine hl_val rfl rfl (v := (.bool false)) (hv_assign rfl) ?_
                refine hl_nil ?_
                refine seqQ_n ?_
                exact ⟨_, H, (has_cons rfl has_nil)⟩
            · replace H := H.2 hg9
              refine hl_no (wanted_n rfl rfl rfl hg9) rfl ?_
              refine hl_no (wanted_n rfl rfl rfl hg9) rfl ?_
              refine hl_no (wanted_n rfl rfl rfl hg9) rfl ?_
              refine hl_no (wanted_n rfl rfl rfl hg9) rfl ?_
              refine hl_no (wanted_n rfl rfl rfl hg9) rfl ?_
              refine hl_val rfl rfl (v := (.bool false)) (hv_pick_f rfl hg9 rfl) ?_
              refine hl_val rfl rfl (v := (.bool false)) (hv_move rfl) ?_
              refine hl_no (wanted_n rfl rfl (c := false) rfl rfl) rfl ?_
              refine hl_no (wanted_n rfl rfl (c := false) rfl rfl) rfl ?_
              refine hl_no (wanted_n rfl rfl (c := false) rfl rfl) rfl ?_
              refine hl_no (wanted_n rfl rfl (c := false) rfl rfl) rfl ?_
              refine hl_no (wanted_n rfl rfl (c := false) rfl rfl) rfl ?_
              refine hl_val rfl rfl (v := (.bool false)) (hv_pick (t := false) rfl rfl) ?_
              refine hl_val rfl rfl (v := (.bool false)) (hv_move rfl) ?_
              refine hl_no (wanted_n rfl rfl (c := false) rfl rfl) rfl ?_
              refine hl_no (wanted_n rfl rfl (c := false) rfl rfl) rfl ?_
              refine hl_no (wanted_n rfl rfl (c := false) rfl rfl) rfl ?_
              refine hl_val rfl rfl (v := (.bool false)) (hv_pick (t := false) rfl rfl) ?_
              refine hl_val rfl rfl (v := (.bool false)) (hv_assign rfl) ?_
              refine hl_nil ?_
              refine seqQ_n ?_
              exact ⟨_, H, (has_cons rfl has_nil)⟩
          · replace H := H.2 hg8
            refine hl_no (wanted_n rfl rfl rfl hg8) rfl ?_
            refine hl_no (wanted_n rfl rfl rfl hg8) rfl ?_
            refine hl_no (wanted_n rfl rfl rfl hg8) rfl ?_
            refine hl_val rfl rfl (v := (.bool false)) (hv_pick_f rfl hg8 rfl) ?_
            refine hl_val rfl rfl (v := (.bool false)) (hv_move rfl) ?_
            refine hl_no (wanted_n rfl rfl (c := false) rfl rfl) rfl ?_
            refine hl_no (wanted_n rfl rfl (c := false) rfl rfl) rfl ?_
            refine hl_no (wanted_n rfl rfl (c := false) rfl rfl) rfl ?_
            refine hl_no (wanted_n rfl rfl (c := false) rfl rfl) rfl ?_
            refine hl_no (wanted_n rfl rfl (c := false) rfl rfl) rfl ?_
            refine hl_val rfl rfl (v := (.bool false)) (hv_pick (t := false) rfl rfl) ?_
            refine hl_val rfl rfl (v := (.bool false)) (hv_move rfl) ?_
            refine hl_no (wanted_n rfl rfl (c := false) rfl rfl) rfl ?_
            refine hl_no (wanted_n rfl rfl (c := false) rfl rfl) rfl ?_
            refine hl_no (wanted_n rfl rfl (c := false) rfl rfl) rfl ?_
            refine hl_no (wanted_n rfl rfl (c := false) rfl rfl) rfl ?_
            refine hl_no (wanted_n rfl rfl (c := false) rfl rfl) rfl ?_
            refine hl_val rfl rfl (v := (.bool false)) (hv_pick (t := false) rfl rfl) ?_
            refine hl_val rfl rfl (v := (.bool false)) (hv_move rfl) ?_
            refine hl_no (wanted_n rfl rfl (c := false) rfl rfl) rfl ?_
            refine hl_no (wanted_n rfl rfl (c := false) rfl rfl) rfl ?_
            refine hl_no (wanted_n rfl rfl (c := false) rfl rfl) rfl ?_
            refine hl_val rfl rfl (v := (.bool false)) (hv_pick (t := false) rfl rfl) ?_
            refine hl_val rfl rfl (v := (.bool false)) (hv_assign rfl) ?_
            refine hl_nil ?_
            refine seqQ_n ?_
            exact ⟨_, H, (has_cons rfl has_nil)⟩
        · replace H := H.2 hg7
          refine hl_no (wanted_n rfl rfl rfl hg7) rfl ?_
          refine hl_no (wanted_n rfl rfl rfl hg7) rfl ?_
          refine hl_val rfl rfl (v := (.bool false)) (hv_pick_f rfl hg7 rfl) ?_
          refine hl_val rfl rfl (v := (.bool false)) (hv_move rfl) ?_
          refine hl_no (wanted_n rfl rfl (c := false) rfl rfl) rfl ?_
          refine hl_no (wanted_n rfl rfl (c := false) rfl rfl) rfl ?_
          refine hl_no (wanted_n rfl rfl (c := false) rfl rfl) rfl ?_
          refine hl_val rfl rfl (v := (.bool false)) (hv_pick (t := false) rfl rfl) ?_
          refine hl_val rfl rfl (v := (.bool false)) (hv_move rfl) ?_
          refine hl_no (wanted_n rfl rfl (c := false) rfl rfl) rfl ?_
          refine hl_no (wanted_n rfl rfl (c := false) rfl rfl) rfl ?_
          refine hl_no (wanted_n rfl rfl (c := false) rfl rfl) rfl ?_
          refine hl_no (wanted_n rfl rfl (c := false) rfl rfl) rfl ?_
          refine hl_no (wanted_n rfl rfl (c := false) rfl rfl) rfl ?_
          refine hl_val rfl rfl (v := (.bool false)) (hv_pick (t := false) rfl rfl) ?_
          refine hl_val rfl rfl (v := (.bool false)) (hv_move rfl) ?_
          refine hl_no (wanted_n rfl rfl (c := false) rfl rfl) rfl ?_
          refine hl_no (wanted_n rfl rfl (c := false) rfl rfl) rfl ?_
          refine hl_no (wanted_n rfl rfl (c := false) rfl rfl) rfl ?_
          refine hl_no (wanted_n rfl rfl (c := false) rfl rfl) rfl ?_
          refine hl_no (wanted_n rfl rfl (c := false) rfl rfl) rfl ?_
          refine hl_val rfl rfl (v := (.bool false)) (hv_pick (t := false) rfl rfl) ?_
          refine hl_val rfl rfl (v := (.bool false)) (hv_move rfl) ?_
          refine hl_no (wanted_n rfl rfl (c := false) rfl rfl) rfl ?_
          refine hl_no (wanted_n rfl rfl (c := false) rfl rfl) rfl ?_
          refine hl_no (wanted_n rfl rfl (c := false) rfl rfl) rfl ?_
          refine hl_val rfl rfl (v := (.bool false)) (hv_pick (t := false) rfl rfl) ?_
          refine hl_val rfl rfl (v := (.bool false)) (hv_assign rfl) ?_
          refine hl_nil ?_
          refine seqQ_n ?_
          exact ⟨_, H, (has_cons rfl has_nil)⟩
      · rintro ρ h6 ⟨j_1, HA20, hH⟩
        have H := Hy19 j_1 h6 HA20; clear Hx18 Hy19
        refine hx_has _ hH ?_
        refine hx_ret ?_
        exact endQ_ret _ (res_one Try.results9 (rv_tmp rfl)) H

/-- cellar/cellarlaw11.does -/
theorem f11_sh (t_b : Nat) (t_o : Nat) (o_Kind : Int) (o_Entry_Hash : Int) (o_Entry_At : Int) (o_Entry_Version : Int) (o_Entry_Hits : Int) (h : Heap) (R : Value → Heap → Prop)
    (H : (∀ o h1, o = Array.size h → h1 = Array.push h (.cells #[(.int .i64 o_Kind), (.int .u64 o_Entry_Hash), (.int .u64 o_Entry_At), (.int .u64 o_Entry_Version), (.int .u8 o_Entry_Hits)] 33) → (∃ x : Int, hcell h1 o 0 = some (.int .i64 x) ∧ (((x == 1) = true → (∃ x_Hash x_At x_Version x_Hits : Int, hcell h1 o 1 = some (.int .u64 x_Hash) ∧ hcell h1 o 2 = some (.int .u64 x_At) ∧ hcell h1 o 3 = some (.int .u64 x_Version) ∧ hcell h1 o 4 = some (.int .u8 x_Hits) ∧ HC Try.prog 14 #[(ptr t_b t_o), (.agg #[(.int .u64 x_Hash), (.int .u64 x_At), (.int .u64 x_Version), (.int .u8 x_Hits)])] h1 (fun vv h2 => ∃ r0_Hash r0_At r0_Version r0_Hits : Int, ∃ r1 : Bool, ∃ r2 : Int, vv = (.tuple #[(.agg #[(.int .u64 r0_Hash), (.int .u64 r0_At), (.int .u64 r0_Version), (.int .u8 r0_Hits)]), (.bool r1), (.int .i64 r2)]) ∧ R (.tuple #[]) h2))) ∧ ((x == 1) = false → (((x == 3) = true → (∃ x_1 : Int, hcell h1 o 1 = some (.int .u64 x_1) ∧ HC Try.prog 16 #[(ptr t_b t_o), (.int .u64 x_1)] h1 (fun vv h3 => ∃ r0_Hash r0_At r0_Version r0_Hits : Int, ∃ r1 : Bool, vv = (.tuple #[(.agg #[(.int .u64 r0_Hash), (.int .u64 r0_At), (.int .u64 r0_Version), (.int .u8 r0_Hits)]), (.bool r1)]) ∧ R (.tuple #[]) h3))) ∧ ((x == 3) = false → (((x == 4) = true → (∃ x_1 : Int, hcell h1 o 1 = some (.int .u64 x_1) ∧ HC Try.prog 17 #[(ptr t_b t_o), (.int .u64 x_1)] h1 (fun vv h4 => ∃ r : Bool, vv = (.bool r) ∧ R (.tuple #[]) h4))) ∧ ((x == 4) = false → R (.tuple #[]) h1))))))))) :
    HC Try.prog 11 #[(ptr t_b t_o), (.agg #[(.int .i64 o_Kind), (.int .u64 o_Entry_Hash), (.int .u64 o_Entry_At), (.int .u64 o_Entry_Version), (.int .u8 o_Entry_Hits)])] h R := by
  refine hc_of (args := [(ptr t_b t_o), (.agg #[(.int .i64 o_Kind), (.int .u64 o_Entry_Hash), (.int .u64 o_Entry_At), (.int .u64 o_Entry_Version), (.int .u8 o_Entry_Hits)])]) Try.func11 rfl Try.ntmps11 (Nat.le_of_ble_eq_true rfl) ?_
  refine hx_seq ?_
  refine hx_region ?_
  refine hl_step rfl rfl (hn_box (v := (.agg #[(.int .i64 o_Kind), (.int .u64 o_Entry_Hash), (.int .u64 o_Entry_At), (.int .u64 o_Entry_Version), (.int .u8 o_Entry_Hits)])) rfl ?_)
  intro o h1 eb1 eh2
  replace H := H o h1 eb1 eh2
  refine hl_nil ?_
  refine seqQ_n ?_
  refine hx_seq ?_
  refine hx_region ?_
  refine hl_val rfl rfl (v := (ptr o 0)) (hv_field Ty.fld33_0 (b := o) (o := 0) rfl) ?_
  obtain ⟨x, hc12, H⟩ := H
  refine hl_val rfl rfl (v := (.int .i64 x)) (hv_load Ty.agg3 rfl hc12) ?_
  refine hl_nil ?_
  refine seqQ_n ?_
  refine hx_block ?_
  refine hx_seq ?_
  refine hx_region ?_
  refine hl_val rfl rfl (v := (.bool (x == 1))) (hv_arith rfl rfl rfl) ?_
  refine hl_val rfl rfl (v := (.bool (x == 1))) (hv_assign rfl) ?_
  refine hl_nil ?_
  refine seqQ_n ?_
  refine hx_cond (b := x == 1) rfl (fun hb11 => ?_) (fun hb11 => ?_)
  · replace H := H.1 hb11
    refine hx_region ?_
    refine hl_val rfl rfl (v := (ptr t_b t_o)) (hv_move rfl) ?_
    refine hl_val rfl rfl (v := (ptr o 1)) (hv_field Ty.fld33_1 (b := o) (o := 0) rfl) ?_
    obtain ⟨x_Hash, x_At, x_Version, x_Hits, hc3, hc4, hc5, hc6, H⟩ := H
    refine hl_val rfl rfl (v := (.agg #[(.int .u64 x_Hash), (.int .u64 x_At), (.int .u64 x_Version), (.int .u8 x_Hits)])) (hv_loads (vs := [(.int .u64 x_Hash), (.int .u64 x_At), (.int .u64 x_Version), (.int .u8 x_Hits)]) Ty.agg31 Ty.sz31 rfl (hcells_cons hc3 (hcells_cons hc4 (hcells_cons hc5 (hcells_cons hc6 hcells_nil))))) ?_
    refine hl_step rfl rfl (hs_call Ty.cb14 (vs := [(ptr t_b t_o), (.agg #[(.int .u64 x_Hash), (.int .u64 x_At), (.int .u64 x_Version), (.int .u8 x_Hits)])]) rfl (HC.mono H ?_))
    rintro _ h2 ⟨r0_Hash, r0_At, r0_Version, r0_Hits, r1, r2, rfl, H⟩
    refine hl_nil ?_
    refine blockQ_n ?_
    exact endQ_n _ (res_none Try.results11 ) H
  · replace H := H.2 hb11
    refine hx_seq ?_
    refine hx_region ?_
    refine hl_val rfl rfl (v := (.bool (x == 3))) (hv_arith rfl rfl rfl) ?_
    refine hl_val rfl rfl (v := (.bool (x == 3))) (hv_assign rfl) ?_
    refine hl_nil ?_
    refine seqQ_n ?_
    refine hx_cond (b := x == 3) rfl (fun hb10 => ?_) (fun hb10 => ?_)
    · replace H := H.1 hb10
      refine hx_region ?_
      refine hl_val rfl rfl (v := (ptr t_b t_o)) (hv_move rfl) ?_
      refine hl_val rfl rfl (v := (ptr o 1)) (hv_field Ty.fld33_1 (b := o) (o := 0) rfl) ?_
      refine hl_val rfl rfl (v := (ptr o 1)) (hv_field Ty.fld31_0 (b := o) (o := 1) rfl) ?_
      obtain ⟨x_1, hc7, H⟩ := H
      refine hl_val rfl rfl (v := (.int .u64 x_1)) (hv_load Ty.agg29 rfl hc7) ?_
      refine hl_step rfl rfl (hs_call Ty.cb16 (vs := [(ptr t_b t_o), (.int .u64 x_1)]) rfl (HC.mono H ?_))
      rintro _ h3 ⟨r0_Hash, r0_At, r0_Version, r0_Hits, r1, rfl, H⟩
      refine hl_nil ?_
      refine blockQ_n ?_
      exact endQ_n _ (res_none Try.results11 ) H
    · replace H := H.2 hb10
      refine hx_seq ?_
      refine hx_region ?_
      refine hl_val rfl rfl (v := (.bool (x == 4))) (hv_arith rfl rfl rfl) ?_
      refine hl_val rfl rfl (v := (.bool (x == 4))) (hv_assign rfl) ?_
      refine hl_nil ?_
      refine seqQ_n ?_
      refine hx_cond (b := x == 4) rfl (fun hb9 => ?_) (fun hb9 => ?_)
      · replace H := H.1 hb9
        refine hx_region ?_
        refine hl_val rfl rfl (v := (ptr t_b t_o)) (hv_move rfl) ?_
        refine hl_val rfl rfl (v := (ptr o 1)) (hv_field Ty.fld33_1 (b := o) (o := 0) rfl) ?_
        refine hl_val rfl rfl (v := (ptr o 1)) (hv_field Ty.fld31_0 (b := o) (o := 1) rfl) ?_
        obtain ⟨x_1, hc8, H⟩ := H
        refine hl_val rfl rfl (v := (.int .u64 x_1)) (hv_load Ty.agg29 rfl hc8) ?_
        refine hl_step rfl rfl (hs_call Ty.cb17 (vs := [(ptr t_b t_o), (.int .u64 x_1)]) rfl (HC.mono H ?_))
        rintro _ h4 ⟨r, rfl, H⟩
        refine hl_nil ?_
        refine blockQ_n ?_
        exact endQ_n _ (res_none Try.results11 ) H
      · replace H := H.2 hb9
        refine hx_skip ?_
        refine blockQ_n ?_
        exact endQ_n _ (res_none Try.results11 ) H

/-- cellar/cellarlaw11.right -/
theorem f12_sh (l : Option Addr) (l_n : Nat) (l_c : Nat) (h : Heap) (R : Value → Heap → Prop)
    (H : (∃ (I1 : Int → Prop) (mu2 : Int → Nat), I1 0 ∧ (∀ (bits : Int), I1 bits → ((0 : Int) ≤ bits ∧ (((decide ((IntKind.i64.wrap (1 * 2 ^ min (Int.toNat bits) 64)) < (l_n : Int))) = true → (I1 (IntKind.i64.wrap (bits + 1)) ∧ mu2 (IntKind.i64.wrap (bits + 1)) < mu2 bits)) ∧ ((decide ((IntKind.i64.wrap (1 * 2 ^ min (Int.toNat bits) 64)) < (l_n : Int))) = false → (∃ j : Bool, (((decide ((l_n : Int) < 4)) = true → (j = true)) ∧ ((decide ((l_n : Int) < 4)) = false → ((0 : Int) ≤ bits ∧ (j = ((IntKind.i64.wrap (1 * 2 ^ min (Int.toNat bits) 64)) != (l_n : Int)))))) ∧ ((j = true → R (.bool false) h) ∧ (j = false → (∃ (I8 : Int → Int → Heap → Prop) (mu9 : Int → Int → Heap → Nat), I8 0 0 h ∧ (∀ (full : Int) (i : Int) (h1 : Heap), I8 full i h1 → (((decide (i < (l_n : Int))) = true → (∃ A13 : Int → Heap → Prop, (∃ l_b l_o : Nat, l = some ⟨l_b, l_o, none⟩ ∧ (0 : Int) ≤ i ∧ i < (l_n : Int) ∧ (∃ x : Int, hcell h1 l_b ((l_o + (Int.toNat i) * 4) + 1) = some (.int .u64 x) ∧ (((x == 0) = true → ((0 : Int) ≤ i ∧ i < (l_n : Int) ∧ (∃ x_Hash x_At x_Version x_Hits : Int, hcell h1 l_b (l_o + (Int.toNat i) * 4) = some (.int .u64 x_Hash) ∧ hcell h1 l_b ((l_o + (Int.toNat i) * 4) + 1) = some (.int .u64 x_At) ∧ hcell h1 l_b ((l_o + (Int.toNat i) * 4) + 2) = some (.int .u64 x_Version) ∧ hcell h1 l_b ((l_o + (Int.toNat i) * 4) + 3) = some (.int .u8 x_Hits) ∧ (((!((x_Hash == 0 && (x_At == 0 && (x_Version == 0 && (x_Hits == 0 && true)))))) = true → R (.bool false) h1) ∧ ((!((x_Hash == 0 && (x_At == 0 && (x_Version == 0 && (x_Hits == 0 && true)))))) = false → (A13 full h1)))))) ∧ ((x == 0) = false → ((0 : Int) ≤ i ∧ i < (l_n : Int) ∧ (∃ x_1 : Int, hcell h1 l_b (l_o + (Int.toNat i) * 4) = some (.int .u64 x_1) ∧ ((0 : Int) ≤ IntKind.i64.wrap (64 - bits) ∧ ((l_n : Int) ≠ 0 ∧ ((((Int.tmod (IntKind.i64.wrap ((IntKind.i64.wrap (i - (IntKind.i64.wrap (Int.fdiv x_1 (2 ^ min (Int.toNat (IntKind.i64.wrap (64 - bits))) 64))))) + (l_n : Int))) (l_n : Int)) == 0) = true → (A13 (IntKind.i64.wrap (full + 1)) h1)) ∧ (((Int.tmod (IntKind.i64.wrap ((IntKind.i64.wrap (i - (IntKind.i64.wrap (Int.fdiv x_1 (2 ^ min (Int.toNat (IntKind.i64.wrap (64 - bits))) 64))))) + (l_n : Int))) (l_n : Int)) == 0) = false → ((l_n : Int) ≠ 0 ∧ ((0 : Int) ≤ Int.tmod (IntKind.i64.wrap ((IntKind.i64.wrap (i - 1)) + (l_n : Int))) (l_n : Int) ∧ Int.tmod (IntKind.i64.wrap ((IntKind.i64.wrap (i - 1)) + (l_n : Int))) (l_n : Int) < (l_n : Int) ∧ (∃ x_Hash x_At x_Version x_Hits : Int, hcell h1 l_b (l_o + (Int.toNat (Int.tmod (IntKind.i64.wrap ((IntKind.i64.wrap (i - 1)) + (l_n : Int))) (l_n : Int))) * 4) = some (.int .u64 x_Hash) ∧ hcell h1 l_b ((l_o + (Int.toNat (Int.tmod (IntKind.i64.wrap ((IntKind.i64.wrap (i - 1)) + (l_n : Int))) (l_n : Int))) * 4) + 1) = some (.int .u64 x_At) ∧ hcell h1 l_b ((l_o + (Int.toNat (Int.tmod (IntKind.i64.wrap ((IntKind.i64.wrap (i - 1)) + (l_n : Int))) (l_n : Int))) * 4) + 2) = some (.int .u64 x_Version) ∧ hcell h1 l_b ((l_o + (Int.toNat (Int.tmod (IntKind.i64.wrap ((IntKind.i64.wrap (i - 1)) + (l_n : Int))) (l_n : Int))) * 4) + 3) = some (.int .u8 x_Hits) ∧ (∀ before h3, before = Array.size h1 → h3 = Array.push h1 (.cells #[(.int .u64 0), (.int .u64 0), (.int .u64 0), (.int .u8 0)] 31) → (HWs h3 before 0 4 ∧ ∀ h4, h4 = hsets h3 before 0 [(.int .u64 x_Hash), (.int .u64 x_At), (.int .u64 x_Version), (.int .u8 x_Hits)] → (∃ x_2 : Int, hcell h4 before 1 = some (.int .u64 x_2) ∧ (((x_2 == 0) = true → R (.bool false) h4) ∧ ((x_2 == 0) = false → ((l_n : Int) ≠ 0 ∧ (∃ x_3 : Int, hcell h4 before 0 = some (.int .u64 x_3) ∧ ((0 : Int) ≤ IntKind.i64.wrap (64 - bits) ∧ ((l_n : Int) ≠ 0 ∧ (∃ j_1 : Bool, (((decide ((Int.tmod (IntKind.i64.wrap ((IntKind.i64.wrap ((Int.tmod (IntKind.i64.wrap ((IntKind.i64.wrap (i - 1)) + (l_n : Int))) (l_n : Int)) - (IntKind.i64.wrap (Int.fdiv x_3 (2 ^ min (Int.toNat (IntKind.i64.wrap (64 - bits))) 64))))) + (l_n : Int))) (l_n : Int)) < (IntKind.i64.wrap ((Int.tmod (IntKind.i64.wrap ((IntKind.i64.wrap (i - (IntKind.i64.wrap (Int.fdiv x_1 (2 ^ min (Int.toNat (IntKind.i64.wrap (64 - bits))) 64))))) + (l_n : Int))) (l_n : Int)) - 1)))) = true → (j_1 = true)) ∧ ((decide ((Int.tmod (IntKind.i64.wrap ((IntKind.i64.wrap ((Int.tmod (IntKind.i64.wrap ((IntKind.i64.wrap (i - 1)) + (l_n : Int))) (l_n : Int)) - (IntKind.i64.wrap (Int.fdiv x_3 (2 ^ min (Int.toNat (IntKind.i64.wrap (64 - bits))) 64))))) + (l_n : Int))) (l_n : Int)) < (IntKind.i64.wrap ((Int.tmod (IntKind.i64.wrap ((IntKind.i64.wrap (i - (IntKind.i64.wrap (Int.fdiv x_1 (2 ^ min (Int.toNat (IntKind.i64.wrap (64 - bits))) 64))))) + (l_n : Int))) (l_n : Int)) - 1)))) = false → ((((Int.tmod (IntKind.i64.wrap ((IntKind.i64.wrap ((Int.tmod (IntKind.i64.wrap ((IntKind.i64.wrap (i - 1)) + (l_n : Int))) (l_n : Int)) - (IntKind.i64.wrap (Int.fdiv x_3 (2 ^ min (Int.toNat (IntKind.i64.wrap (64 - bits))) 64))))) + (l_n : Int))) (l_n : Int)) == (IntKind.i64.wrap ((Int.tmod (IntKind.i64.wrap ((IntKind.i64.wrap (i - (IntKind.i64.wrap (Int.fdiv x_1 (2 ^ min (Int.toNat (IntKind.i64.wrap (64 - bits))) 64))))) + (l_n : Int))) (l_n : Int)) - 1))) = true → (∃ x_4 : Int, hcell h4 before 0 = some (.int .u64 x_4) ∧ ((0 : Int) ≤ i ∧ i < (l_n : Int) ∧ (∃ x_5 : Int, hcell h4 l_b (l_o + (Int.toNat i) * 4) = some (.int .u64 x_5) ∧ (j_1 = (decide (x_4 ≥ x_5))))))) ∧ (((Int.tmod (IntKind.i64.wrap ((IntKind.i64.wrap ((Int.tmod (IntKind.i64.wrap ((IntKind.i64.wrap (i - 1)) + (l_n : Int))) (l_n : Int)) - (IntKind.i64.wrap (Int.fdiv x_3 (2 ^ min (Int.toNat (IntKind.i64.wrap (64 - bits))) 64))))) + (l_n : Int))) (l_n : Int)) == (IntKind.i64.wrap ((Int.tmod (IntKind.i64.wrap ((IntKind.i64.wrap (i - (IntKind.i64.wrap (Int.fdiv x_1 (2 ^ min (Int.toNat (IntKind.i64.wrap (64 - bits))) 64))))) + (l_n : Int))) (l_n : Int)) - 1))) = false → (j_1 = false))))) ∧ ((j_1 = true → R (.bool false) h4) ∧ (j_1 = false → (A13 (IntKind.i64.wrap (full + 1)) h4)))))))))))))))))))))))))) ∧ (∀ (full_1 : Int) (h2 : Heap), A13 full_1 h2 → (I8 full_1 (IntKind.i64.wrap (i + 1)) h2 ∧ mu9 full_1 (IntKind.i64.wrap (i + 1)) h2 < mu9 full i h1)))) ∧ ((decide (i < (l_n : Int))) = false → R (.bool (decide ((IntKind.i64.wrap (8 * full)) ≤ (IntKind.i64.wrap (7 * (l_n : Int)))))) h1))))))))))))) :
    HC Try.prog 12 #[(.slice l l_n l_c)] h R := by
  refine hc_of (args := [(.slice l l_n l_c)]) Try.func12 rfl Try.ntmps12 (Nat.le_of_ble_eq_true rfl) ?_
  refine hx_seq ?_
  refine hx_region ?_
  refine hl_val rfl rfl (v := (.bool false)) (hv_assign rfl) ?_
  refine hl_nil ?_
  refine seqQ_n ?_
  refine hx_seq ?_
  refine hx_region ?_
  refine hl_val rfl rfl (v := (.slice l l_n l_c)) (hv_move rfl) ?_
  refine hl_val rfl rfl (v := (.int .i64 (l_n : Int))) (hv_len (n := l_n) Ty.u35 rfl) ?_
  refine hl_val rfl rfl (v := (.int .i64 (l_n : Int))) (hv_assign rfl) ?_
  refine hl_nil ?_
  refine seqQ_n ?_
  refine hx_seq ?_
  refine hx_region ?_
  refine hl_val rfl rfl (v := (.int .i64 0)) (hv_assign rfl) ?_
  refine hl_nil ?_
  refine seqQ_n ?_
  refine hx_seq ?_
  refine hx_block ?_
  obtain ⟨I1, mu2, Ha3, Hr4⟩ := H
  refine hx_loopT (σ := Int) (fun s => [(0, (.slice l l_n l_c)), (3, (.int .i64 (l_n : Int))), (4, (.int .i64 s))]) (fun s h' => I1 s ∧ h = h') (fun s _ => mu2 s) 0 ⟨Ha3, rfl⟩ (has_cons rfl (has_cons rfl (has_cons rfl has_nil))) ?_
  rintro bits ρ _ ⟨Hi5, rfl⟩
  have H := Hr4 bits Hi5
  refine hx_seq ?_
  refine hx_seq ?_
  refine hx_region ?_
  refine hl_val rfl rfl (v := (.int .i64 bits)) (hv_move rfl) ?_
  obtain ⟨hz65, H⟩ := H
  refine hl_val rfl rfl (v := (.int .i64 (IntKind.i64.wrap (1 * 2 ^ min (Int.toNat bits) 64)))) (hv_shift rfl rfl hz65 rfl) ?_
  refine hl_val rfl rfl (v := (.int .i64 (l_n : Int))) (hv_move rfl) ?_
  refine hl_val rfl rfl (v := (.bool (decide ((IntKind.i64.wrap (1 * 2 ^ min (Int.toNat bits) 64)) < (l_n : Int))))) (hv_arith rfl rfl rfl) ?_
  refine hl_nil ?_
  refine seqQ_n ?_
  refine hx_cond (b := decide ((IntKind.i64.wrap (1 * 2 ^ min (Int.toNat bits) 64)) < (l_n : Int))) rfl (fun hb64 => ?_) (fun hb64 => ?_)
  · replace H := H.1 hb64
    refine hx_skip ?_
    refine seqQ_n ?_
    refine hx_block ?_
    refine hx_region ?_
    refine hl_val rfl rfl (v := (.int .i64 bits)) (hv_move rfl) ?_
    refine hl_val rfl rfl (v := (.int .i64 (IntKind.i64.wrap (bits + 1)))) (hv_arith rfl rfl rfl) ?_
    refine hl_val rfl rfl (v := (.int .i64 (IntKind.i64.wrap (bits + 1)))) (hv_assign rfl) ?_
    refine hl_nil ?_
    refine blockQ_n ?_
    refine seqQ_n ?_
    exact ⟨IntKind.i64.wrap (bits + 1), ⟨⟨H.1, rfl⟩, H.2⟩, (has_cons rfl (has_cons rfl (has_cons rfl has_nil)))⟩
  · replace H := H.2 hb64
    refine hx_exit ?_
    refine seqQ_exit ?_
    refine seqQ_exit ?_
    refine blockQ_here ?_
    refine seqQ_n ?_
    refine hx_seq ?_
    obtain ⟨j, Hx62, Hy63⟩ := H
    refine hx_cut (fun ρ h' => h = h' ∧ Has ρ [(0, (.slice l l_n l_c)), (3, (.int .i64 (l_n : Int))), (4, (.int .i64 bits)), (26, (.bool j))]) ?_ ?_
    · have H := Hx62; clear Hx62 Hy63
      refine hx_region ?_
      refine hl_val rfl rfl (v := (.int .i64 (l_n : Int))) (hv_move rfl) ?_
      refine hl_val rfl rfl (v := (.bool (decide ((l_n : Int) < 4)))) (hv_arith rfl rfl rfl) ?_
      refine hl_val rfl rfl (v := (.bool (decide ((l_n : Int) < 4)))) (hv_move rfl) ?_
      rcases bool_or (decide ((l_n : Int) < 4)) with hg6 | hg6
      · replace H := H.1 hg6
        refine hl_no (wanted_n rfl rfl rfl hg6) rfl ?_
        refine hl_no (wanted_n rfl rfl rfl hg6) rfl ?_
        refine hl_no (wanted_n rfl rfl rfl hg6) rfl ?_
        refine hl_no (wanted_n rfl rfl rfl hg6) rfl ?_
        refine hl_val rfl rfl (v := (.bool true)) (hv_pick_t rfl hg6 rfl) ?_
        refine hl_nil ?_
        refine seqQ_n ?_
        obtain rfl := H
        exact ⟨rfl, (has_cons rfl (has_cons rfl (has_cons rfl (has_cons rfl has_nil))))⟩
      · replace H := H.2 hg6
        refine hl_yes (wanted_y rfl rfl rfl hg6) rfl (HStep.of_val (v := (.int .i64 bits)) (hv_move rfl) ?_)
        obtain ⟨hz7, H⟩ := H
        refine hl_yes (wanted_y rfl rfl rfl hg6) rfl (HStep.of_val (v := (.int .i64 (IntKind.i64.wrap (1 * 2 ^ min (Int.toNat bits) 64)))) (hv_shift rfl rfl hz7 rfl) ?_)
        refine hl_yes (wanted_y rfl rfl rfl hg6) rfl (HStep.of_val (v := (.int .i64 (l_n : Int))) (hv_move rfl) ?_)
        refine hl_yes (wanted_y rfl rfl rfl hg6) rfl (HStep.of_val (v := (.bool ((IntKind.i64.wrap (1 * 2 ^ min (Int.toNat bits) 64)) != (l_n : Int)))) (hv_arith rfl rfl rfl) ?_)
        refine hl_val rfl rfl (v := (.bool ((IntKind.i64.wrap (1 * 2 ^ min (Int.toNat bits) 64)) != (l_n : Int)))) (hv_pick_f rfl hg6 rfl) ?_
        refine hl_nil ?_
        refine seqQ_n ?_
        obtain rfl := H
        exact ⟨rfl, (has_cons rfl (has_cons rfl (has_cons rfl (has_cons rfl has_nil))))⟩
    · have H := Hy63; clear Hx62 Hy63
      rintro ρ _ ⟨rfl, hH⟩
      refine hx_has _ hH ?_
      refine hx_cond (b := j) rfl (fun hb61 => ?_) (fun hb61 => ?_)
      · replace H := H.1 hb61
        refine hx_seq ?_
        refine hx_region ?_
        refine hl_val rfl rfl (v := (.bool false)) (hv_assign rfl) ?_
        refine hl_nil ?_
        refine seqQ_n ?_
        refine hx_ret ?_
        refine seqQ_ret ?_
        exact endQ_ret _ (res_one Try.results12 (rv_tmp rfl)) H
      · replace H := H.2 hb61
        refine hx_skip ?_
        refine seqQ_n ?_
        refine hx_seq ?_
        refine hx_region ?_
        refine hl_val rfl rfl (v := (.int .i64 0)) (hv_assign rfl) ?_
        refine hl_nil ?_
        refine seqQ_n ?_
        refine hx_seq ?_
        refine hx_seq ?_
        refine hx_region ?_
        refine hl_val rfl rfl (v := (.int .i64 0)) (hv_assign rfl) ?_
        refine hl_nil ?_
        refine seqQ_n ?_
        refine hx_block ?_
        obtain ⟨I8, mu9, Ha10, Hr11⟩ := H
        refine hx_loopT (σ := Int × Int) (fun s => [(0, (.slice l l_n l_c)), (3, (.int .i64 (l_n : Int))), (4, (.int .i64 bits)), (5, (.int .i64 s.1)), (6, (.int .i64 s.2))]) (fun s h' => I8 s.1 s.2 h') (fun s h' => mu9 s.1 s.2 h') (0, 0) Ha10 (has_cons rfl (has_cons rfl (has_cons rfl (has_cons rfl (has_cons rfl has_nil))))) ?_
        rintro ⟨full, i⟩ ρ h1 Hi12
        have H := Hr11 full i h1 Hi12
        refine hx_seq ?_
        refine hx_seq ?_
        refine hx_region ?_
        refine hl_val rfl rfl (v := (.int .i64 i)) (hv_move rfl) ?_
        refine hl_val rfl rfl (v := (.int .i64 (l_n : Int))) (hv_move rfl) ?_
        refine hl_val rfl rfl (v := (.bool (decide (i < (l_n : Int))))) (hv_arith rfl rfl rfl) ?_
        refine hl_nil ?_
        refine seqQ_n ?_
        refine hx_cond (b := decide (i < (l_n : Int))) rfl (fun hb60 => ?_) (fun hb60 => ?_)
        · replace H := H.1 hb60
          refine hx_skip ?_
          refine seqQ_n ?_
          obtain ⟨A13, Hx57, Hy58⟩ := H
          refine hx_cut (fun ρ h' => ∃ full_1 : Int, A13 full_1 h' ∧ Has ρ [(0, (.slice l l_n l_c)), (3, (.int .i64 (l_n : Int))), (4, (.int .i64 bits)), (5, (.int .i64 full_1)), (6, (.int .i64 i))]) ?_ ?_
          · have H := Hx57; clear Hx57 Hy58
            refine hx_block ?_
            refine hx_seq ?_
            refine hx_seq ?_
            refine hx_region ?_
            refine hl_val rfl rfl (v := (.slice l l_n l_c)) (hv_move rfl) ?_
            refine hl_val rfl rfl (v := (.int .i64 i)) (hv_move rfl) ?_
            obtain ⟨l_b, l_o, hqe, hi14, hi15, Hq⟩ := H
            subst hqe
            have H := Hq; clear Hq
            refine hl_val rfl rfl (v := (ptr l_b (l_o + (Int.toNat i) * 4))) (hv_index Ty.el35 rfl rfl hi14 hi15) ?_
            refine hl_val rfl rfl (v := (ptr l_b ((l_o + (Int.toNat i) * 4) + 1))) (hv_field Ty.fld31_1 (b := l_b) (o := l_o + (Int.toNat i) * 4) rfl) ?_
            obtain ⟨x, hc56, H⟩ := H
            refine hl_val rfl rfl (v := (.int .u64 x)) (hv_load Ty.agg29 rfl hc56) ?_
            refine hl_val rfl rfl (v := (.bool (x == 0))) (hv_arith rfl rfl rfl) ?_
            refine hl_nil ?_
            refine seqQ_n ?_
            refine hx_cond (b := x == 0) rfl (fun hb55 => ?_) (fun hb55 => ?_)
            · replace H := H.1 hb55
              refine hx_seq ?_
              refine hx_seq ?_
              refine hx_region ?_
              refine hl_val rfl rfl (v := (.slice (some ⟨l_b, l_o, none⟩) l_n l_c)) (hv_move rfl) ?_
              refine hl_val rfl rfl (v := (.int .i64 i)) (hv_move rfl) ?_
              obtain ⟨hi16, hi17, H⟩ := H
              refine hl_val rfl rfl (v := (ptr l_b (l_o + (Int.toNat i) * 4))) (hv_index Ty.el35 rfl rfl hi16 hi17) ?_
              obtain ⟨x_Hash, x_At, x_Version, x_Hits, hc19, hc20, hc21, hc22, H⟩ := H
              refine hl_val rfl rfl (v := (.agg #[(.int .u64 x_Hash), (.int .u64 x_At), (.int .u64 x_Version), (.int .u8 x_Hits)])) (hv_loads (vs := [(.int .u64 x_Hash), (.int .u64 x_At), (.int .u64 x_Version), (.int .u8 x_Hits)]) Ty.agg31 Ty.sz31 rfl (hcells_cons hc19 (hcells_cons hc20 (hcells_cons hc21 (hcells_cons hc22 hcells_nil))))) ?_
              refine hl_val rfl rfl (v := (.agg #[(.int .u64 0), (.int .u64 0), (.int .u64 0), (.int .u8 0)])) (hv_build (vs := []) (cs := #[(.int .u64 0), (.int .u64 0), (.int .u64 0), (.int .u8 0)]) Ty.z31 Ty.pl31 rfl (by kernel_rfl)) ?_
              refine hl_val rfl rfl (v := (.bool (!((x_Hash == 0 && (x_At == 0 && (x_Version == 0 && (x_Hits == 0 && true)))))))) (hv_structEq (xs := [(.int .u64 x_Hash), (.int .u64 x_At), (.int .u64 x_Version), (.int .u8 x_Hits)]) (ys := [(.int .u64 0), (.int .u64 0), (.int .u64 0), (.int .u8 0)]) (b := (x_Hash == 0 && (x_At == 0 && (x_Version == 0 && (x_Hits == 0 && true))))) Ty.se31 rfl rfl (by kernel_rfl) rfl) ?_
              refine hl_nil ?_
              refine seqQ_n ?_
              refine hx_cond (b := !((x_Hash == 0 && (x_At == 0 && (x_Version == 0 && (x_Hits == 0 && true)))))) rfl (fun hb18 => ?_) (fun hb18 => ?_)
              · replace H := H.1 hb18
                refine hx_seq ?_
                refine hx_region ?_
                refine hl_val rfl rfl (v := (.bool false)) (hv_assign rfl) ?_
                refine hl_nil ?_
                refine seqQ_n ?_
                refine hx_ret ?_
                refine seqQ_ret ?_
                refine seqQ_ret ?_
                refine blockQ_ret ?_
                refine seqQ_ret ?_
                refine seqQ_ret ?_
                refine blockQ_ret ?_
                refine seqQ_ret ?_
                exact endQ_ret _ (res_one Try.results12 (rv_tmp rfl)) H
              · replace H := H.2 hb18
                refine hx_skip ?_
                refine seqQ_n ?_
                refine hx_exit ?_
                refine seqQ_exit ?_
                refine blockQ_here ?_
                refine seqQ_n ?_
                exact ⟨_, H, (has_cons rfl (has_cons rfl (has_cons rfl (has_cons rfl (has_cons rfl has_nil)))))⟩
            · replace H := H.2 hb55
              refine hx_skip ?_
              refine seqQ_n ?_
              refine hx_seq ?_
              refine hx_region ?_
              refine hl_val rfl rfl (v := (.int .i64 full)) (hv_move rfl) ?_
              refine hl_val rfl rfl (v := (.int .i64 (IntKind.i64.wrap (full + 1)))) (hv_arith rfl rfl rfl) ?_
              refine hl_val rfl rfl (v := (.int .i64 (IntKind.i64.wrap (full + 1)))) (hv_assign rfl) ?_
              refine hl_nil ?_
              refine seqQ_n ?_
              refine hx_seq ?_
              refine hx_region ?_
              refine hl_val rfl rfl (v := (.slice (some ⟨l_b, l_o, none⟩) l_n l_c)) (hv_move rfl) ?_
              refine hl_val rfl rfl (v := (.int .i64 i)) (hv_move rfl) ?_
              obtain ⟨hi23, hi24, H⟩ := H
              refine hl_val rfl rfl (v := (ptr l_b (l_o + (Int.toNat i) * 4))) (hv_index Ty.el35 rfl rfl hi23 hi24) ?_
              refine hl_val rfl rfl (v := (ptr l_b (l_o + (Int.toNat i) * 4))) (hv_field Ty.fld31_0 (b := l_b) (o := l_o + (Int.toNat i) * 4) rfl) ?_
              obtain ⟨x_1, hc54, H⟩ := H
              refine hl_val rfl rfl (v := (.int .u64 x_1)) (hv_load Ty.agg29 rfl hc54) ?_
              refine hl_val rfl rfl (v := (.int .i64 bits)) (hv_move rfl) ?_
              refine hl_val rfl rfl (v := (.int .i64 (IntKind.i64.wrap (64 - bits)))) (hv_arith rfl rfl rfl) ?_
              obtain ⟨hz53, H⟩ := H
              refine hl_val rfl rfl (v := (.int .u64 (Int.fdiv x_1 (2 ^ min (Int.toNat (IntKind.i64.wrap (64 - bits))) 64)))) (hv_shift rfl rfl hz53 rfl) ?_
              refine hl_val rfl rfl (v := (.int .i64 (IntKind.i64.wrap (Int.fdiv x_1 (2 ^ min (Int.toNat (IntKind.i64.wrap (64 - bits))) 64))))) (hv_convInt Ty.u29 Ty.u3 rfl) ?_
              refine hl_val rfl rfl (v := (.int .i64 (IntKind.i64.wrap (Int.fdiv x_1 (2 ^ min (Int.toNat (IntKind.i64.wrap (64 - bits))) 64))))) (hv_assign rfl) ?_
              refine hl_nil ?_
              refine seqQ_n ?_
              refine hx_seq ?_
              refine hx_region ?_
              refine hl_val rfl rfl (v := (.int .i64 i)) (hv_move rfl) ?_
              refine hl_val rfl rfl (v := (.int .i64 (IntKind.i64.wrap (Int.fdiv x_1 (2 ^ min (Int.toNat (IntKind.i64.wrap (64 - bits))) 64))))) (hv_move rfl) ?_
              refine hl_val rfl rfl (v := (.int .i64 (IntKind.i64.wrap (i - (IntKind.i64.wrap (Int.fdiv x_1 (2 ^ min (Int.toNat (IntKind.i64.wrap (64 - bits))) 64))))))) (hv_arith rfl rfl rfl) ?_
              refine hl_val rfl rfl (v := (.int .i64 (l_n : Int))) (hv_move rfl) ?_
              refine hl_val rfl rfl (v := (.int .i64 (IntKind.i64.wrap ((IntKind.i64.wrap (i - (IntKind.i64.wrap (Int.fdiv x_1 (2 ^ min (Int.toNat (IntKind.i64.wrap (64 - bits))) 64))))) + (l_n : Int))))) (hv_arith rfl rfl rfl) ?_
              refine hl_val rfl rfl (v := (.int .i64 (l_n : Int))) (hv_move rfl) ?_
              obtain ⟨hz52, H⟩ := H
              refine hl_val rfl rfl (v := (.int .i64 (Int.tmod (IntKind.i64.wrap ((IntKind.i64.wrap (i - (IntKind.i64.wrap (Int.fdiv x_1 (2 ^ min (Int.toNat (IntKind.i64.wrap (64 - bits))) 64))))) + (l_n : Int))) (l_n : Int)))) (hv_rem rfl rfl hz52) ?_
              refine hl_val rfl rfl (v := (.int .i64 (Int.tmod (IntKind.i64.wrap ((IntKind.i64.wrap (i - (IntKind.i64.wrap (Int.fdiv x_1 (2 ^ min (Int.toNat (IntKind.i64.wrap (64 - bits))) 64))))) + (l_n : Int))) (l_n : Int)))) (hv_assign rfl) ?_
              refine hl_nil ?_
              refine seqQ_n ?_
              refine hx_seq ?_
              refine hx_seq ?_
              refine hx_region ?_
              refine hl_val rfl rfl (v := (.int .i64 (Int.tmod (IntKind.i64.wrap ((IntKind.i64.wrap (i - (IntKind.i64.wrap (Int.fdiv x_1 (2 ^ min (Int.toNat (IntKind.i64.wrap (64 - bits))) 64))))) + (l_n : Int))) (l_n : Int)))) (hv_move rfl) ?_
              refine hl_val rfl rfl (v := (.bool ((Int.tmod (IntKind.i64.wrap ((IntKind.i64.wrap (i - (IntKind.i64.wrap (Int.fdiv x_1 (2 ^ min (Int.toNat (IntKind.i64.wrap (64 - bits))) 64))))) + (l_n : Int))) (l_n : Int)) == 0))) (hv_arith rfl rfl rfl) ?_
              refine hl_nil ?_
              refine seqQ_n ?_
              refine hx_cond (b := (Int.tmod (IntKind.i64.wrap ((IntKind.i64.wrap (i - (IntKind.i64.wrap (Int.fdiv x_1 (2 ^ min (Int.toNat (IntKind.i64.wrap (64 - bits))) 64))))) + (l_n : Int))) (l_n : Int)) == 0) rfl (fun hb51 => ?_) (fun hb51 => ?_)
              · replace H := H.1 hb51
                refine hx_exit ?_
                refine seqQ_exit ?_
                refine blockQ_here ?_
                refine seqQ_n ?_
                exact ⟨_, H, (has_cons rfl (has_cons rfl (has_cons rfl (has_cons rfl (has_cons rfl has_nil)))))⟩
              · replace H := H.2 hb51
                refine hx_skip ?_
                refine seqQ_n ?_
                refine hx_seq ?_
                refine hx_region ?_
                refine hl_val rfl rfl (v := (.slice (some ⟨l_b, l_o, none⟩) l_n l_c)) (hv_move rfl) ?_
                refine hl_val rfl rfl (v := (.int .i64 i)) (hv_move rfl) ?_
                refine hl_val rfl rfl (v := (.int .i64 (IntKind.i64.wrap (i - 1)))) (hv_arith rfl rfl rfl) ?_
                refine hl_val rfl rfl (v := (.int .i64 (l_n : Int))) (hv_move rfl) ?_
                refine hl_val rfl rfl (v := (.int .i64 (IntKind.i64.wrap ((IntKind.i64.wrap (i - 1)) + (l_n : Int))))) (hv_arith rfl rfl rfl) ?_
                refine hl_val rfl rfl (v := (.int .i64 (l_n : Int))) (hv_move rfl) ?_
                obtain ⟨hz50, H⟩ := H
                refine hl_val rfl rfl (v := (.int .i64 (Int.tmod (IntKind.i64.wrap ((IntKind.i64.wrap (i - 1)) + (l_n : Int))) (l_n : Int)))) (hv_rem rfl rfl hz50) ?_
                obtain ⟨hi25, hi26, H⟩ := H
                refine hl_val rfl rfl (v := (ptr l_b (l_o + (Int.toNat (Int.tmod (IntKind.i64.wrap ((IntKind.i64.wrap (i - 1)) + (l_n : Int))) (l_n : Int))) * 4))) (hv_index Ty.el35 rfl rfl hi25 hi26) ?_
                obtain ⟨x_Hash, x_At, x_Version, x_Hits, hc46, hc47, hc48, hc49, H⟩ := H
                refine hl_val rfl rfl (v := (.agg #[(.int .u64 x_Hash), (.int .u64 x_At), (.int .u64 x_Version), (.int .u8 x_Hits)])) (hv_loads (vs := [(.int .u64 x_Hash), (.int .u64 x_At), (.int .u64 x_Version), (.int .u8 x_Hits)]) Ty.agg31 Ty.sz31 rfl (hcells_cons hc46 (hcells_cons hc47 (hcells_cons hc48 (hcells_cons hc49 hcells_nil))))) ?_
                refine hl_step rfl rfl (hn_alloc Ty.z31 ?_)
                intro before h3 eb27 eh28
                replace H := H before h3 eb27 eh28
                obtain ⟨hw29, H⟩ := H
                refine hl_step rfl rfl (hn_stores (vs := [(.int .u64 x_Hash), (.int .u64 x_At), (.int .u64 x_Version), (.int .u8 x_Hits)]) rfl rfl Ty.sz31 rfl hw29 ?_)
                intro h4 eh30
                replace H := H h4 eh30
                refine hl_nil ?_
                refine seqQ_n ?_
                refine hx_seq ?_
                refine hx_seq ?_
                refine hx_region ?_
                refine hl_val rfl rfl (v := (ptr before 1)) (hv_field Ty.fld31_1 (b := before) (o := 0) rfl) ?_
                obtain ⟨x_2, hc45, H⟩ := H
                refine hl_val rfl rfl (v := (.int .u64 x_2)) (hv_load Ty.agg29 rfl hc45) ?_
                refine hl_val rfl rfl (v := (.bool (x_2 == 0))) (hv_arith rfl rfl rfl) ?_
                refine hl_nil ?_
                refine seqQ_n ?_
                refine hx_cond (b := x_2 == 0) rfl (fun hb44 => ?_) (fun hb44 => ?_)
                · replace H := H.1 hb44
                  refine hx_seq ?_
                  refine hx_region ?_
                  refine hl_val rfl rfl (v := (.bool false)) (hv_assign rfl) ?_
                  refine hl_nil ?_
                  refine seqQ_n ?_
                  refine hx_ret ?_
                  refine seqQ_ret ?_
                  refine blockQ_ret ?_
                  refine seqQ_ret ?_
                  refine seqQ_ret ?_
                  refine blockQ_ret ?_
                  refine seqQ_ret ?_
                  exact endQ_ret _ (res_one Try.results12 (rv_tmp rfl)) H
                · replace H := H.2 hb44
                  refine hx_skip ?_
                  refine seqQ_n ?_
                  refine hx_seq ?_
                  refine hx_draw Ty.mixed [.pure, .pure, .pure, .pure, .pure, .pure, .pure, .read, .pure, .pure, .pure, .pure, .pure, .pure, .pure, .pure, .pure, .pure] [0, 1, 2, 3, 4, 5, 6, 7, 8, 9, 10, 11, 12, 13, 14, 15, 16, 17] (by kernel_rfl) ?_
                  refine hp_pure (i := 0) rfl (wanted_0 rfl) rfl (.int .i64 i) (fun _ => hv_move rfl) ?_
                  refine hp_pure (i := 1) rfl (wanted_0 rfl) rfl (.int .i64 (IntKind.i64.wrap (i - 1))) (fun _ => hv_arith rfl rfl rfl) ?_
                  refine hp_pure (i := 2) rfl (wanted_0 rfl) rfl (.int .i64 (l_n : Int)) (fun _ => hv_move rfl) ?_
                  refine hp_pure (i := 3) rfl (wanted_0 rfl) rfl (.int .i64 (IntKind.i64.wrap ((IntKind.i64.wrap (i - 1)) + (l_n : Int)))) (fun _ => hv_arith rfl rfl rfl) ?_
                  refine hp_pure (i := 4) rfl (wanted_0 rfl) rfl (.int .i64 (l_n : Int)) (fun _ => hv_move rfl) ?_
                  obtain ⟨hz43, H⟩ := H
                  refine hp_pure (i := 5) rfl (wanted_0 rfl) rfl (.int .i64 (Int.tmod (IntKind.i64.wrap ((IntKind.i64.wrap (i - 1)) + (l_n : Int))) (l_n : Int))) (fun _ => hv_rem rfl rfl hz43) ?_
                  refine hp_pure (i := 6) rfl (wanted_0 rfl) rfl (ptr before 0) (fun _ => hv_field Ty.fld31_0 (b := before) (o := 0) rfl) ?_
                  obtain ⟨x_3, hc42, H⟩ := H
                  refine hp_read (i := 7) rfl (wanted_0 rfl) rfl (.int .u64 x_3) (fun _ he => hv_load Ty.agg29 rfl (he.cell hc42)) ?_
                  refine hp_pure (i := 8) rfl (wanted_0 rfl) rfl (.int .i64 bits) (fun _ => hv_move rfl) ?_
                  refine hp_pure (i := 9) rfl (wanted_0 rfl) rfl (.int .i64 (IntKind.i64.wrap (64 - bits))) (fun _ => hv_arith rfl rfl rfl) ?_
                  obtain ⟨hz41, H⟩ := H
                  refine hp_pure (i := 10) rfl (wanted_0 rfl) rfl (.int .u64 (Int.fdiv x_3 (2 ^ min (Int.toNat (IntKind.i64.wrap (64 - bits))) 64))) (fun _ => hv_shift rfl rfl hz41 rfl) ?_
                  refine hp_pure (i := 11) rfl (wanted_0 rfl) rfl (.int .i64 (IntKind.i64.wrap (Int.fdiv x_3 (2 ^ min (Int.toNat (IntKind.i64.wrap (64 - bits))) 64)))) (fun _ => hv_convInt Ty.u29 Ty.u3 rfl) ?_
                  refine hp_pure (i := 12) rfl (wanted_0 rfl) rfl (.int .i64 (IntKind.i64.wrap ((Int.tmod (IntKind.i64.wrap ((IntKind.i64.wrap (i - 1)) + (l_n : Int))) (l_n : Int)) - (IntKind.i64.wrap (Int.fdiv x_3 (2 ^ min (Int.toNat (IntKind.i64.wrap (64 - bits))) 64)))))) (fun _ => hv_arith rfl rfl rfl) ?_
                  refine hp_pure (i := 13) rfl (wanted_0 rfl) rfl (.int .i64 (l_n : Int)) (fun _ => hv_move rfl) ?_
                  refine hp_pure (i := 14) rfl (wanted_0 rfl) rfl (.int .i64 (IntKind.i64.wrap ((IntKind.i64.wrap ((Int.tmod (IntKind.i64.wrap ((IntKind.i64.wrap (i - 1)) + (l_n : Int))) (l_n : Int)) - (IntKind.i64.wrap (Int.fdiv x_3 (2 ^ min (Int.toNat (IntKind.i64.wrap (64 - bits))) 64))))) + (l_n : Int)))) (fun _ => hv_arith rfl rfl rfl) ?_
                  refine hp_pure (i := 15) rfl (wanted_0 rfl) rfl (.int .i64 (l_n : Int)) (fun _ => hv_move rfl) ?_
                  obtain ⟨hz40, H⟩ := H
                  refine hp_pure (i := 16) rfl (wanted_0 rfl) rfl (.int .i64 (Int.tmod (IntKind.i64.wrap ((IntKind.i64.wrap ((Int.tmod (IntKind.i64.wrap ((IntKind.i64.wrap (i - 1)) + (l_n : Int))) (l_n : Int)) - (IntKind.i64.wrap (Int.fdiv x_3 (2 ^ min (Int.toNat (IntKind.i64.wrap (64 - bits))) 64))))) + (l_n : Int))) (l_n : Int))) (fun _ => hv_rem rfl rfl hz40) ?_
                  refine hp_pure (i := 17) rfl (wanted_0 rfl) rfl (.int .i64 (Int.tmod (IntKind.i64.wrap ((IntKind.i64.wrap ((Int.tmod (IntKind.i64.wrap ((IntKind.i64.wrap (i - 1)) + (l_n : Int))) (l_n : Int)) - (IntKind.i64.wrap (Int.fdiv x_3 (2 ^ min (Int.toNat (IntKind.i64.wrap (64 - bits))) 64))))) + (l_n : Int))) (l_n : Int))) (fun _ => hv_assign rfl) ?_
                  refine hp_nil ?_
                  refine seqQ_n ?_
                  obtain ⟨j_1, Hx38, Hy39⟩ := H
                  refine hx_cut (fun ρ h' => h4 = h' ∧ Has ρ [(0, (.slice (some ⟨l_b, l_o, none⟩) l_n l_c)), (3, (.int .i64 (l_n : Int))), (4, (.int .i64 bits)), (5, (.int .i64 (IntKind.i64.wrap (full + 1)))), (6, (.int .i64 i)), (112, (.bool j_1))]) ?_ ?_
                  · have H := Hx38; clear Hx38 Hy39
                    refine hx_draw Ty.mixed [.pure, .pure, .pure, .pure, .pure, .pure, .pure, .pure, .pure, .pure, .pure, .read, .pure, .pure, .pure, .pure, .read, .pure, .pure, .pure] [0, 1, 2, 3, 4, 5, 6, 7, 8, 9, 10, 11, 12, 13, 14, 15, 16, 17, 18, 19] (by kernel_rfl) ?_
                    refine hp_pure (i := 0) rfl (wanted_0 rfl) rfl (.int .i64 (Int.tmod (IntKind.i64.wrap ((IntKind.i64.wrap ((Int.tmod (IntKind.i64.wrap ((IntKind.i64.wrap (i - 1)) + (l_n : Int))) (l_n : Int)) - (IntKind.i64.wrap (Int.fdiv x_3 (2 ^ min (Int.toNat (IntKind.i64.wrap (64 - bits))) 64))))) + (l_n : Int))) (l_n : Int))) (fun _ => hv_move rfl) ?_
                    refine hp_pure (i := 1) rfl (wanted_0 rfl) rfl (.int .i64 (Int.tmod (IntKind.i64.wrap ((IntKind.i64.wrap (i - (IntKind.i64.wrap (Int.fdiv x_1 (2 ^ min (Int.toNat (IntKind.i64.wrap (64 - bits))) 64))))) + (l_n : Int))) (l_n : Int))) (fun _ => hv_move rfl) ?_
                    refine hp_pure (i := 2) rfl (wanted_0 rfl) rfl (.int .i64 (IntKind.i64.wrap ((Int.tmod (IntKind.i64.wrap ((IntKind.i64.wrap (i - (IntKind.i64.wrap (Int.fdiv x_1 (2 ^ min (Int.toNat (IntKind.i64.wrap (64 - bits))) 64))))) + (l_n : Int))) (l_n : Int)) - 1))) (fun _ => hv_arith rfl rfl rfl) ?_
                    refine hp_pure (i := 3) rfl (wanted_0 rfl) rfl (.bool (decide ((Int.tmod (IntKind.i64.wrap ((IntKind.i64.wrap ((Int.tmod (IntKind.i64.wrap ((IntKind.i64.wrap (i - 1)) + (l_n : Int))) (l_n : Int)) - (IntKind.i64.wrap (Int.fdiv x_3 (2 ^ min (Int.toNat (IntKind.i64.wrap (64 - bits))) 64))))) + (l_n : Int))) (l_n : Int)) < (IntKind.i64.wrap ((Int.tmod (IntKind.i64.wrap ((IntKind.i64.wrap (i - (IntKind.i64.wrap (Int.fdiv x_1 (2 ^ min (Int.toNat (IntKind.i64.wrap (64 - bits))) 64))))) + (l_n : Int))) (l_n : Int)) - 1))))) (fun _ => hv_arith rfl rfl rfl) ?_
                    refine hp_pure (i := 4) rfl (wanted_0 rfl) rfl (.bool (decide ((Int.tmod (IntKind.i64.wrap ((IntKind.i64.wrap ((Int.tmod (IntKind.i64.wrap ((IntKind.i64.wrap (i - 1)) + (l_n : Int))) (l_n : Int)) - (IntKind.i64.wrap (Int.fdiv x_3 (2 ^ min (Int.toNat (IntKind.i64.wrap (64 - bits))) 64))))) + (l_n : Int))) (l_n : Int)) < (IntKind.i64.wrap ((Int.tmod (IntKind.i64.wrap ((IntKind.i64.wrap (i - (IntKind.i64.wrap (Int.fdiv x_1 (2 ^ min (Int.toNat (IntKind.i64.wrap (64 - bits))) 64))))) + (l_n : Int))) (l_n : Int)) - 1))))) (fun _ => hv_move rfl) ?_
                    rcases bool_or (decide ((Int.tmod (IntKind.i64.wrap ((IntKind.i64.wrap ((Int.tmod (IntKind.i64.wrap ((IntKind.i64.wrap (i - 1)) + (l_n : Int))) (l_n : Int)) - (IntKind.i64.wrap (Int.fdiv x_3 (2 ^ min (Int.toNat (IntKind.i64.wrap (64 - bits))) 64))))) + (l_n : Int))) (l_n : Int)) < (IntKind.i64.wrap ((Int.tmod (IntKind.i64.wrap ((IntKind.i64.wrap (i - (IntKind.i64.wrap (Int.fdiv x_1 (2 ^ min (Int.toNat (IntKind.i64.wrap (64 - bits))) 64))))) + (l_n : Int))) (l_n : Int)) - 1)))) with hg31 | hg31
                    · replace H := H.1 hg31
                      refine hp_no (i := 5) rfl (wanted_n rfl rfl rfl hg31) ?_
                      refine hp_no (i := 6) rfl (wanted_n rfl rfl rfl hg31) ?_
                      refine hp_no (i := 7) rfl (wanted_n rfl rfl rfl hg31) ?_
                      refine hp_no (i := 8) rfl (wanted_n rfl rfl rfl hg31) ?_
                      refine hp_no (i := 9) rfl (wanted_n rfl rfl rfl hg31) ?_
                      refine hp_no (i := 10) rfl (wanted_u rfl rfl rfl) ?_
                      refine hp_no (i := 11) rfl (wanted_u rfl rfl rfl) ?_
                      refine hp_no (i := 12) rfl (wanted_u rfl rfl rfl) ?_
                      refine hp_no (i := 13) rfl (wanted_u rfl rfl rfl) ?_
                      refine hp_no (i := 14) rfl (wanted_u rfl rfl rfl) ?_
                      refine hp_no (i := 15) rfl (wanted_u rfl rfl rfl) ?_
                      refine hp_no (i := 16) rfl (wanted_u rfl rfl rfl) ?_
                      refine hp_no (i := 17) rfl (wanted_u rfl rfl rfl) ?_
                      refine hp_no (i := 18) rfl (wanted_n rfl rfl rfl hg31) ?_
                      refine hp_pure (i := 19) rfl (wanted_0 rfl) rfl (.bool true) (fun _ => hv_pick_t rfl hg31 rfl) ?_
                      refine hp_nil ?_
                      refine seqQ_n ?_
                      obtain rfl := H
                      exact ⟨rfl, (has_cons rfl (has_cons rfl (has_cons rfl (has_cons rfl (has_cons rfl (has_cons rfl has_nil))))))⟩
                    · replace H := H.2 hg31
                      refine hp_pure (i := 5) rfl (wanted_y rfl rfl rfl hg31) rfl (.int .i64 (Int.tmod (IntKind.i64.wrap ((IntKind.i64.wrap ((Int.tmod (IntKind.i64.wrap ((IntKind.i64.wrap (i - 1)) + (l_n : Int))) (l_n : Int)) - (IntKind.i64.wrap (Int.fdiv x_3 (2 ^ min (Int.toNat (IntKind.i64.wrap (64 - bits))) 64))))) + (l_n : Int))) (l_n : Int))) (fun _ => hv_move rfl) ?_
                      refine hp_pure (i := 6) rfl (wanted_y rfl rfl rfl hg31) rfl (.int .i64 (Int.tmod (IntKind.i64.wrap ((IntKind.i64.wrap (i - (IntKind.i64.wrap (Int.fdiv x_1 (2 ^ min (Int.toNat (IntKind.i64.wrap (64 - bits))) 64))))) + (l_n : Int))) (l_n : Int))) (fun _ => hv_move rfl) ?_
                      refine hp_pure (i := 7) rfl (wanted_y rfl rfl rfl hg31) rfl (.int .i64 (IntKind.i64.wrap ((Int.tmod (IntKind.i64.wrap ((IntKind.i64.wrap (i - (IntKind.i64.wrap (Int.fdiv x_1 (2 ^ min (Int.toNat (IntKind.i64.wrap (64 - bits))) 64))))) + (l_n : Int))) (l_n : Int)) - 1))) (fun _ => hv_arith rfl rfl rfl) ?_
                      refine hp_pure (i := 8) rfl (wanted_y rfl rfl rfl hg31) rfl (.bool ((Int.tmod (IntKind.i64.wrap ((IntKind.i64.wrap ((Int.tmod (IntKind.i64.wrap ((IntKind.i64.wrap (i - 1)) + (l_n : Int))) (l_n : Int)) - (IntKind.i64.wrap (Int.fdiv x_3 (2 ^ min (Int.toNat (IntKind.i64.wrap (64 - bits))) 64))))) + (l_n : Int))) (l_n : Int)) == (IntKind.i64.wrap ((Int.tmod (IntKind.i64.wrap ((IntKind.i64.wrap (i - (IntKind.i64.wrap (Int.fdiv x_1 (2 ^ min (Int.toNat (IntKind.i64.wrap (64 - bits))) 64))))) + (l_n : Int))) (l_n : Int)) - 1)))) (fun _ => hv_arith rfl rfl rfl) ?_
                      refine hp_pure (i := 9) rfl (wanted_y rfl rfl rfl hg31) rfl (.bool ((Int.tmod (IntKind.i64.wrap ((IntKind.i64.wrap ((Int.tmod (IntKind.i64.wrap ((IntKind.i64.wrap (i - 1)) + (l_n : Int))) (l_n : Int)) - (IntKind.i64.wrap (Int.fdiv x_3 (2 ^ min (Int.toNat (IntKind.i64.wrap (64 - bits))) 64))))) + (l_n : Int))) (l_n : Int)) == (IntKind.i64.wrap ((Int.tmod (IntKind.i64.wrap ((IntKind.i64.wrap (i - (IntKind.i64.wrap (Int.fdiv x_1 (2 ^ min (Int.toNat (IntKind.i64.wrap (64 - bits))) 64))))) + (l_n : Int))) (l_n : Int)) - 1)))) (fun _ => hv_move rfl) ?_
                      rcases bool_or ((Int.tmod (IntKind.i64.wrap ((IntKind.i64.wrap ((Int.tmod (IntKind.i64.wrap ((IntKind.i64.wrap (i - 1)) + (l_n : Int))) (l_n : Int)) - (IntKind.i64.wrap (Int.fdiv x_3 (2 ^ min (Int.toNat (IntKind.i64.wrap (64 - bits))) 64))))) + (l_n : Int))) (l_n : Int)) == (IntKind.i64.wrap ((Int.tmod (IntKind.i64.wrap ((IntKind.i64.wrap (i - (IntKind.i64.wrap (Int.fdiv x_1 (2 ^ min (Int.toNat (IntKind.i64.wrap (64 - bits))) 64))))) + (l_n : Int))) (l_n : Int)) - 1))) with hg32 | hg32
                      · replace H := H.1 hg32
                        refine hp_pure (i := 10) rfl (wanted_y rfl rfl rfl hg32) rfl (ptr before 0) (fun _ => hv_field Ty.fld31_0 (b := before) (o := 0) rfl) ?_
                        obtain ⟨x_4, hc36, H⟩ := H
                        refine hp_read (i := 11) rfl (wanted_y rfl rfl rfl hg32) rfl (.int .u64 x_4) (fun _ he => hv_load Ty.agg29 rfl (he.cell hc36)) ?_
                        refine hp_pure (i := 12) rfl (wanted_y rfl rfl rfl hg32) rfl (.slice (some ⟨l_b, l_o, none⟩) l_n l_c) (fun _ => hv_move rfl) ?_
                        refine hp_pure (i := 13) rfl (wanted_y rfl rfl rfl hg32) rfl (.int .i64 i) (fun _ => hv_move rfl) ?_
                        obtain ⟨hi33, hi34, H⟩ := H
                        refine hp_pure (i := 14) rfl (wanted_y rfl rfl rfl hg32) rfl (ptr l_b (l_o + (Int.toNat i) * 4)) (fun _ => hv_index Ty.el35 rfl rfl hi33 hi34) ?_
                        refine hp_pure (i := 15) rfl (wanted_y rfl rfl rfl hg32) rfl (ptr l_b (l_o + (Int.toNat i) * 4)) (fun _ => hv_field Ty.fld31_0 (b := l_b) (o := l_o + (Int.toNat i) * 4) rfl) ?_
                        obtain ⟨x_5, hc35, H⟩ := H
                        refine hp_read (i := 16) rfl (wanted_y rfl rfl rfl hg32) rfl (.int .u64 x_5) (fun _ he => hv_load Ty.agg29 rfl (he.cell hc35)) ?_
                        refine hp_pure (i := 17) rfl (wanted_y rfl rfl rfl hg32) rfl (.bool (decide (x_4 ≥ x_5))) (fun _ => hv_arith rfl rfl rfl) ?_
                        refine hp_pure (i := 18) rfl (wanted_y rfl rfl rfl hg31) rfl (.bool (decide (x_4 ≥ x_5))) (fun _ => hv_pick_t rfl hg32 rfl) ?_
                        refine hp_pure (i := 19) rfl (wanted_0 rfl) rfl (.bool (decide (x_4 ≥ x_5))) (fun _ => hv_pick_f rfl hg31 rfl) ?_
                        refine hp_nil ?_
                        refine seqQ_n ?_
                        obtain rfl := H
                        exact ⟨rfl, (has_cons rfl (has_cons rfl (has_cons rfl (has_cons rfl (has_cons rfl (has_cons rfl has_nil))))))⟩
                      · replace H := H.2 hg32
                        refine hp_no (i := 10) rfl (wanted_n rfl rfl rfl hg32) ?_
                        refine hp_no (i := 11) rfl (wanted_n rfl rfl rfl hg32) ?_
                        refine hp_no (i := 12) rfl (wanted_n rfl rfl rfl hg32) ?_
                        refine hp_no (i := 13) rfl (wanted_n rfl rfl rfl hg32) ?_
                        refine hp_no (i := 14) rfl (wanted_n rfl rfl rfl hg32) ?_
                        refine hp_no (i := 15) rfl (wanted_n rfl rfl rfl hg32) ?_
                        refine hp_no (i := 16) rfl (wanted_n rfl rfl rfl hg32) ?_
                        refine hp_no (i := 17) rfl (wanted_n rfl rfl rfl hg32) ?_
                        refine hp_pure (i := 18) rfl (wanted_y rfl rfl rfl hg31) rfl (.bool false) (fun _ => hv_pick_f rfl hg32 rfl) ?_
                        refine hp_pure (i := 19) rfl (wanted_0 rfl) rfl (.bool false) (fun _ => hv_pick_f rfl hg31 rfl) ?_
                        refine hp_nil ?_
                        refine seqQ_n ?_
                        obtain rfl := H
                        exact ⟨rfl, (has_cons rfl (has_cons rfl (has_cons rfl (has_cons rfl (has_cons rfl (has_cons rfl has_nil))))))⟩
                  · have H := Hy39; clear Hx38 Hy39
                    rintro ρ _ ⟨rfl, hH⟩
                    refine hx_has _ hH ?_
                    refine hx_cond (b := j_1) rfl (fun hb37 => ?_) (fun hb37 => ?_)
                    · replace H := H.1 hb37
                      refine hx_seq ?_
                      refine hx_region ?_
                      refine hl_val rfl rfl (v := (.bool false)) (hv_assign rfl) ?_
                      refine hl_nil ?_
                      refine seqQ_n ?_
                      refine hx_ret ?_
                      refine blockQ_ret ?_
                      refine seqQ_ret ?_
                      refine seqQ_ret ?_
                      refine blockQ_ret ?_
                      refine seqQ_ret ?_
                      exact endQ_ret _ (res_one Try.results12 (rv_tmp rfl)) H
                    · replace H := H.2 hb37
                      refine hx_skip ?_
                      refine blockQ_n ?_
                      refine seqQ_n ?_
                      exact ⟨_, H, (has_cons rfl (has_cons rfl (has_cons rfl (has_cons rfl (has_cons rfl has_nil)))))⟩
          · rintro ρ h2 ⟨full_1, HA59, hH⟩
            have H := Hy58 full_1 h2 HA59; clear Hx57 Hy58
            refine hx_has _ hH ?_
            refine hx_region ?_
            refine hl_val rfl rfl (v := (.int .i64 i)) (hv_move rfl) ?_
            refine hl_val rfl rfl (v := (.int .i64 (IntKind.i64.wrap (i + 1)))) (hv_arith rfl rfl rfl) ?_
            refine hl_val rfl rfl (v := (.int .i64 (IntKind.i64.wrap (i + 1)))) (hv_assign rfl) ?_
            refine hl_nil ?_
            refine seqQ_n ?_
            exact ⟨(full_1, IntKind.i64.wrap (i + 1)), H, (has_cons rfl (has_cons rfl (has_cons rfl (has_cons rfl (has_cons rfl has_nil)))))⟩
        · replace H := H.2 hb60
          refine hx_exit ?_
          refine seqQ_exit ?_
          refine seqQ_exit ?_
          refine blockQ_here ?_
          refine seqQ_n ?_
          refine hx_seq ?_
          refine hx_region ?_
          refine hl_val rfl rfl (v := (.int .i64 full)) (hv_move rfl) ?_
          refine hl_val rfl rfl (v := (.int .i64 (IntKind.i64.wrap (8 * full)))) (hv_arith rfl rfl rfl) ?_
          refine hl_val rfl rfl (v := (.int .i64 (l_n : Int))) (hv_move rfl) ?_
          refine hl_val rfl rfl (v := (.int .i64 (IntKind.i64.wrap (7 * (l_n : Int))))) (hv_arith rfl rfl rfl) ?_
          refine hl_val rfl rfl (v := (.bool (decide ((IntKind.i64.wrap (8 * full)) ≤ (IntKind.i64.wrap (7 * (l_n : Int))))))) (hv_arith rfl rfl rfl) ?_
          refine hl_val rfl rfl (v := (.bool (decide ((IntKind.i64.wrap (8 * full)) ≤ (IntKind.i64.wrap (7 * (l_n : Int))))))) (hv_assign rfl) ?_
          refine hl_nil ?_
          refine seqQ_n ?_
          refine hx_ret ?_
          exact endQ_ret _ (res_one Try.results12 (rv_tmp rfl)) H

/-- cellar/cellarlaw11.TableRight -/
theorem f3_sh (bits : Int) (most : Int) (l : Option Addr) (l_n : Nat) (l_c : Nat) (h : Heap) (R : Value → Heap → Prop)
    (H : HC Try.prog 9 #[] h (fun vv h1 => ∃ r : Bool, vv = (.bool r) ∧ (((!r) = true → R (.bool false) h1) ∧ ((!r) = false → HC Try.prog 10 #[(.int .i64 bits), (.int .i64 most)] h1 (fun vv h2 => ∃ r0 : Option Addr, ∃ r1 : Int, vv = (.tuple #[(.pointer r0), (.int .i64 r1)]) ∧ (((r1 != 0) = true → R (.bool r0.isNone) h2) ∧ ((r1 != 0) = false → (∃ (I1 : Int → Heap → Prop) (mu2 : Int → Heap → Nat), I1 0 h2 ∧ (∀ (i : Int) (h3 : Heap), I1 i h3 → (((decide (i < (l_n : Int))) = true → (∃ l_b l_o : Nat, l = some ⟨l_b, l_o, none⟩ ∧ (0 : Int) ≤ i ∧ i < (l_n : Int) ∧ (∃ x_Kind x_Entry_Hash x_Entry_At x_Entry_Version x_Entry_Hits : Int, hcell h3 l_b (l_o + (Int.toNat i) * 5) = some (.int .i64 x_Kind) ∧ hcell h3 l_b ((l_o + (Int.toNat i) * 5) + 1) = some (.int .u64 x_Entry_Hash) ∧ hcell h3 l_b ((l_o + (Int.toNat i) * 5) + 2) = some (.int .u64 x_Entry_At) ∧ hcell h3 l_b ((l_o + (Int.toNat i) * 5) + 3) = some (.int .u64 x_Entry_Version) ∧ hcell h3 l_b ((l_o + (Int.toNat i) * 5) + 4) = some (.int .u8 x_Entry_Hits) ∧ HC Try.prog 11 #[(.pointer r0), (.agg #[(.int .i64 x_Kind), (.int .u64 x_Entry_Hash), (.int .u64 x_Entry_At), (.int .u64 x_Entry_Version), (.int .u8 x_Entry_Hits)])] h3 (fun vv h4 => vv = (.tuple #[]) ∧ HC Try.prog 13 #[(.pointer r0)] h4 (fun vv h5 => ∃ r_1 : Option Addr, ∃ r_n r_c : Nat, vv = (.slice r_1 r_n r_c) ∧ HC Try.prog 12 #[(.slice r_1 r_n r_c)] h5 (fun vv h6 => ∃ r_2 : Bool, vv = (.bool r_2) ∧ (((!r_2) = true → R (.bool false) h6) ∧ ((!r_2) = false → (I1 (IntKind.i64.wrap (i + 1)) h6 ∧ mu2 (IntKind.i64.wrap (i + 1)) h6 < mu2 i h3))))))))) ∧ ((decide (i < (l_n : Int))) = false → HC Try.prog 13 #[(.pointer r0)] h3 (fun vv h7 => ∃ r_1 : Option Addr, ∃ r_n r_c : Nat, vv = (.slice r_1 r_n r_c) ∧ HC Try.prog 12 #[(.slice r_1 r_n r_c)] h7 (fun vv h8 => ∃ r_2 : Bool, vv = (.bool r_2) ∧ R (.bool r_2) h8))))))))))))) :
    HC Try.prog 3 #[(.int .i64 bits), (.int .i64 most), (.slice l l_n l_c)] h R := by
  refine hc_of (args := [(.int .i64 bits), (.int .i64 most), (.slice l l_n l_c)]) Try.func3 rfl Try.ntmps3 (Nat.le_of_ble_eq_true rfl) ?_
  refine hx_seq ?_
  refine hx_region ?_
  refine hl_val rfl rfl (v := (.bool false)) (hv_assign rfl) ?_
  refine hl_nil ?_
  refine seqQ_n ?_
  refine hx_seq ?_
  refine hx_seq ?_
  refine hx_region ?_
  refine hl_step rfl rfl (hs_call Ty.cb9 (vs := []) rfl (HC.mono H ?_))
  rintro _ h1 ⟨r, rfl, H⟩
  refine hl_val rfl rfl (v := (.bool (!r))) (hv_not (b := r) rfl) ?_
  refine hl_nil ?_
  refine seqQ_n ?_
  refine hx_cond (b := !r) rfl (fun hb16 => ?_) (fun hb16 => ?_)
  · replace H := H.1 hb16
    refine hx_seq ?_
    refine hx_region ?_
    refine hl_val rfl rfl (v := (.bool false)) (hv_assign rfl) ?_
    refine hl_nil ?_
    refine seqQ_n ?_
    refine hx_ret ?_
    refine seqQ_ret ?_
    exact endQ_ret _ (res_one Try.results3 (rv_tmp rfl)) H
  · replace H := H.2 hb16
    refine hx_skip ?_
    refine seqQ_n ?_
    refine hx_seq ?_
    refine hx_region ?_
    refine hl_val rfl rfl (v := (.int .i64 bits)) (hv_move rfl) ?_
    refine hl_val rfl rfl (v := (.int .i64 most)) (hv_move rfl) ?_
    refine hl_step rfl rfl (hs_call Ty.cb10 (vs := [(.int .i64 bits), (.int .i64 most)]) rfl (HC.mono H ?_))
    rintro _ h2 ⟨r0, r1, rfl, H⟩
    refine hl_val rfl rfl (v := (.tuple #[(.pointer r0), (.int .i64 r1)])) (hv_move rfl) ?_
    refine hl_val rfl rfl (v := (.pointer r0)) (hv_extract (vs := #[(.pointer r0), (.int .i64 r1)]) rfl rfl) ?_
    refine hl_val rfl rfl (v := (.int .i64 r1)) (hv_extract (vs := #[(.pointer r0), (.int .i64 r1)]) rfl rfl) ?_
    refine hl_val rfl rfl (v := (.pointer r0)) (hv_assign rfl) ?_
    refine hl_val rfl rfl (v := (.int .i64 r1)) (hv_assign rfl) ?_
    refine hl_nil ?_
    refine seqQ_n ?_
    refine hx_seq ?_
    refine hx_seq ?_
    refine hx_region ?_
    refine hl_val rfl rfl (v := (.int .i64 r1)) (hv_move rfl) ?_
    refine hl_val rfl rfl (v := (.bool (r1 != 0))) (hv_arith rfl rfl rfl) ?_
    refine hl_nil ?_
    refine seqQ_n ?_
    refine hx_cond (b := r1 != 0) rfl (fun hb15 => ?_) (fun hb15 => ?_)
    · replace H := H.1 hb15
      refine hx_seq ?_
      refine hx_region ?_
      refine hl_val rfl rfl (v := (.pointer r0)) (hv_move rfl) ?_
      refine hl_val rfl rfl (v := (.bool r0.isNone)) (hv_ptrNil Ty.up24 rfl rfl) ?_
      refine hl_val rfl rfl (v := (.bool r0.isNone)) (hv_assign rfl) ?_
      refine hl_nil ?_
      refine seqQ_n ?_
      refine hx_ret ?_
      refine seqQ_ret ?_
      exact endQ_ret _ (res_one Try.results3 (rv_tmp rfl)) H
    · replace H := H.2 hb15
      refine hx_skip ?_
      refine seqQ_n ?_
      refine hx_seq ?_
      refine hx_seq ?_
      refine hx_region ?_
      refine hl_val rfl rfl (v := (.int .i64 0)) (hv_assign rfl) ?_
      refine hl_nil ?_
      refine seqQ_n ?_
      refine hx_block ?_
      obtain ⟨I1, mu2, Ha3, Hr4⟩ := H
      refine hx_loopT (σ := Int) (fun s => [(2, (.slice l l_n l_c)), (7, (.pointer r0)), (9, (.int .i64 s))]) (fun s h' => I1 s h') (fun s h' => mu2 s h') 0 Ha3 (has_cons rfl (has_cons rfl (has_cons rfl has_nil))) ?_
      rintro i ρ h3 Hi5
      have H := Hr4 i h3 Hi5
      refine hx_seq ?_
      refine hx_seq ?_
      refine hx_region ?_
      refine hl_val rfl rfl (v := (.int .i64 i)) (hv_move rfl) ?_
      refine hl_val rfl rfl (v := (.slice l l_n l_c)) (hv_move rfl) ?_
      refine hl_val rfl rfl (v := (.int .i64 (l_n : Int))) (hv_len (n := l_n) Ty.u22 rfl) ?_
      refine hl_val rfl rfl (v := (.bool (decide (i < (l_n : Int))))) (hv_arith rfl rfl rfl) ?_
      refine hl_nil ?_
      refine seqQ_n ?_
      refine hx_cond (b := decide (i < (l_n : Int))) rfl (fun hb14 => ?_) (fun hb14 => ?_)
      · replace H := H.1 hb14
        refine hx_skip ?_
        refine seqQ_n ?_
        refine hx_seq ?_
        refine hx_block ?_
        refine hx_seq ?_
        refine hx_region ?_
        refine hl_val rfl rfl (v := (.pointer r0)) (hv_move rfl) ?_
        refine hl_val rfl rfl (v := (.slice l l_n l_c)) (hv_move rfl) ?_
        refine hl_val rfl rfl (v := (.int .i64 i)) (hv_move rfl) ?_
        obtain ⟨l_b, l_o, hqe, hi6, hi7, Hq⟩ := H
        subst hqe
        have H := Hq; clear Hq
        refine hl_val rfl rfl (v := (ptr l_b (l_o + (Int.toNat i) * 5))) (hv_index Ty.el22 rfl rfl hi6 hi7) ?_
        obtain ⟨x_Kind, x_Entry_Hash, x_Entry_At, x_Entry_Version, x_Entry_Hits, hc9, hc10, hc11, hc12, hc13, H⟩ := H
        refine hl_val rfl rfl (v := (.agg #[(.int .i64 x_Kind), (.int .u64 x_Entry_Hash), (.int .u64 x_Entry_At), (.int .u64 x_Entry_Version), (.int .u8 x_Entry_Hits)])) (hv_loads (vs := [(.int .i64 x_Kind), (.int .u64 x_Entry_Hash), (.int .u64 x_Entry_At), (.int .u64 x_Entry_Version), (.int .u8 x_Entry_Hits)]) Ty.agg33 Ty.sz33 rfl (hcells_cons hc9 (hcells_cons hc10 (hcells_cons hc11 (hcells_cons hc12 (hcells_cons hc13 hcells_nil)))))) ?_
        refine hl_step rfl rfl (hs_call Ty.cb11 (vs := [(.pointer r0), (.agg #[(.int .i64 x_Kind), (.int .u64 x_Entry_Hash), (.int .u64 x_Entry_At), (.int .u64 x_Entry_Version), (.int .u8 x_Entry_Hits)])]) rfl (HC.mono H ?_))
        rintro _ h4 ⟨rfl, H⟩
        refine hl_nil ?_
        refine seqQ_n ?_
        refine hx_seq ?_
        refine hx_region ?_
        refine hl_val rfl rfl (v := (.pointer r0)) (hv_move rfl) ?_
        refine hl_step rfl rfl (hs_call Ty.cb13 (vs := [(.pointer r0)]) rfl (HC.mono H ?_))
        rintro _ h5 ⟨r_1, r_n, r_c, rfl, H⟩
        refine hl_step rfl rfl (hs_call Ty.cb12 (vs := [(.slice r_1 r_n r_c)]) rfl (HC.mono H ?_))
        rintro _ h6 ⟨r_2, rfl, H⟩
        refine hl_val rfl rfl (v := (.bool (!r_2))) (hv_not (b := r_2) rfl) ?_
        refine hl_nil ?_
        refine seqQ_n ?_
        refine hx_cond (b := !r_2) rfl (fun hb8 => ?_) (fun hb8 => ?_)
        · replace H := H.1 hb8
          refine hx_seq ?_
          refine hx_region ?_
          refine hl_val rfl rfl (v := (.bool false)) (hv_assign rfl) ?_
          refine hl_nil ?_
          refine seqQ_n ?_
          refine hx_ret ?_
          refine blockQ_ret ?_
          refine seqQ_ret ?_
          refine seqQ_ret ?_
          refine blockQ_ret ?_
          refine seqQ_ret ?_
          exact endQ_ret _ (res_one Try.results3 (rv_tmp rfl)) H
        · replace H := H.2 hb8
          refine hx_skip ?_
          refine blockQ_n ?_
          refine seqQ_n ?_
          refine hx_region ?_
          refine hl_val rfl rfl (v := (.int .i64 i)) (hv_move rfl) ?_
          refine hl_val rfl rfl (v := (.int .i64 (IntKind.i64.wrap (i + 1)))) (hv_arith rfl rfl rfl) ?_
          refine hl_val rfl rfl (v := (.int .i64 (IntKind.i64.wrap (i + 1)))) (hv_assign rfl) ?_
          refine hl_nil ?_
          refine seqQ_n ?_
          exact ⟨IntKind.i64.wrap (i + 1), H, (has_cons rfl (has_cons rfl (has_cons rfl has_nil)))⟩
      · replace H := H.2 hb14
        refine hx_exit ?_
        refine seqQ_exit ?_
        refine seqQ_exit ?_
        refine blockQ_here ?_
        refine seqQ_n ?_
        refine hx_seq ?_
        refine hx_region ?_
        refine hl_val rfl rfl (v := (.pointer r0)) (hv_move rfl) ?_
        refine hl_step rfl rfl (hs_call Ty.cb13 (vs := [(.pointer r0)]) rfl (HC.mono H ?_))
        rintro _ h7 ⟨r_1, r_n, r_c, rfl, H⟩
        refine hl_step rfl rfl (hs_call Ty.cb12 (vs := [(.slice r_1 r_n r_c)]) rfl (HC.mono H ?_))
        rintro _ h8 ⟨r_2, rfl, H⟩
        refine hl_val rfl rfl (v := (.bool r_2)) (hv_assign rfl) ?_
        refine hl_nil ?_
        refine seqQ_n ?_
        refine hx_ret ?_
        exact endQ_ret _ (res_one Try.results3 (rv_tmp rfl)) H

end Go.Proofs.Ytebipjmcckkhcaa
