/-
Shallow forms, written by gen2.py (a program of ours) out of the print of the program.
-/
import Derived.Test.YtkecmljalcfhoaaPrv
import Derived.Test.YtkecmljalcfhoaaSrt
import Derived.Test.YtkecmljalcfhoaaRng
import Derived.Test.YtkecmljalcfhoaaMor
import Derived.Test.YtkecmljalcfhoaaProg
namespace Go.Proofs.Ytkecmljalcfhoaa
open Go
set_option maxRecDepth 100000
set_option maxHeartbeats 4000000

theorem TyShJ.agg29 : aggB Try.prog 29 = some false := by kernel_rfl
theorem TyShJ.agg3 : aggB Try.prog 3 = some false := by kernel_rfl
theorem TyShJ.agg31 : aggB Try.prog 31 = some true := by kernel_rfl
theorem TyShJ.agg47 : aggB Try.prog 47 = some false := by kernel_rfl
theorem TyShJ.agg5 : aggB Try.prog 5 = some false := by kernel_rfl
theorem TyShJ.agg78 : aggB Try.prog 78 = some false := by kernel_rfl
theorem TyShJ.by47 : byB Try.prog 47 = some 24 := by kernel_rfl
theorem TyShJ.cb35 : CallB Try.prog 35 := fun _ _ => Try.call35 _ _
theorem TyShJ.cb36 : CallB Try.prog 36 := fun _ _ => Try.call36 _ _
theorem TyShJ.cb37 : CallB Try.prog 37 := fun _ _ => Try.call37 _ _
theorem TyShJ.cb53 : CallB Try.prog 53 := fun _ _ => Try.call53 _ _
theorem TyShJ.el47 : elB Try.prog 47 = some 4 := by kernel_rfl
theorem TyShJ.el78 : elB Try.prog 78 = some 1 := by kernel_rfl
theorem TyShJ.fld31_0 : fldB Try.prog 31 0 = some 0 := by kernel_rfl
theorem TyShJ.fld31_1 : fldB Try.prog 31 1 = some 1 := by kernel_rfl
theorem TyShJ.fld31_2 : fldB Try.prog 31 2 = some 2 := by kernel_rfl
theorem TyShJ.fld31_3 : fldB Try.prog 31 3 = some 3 := by kernel_rfl
theorem TyShJ.fld80_0 : fldB Try.prog 80 0 = some 0 := by kernel_rfl
theorem TyShJ.fld80_1 : fldB Try.prog 80 1 = some 1 := by kernel_rfl
theorem TyShJ.mixed : Try.prog.follows .mixedOrders = true := by kernel_rfl
theorem TyShJ.pl31 : plB Try.prog 31 = some [(0, 1), (1, 1), (2, 1), (3, 1)] := by kernel_rfl
theorem TyShJ.pl80 : plB Try.prog 80 = some [(0, 1), (1, 1)] := by kernel_rfl
theorem TyShJ.sz29 : szB Try.prog 29 = some 1 := by kernel_rfl
theorem TyShJ.sz31 : szB Try.prog 31 = some 4 := by kernel_rfl
theorem TyShJ.sz47 : szB Try.prog 47 = some 1 := by kernel_rfl
theorem TyShJ.sz5 : szB Try.prog 5 = some 1 := by kernel_rfl
theorem TyShJ.sz78 : szB Try.prog 78 = some 1 := by kernel_rfl
theorem TyShJ.u29 : Try.prog.underlying 29 = some (.int .u64) := by kernel_rfl
theorem TyShJ.u3 : Try.prog.underlying 3 = some (.int .i64) := by kernel_rfl
theorem TyShJ.u47 : Try.prog.underlying 47 = some (.slice 31) := by kernel_rfl
theorem TyShJ.u78 : Try.prog.underlying 78 = some (.slice 47) := by kernel_rfl
theorem TyShJ.z31 : zeroB Try.prog 31 (.agg #[(.int .u64 0), (.int .u64 0), (.int .u64 0), (.int .u8 0)]) := by unfold zeroB; kernel_rfl
theorem TyShJ.z47 : zeroB Try.prog 47 (.slice none 0 0) := by unfold zeroB; kernel_rfl
theorem TyShJ.z80 : zeroB Try.prog 80 (.agg #[(.int .i64 0), (.slice none 0 0)]) := by unfold zeroB; kernel_rfl

/-- cellar/cellarref12.New -/
theorem f26_sh (stripes : Int) (bits : Int) (most : Int) (h : Heap) (R : Value → Heap → Prop)
    (H : ((((decide (stripes < 1)) || (decide (stripes > 64))) = true → R (.tuple #[(.pointer none), (.int .i64 1)]) h) ∧ (((decide (stripes < 1)) || (decide (stripes > 64))) = false → ((((decide (bits < 2)) || ((decide (most < bits)) || (decide (most > 16)))) = true → R (.tuple #[(.pointer none), (.int .i64 110)]) h) ∧ (((decide (bits < 2)) || ((decide (most < bits)) || (decide (most > 16)))) = false → ((0 : Int) ≤ stripes ∧ 24 * stripes ≤ 140737488355328 ∧ stripes ≤ 140737488355328 ∧ ∀ nb h1, nb = Array.size h → h1 = Array.push h (.cells (zcells [(.slice none 0 0)] (Int.toNat stripes)).toArray 47) → (∀ nb_1 h2, nb_1 = Array.size h1 → h2 = Array.push h1 (.cells #[(.int .i64 most), (.slice (some ⟨nb, 0, none⟩) (Int.toNat stripes) (Int.toNat stripes))] 80) → R (.tuple #[(ptr nb_1 0), (.int .i64 0)]) h2))))))) :
    HC Try.prog 26 #[(.int .i64 stripes), (.int .i64 bits), (.int .i64 most)] h R := by
  refine hc_of (args := [(.int .i64 stripes), (.int .i64 bits), (.int .i64 most)]) Try.func26 rfl Try.ntmps26 (Nat.le_of_ble_eq_true rfl) ?_
  refine hx_seq ?_
  refine hx_region ?_
  refine hl_val rfl rfl (v := (.pointer none)) (hv_assign rfl) ?_
  refine hl_val rfl rfl (v := (.int .i64 0)) (hv_assign rfl) ?_
  refine hl_nil ?_
  refine seqQ_n ?_
  refine hx_seq ?_
  refine hx_cut (fun ρ h' => h = h' ∧ Has ρ [(0, (.int .i64 stripes)), (1, (.int .i64 bits)), (2, (.int .i64 most)), (13, (.bool ((decide (stripes < 1)) || (decide (stripes > 64)))))]) ?_ ?_
  · refine hx_region ?_
    refine hl_val rfl rfl (v := (.int .i64 stripes)) (hv_move rfl) ?_
    refine hl_val rfl rfl (v := (.bool (decide (stripes < 1)))) (hv_arith rfl rfl rfl) ?_
    refine hl_val rfl rfl (v := (.bool (decide (stripes < 1)))) (hv_move rfl) ?_
    rcases bool_or (decide (stripes < 1)) with hg3 | hg3
    · refine hl_no (wanted_n rfl rfl rfl hg3) rfl ?_
      refine hl_no (wanted_n rfl rfl rfl hg3) rfl ?_
      refine hl_val rfl rfl (v := (.bool true)) (hv_pick_t rfl hg3 rfl) ?_
      refine hl_nil ?_
      refine seqQ_n ?_
      exact ⟨rfl, (has_cons rfl (has_cons rfl (has_cons rfl (has_cons (show ((.bool true) : Value) = (.bool ((decide (stripes < 1)) || (decide (stripes > 64)))) from (by first | rfl | (try rw [hg3]; all_goals first | rfl | (simp only [Bool.true_or, Bool.or_true, Bool.false_or, Bool.or_false, Bool.true_and, Bool.and_true, Bool.false_and, Bool.and_false, Bool.not_true, Bool.not_false, Bool.cond_true, Bool.cond_false]; done)) | simp [hg3])) has_nil))))⟩
    · refine hl_yes (wanted_y rfl rfl rfl hg3) rfl (HStep.of_val (v := (.int .i64 stripes)) (hv_move rfl) ?_)
      refine hl_yes (wanted_y rfl rfl rfl hg3) rfl (HStep.of_val (v := (.bool (decide (stripes > 64)))) (hv_arith rfl rfl rfl) ?_)
      refine hl_val rfl rfl (v := (.bool (decide (stripes > 64)))) (hv_pick_f rfl hg3 rfl) ?_
      refine hl_nil ?_
      refine seqQ_n ?_
      exact ⟨rfl, (has_cons rfl (has_cons rfl (has_cons rfl (has_cons (show ((.bool (decide (stripes > 64))) : Value) = (.bool ((decide (stripes < 1)) || (decide (stripes > 64)))) from (by first | rfl | (try rw [hg3]; all_goals first | rfl | (simp only [Bool.true_or, Bool.or_true, Bool.false_or, Bool.or_false, Bool.true_and, Bool.and_true, Bool.false_and, Bool.and_false, Bool.not_true, Bool.not_false, Bool.cond_true, Bool.cond_false]; done)) | simp [hg3])) has_nil))))⟩
  · rintro ρ _ ⟨rfl, hH⟩
    refine hx_has _ hH ?_
    refine hx_cond (b := ((decide (stripes < 1)) || (decide (stripes > 64)))) rfl (fun hb4 => ?_) (fun hb4 => ?_)
    · replace H := H.1 hb4
      refine hx_seq ?_
      refine hx_region ?_
      refine hl_val rfl rfl (v := (.pointer none)) (hv_assign rfl) ?_
      refine hl_val rfl rfl (v := (.int .i64 1)) (hv_assign rfl) ?_
      refine hl_nil ?_
      refine seqQ_n ?_
      refine hx_ret ?_
      refine seqQ_ret ?_
      exact endQ_ret _ (res_two Try.results26 (rv_tmp rfl) (rv_tmp rfl)) H
    · replace H := H.2 hb4
      refine hx_skip ?_
      refine seqQ_n ?_
      refine hx_seq ?_
      refine hx_cut (fun ρ h' => h = h' ∧ Has ρ [(0, (.int .i64 stripes)), (2, (.int .i64 most)), (24, (.bool ((decide (bits < 2)) || ((decide (most < bits)) || (decide (most > 16))))))]) ?_ ?_
      · refine hx_region ?_
        refine hl_val rfl rfl (v := (.int .i64 bits)) (hv_move rfl) ?_
        refine hl_val rfl rfl (v := (.bool (decide (bits < 2)))) (hv_arith rfl rfl rfl) ?_
        refine hl_val rfl rfl (v := (.bool (decide (bits < 2)))) (hv_move rfl) ?_
        rcases bool_or (decide (bits < 2)) with hg7 | hg7
        · refine hl_no (wanted_n rfl rfl rfl hg7) rfl ?_
          refine hl_no (wanted_n rfl rfl rfl hg7) rfl ?_
          refine hl_no (wanted_n rfl rfl rfl hg7) rfl ?_
          refine hl_val rfl rfl (v := (.bool true)) (hv_pick_t rfl hg7 rfl) ?_
          refine hl_val rfl rfl (v := (.bool true)) (hv_move rfl) ?_
          refine hl_no (wanted_n rfl rfl (c := true) rfl rfl) rfl ?_
          refine hl_no (wanted_n rfl rfl (c := true) rfl rfl) rfl ?_
          refine hl_val rfl rfl (v := (.bool true)) (hv_pick (t := true) rfl rfl) ?_
          refine hl_nil ?_
          refine seqQ_n ?_
          exact ⟨rfl, (has_cons rfl (has_cons rfl (has_cons (show ((.bool true) : Value) = (.bool ((decide (bits < 2)) || ((decide (most < bits)) || (decide (most > 16))))) from (by first | rfl | (try rw [hg7]; all_goals first | rfl | (simp only [Bool.true_or, Bool.or_true, Bool.false_or, Bool.or_false, Bool.true_and, Bool.and_true, Bool.false_and, Bool.and_false, Bool.not_true, Bool.not_false, Bool.cond_true, Bool.cond_false]; done)) | simp [hg7])) has_nil)))⟩
        · refine hl_yes (wanted_y rfl rfl rfl hg7) rfl (HStep.of_val (v := (.int .i64 most)) (hv_move rfl) ?_)
          refine hl_yes (wanted_y rfl rfl rfl hg7) rfl (HStep.of_val (v := (.int .i64 bits)) (hv_move rfl) ?_)
          refine hl_yes (wanted_y rfl rfl rfl hg7) rfl (HStep.of_val (v := (.bool (decide (most < bits)))) (hv_arith rfl rfl rfl) ?_)
          refine hl_val rfl rfl (v := (.bool (decide (most < bits)))) (hv_pick_f rfl hg7 rfl) ?_
          refine hl_val rfl rfl (v := (.bool (decide (most < bits)))) (hv_move rfl) ?_
          rcases bool_or (decide (most < bits)) with hg8 | hg8
          · refine hl_no (wanted_n rfl rfl rfl hg8) rfl ?_
            refine hl_no (wanted_n rfl rfl rfl hg8) rfl ?_
            refine hl_val rfl rfl (v := (.bool true)) (hv_pick_t rfl hg8 rfl) ?_
            refine hl_nil ?_
            refine seqQ_n ?_
            exact ⟨rfl, (has_cons rfl (has_cons rfl (has_cons (show ((.bool true) : Value) = (.bool ((decide (bits < 2)) || ((decide (most < bits)) || (decide (most > 16))))) from (by first | rfl | (try rw [hg7]; try rw [hg8]; all_goals first | rfl | (simp only [Bool.true_or, Bool.or_true, Bool.false_or, Bool.or_false, Bool.true_and, Bool.and_true, Bool.false_and, Bool.and_false, Bool.not_true, Bool.not_false, Bool.cond_true, Bool.cond_false]; done)) | simp [hg7, hg8])) has_nil)))⟩
          · refine hl_yes (wanted_y rfl rfl rfl hg8) rfl (HStep.of_val (v := (.int .i64 most)) (hv_move rfl) ?_)
            refine hl_yes (wanted_y rfl rfl rfl hg8) rfl (HStep.of_val (v := (.bool (decide (most > 16)))) (hv_arith rfl rfl rfl) ?_)
            refine hl_val rfl rfl (v := (.bool (decide (most > 16)))) (hv_pick_f rfl hg8 rfl) ?_
            refine hl_nil ?_
            refine seqQ_n ?_
            exact ⟨rfl, (has_cons rfl (has_cons rfl (has_cons (show ((.bool (decide (most > 16))) : Value) = (.bool ((decide (bits < 2)) || ((decide (most < bits)) || (decide (most > 16))))) from (by first | rfl | (try rw [hg7]; try rw [hg8]; all_goals first | rfl | (simp only [Bool.true_or, Bool.or_true, Bool.false_or, Bool.or_false, Bool.true_and, Bool.and_true, Bool.false_and, Bool.and_false, Bool.not_true, Bool.not_false, Bool.cond_true, Bool.cond_false]; done)) | simp [hg7, hg8])) has_nil)))⟩
      · rintro ρ _ ⟨rfl, hH⟩
        refine hx_has _ hH ?_
        refine hx_cond (b := ((decide (bits < 2)) || ((decide (most < bits)) || (decide (most > 16))))) rfl (fun hb9 => ?_) (fun hb9 => ?_)
        · replace H := H.1 hb9
          refine hx_seq ?_
          refine hx_region ?_
          refine hl_val rfl rfl (v := (.pointer none)) (hv_assign rfl) ?_
          refine hl_val rfl rfl (v := (.int .i64 110)) (hv_assign rfl) ?_
          refine hl_nil ?_
          refine seqQ_n ?_
          refine hx_ret ?_
          refine seqQ_ret ?_
          exact endQ_ret _ (res_two Try.results26 (rv_tmp rfl) (rv_tmp rfl)) H
        · replace H := H.2 hb9
          refine hx_skip ?_
          refine seqQ_n ?_
          refine hx_seq ?_
          refine hx_region ?_
          refine hl_val rfl rfl (v := (.int .i64 most)) (hv_move rfl) ?_
          refine hl_val rfl rfl (v := (.int .i64 stripes)) (hv_move rfl) ?_
          obtain ⟨hm10, hm11, hm12, H⟩ := H
          refine hl_step rfl rfl (hn_make (z := (.slice none 0 0)) (zs := [(.slice none 0 0)]) (n := stripes) TyShJ.u78 TyShJ.sz47 TyShJ.by47 TyShJ.z47 rfl rfl hm10 hm11 hm12 rfl rfl ?_)
          intro nb h1 eb13 eh14
          replace H := H nb h1 eb13 eh14
          have xx15 : Ext h h1 := by rw [eh14]; exact Ext.push _ _
          refine hl_val rfl rfl (v := (.agg #[(.int .i64 most), (.slice (some ⟨nb, 0, none⟩) (Int.toNat stripes) (Int.toNat stripes))])) (hv_build (vs := [(0, (.int .i64 most)), (1, (.slice (some ⟨nb, 0, none⟩) (Int.toNat stripes) (Int.toNat stripes)))]) (cs := #[(.int .i64 most), (.slice (some ⟨nb, 0, none⟩) (Int.toNat stripes) (Int.toNat stripes))]) TyShJ.z80 TyShJ.pl80 rfl (by kernel_rfl)) ?_
          refine hl_step rfl rfl (hn_box (v := (.agg #[(.int .i64 most), (.slice (some ⟨nb, 0, none⟩) (Int.toNat stripes) (Int.toNat stripes))])) rfl ?_)
          intro nb_1 h2 eb16 eh17
          replace H := H nb_1 h2 eb16 eh17
          have xx18 : Ext h1 h2 := by rw [eh17]; exact Ext.push _ _
          refine hl_val rfl rfl (v := (ptr nb_1 0)) (hv_assign rfl) ?_
          refine hl_val rfl rfl (v := (.int .i64 0)) (hv_assign rfl) ?_
          refine hl_nil ?_
          refine seqQ_n ?_
          refine hx_ret ?_
          exact endQ_ret _ (res_two Try.results26 (rv_tmp rfl) (rv_tmp rfl)) H

/-- (*cellar/cellarref12.Index).Stripe -/
theorem f36_sh (x_b : Nat) (x_o : Nat) (hash : Int) (h : Heap) (R : Value → Heap → Prop)
    (H : (∃ x : Option Addr, ∃ x_n x_c : Nat, hcell h x_b (x_o + 1) = some (.slice x x_n x_c) ∧ (IntKind.u64.wrap (x_n : Int) ≠ 0 ∧ R (.int .i64 (IntKind.i64.wrap (Int.tmod hash (IntKind.u64.wrap (x_n : Int))))) h))) :
    HC Try.prog 36 #[(ptr x_b x_o), (.int .u64 hash)] h R := by
  refine hc_of (args := [(ptr x_b x_o), (.int .u64 hash)]) Try.func36 rfl Try.ntmps36 (Nat.le_of_ble_eq_true rfl) ?_
  refine hx_seq ?_
  refine hx_region ?_
  refine hl_val rfl rfl (v := (.int .i64 0)) (hv_assign rfl) ?_
  refine hl_nil ?_
  refine seqQ_n ?_
  refine hx_seq ?_
  refine hx_region ?_
  refine hl_val rfl rfl (v := (.int .u64 hash)) (hv_move rfl) ?_
  refine hl_val rfl rfl (v := (ptr x_b x_o)) (hv_move rfl) ?_
  refine hl_val rfl rfl (v := (ptr x_b x_o)) (hv_nil rfl) ?_
  refine hl_val rfl rfl (v := (ptr x_b (x_o + 1))) (hv_field TyShJ.fld80_1 (b := x_b) (o := x_o) rfl) ?_
  obtain ⟨x, x_n, x_c, hc1, H⟩ := H
  refine hl_val rfl rfl (v := (.slice x x_n x_c)) (hv_load TyShJ.agg78 rfl hc1) ?_
  refine hl_val rfl rfl (v := (.int .i64 (x_n : Int))) (hv_len (n := x_n) TyShJ.u78 rfl) ?_
  refine hl_val rfl rfl (v := (.int .u64 (IntKind.u64.wrap (x_n : Int)))) (hv_convInt TyShJ.u3 TyShJ.u29 rfl) ?_
  obtain ⟨hz2, H⟩ := H
  refine hl_val rfl rfl (v := (.int .u64 (Int.tmod hash (IntKind.u64.wrap (x_n : Int))))) (hv_rem rfl rfl hz2) ?_
  refine hl_val rfl rfl (v := (.int .i64 (IntKind.i64.wrap (Int.tmod hash (IntKind.u64.wrap (x_n : Int)))))) (hv_convInt TyShJ.u29 TyShJ.u3 rfl) ?_
  refine hl_val rfl rfl (v := (.int .i64 (IntKind.i64.wrap (Int.tmod hash (IntKind.u64.wrap (x_n : Int)))))) (hv_assign rfl) ?_
  refine hl_nil ?_
  refine seqQ_n ?_
  refine hx_ret ?_
  exact endQ_ret _ (res_one Try.results36 (rv_tmp rfl)) H

/-- (*cellar/cellarref12.Index).Find -/
theorem f53_sh (x_b : Nat) (x_o : Nat) (hash : Int) (h : Heap) (R : Value → Heap → Prop)
    (H : (∃ r : Int, HC Try.prog 36 #[(ptr x_b x_o), (.int .u64 hash)] h (fun vv h' => vv = (.int .i64 r) ∧ h' = h) ∧ (∃ x : Option Addr, ∃ x_n x_c : Nat, hcell h x_b (x_o + 1) = some (.slice x x_n x_c) ∧ (∃ x_b_1 x_o_1 : Nat, x = some ⟨x_b_1, x_o_1, none⟩ ∧ (0 : Int) ≤ r ∧ r < (x_n : Int) ∧ (∃ x_1 : Option Addr, ∃ x_n_1 x_c_1 : Nat, hcell h x_b_1 (x_o_1 + (Int.toNat r) * 1) = some (.slice x_1 x_n_1 x_c_1) ∧ (∃ (I7 : Int → Prop) (mu8 : Int → Nat), I7 0 ∧ (∀ (v : Int), I7 v → (((decide (v < (x_n_1 : Int))) = true → (∃ x_1_b x_1_o : Nat, x_1 = some ⟨x_1_b, x_1_o, none⟩ ∧ (0 : Int) ≤ v ∧ v < (x_n_1 : Int) ∧ (∃ x_Hash x_At x_Version x_Hits : Int, hcell h x_1_b (x_1_o + (Int.toNat v) * 4) = some (.int .u64 x_Hash) ∧ hcell h x_1_b ((x_1_o + (Int.toNat v) * 4) + 1) = some (.int .u64 x_At) ∧ hcell h x_1_b ((x_1_o + (Int.toNat v) * 4) + 2) = some (.int .u64 x_Version) ∧ hcell h x_1_b ((x_1_o + (Int.toNat v) * 4) + 3) = some (.int .u8 x_Hits) ∧ (((decide (x_Hash ≥ hash)) = true → (∀ (h3 : Heap), Ext h h3 → R (.tuple #[(.int .i64 r), (.int .i64 v), (.bool (x_Hash == hash))]) h3)) ∧ ((decide (x_Hash ≥ hash)) = false → (I7 (IntKind.i64.wrap (v + 1)) ∧ mu8 (IntKind.i64.wrap (v + 1)) < mu8 v)))))) ∧ ((decide (v < (x_n_1 : Int))) = false → ((0 : Int) ≤ r ∧ r < (x_n : Int) ∧ (∀ (h1 : Heap), Ext h h1 → R (.tuple #[(.int .i64 r), (.int .i64 (x_n_1 : Int)), (.bool false)]) h1))))))))))) :
    HC Try.prog 53 #[(ptr x_b x_o), (.int .u64 hash)] h R := by
  refine hc_of (args := [(ptr x_b x_o), (.int .u64 hash)]) Try.func53 rfl Try.ntmps53 (Nat.le_of_ble_eq_true rfl) ?_
  refine hx_seq ?_
  refine hx_region ?_
  refine hl_val rfl rfl (v := (.int .i64 0)) (hv_assign rfl) ?_
  refine hl_val rfl rfl (v := (.int .i64 0)) (hv_assign rfl) ?_
  refine hl_val rfl rfl (v := (.bool false)) (hv_assign rfl) ?_
  refine hl_nil ?_
  refine seqQ_n ?_
  refine hx_seq ?_
  refine hx_region ?_
  refine hl_val rfl rfl (v := (ptr x_b x_o)) (hv_move rfl) ?_
  refine hl_val rfl rfl (v := (.int .u64 hash)) (hv_move rfl) ?_
  obtain ⟨r, hr1, H⟩ := H
  refine hl_val rfl rfl (v := (.int .i64 r)) (hv_call TyShJ.cb36 (vs := [(ptr x_b x_o), (.int .u64 hash)]) rfl hr1) ?_
  refine hl_val rfl rfl (v := (.int .i64 r)) (hv_assign rfl) ?_
  refine hl_nil ?_
  refine seqQ_n ?_
  refine hx_seq ?_
  refine hx_seq ?_
  refine hx_region ?_
  refine hl_val rfl rfl (v := (ptr x_b x_o)) (hv_move rfl) ?_
  refine hl_val rfl rfl (v := (ptr x_b x_o)) (hv_nil rfl) ?_
  refine hl_val rfl rfl (v := (ptr x_b (x_o + 1))) (hv_field TyShJ.fld80_1 (b := x_b) (o := x_o) rfl) ?_
  obtain ⟨x, x_n, x_c, hc2, H⟩ := H
  refine hl_val rfl rfl (v := (.slice x x_n x_c)) (hv_load TyShJ.agg78 rfl hc2) ?_
  refine hl_val rfl rfl (v := (.int .i64 r)) (hv_move rfl) ?_
  obtain ⟨x_b_1, x_o_1, hqe, hi3, hi4, Hq⟩ := H
  subst hqe
  have H := Hq; clear Hq
  refine hl_val rfl rfl (v := (ptr x_b_1 (x_o_1 + (Int.toNat r) * 1))) (hv_index TyShJ.el78 rfl rfl hi3 hi4) ?_
  obtain ⟨x_1, x_n_1, x_c_1, hc5, H⟩ := H
  refine hl_val rfl rfl (v := (.slice x_1 x_n_1 x_c_1)) (hv_load TyShJ.agg47 rfl hc5) ?_
  refine hl_val rfl rfl (v := (.int .i64 (x_n_1 : Int))) (hv_len (n := x_n_1) TyShJ.u47 rfl) ?_
  refine hl_val rfl rfl (v := (.int .i64 0)) (hv_move rfl) ?_
  refine hl_nil ?_
  refine seqQ_n ?_
  refine hx_block ?_
  obtain ⟨I7, mu8, Ha9, Hr10⟩ := H
  refine hx_loopT (σ := Int) (fun s => [(0, (ptr x_b x_o)), (1, (.int .u64 hash)), (7, (.int .i64 r)), (19, (.slice x_1 x_n_1 x_c_1)), (20, (.int .i64 (x_n_1 : Int))), (21, (.int .i64 s))]) (fun s h' => I7 s ∧ Ext h h' ∧ True) (fun s _ => mu8 s) 0 ⟨Ha9, (Ext.refl _), trivial⟩ (has_cons rfl (has_cons rfl (has_cons rfl (has_cons rfl (has_cons rfl (has_cons rfl has_nil)))))) ?_
  rintro v ρ h1 ⟨Hi11, xv6, -⟩
  have H := Hr10 v Hi11
  refine hx_seq ?_
  refine hx_region ?_
  refine hl_val rfl rfl (v := (.bool (decide (v < (x_n_1 : Int))))) (hv_arith rfl rfl rfl) ?_
  refine hl_nil ?_
  refine seqQ_n ?_
  refine hx_seq ?_
  refine hx_cond (b := decide (v < (x_n_1 : Int))) rfl (fun hb12 => ?_) (fun hb12 => ?_)
  · replace H := H.1 hb12
    refine hx_skip ?_
    refine seqQ_n ?_
    refine hx_seq ?_
    refine hx_block ?_
    refine hx_seq ?_
    refine hx_region ?_
    refine hl_val rfl rfl (v := (.int .i64 v)) (hv_move rfl) ?_
    obtain ⟨x_1_b, x_1_o, hqe, hi13, hi14, Hq⟩ := H
    subst hqe
    have H := Hq; clear Hq
    refine hl_val rfl rfl (v := (ptr x_1_b (x_1_o + (Int.toNat v) * 4))) (hv_index TyShJ.el47 rfl rfl hi13 hi14) ?_
    obtain ⟨x_Hash, x_At, x_Version, x_Hits, hc15, hc16, hc17, hc18, H⟩ := H
    refine hl_val rfl rfl (v := (.agg #[(.int .u64 x_Hash), (.int .u64 x_At), (.int .u64 x_Version), (.int .u8 x_Hits)])) (hv_loads (vs := [(.int .u64 x_Hash), (.int .u64 x_At), (.int .u64 x_Version), (.int .u8 x_Hits)]) TyShJ.agg31 TyShJ.sz31 rfl (hcells_cons (Ext.cell xv6 hc15) (hcells_cons (Ext.cell xv6 hc16) (hcells_cons (Ext.cell xv6 hc17) (hcells_cons (Ext.cell xv6 hc18) hcells_nil))))) ?_
    refine hl_step rfl rfl (hn_alloc TyShJ.z31 ?_)
    intro e h2 eb19 eh20
    have xx21 : Ext h1 h2 := by rw [eh20]; exact Ext.push _ _
    have lo23 : Array.size h ≤ e := Nat.le_trans (Ext.size xv6) (Nat.le_of_eq (Eq.symm eb19))
    have hr22 : h2[e]? = some (.cells #[(.int .u64 0), (.int .u64 0), (.int .u64 0), (.int .u8 0)] 31 (0, 0)) := by rw [eh20]; exact push_new eb19
    have xv24 := Ext.trans xv6 xx21
    refine hl_val rfl rfl (v := (.int .i64 v)) (hv_assign rfl) ?_
    refine hl_step rfl rfl (hn_stores (vs := [(.int .u64 x_Hash), (.int .u64 x_At), (.int .u64 x_Version), (.int .u8 x_Hits)]) rfl rfl TyShJ.sz31 rfl (HWs_row hr22 (by simp)) ?_)
    intro h3 eh25
    have hr22' : h3[e]? = some (.cells #[(.int .u64 x_Hash), (.int .u64 x_At), (.int .u64 x_Version), (.int .u8 x_Hits)] 31 (0, 0)) := row_hsets_eq eh25 hr22 rfl
    have xv26 := ext_hsets eh25 xv24 lo23
    refine hl_nil ?_
    refine seqQ_n ?_
    refine hx_seq ?_
    refine hx_region ?_
    refine hl_val rfl rfl (v := (ptr e 0)) (hv_field TyShJ.fld31_0 (b := e) (o := 0) rfl) ?_
    refine hl_val rfl rfl (v := (.int .u64 x_Hash)) (hv_load TyShJ.agg29 rfl (rowcell hr22' rfl)) ?_
    refine hl_val rfl rfl (v := (.int .u64 hash)) (hv_move rfl) ?_
    refine hl_val rfl rfl (v := (.bool (decide (x_Hash ≥ hash)))) (hv_arith rfl rfl rfl) ?_
    refine hl_nil ?_
    refine seqQ_n ?_
    refine hx_cond (b := decide (x_Hash ≥ hash)) rfl (fun hb27 => ?_) (fun hb27 => ?_)
    · replace H := H.1 hb27
      refine hx_seq ?_
      refine hx_draw TyShJ.mixed [.pure, .pure, .pure, .read, .pure, .pure, .pure, .pure, .pure] [0, 1, 2, 3, 4, 5, 6, 7, 8] (by kernel_rfl) ?_
      refine hp_pure (i := 0) rfl (wanted_0 rfl) rfl (.int .i64 r) (fun _ => hv_move rfl) ?_
      refine hp_pure (i := 1) rfl (wanted_0 rfl) rfl (.int .i64 v) (fun _ => hv_move rfl) ?_
      refine hp_pure (i := 2) rfl (wanted_0 rfl) rfl (ptr e 0) (fun _ => hv_field TyShJ.fld31_0 (b := e) (o := 0) rfl) ?_
      refine hp_read (i := 3) rfl (wanted_0 rfl) rfl (.int .u64 x_Hash) (fun _ he => hv_load TyShJ.agg29 rfl (Ext.cell he (rowcell hr22' rfl))) ?_
      refine hp_pure (i := 4) rfl (wanted_0 rfl) rfl (.int .u64 hash) (fun _ => hv_move rfl) ?_
      refine hp_pure (i := 5) rfl (wanted_0 rfl) rfl (.bool (x_Hash == hash)) (fun _ => hv_arith rfl rfl rfl) ?_
      refine hp_pure (i := 6) rfl (wanted_0 rfl) rfl (.int .i64 r) (fun _ => hv_assign rfl) ?_
      refine hp_pure (i := 7) rfl (wanted_0 rfl) rfl (.int .i64 v) (fun _ => hv_assign rfl) ?_
      refine hp_pure (i := 8) rfl (wanted_0 rfl) rfl (.bool (x_Hash == hash)) (fun _ => hv_assign rfl) ?_
      refine hp_nil ?_
      refine seqQ_n ?_
      refine hx_ret ?_
      refine blockQ_ret ?_
      refine seqQ_ret ?_
      refine seqQ_ret ?_
      refine blockQ_ret ?_
      refine seqQ_ret ?_
      replace H := H h3 xv26
      exact endQ_ret _ (res_three Try.results53 (rv_tmp rfl) (rv_tmp rfl) (rv_tmp rfl)) H
    · replace H := H.2 hb27
      refine hx_skip ?_
      refine blockQ_n ?_
      refine seqQ_n ?_
      refine hx_region ?_
      refine hl_val rfl rfl (v := (.int .i64 (IntKind.i64.wrap (v + 1)))) (hv_arith rfl rfl rfl) ?_
      refine hl_val rfl rfl (v := (.int .i64 (IntKind.i64.wrap (v + 1)))) (hv_move rfl) ?_
      refine hl_nil ?_
      refine seqQ_n ?_
      exact ⟨IntKind.i64.wrap (v + 1), ⟨⟨H.1, xv26, trivial⟩, H.2⟩, (has_cons rfl (has_cons rfl (has_cons rfl (has_cons rfl (has_cons rfl (has_cons rfl has_nil))))))⟩
  · replace H := H.2 hb12
    refine hx_exit ?_
    refine seqQ_exit ?_
    refine seqQ_exit ?_
    refine blockQ_here ?_
    refine seqQ_n ?_
    refine hx_seq ?_
    refine hx_draw TyShJ.mixed [.pure, .pure, .pure, .pure, .read, .pure, .pure, .read, .pure, .pure, .pure, .pure] [0, 1, 2, 3, 4, 5, 6, 7, 8, 9, 10, 11] (by kernel_rfl) ?_
    refine hp_pure (i := 0) rfl (wanted_0 rfl) rfl (.int .i64 r) (fun _ => hv_move rfl) ?_
    refine hp_pure (i := 1) rfl (wanted_0 rfl) rfl (ptr x_b x_o) (fun _ => hv_move rfl) ?_
    refine hp_pure (i := 2) rfl (wanted_0 rfl) rfl (ptr x_b x_o) (fun _ => hv_nil rfl) ?_
    refine hp_pure (i := 3) rfl (wanted_0 rfl) rfl (ptr x_b (x_o + 1)) (fun _ => hv_field TyShJ.fld80_1 (b := x_b) (o := x_o) rfl) ?_
    refine hp_read (i := 4) rfl (wanted_0 rfl) rfl (.slice (some ⟨x_b_1, x_o_1, none⟩) x_n x_c) (fun _ he => hv_load TyShJ.agg78 rfl (Ext.cell he (Ext.cell xv6 hc2))) ?_
    refine hp_pure (i := 5) rfl (wanted_0 rfl) rfl (.int .i64 r) (fun _ => hv_move rfl) ?_
    obtain ⟨hi28, hi29, H⟩ := H
    refine hp_pure (i := 6) rfl (wanted_0 rfl) rfl (ptr x_b_1 (x_o_1 + (Int.toNat r) * 1)) (fun _ => hv_index TyShJ.el78 rfl rfl hi28 hi29) ?_
    refine hp_read (i := 7) rfl (wanted_0 rfl) rfl (.slice x_1 x_n_1 x_c_1) (fun _ he => hv_load TyShJ.agg47 rfl (Ext.cell he (Ext.cell xv6 hc5))) ?_
    refine hp_pure (i := 8) rfl (wanted_0 rfl) rfl (.int .i64 (x_n_1 : Int)) (fun _ => hv_len (n := x_n_1) TyShJ.u47 rfl) ?_
    refine hp_pure (i := 9) rfl (wanted_0 rfl) rfl (.int .i64 r) (fun _ => hv_assign rfl) ?_
    refine hp_pure (i := 10) rfl (wanted_0 rfl) rfl (.int .i64 (x_n_1 : Int)) (fun _ => hv_assign rfl) ?_
    refine hp_pure (i := 11) rfl (wanted_0 rfl) rfl (.bool false) (fun _ => hv_assign rfl) ?_
    refine hp_nil ?_
    refine seqQ_n ?_
    refine hx_ret ?_
    replace H := H h1 xv6
    exact endQ_ret _ (res_three Try.results53 (rv_tmp rfl) (rv_tmp rfl) (rv_tmp rfl)) H

/-- (*cellar/cellarref12.Index).Get -/
theorem f35_sh (x_b : Nat) (x_o : Nat) (hash : Int) (h : Heap) (R : Value → Heap → Prop)
    (H : (∀ (pb : Nat) (h1 : Heap), Array.size h ≤ pb → pb < Array.size h1 → Ext h h1 → HC Try.prog 53 #[(ptr x_b x_o), (.int .u64 hash)] h1 (fun vv h2 => Kp [pb] h1 h2 ∧ ∃ r0 r1 : Int, ∃ r2 : Bool, vv = (.tuple #[(.int .i64 r0), (.int .i64 r1), (.bool r2)]) ∧ (((!r2) = true → (∀ h3, Fr (fun i => i = pb) h2 h3 → R (.tuple #[(.agg #[(.int .u64 0), (.int .u64 0), (.int .u64 0), (.int .u8 0)]), (.bool false)]) h3)) ∧ ((!r2) = false → (∃ x : Option Addr, ∃ x_n x_c : Nat, hcell h2 x_b (x_o + 1) = some (.slice x x_n x_c) ∧ (∃ x_b_1 x_o_1 : Nat, x = some ⟨x_b_1, x_o_1, none⟩ ∧ (0 : Int) ≤ r0 ∧ r0 < (x_n : Int) ∧ (∃ x_1 : Option Addr, ∃ x_n_1 x_c_1 : Nat, hcell h2 x_b_1 (x_o_1 + (Int.toNat r0) * 1) = some (.slice x_1 x_n_1 x_c_1) ∧ (∃ x_1_b x_1_o : Nat, x_1 = some ⟨x_1_b, x_1_o, none⟩ ∧ (0 : Int) ≤ r1 ∧ r1 < (x_n_1 : Int) ∧ (∃ x_Hash x_At x_Version x_Hits : Int, hcell h2 x_1_b (x_1_o + (Int.toNat r1) * 4) = some (.int .u64 x_Hash) ∧ hcell h2 x_1_b ((x_1_o + (Int.toNat r1) * 4) + 1) = some (.int .u64 x_At) ∧ hcell h2 x_1_b ((x_1_o + (Int.toNat r1) * 4) + 2) = some (.int .u64 x_Version) ∧ hcell h2 x_1_b ((x_1_o + (Int.toNat r1) * 4) + 3) = some (.int .u8 x_Hits) ∧ (∀ h4, Fr (fun i => i = pb) h2 h4 → R (.tuple #[(.agg #[(.int .u64 x_Hash), (.int .u64 x_At), (.int .u64 x_Version), (.int .u8 x_Hits)]), (.bool true)]) h4))))))))))) :
    HC Try.prog 35 #[(ptr x_b x_o), (.int .u64 hash)] h R := by
  refine hc_of (args := [(ptr x_b x_o), (.int .u64 hash)]) Try.func35 rfl Try.ntmps35 (Nat.le_of_ble_eq_true rfl) ?_
  refine hx_seq ?_
  refine hx_region ?_
  refine hl_step rfl rfl (hn_alloc TyShJ.z31 ?_)
  intro pb h1 eb1 eh2
  have xx3 : Ext h h1 := by rw [eh2]; exact Ext.push _ _
  have lo5 : Array.size h ≤ pb := Nat.le_of_eq (Eq.symm eb1)
  have hr4 : h1[pb]? = some (.cells #[(.int .u64 0), (.int .u64 0), (.int .u64 0), (.int .u8 0)] 31 (0, 0)) := by rw [eh2]; exact push_new eb1
  refine hl_val rfl rfl (v := (.bool false)) (hv_assign rfl) ?_
  refine hl_nil ?_
  refine seqQ_n ?_
  refine hx_seq ?_
  refine hx_region ?_
  refine hl_val rfl rfl (v := (ptr x_b x_o)) (hv_move rfl) ?_
  refine hl_val rfl rfl (v := (.int .u64 hash)) (hv_move rfl) ?_
  replace H := H pb h1 lo5 (row_lt hr4) xx3
  refine hl_step rfl rfl (hs_call TyShJ.cb53 (vs := [(ptr x_b x_o), (.int .u64 hash)]) rfl (HC.mono H ?_))
  rintro _ h2 ⟨kp6, r0, r1, r2, rfl, H⟩
  replace hr4 := Kp.row kp6 (by simp) hr4
  refine hl_val rfl rfl (v := (.tuple #[(.int .i64 r0), (.int .i64 r1), (.bool r2)])) (hv_move rfl) ?_
  refine hl_val rfl rfl (v := (.int .i64 r0)) (hv_extract (vs := #[(.int .i64 r0), (.int .i64 r1), (.bool r2)]) rfl rfl) ?_
  refine hl_val rfl rfl (v := (.int .i64 r1)) (hv_extract (vs := #[(.int .i64 r0), (.int .i64 r1), (.bool r2)]) rfl rfl) ?_
  refine hl_val rfl rfl (v := (.bool r2)) (hv_extract (vs := #[(.int .i64 r0), (.int .i64 r1), (.bool r2)]) rfl rfl) ?_
  refine hl_val rfl rfl (v := (.int .i64 r0)) (hv_assign rfl) ?_
  refine hl_val rfl rfl (v := (.int .i64 r1)) (hv_assign rfl) ?_
  refine hl_val rfl rfl (v := (.bool r2)) (hv_assign rfl) ?_
  refine hl_nil ?_
  refine seqQ_n ?_
  refine hx_seq ?_
  refine hx_seq ?_
  refine hx_region ?_
  refine hl_val rfl rfl (v := (.bool r2)) (hv_move rfl) ?_
  refine hl_val rfl rfl (v := (.bool (!r2))) (hv_not (b := r2) rfl) ?_
  refine hl_nil ?_
  refine seqQ_n ?_
  refine hx_cond (b := !r2) rfl (fun hb7 => ?_) (fun hb7 => ?_)
  · replace H := H.1 hb7
    refine hx_seq ?_
    refine hx_region ?_
    refine hl_val rfl rfl (v := (.agg #[(.int .u64 0), (.int .u64 0), (.int .u64 0), (.int .u8 0)])) (hv_build (vs := []) (cs := #[(.int .u64 0), (.int .u64 0), (.int .u64 0), (.int .u8 0)]) TyShJ.z31 TyShJ.pl31 rfl (by kernel_rfl)) ?_
    refine hl_step rfl rfl (hn_stores (vs := [(.int .u64 0), (.int .u64 0), (.int .u64 0), (.int .u8 0)]) rfl rfl TyShJ.sz31 rfl (HWs_row hr4 (by simp)) ?_)
    intro h3 eh8
    have hr4' : h3[pb]? = some (.cells #[(.int .u64 0), (.int .u64 0), (.int .u64 0), (.int .u8 0)] 31 (0, 0)) := row_hsets_eq eh8 hr4 rfl
    replace H := H h3 (fr_hsets_of eh8)
    refine hl_val rfl rfl (v := (.bool false)) (hv_assign rfl) ?_
    refine hl_nil ?_
    refine seqQ_n ?_
    refine hx_ret ?_
    refine seqQ_ret ?_
    exact endQ_ret _ (res_two Try.results35 (rv_cell (vs := [(.int .u64 0), (.int .u64 0), (.int .u64 0), (.int .u8 0)]) TyShJ.agg31 TyShJ.sz31 rfl (hcells_cons (rowcell hr4' rfl) (hcells_cons (rowcell hr4' rfl) (hcells_cons (rowcell hr4' rfl) (hcells_cons (rowcell hr4' rfl) hcells_nil))))) (rv_tmp rfl)) H
  · replace H := H.2 hb7
    refine hx_skip ?_
    refine seqQ_n ?_
    refine hx_seq ?_
    refine hx_region ?_
    refine hl_val rfl rfl (v := (ptr x_b x_o)) (hv_move rfl) ?_
    refine hl_val rfl rfl (v := (ptr x_b x_o)) (hv_nil rfl) ?_
    refine hl_val rfl rfl (v := (ptr x_b (x_o + 1))) (hv_field TyShJ.fld80_1 (b := x_b) (o := x_o) rfl) ?_
    obtain ⟨x, x_n, x_c, hc9, H⟩ := H
    refine hl_val rfl rfl (v := (.slice x x_n x_c)) (hv_load TyShJ.agg78 rfl hc9) ?_
    refine hl_val rfl rfl (v := (.int .i64 r0)) (hv_move rfl) ?_
    obtain ⟨x_b_1, x_o_1, hqe, hi10, hi11, Hq⟩ := H
    subst hqe
    have H := Hq; clear Hq
    refine hl_val rfl rfl (v := (ptr x_b_1 (x_o_1 + (Int.toNat r0) * 1))) (hv_index TyShJ.el78 rfl rfl hi10 hi11) ?_
    obtain ⟨x_1, x_n_1, x_c_1, hc12, H⟩ := H
    refine hl_val rfl rfl (v := (.slice x_1 x_n_1 x_c_1)) (hv_load TyShJ.agg47 rfl hc12) ?_
    refine hl_val rfl rfl (v := (.int .i64 r1)) (hv_move rfl) ?_
    obtain ⟨x_1_b, x_1_o, hqe, hi13, hi14, Hq⟩ := H
    subst hqe
    have H := Hq; clear Hq
    refine hl_val rfl rfl (v := (ptr x_1_b (x_1_o + (Int.toNat r1) * 4))) (hv_index TyShJ.el47 rfl rfl hi13 hi14) ?_
    obtain ⟨x_Hash, x_At, x_Version, x_Hits, hc15, hc16, hc17, hc18, H⟩ := H
    refine hl_val rfl rfl (v := (.agg #[(.int .u64 x_Hash), (.int .u64 x_At), (.int .u64 x_Version), (.int .u8 x_Hits)])) (hv_loads (vs := [(.int .u64 x_Hash), (.int .u64 x_At), (.int .u64 x_Version), (.int .u8 x_Hits)]) TyShJ.agg31 TyShJ.sz31 rfl (hcells_cons hc15 (hcells_cons hc16 (hcells_cons hc17 (hcells_cons hc18 hcells_nil))))) ?_
    refine hl_step rfl rfl (hn_stores (vs := [(.int .u64 x_Hash), (.int .u64 x_At), (.int .u64 x_Version), (.int .u8 x_Hits)]) rfl rfl TyShJ.sz31 rfl (HWs_row hr4 (by simp)) ?_)
    intro h4 eh19
    have hr4' : h4[pb]? = some (.cells #[(.int .u64 x_Hash), (.int .u64 x_At), (.int .u64 x_Version), (.int .u8 x_Hits)] 31 (0, 0)) := row_hsets_eq eh19 hr4 rfl
    replace H := H h4 (fr_hsets_of eh19)
    refine hl_val rfl rfl (v := (.bool true)) (hv_assign rfl) ?_
    refine hl_nil ?_
    refine seqQ_n ?_
    refine hx_ret ?_
    exact endQ_ret _ (res_two Try.results35 (rv_cell (vs := [(.int .u64 x_Hash), (.int .u64 x_At), (.int .u64 x_Version), (.int .u8 x_Hits)]) TyShJ.agg31 TyShJ.sz31 rfl (hcells_cons (rowcell hr4' rfl) (hcells_cons (rowcell hr4' rfl) (hcells_cons (rowcell hr4' rfl) (hcells_cons (rowcell hr4' rfl) hcells_nil))))) (rv_tmp rfl)) H

/-- (*cellar/cellarref12.Index).Put -/
theorem f34_sh (x_b : Nat) (x_o : Nat) (e_Hash : Int) (e_At : Int) (e_Version : Int) (e_Hits : Int) (h : Heap) (R : Value → Heap → Prop)
    (H : (((e_At == 0) = true → (∀ (h3 : Heap), Ext h h3 → R (.tuple #[(.agg #[(.int .u64 0), (.int .u64 0), (.int .u64 0), (.int .u8 0)]), (.bool false), (.int .i64 1)]) h3)) ∧ ((e_At == 0) = false → (∀ (e : Nat) (pb : Nat) (h2 : Heap), Array.size h ≤ e → e < Array.size h2 → Array.size h ≤ pb → pb < Array.size h2 → Ext h h2 → HC Try.prog 53 #[(ptr x_b x_o), (.int .u64 e_Hash)] h2 (fun vv h4 => Kp [e, pb] h2 h4 ∧ ∃ r0 r1 : Int, ∃ r2 : Bool, vv = (.tuple #[(.int .i64 r0), (.int .i64 r1), (.bool r2)]) ∧ ((r2 = true → (∃ x : Option Addr, ∃ x_n x_c : Nat, hcell h4 x_b (x_o + 1) = some (.slice x x_n x_c) ∧ (∃ x_b_1 x_o_1 : Nat, x = some ⟨x_b_1, x_o_1, none⟩ ∧ (0 : Int) ≤ r0 ∧ r0 < (x_n : Int) ∧ (∃ x_1 : Option Addr, ∃ x_n_1 x_c_1 : Nat, hcell h4 x_b_1 (x_o_1 + (Int.toNat r0) * 1) = some (.slice x_1 x_n_1 x_c_1) ∧ (∃ x_1_b x_1_o : Nat, x_1 = some ⟨x_1_b, x_1_o, none⟩ ∧ (0 : Int) ≤ r1 ∧ r1 < (x_n_1 : Int) ∧ (∃ x_Hash x_At x_Version x_Hits : Int, hcell h4 x_1_b (x_1_o + (Int.toNat r1) * 4) = some (.int .u64 x_Hash) ∧ hcell h4 x_1_b ((x_1_o + (Int.toNat r1) * 4) + 1) = some (.int .u64 x_At) ∧ hcell h4 x_1_b ((x_1_o + (Int.toNat r1) * 4) + 2) = some (.int .u64 x_Version) ∧ hcell h4 x_1_b ((x_1_o + (Int.toNat r1) * 4) + 3) = some (.int .u8 x_Hits) ∧ (((decide (x_Version > e_Version)) = true → (∀ (old : Nat) (h6 : Heap), Array.size h4 ≤ old → old < Array.size h6 → Ext h4 h6 → (∀ h7, Fr (fun i => i = pb) h6 h7 → R (.tuple #[(.agg #[(.int .u64 0), (.int .u64 0), (.int .u64 0), (.int .u8 0)]), (.bool false), (.int .i64 120)]) h7))) ∧ ((decide (x_Version > e_Version)) = false → (∀ (old : Nat) (h6 : Heap), Array.size h4 ≤ old → old < Array.size h6 → Ext h4 h6 → (HWs h6 x_1_b (x_1_o + (Int.toNat r1) * 4) 4 ∧ Off x_1_b [e, pb, old] ∧ ∀ h8, h8 = hsets h6 x_1_b (x_1_o + (Int.toNat r1) * 4) [(.int .u64 e_Hash), (.int .u64 e_At), (.int .u64 e_Version), (.int .u8 e_Hits)] → (∀ h9, Fr (fun i => i = pb) h8 h9 → R (.tuple #[(.agg #[(.int .u64 x_Hash), (.int .u64 x_At), (.int .u64 x_Version), (.int .u8 x_Hits)]), (.bool true), (.int .i64 0)]) h9))))))))))) ∧ (r2 = false → (∃ x : Option Addr, ∃ x_n x_c : Nat, hcell h4 x_b (x_o + 1) = some (.slice x x_n x_c) ∧ (∃ x_b_1 x_o_1 : Nat, x = some ⟨x_b_1, x_o_1, none⟩ ∧ (0 : Int) ≤ r0 ∧ r0 < (x_n : Int) ∧ (∃ x_1 : Option Addr, ∃ x_n_1 x_c_1 : Nat, hcell h4 x_b_1 (x_o_1 + (Int.toNat r0) * 1) = some (.slice x_1 x_n_1 x_c_1) ∧ (∃ x_2 : Int, hcell h4 x_b x_o = some (.int .i64 x_2) ∧ ((0 : Int) ≤ x_2 ∧ (((decide ((IntKind.i64.wrap (8 * (IntKind.i64.wrap ((x_n_1 : Int) + 1)))) > (IntKind.i64.wrap (7 * (IntKind.i64.wrap (1 * 2 ^ min (Int.toNat x_2) 64)))))) = true → (∀ h10, Fr (fun i => i = pb) h4 h10 → R (.tuple #[(.agg #[(.int .u64 0), (.int .u64 0), (.int .u64 0), (.int .u8 0)]), (.bool false), (.int .i64 2)]) h10)) ∧ ((decide ((IntKind.i64.wrap (8 * (IntKind.i64.wrap ((x_n_1 : Int) + 1)))) > (IntKind.i64.wrap (7 * (IntKind.i64.wrap (1 * 2 ^ min (Int.toNat x_2) 64)))))) = false → (∀ nb h11, nb = Array.size h4 → h11 = Array.push h4 (.cells #[] 31) → (∃ x_3 : Option Addr, ∃ x_n_2 x_c_2 : Nat, hcell h11 x_b (x_o + 1) = some (.slice x_3 x_n_2 x_c_2) ∧ (∃ x_3_b x_3_o : Nat, x_3 = some ⟨x_3_b, x_3_o, none⟩ ∧ (0 : Int) ≤ r0 ∧ r0 < (x_n_2 : Int) ∧ (∃ x_4 : Option Addr, ∃ x_n_3 x_c_3 : Nat, hcell h11 x_3_b (x_3_o + (Int.toNat r0) * 1) = some (.slice x_4 x_n_3 x_c_3) ∧ (0 ≤ ((0 : Int) : Int) ∧ (0 : Int) ≤ r1 ∧ r1 ≤ (x_c_3 : Int) ∧ ∀ sl : Option Addr, sl = slA x_4 (Int.toNat 0) 4 x_c_3 → HAppend Try.prog 47 47 (.slice (some ⟨nb, 0, none⟩) 0 0) (.slice sl (Int.toNat r1 - Int.toNat 0) (x_c_3 - Int.toNat 0)) h11 (fun vv h12 => Kp [e, pb] h11 h12 ∧ ∃ ap : Option Addr, ∃ ap_n ap_c : Nat, vv = (.slice ap ap_n ap_c) ∧ (∃ T66 : Heap → Heap → Prop, Fit T66 ∧ (∃ x_5 : Option Addr, ∃ x_n_4 x_c_4 : Nat, (∀ hx, T66 h12 hx → hcell hx x_b (x_o + 1) = some (.slice x_5 x_n_4 x_c_4)) ∧ (∃ x_6 : Option Addr, ∃ x_n_5 x_c_5 : Nat, (∀ hx, T66 h12 hx → hcell hx x_b (x_o + 1) = some (.slice x_6 x_n_5 x_c_5)) ∧ (∃ x_6_b x_6_o : Nat, x_6 = some ⟨x_6_b, x_6_o, none⟩ ∧ (0 : Int) ≤ r0 ∧ r0 < (x_n_5 : Int) ∧ (∃ x_7 : Option Addr, ∃ x_n_6 x_c_6 : Nat, (∀ hx, T66 h12 hx → hcell hx x_6_b (x_6_o + (Int.toNat r0) * 1) = some (.slice x_7 x_n_6 x_c_6)) ∧ (0 ≤ (r1 : Int) ∧ r1 ≤ (x_n_6 : Int) ∧ (x_n_6 : Int) ≤ (x_c_6 : Int) ∧ ∀ sl_1 : Option Addr, sl_1 = slA x_7 (Int.toNat r1) 4 x_c_6 → (∀ nb_1 h13, nb_1 = Array.size h12 → h13 = Array.push h12 (.cells #[(.int .u64 e_Hash), (.int .u64 e_At), (.int .u64 e_Version), (.int .u8 e_Hits)] 31) → HAppend Try.prog 47 47 (.slice ap ap_n ap_c) (.slice (some ⟨nb_1, 0, none⟩) 1 1) h13 (fun vv h14 => T66 h13 h14 ∧ Kp [pb] h13 h14 ∧ ∃ ap_1 : Option Addr, ∃ ap_n_1 ap_c_1 : Nat, vv = (.slice ap_1 ap_n_1 ap_c_1) ∧ HAppend Try.prog 47 47 (.slice ap_1 ap_n_1 ap_c_1) (.slice sl_1 (Int.toNat (x_n_6 : Int) - Int.toNat r1) (x_c_6 - Int.toNat r1)) h14 (fun vv h15 => T66 h14 h15 ∧ Kp [pb] h14 h15 ∧ ∃ ap_2 : Option Addr, ∃ ap_n_2 ap_c_2 : Nat, vv = (.slice ap_2 ap_n_2 ap_c_2) ∧ (∃ x_5_b x_5_o : Nat, x_5 = some ⟨x_5_b, x_5_o, none⟩ ∧ (0 : Int) ≤ r0 ∧ r0 < (x_n_4 : Int) ∧ (HW h15 x_5_b (x_5_o + (Int.toNat r0) * 1) ∧ Off x_5_b [pb] ∧ ∀ h16, h16 = hset h15 x_5_b (x_5_o + (Int.toNat r0) * 1) (.slice ap_2 ap_n_2 ap_c_2) → (∀ h17, Fr (fun i => i = pb) h16 h17 → R (.tuple #[(.agg #[(.int .u64 0), (.int .u64 0), (.int .u64 0), (.int .u8 0)]), (.bool false), (.int .i64 0)]) h17)))))))))))))))))))))))))))))))) :
    HC Try.prog 34 #[(ptr x_b x_o), (.agg #[(.int .u64 e_Hash), (.int .u64 e_At), (.int .u64 e_Version), (.int .u8 e_Hits)])] h R := by
  refine hc_of (args := [(ptr x_b x_o), (.agg #[(.int .u64 e_Hash), (.int .u64 e_At), (.int .u64 e_Version), (.int .u8 e_Hits)])]) Try.func34 rfl Try.ntmps34 (Nat.le_of_ble_eq_true rfl) ?_
  refine hx_seq ?_
  refine hx_region ?_
  refine hl_step rfl rfl (hn_box (v := (.agg #[(.int .u64 e_Hash), (.int .u64 e_At), (.int .u64 e_Version), (.int .u8 e_Hits)])) rfl ?_)
  intro e h1 eb1 eh2
  have xx3 : Ext h h1 := by rw [eh2]; exact Ext.push _ _
  have lo5 : Array.size h ≤ e := Nat.le_of_eq (Eq.symm eb1)
  have hr4 : h1[e]? = some (.cells #[(.int .u64 e_Hash), (.int .u64 e_At), (.int .u64 e_Version), (.int .u8 e_Hits)] 31 (0, 0)) := by rw [eh2]; exact push_new eb1
  refine hl_step rfl rfl (hn_alloc TyShJ.z31 ?_)
  intro pb h2 eb6 eh7
  have xx8 : Ext h1 h2 := by rw [eh7]; exact Ext.push _ _
  have ne11 := Nat.ne_of_lt (Nat.lt_of_lt_of_eq (row_lt hr4) (Eq.symm eb6))
  have lo10 : Array.size h ≤ pb := Nat.le_trans (Ext.size xx3) (Nat.le_of_eq (Eq.symm eb6))
  have hr9 : h2[pb]? = some (.cells #[(.int .u64 0), (.int .u64 0), (.int .u64 0), (.int .u8 0)] 31 (0, 0)) := by rw [eh7]; exact push_new eb6
  replace hr4 := Ext.row xx8 hr4
  have xv12 := Ext.trans xx3 xx8
  refine hl_val rfl rfl (v := (.bool false)) (hv_assign rfl) ?_
  refine hl_val rfl rfl (v := (.int .i64 0)) (hv_assign rfl) ?_
  refine hl_nil ?_
  refine seqQ_n ?_
  refine hx_seq ?_
  refine hx_seq ?_
  refine hx_region ?_
  refine hl_val rfl rfl (v := (ptr e 1)) (hv_field TyShJ.fld31_1 (b := e) (o := 0) rfl) ?_
  refine hl_val rfl rfl (v := (.int .u64 e_At)) (hv_load TyShJ.agg29 rfl (rowcell hr4 rfl)) ?_
  refine hl_val rfl rfl (v := (.bool (e_At == 0))) (hv_arith rfl rfl rfl) ?_
  refine hl_nil ?_
  refine seqQ_n ?_
  refine hx_cond (b := e_At == 0) rfl (fun hb13 => ?_) (fun hb13 => ?_)
  · replace H := H.1 hb13
    refine hx_seq ?_
    refine hx_region ?_
    refine hl_val rfl rfl (v := (.agg #[(.int .u64 0), (.int .u64 0), (.int .u64 0), (.int .u8 0)])) (hv_build (vs := []) (cs := #[(.int .u64 0), (.int .u64 0), (.int .u64 0), (.int .u8 0)]) TyShJ.z31 TyShJ.pl31 rfl (by kernel_rfl)) ?_
    refine hl_step rfl rfl (hn_stores (vs := [(.int .u64 0), (.int .u64 0), (.int .u64 0), (.int .u8 0)]) rfl rfl TyShJ.sz31 rfl (HWs_row hr9 (by simp)) ?_)
    intro h3 eh14
    replace hr4 := row_hsets_ne eh14 ne11 hr4
    have hr9' : h3[pb]? = some (.cells #[(.int .u64 0), (.int .u64 0), (.int .u64 0), (.int .u8 0)] 31 (0, 0)) := row_hsets_eq eh14 hr9 rfl
    have xv15 := ext_hsets eh14 xv12 lo10
    refine hl_val rfl rfl (v := (.bool false)) (hv_assign rfl) ?_
    refine hl_val rfl rfl (v := (.int .i64 1)) (hv_assign rfl) ?_
    refine hl_nil ?_
    refine seqQ_n ?_
    refine hx_ret ?_
    refine seqQ_ret ?_
    replace H := H h3 xv15
    exact endQ_ret _ (res_three Try.results34 (rv_cell (vs := [(.int .u64 0), (.int .u64 0), (.int .u64 0), (.int .u8 0)]) TyShJ.agg31 TyShJ.sz31 rfl (hcells_cons (rowcell hr9' rfl) (hcells_cons (rowcell hr9' rfl) (hcells_cons (rowcell hr9' rfl) (hcells_cons (rowcell hr9' rfl) hcells_nil))))) (rv_tmp rfl) (rv_tmp rfl)) H
  · replace H := H.2 hb13
    refine hx_skip ?_
    refine seqQ_n ?_
    refine hx_seq ?_
    refine hx_region ?_
    refine hl_val rfl rfl (v := (ptr x_b x_o)) (hv_move rfl) ?_
    refine hl_val rfl rfl (v := (ptr e 0)) (hv_field TyShJ.fld31_0 (b := e) (o := 0) rfl) ?_
    refine hl_val rfl rfl (v := (.int .u64 e_Hash)) (hv_load TyShJ.agg29 rfl (rowcell hr4 rfl)) ?_
    replace H := H e pb h2 lo5 (row_lt hr4) lo10 (row_lt hr9) xv12
    refine hl_step rfl rfl (hs_call TyShJ.cb53 (vs := [(ptr x_b x_o), (.int .u64 e_Hash)]) rfl (HC.mono H ?_))
    rintro _ h4 ⟨kp16, r0, r1, r2, rfl, H⟩
    replace hr4 := Kp.row kp16 (by simp) hr4
    replace hr9 := Kp.row kp16 (by simp) hr9
    refine hl_val rfl rfl (v := (.tuple #[(.int .i64 r0), (.int .i64 r1), (.bool r2)])) (hv_move rfl) ?_
    refine hl_val rfl rfl (v := (.int .i64 r0)) (hv_extract (vs := #[(.int .i64 r0), (.int .i64 r1), (.bool r2)]) rfl rfl) ?_
    refine hl_val rfl rfl (v := (.int .i64 r1)) (hv_extract (vs := #[(.int .i64 r0), (.int .i64 r1), (.bool r2)]) rfl rfl) ?_
    refine hl_val rfl rfl (v := (.bool r2)) (hv_extract (vs := #[(.int .i64 r0), (.int .i64 r1), (.bool r2)]) rfl rfl) ?_
    refine hl_val rfl rfl (v := (.int .i64 r0)) (hv_assign rfl) ?_
    refine hl_val rfl rfl (v := (.int .i64 r1)) (hv_assign rfl) ?_
    refine hl_val rfl rfl (v := (.bool r2)) (hv_assign rfl) ?_
    refine hl_nil ?_
    refine seqQ_n ?_
    refine hx_seq ?_
    refine hx_seq ?_
    refine hx_region ?_
    refine hl_val rfl rfl (v := (.bool r2)) (hv_move rfl) ?_
    refine hl_nil ?_
    refine seqQ_n ?_
    refine hx_cond (b := r2) rfl (fun hb17 => ?_) (fun hb17 => ?_)
    · replace H := H.1 hb17
      refine hx_seq ?_
      refine hx_region ?_
      refine hl_val rfl rfl (v := (ptr x_b x_o)) (hv_move rfl) ?_
      refine hl_val rfl rfl (v := (ptr x_b x_o)) (hv_nil rfl) ?_
      refine hl_val rfl rfl (v := (ptr x_b (x_o + 1))) (hv_field TyShJ.fld80_1 (b := x_b) (o := x_o) rfl) ?_
      obtain ⟨x, x_n, x_c, hc18, H⟩ := H
      refine hl_val rfl rfl (v := (.slice x x_n x_c)) (hv_load TyShJ.agg78 rfl hc18) ?_
      refine hl_val rfl rfl (v := (.int .i64 r0)) (hv_move rfl) ?_
      obtain ⟨x_b_1, x_o_1, hqe, hi19, hi20, Hq⟩ := H
      subst hqe
      have H := Hq; clear Hq
      refine hl_val rfl rfl (v := (ptr x_b_1 (x_o_1 + (Int.toNat r0) * 1))) (hv_index TyShJ.el78 rfl rfl hi19 hi20) ?_
      obtain ⟨x_1, x_n_1, x_c_1, hc21, H⟩ := H
      refine hl_val rfl rfl (v := (.slice x_1 x_n_1 x_c_1)) (hv_load TyShJ.agg47 rfl hc21) ?_
      refine hl_val rfl rfl (v := (.int .i64 r1)) (hv_move rfl) ?_
      obtain ⟨x_1_b, x_1_o, hqe, hi22, hi23, Hq⟩ := H
      subst hqe
      have H := Hq; clear Hq
      refine hl_val rfl rfl (v := (ptr x_1_b (x_1_o + (Int.toNat r1) * 4))) (hv_index TyShJ.el47 rfl rfl hi22 hi23) ?_
      obtain ⟨x_Hash, x_At, x_Version, x_Hits, hc24, hc25, hc26, hc27, H⟩ := H
      refine hl_val rfl rfl (v := (.agg #[(.int .u64 x_Hash), (.int .u64 x_At), (.int .u64 x_Version), (.int .u8 x_Hits)])) (hv_loads (vs := [(.int .u64 x_Hash), (.int .u64 x_At), (.int .u64 x_Version), (.int .u8 x_Hits)]) TyShJ.agg31 TyShJ.sz31 rfl (hcells_cons hc24 (hcells_cons hc25 (hcells_cons hc26 (hcells_cons hc27 hcells_nil))))) ?_
      refine hl_step rfl rfl (hn_alloc TyShJ.z31 ?_)
      intro old h5 eb28 eh29
      have xx30 : Ext h4 h5 := by rw [eh29]; exact Ext.push _ _
      have ne33 := Nat.ne_of_lt (Nat.lt_of_lt_of_eq (row_lt hr4) (Eq.symm eb28))
      have ne34 := Nat.ne_of_lt (Nat.lt_of_lt_of_eq (row_lt hr9) (Eq.symm eb28))
      have lo32 : Array.size h4 ≤ old := Nat.le_of_eq (Eq.symm eb28)
      have hr31 : h5[old]? = some (.cells #[(.int .u64 0), (.int .u64 0), (.int .u64 0), (.int .u8 0)] 31 (0, 0)) := by rw [eh29]; exact push_new eb28
      replace hr4 := Ext.row xx30 hr4
      replace hr9 := Ext.row xx30 hr9
      refine hl_step rfl rfl (hn_stores (vs := [(.int .u64 x_Hash), (.int .u64 x_At), (.int .u64 x_Version), (.int .u8 x_Hits)]) rfl rfl TyShJ.sz31 rfl (HWs_row hr31 (by simp)) ?_)
      intro h6 eh35
      replace hr4 := row_hsets_ne eh35 ne33 hr4
      replace hr9 := row_hsets_ne eh35 ne34 hr9
      have hr31' : h6[old]? = some (.cells #[(.int .u64 x_Hash), (.int .u64 x_At), (.int .u64 x_Version), (.int .u8 x_Hits)] 31 (0, 0)) := row_hsets_eq eh35 hr31 rfl
      have xv36 := ext_hsets eh35 xx30 lo32
      refine hl_nil ?_
      refine seqQ_n ?_
      refine hx_seq ?_
      refine hx_seq ?_
      refine hx_region ?_
      refine hl_val rfl rfl (v := (ptr old 2)) (hv_field TyShJ.fld31_2 (b := old) (o := 0) rfl) ?_
      refine hl_val rfl rfl (v := (.int .u64 x_Version)) (hv_load TyShJ.agg29 rfl (rowcell hr31' rfl)) ?_
      refine hl_val rfl rfl (v := (ptr e 2)) (hv_field TyShJ.fld31_2 (b := e) (o := 0) rfl) ?_
      refine hl_val rfl rfl (v := (.int .u64 e_Version)) (hv_load TyShJ.agg29 rfl (rowcell hr4 rfl)) ?_
      refine hl_val rfl rfl (v := (.bool (decide (x_Version > e_Version)))) (hv_arith rfl rfl rfl) ?_
      refine hl_nil ?_
      refine seqQ_n ?_
      refine hx_cond (b := decide (x_Version > e_Version)) rfl (fun hb37 => ?_) (fun hb37 => ?_)
      · replace H := H.1 hb37
        refine hx_seq ?_
        refine hx_region ?_
        refine hl_val rfl rfl (v := (.agg #[(.int .u64 0), (.int .u64 0), (.int .u64 0), (.int .u8 0)])) (hv_build (vs := []) (cs := #[(.int .u64 0), (.int .u64 0), (.int .u64 0), (.int .u8 0)]) TyShJ.z31 TyShJ.pl31 rfl (by kernel_rfl)) ?_
        replace H := H old h6 lo32 (row_lt hr31') xv36
        refine hl_step rfl rfl (hn_stores (vs := [(.int .u64 0), (.int .u64 0), (.int .u64 0), (.int .u8 0)]) rfl rfl TyShJ.sz31 rfl (HWs_row hr9 (by simp)) ?_)
        intro h7 eh38
        replace hr4 := row_hsets_ne eh38 ne11 hr4
        replace hr31' := row_hsets_ne eh38 (Ne.symm ne34) hr31'
        have hr9' : h7[pb]? = some (.cells #[(.int .u64 0), (.int .u64 0), (.int .u64 0), (.int .u8 0)] 31 (0, 0)) := row_hsets_eq eh38 hr9 rfl
        replace H := H h7 (fr_hsets_of eh38)
        refine hl_val rfl rfl (v := (.bool false)) (hv_assign rfl) ?_
        refine hl_val rfl rfl (v := (.int .i64 120)) (hv_assign rfl) ?_
        refine hl_nil ?_
        refine seqQ_n ?_
        refine hx_ret ?_
        refine seqQ_ret ?_
        refine seqQ_ret ?_
        exact endQ_ret _ (res_three Try.results34 (rv_cell (vs := [(.int .u64 0), (.int .u64 0), (.int .u64 0), (.int .u8 0)]) TyShJ.agg31 TyShJ.sz31 rfl (hcells_cons (rowcell hr9' rfl) (hcells_cons (rowcell hr9' rfl) (hcells_cons (rowcell hr9' rfl) (hcells_cons (rowcell hr9' rfl) hcells_nil))))) (rv_tmp rfl) (rv_tmp rfl)) H
      · replace H := H.2 hb37
        refine hx_skip ?_
        refine seqQ_n ?_
        refine hx_seq ?_
        refine hx_draw TyShJ.mixed [.pure, .pure, .pure, .read, .pure, .pure, .read, .pure, .read, .pure, .wild] [0, 1, 2, 3, 4, 5, 6, 7, 8, 9, 10] (by kernel_rfl) ?_
        refine hp_pure (i := 0) rfl (wanted_0 rfl) rfl (ptr x_b x_o) (fun _ => hv_move rfl) ?_
        refine hp_pure (i := 1) rfl (wanted_0 rfl) rfl (ptr x_b x_o) (fun _ => hv_nil rfl) ?_
        refine hp_pure (i := 2) rfl (wanted_0 rfl) rfl (ptr x_b (x_o + 1)) (fun _ => hv_field TyShJ.fld80_1 (b := x_b) (o := x_o) rfl) ?_
        refine hp_read (i := 3) rfl (wanted_0 rfl) rfl (.slice (some ⟨x_b_1, x_o_1, none⟩) x_n x_c) (fun _ he => hv_load TyShJ.agg78 rfl (Ext.cell he (Ext.cell xv36 hc18))) ?_
        refine hp_pure (i := 4) rfl (wanted_0 rfl) rfl (.int .i64 r0) (fun _ => hv_move rfl) ?_
        refine hp_pure (i := 5) rfl (wanted_0 rfl) rfl (ptr x_b_1 (x_o_1 + (Int.toNat r0) * 1)) (fun _ => hv_index TyShJ.el78 rfl rfl hi19 hi20) ?_
        refine hp_read (i := 6) rfl (wanted_0 rfl) rfl (.slice (some ⟨x_1_b, x_1_o, none⟩) x_n_1 x_c_1) (fun _ he => hv_load TyShJ.agg47 rfl (Ext.cell he (Ext.cell xv36 hc21))) ?_
        refine hp_pure (i := 7) rfl (wanted_0 rfl) rfl (.int .i64 r1) (fun _ => hv_move rfl) ?_
        refine hp_read (i := 8) rfl (wanted_0 rfl) rfl (.agg #[(.int .u64 e_Hash), (.int .u64 e_At), (.int .u64 e_Version), (.int .u8 e_Hits)]) (fun _ he => hv_loads (vs := [(.int .u64 e_Hash), (.int .u64 e_At), (.int .u64 e_Version), (.int .u8 e_Hits)]) TyShJ.agg31 TyShJ.sz31 rfl (hcells_cons (Ext.cell he (rowcell hr4 rfl)) (hcells_cons (Ext.cell he (rowcell hr4 rfl)) (hcells_cons (Ext.cell he (rowcell hr4 rfl)) (hcells_cons (Ext.cell he (rowcell hr4 rfl)) hcells_nil))))) ?_
        refine hp_pure (i := 9) rfl (wanted_0 rfl) rfl (ptr x_1_b (x_1_o + (Int.toNat r1) * 4)) (fun _ => hv_index TyShJ.el47 rfl rfl hi22 hi23) ?_
        replace H := H old h6 lo32 (row_lt hr31') xv36
        obtain ⟨hw44, ho45, H⟩ := H
        refine hp_wild (i := 10) rfl (wanted_0 rfl) rfl (hn_stores (vs := [(.int .u64 e_Hash), (.int .u64 e_At), (.int .u64 e_Version), (.int .u8 e_Hits)]) rfl rfl TyShJ.sz31 rfl hw44 ?_)
        intro h8 eh43
        replace H := H h8 eh43
        replace hr4 := row_hsets_ne eh43 (ho45 _ (by simp)) hr4
        replace hr9 := row_hsets_ne eh43 (ho45 _ (by simp)) hr9
        replace hr31' := row_hsets_ne eh43 (ho45 _ (by simp)) hr31'
        refine hp_nil ?_
        refine seqQ_n ?_
        refine hx_seq ?_
        refine hx_region ?_
        refine hl_val rfl rfl (v := (.agg #[(.int .u64 x_Hash), (.int .u64 x_At), (.int .u64 x_Version), (.int .u8 x_Hits)])) (hv_loads (vs := [(.int .u64 x_Hash), (.int .u64 x_At), (.int .u64 x_Version), (.int .u8 x_Hits)]) TyShJ.agg31 TyShJ.sz31 rfl (hcells_cons (rowcell hr31' rfl) (hcells_cons (rowcell hr31' rfl) (hcells_cons (rowcell hr31' rfl) (hcells_cons (rowcell hr31' rfl) hcells_nil))))) ?_
        refine hl_step rfl rfl (hn_stores (vs := [(.int .u64 x_Hash), (.int .u64 x_At), (.int .u64 x_Version), (.int .u8 x_Hits)]) rfl rfl TyShJ.sz31 rfl (HWs_row hr9 (by simp)) ?_)
        intro h9 eh46
        replace hr4 := row_hsets_ne eh46 ne11 hr4
        replace hr31' := row_hsets_ne eh46 (Ne.symm ne34) hr31'
        have hr9' : h9[pb]? = some (.cells #[(.int .u64 x_Hash), (.int .u64 x_At), (.int .u64 x_Version), (.int .u8 x_Hits)] 31 (0, 0)) := row_hsets_eq eh46 hr9 rfl
        replace H := H h9 (fr_hsets_of eh46)
        refine hl_val rfl rfl (v := (.bool true)) (hv_assign rfl) ?_
        refine hl_val rfl rfl (v := (.int .i64 0)) (hv_assign rfl) ?_
        refine hl_nil ?_
        refine seqQ_n ?_
        refine hx_ret ?_
        refine seqQ_ret ?_
        exact endQ_ret _ (res_three Try.results34 (rv_cell (vs := [(.int .u64 x_Hash), (.int .u64 x_At), (.int .u64 x_Version), (.int .u8 x_Hits)]) TyShJ.agg31 TyShJ.sz31 rfl (hcells_cons (rowcell hr9' rfl) (hcells_cons (rowcell hr9' rfl) (hcells_cons (rowcell hr9' rfl) (hcells_cons (rowcell hr9' rfl) hcells_nil))))) (rv_tmp rfl) (rv_tmp rfl)) H
    · replace H := H.2 hb17
      refine hx_skip ?_
      refine seqQ_n ?_
      refine hx_seq ?_
      refine hx_seq ?_
      refine hx_draw TyShJ.mixed [.pure, .pure, .pure, .read, .pure, .pure, .read, .pure, .pure, .pure, .pure, .pure, .pure, .read, .pure, .pure, .pure] [0, 1, 2, 3, 4, 5, 6, 7, 8, 9, 10, 11, 12, 13, 14, 15, 16] (by kernel_rfl) ?_
      refine hp_pure (i := 0) rfl (wanted_0 rfl) rfl (ptr x_b x_o) (fun _ => hv_move rfl) ?_
      refine hp_pure (i := 1) rfl (wanted_0 rfl) rfl (ptr x_b x_o) (fun _ => hv_nil rfl) ?_
      refine hp_pure (i := 2) rfl (wanted_0 rfl) rfl (ptr x_b (x_o + 1)) (fun _ => hv_field TyShJ.fld80_1 (b := x_b) (o := x_o) rfl) ?_
      obtain ⟨x, x_n, x_c, hc47, H⟩ := H
      refine hp_read (i := 3) rfl (wanted_0 rfl) rfl (.slice x x_n x_c) (fun _ he => hv_load TyShJ.agg78 rfl (Ext.cell he hc47)) ?_
      refine hp_pure (i := 4) rfl (wanted_0 rfl) rfl (.int .i64 r0) (fun _ => hv_move rfl) ?_
      obtain ⟨x_b_1, x_o_1, hqe, hi48, hi49, Hq⟩ := H
      subst hqe
      have H := Hq; clear Hq
      refine hp_pure (i := 5) rfl (wanted_0 rfl) rfl (ptr x_b_1 (x_o_1 + (Int.toNat r0) * 1)) (fun _ => hv_index TyShJ.el78 rfl rfl hi48 hi49) ?_
      obtain ⟨x_1, x_n_1, x_c_1, hc50, H⟩ := H
      refine hp_read (i := 6) rfl (wanted_0 rfl) rfl (.slice x_1 x_n_1 x_c_1) (fun _ he => hv_load TyShJ.agg47 rfl (Ext.cell he hc50)) ?_
      refine hp_pure (i := 7) rfl (wanted_0 rfl) rfl (.int .i64 (x_n_1 : Int)) (fun _ => hv_len (n := x_n_1) TyShJ.u47 rfl) ?_
      refine hp_pure (i := 8) rfl (wanted_0 rfl) rfl (.int .i64 (IntKind.i64.wrap ((x_n_1 : Int) + 1))) (fun _ => hv_arith rfl rfl rfl) ?_
      refine hp_pure (i := 9) rfl (wanted_0 rfl) rfl (.int .i64 (IntKind.i64.wrap (8 * (IntKind.i64.wrap ((x_n_1 : Int) + 1))))) (fun _ => hv_arith rfl rfl rfl) ?_
      refine hp_pure (i := 10) rfl (wanted_0 rfl) rfl (ptr x_b x_o) (fun _ => hv_move rfl) ?_
      refine hp_pure (i := 11) rfl (wanted_0 rfl) rfl (ptr x_b x_o) (fun _ => hv_nil rfl) ?_
      refine hp_pure (i := 12) rfl (wanted_0 rfl) rfl (ptr x_b x_o) (fun _ => hv_field TyShJ.fld80_0 (b := x_b) (o := x_o) rfl) ?_
      obtain ⟨x_2, hc51, H⟩ := H
      refine hp_read (i := 13) rfl (wanted_0 rfl) rfl (.int .i64 x_2) (fun _ he => hv_load TyShJ.agg3 rfl (Ext.cell he hc51)) ?_
      obtain ⟨hz90, H⟩ := H
      refine hp_pure (i := 14) rfl (wanted_0 rfl) rfl (.int .i64 (IntKind.i64.wrap (1 * 2 ^ min (Int.toNat x_2) 64))) (fun _ => hv_shift rfl rfl hz90 rfl) ?_
      refine hp_pure (i := 15) rfl (wanted_0 rfl) rfl (.int .i64 (IntKind.i64.wrap (7 * (IntKind.i64.wrap (1 * 2 ^ min (Int.toNat x_2) 64))))) (fun _ => hv_arith rfl rfl rfl) ?_
      refine hp_pure (i := 16) rfl (wanted_0 rfl) rfl (.bool (decide ((IntKind.i64.wrap (8 * (IntKind.i64.wrap ((x_n_1 : Int) + 1)))) > (IntKind.i64.wrap (7 * (IntKind.i64.wrap (1 * 2 ^ min (Int.toNat x_2) 64))))))) (fun _ => hv_arith rfl rfl rfl) ?_
      refine hp_nil ?_
      refine seqQ_n ?_
      refine hx_cond (b := decide ((IntKind.i64.wrap (8 * (IntKind.i64.wrap ((x_n_1 : Int) + 1)))) > (IntKind.i64.wrap (7 * (IntKind.i64.wrap (1 * 2 ^ min (Int.toNat x_2) 64)))))) rfl (fun hb52 => ?_) (fun hb52 => ?_)
      · replace H := H.1 hb52
        refine hx_seq ?_
        refine hx_region ?_
        refine hl_val rfl rfl (v := (.agg #[(.int .u64 0), (.int .u64 0), (.int .u64 0), (.int .u8 0)])) (hv_build (vs := []) (cs := #[(.int .u64 0), (.int .u64 0), (.int .u64 0), (.int .u8 0)]) TyShJ.z31 TyShJ.pl31 rfl (by kernel_rfl)) ?_
        refine hl_step rfl rfl (hn_stores (vs := [(.int .u64 0), (.int .u64 0), (.int .u64 0), (.int .u8 0)]) rfl rfl TyShJ.sz31 rfl (HWs_row hr9 (by simp)) ?_)
        intro h10 eh53
        replace hr4 := row_hsets_ne eh53 ne11 hr4
        have hr9' : h10[pb]? = some (.cells #[(.int .u64 0), (.int .u64 0), (.int .u64 0), (.int .u8 0)] 31 (0, 0)) := row_hsets_eq eh53 hr9 rfl
        replace H := H h10 (fr_hsets_of eh53)
        refine hl_val rfl rfl (v := (.bool false)) (hv_assign rfl) ?_
        refine hl_val rfl rfl (v := (.int .i64 2)) (hv_assign rfl) ?_
        refine hl_nil ?_
        refine seqQ_n ?_
        refine hx_ret ?_
        refine seqQ_ret ?_
        exact endQ_ret _ (res_three Try.results34 (rv_cell (vs := [(.int .u64 0), (.int .u64 0), (.int .u64 0), (.int .u8 0)]) TyShJ.agg31 TyShJ.sz31 rfl (hcells_cons (rowcell hr9' rfl) (hcells_cons (rowcell hr9' rfl) (hcells_cons (rowcell hr9' rfl) (hcells_cons (rowcell hr9' rfl) hcells_nil))))) (rv_tmp rfl) (rv_tmp rfl)) H
      · replace H := H.2 hb52
        refine hx_skip ?_
        refine seqQ_n ?_
        refine hx_seq ?_
        refine hx_region ?_
        refine hl_step rfl rfl (hn_buildSlice (n := 0) (vs := []) (cs := #[]) TyShJ.u47 TyShJ.sz31 TyShJ.z31 rfl rfl (by kernel_rfl) ?_)
        intro nb h11 eb54 eh55
        replace H := H nb h11 eb54 eh55
        have xx56 : Ext h4 h11 := by rw [eh55]; exact Ext.push _ _
        replace hr4 := Ext.row xx56 hr4
        replace hr9 := Ext.row xx56 hr9
        refine hl_val rfl rfl (v := (ptr x_b x_o)) (hv_move rfl) ?_
        refine hl_val rfl rfl (v := (ptr x_b x_o)) (hv_nil rfl) ?_
        refine hl_val rfl rfl (v := (ptr x_b (x_o + 1))) (hv_field TyShJ.fld80_1 (b := x_b) (o := x_o) rfl) ?_
        obtain ⟨x_3, x_n_2, x_c_2, hc57, H⟩ := H
        refine hl_val rfl rfl (v := (.slice x_3 x_n_2 x_c_2)) (hv_load TyShJ.agg78 rfl hc57) ?_
        refine hl_val rfl rfl (v := (.int .i64 r0)) (hv_move rfl) ?_
        obtain ⟨x_3_b, x_3_o, hqe, hi58, hi59, Hq⟩ := H
        subst hqe
        have H := Hq; clear Hq
        refine hl_val rfl rfl (v := (ptr x_3_b (x_3_o + (Int.toNat r0) * 1))) (hv_index TyShJ.el78 rfl rfl hi58 hi59) ?_
        obtain ⟨x_4, x_n_3, x_c_3, hc60, H⟩ := H
        refine hl_val rfl rfl (v := (.slice x_4 x_n_3 x_c_3)) (hv_load TyShJ.agg47 rfl hc60) ?_
        refine hl_val rfl rfl (v := (.int .i64 r1)) (hv_move rfl) ?_
        obtain ⟨hs61, hs62, hs63, H⟩ := H
        obtain ⟨sl, hq64⟩ : ∃ q, q = slA x_4 (Int.toNat 0) 4 x_c_3 := ⟨_, rfl⟩
        replace H := H sl hq64
        refine hl_val rfl rfl (v := (.slice sl (Int.toNat r1 - Int.toNat 0) (x_c_3 - Int.toNat 0))) (hv_slice (l := 0) (r := r1) TyShJ.u47 TyShJ.sz31 rfl sl_none (sh_some rfl) hs61 hs62 hs63 hq64) ?_
        refine hl_step rfl rfl (hs_append rfl rfl (HAppend.mono H ?_))
        rintro _ h12 ⟨kp65, ap, ap_n, ap_c, rfl, H⟩
        replace hr4 := Kp.row kp65 (by simp) hr4
        replace hr9 := Kp.row kp65 (by simp) hr9
        refine hl_val rfl rfl (v := (.slice ap ap_n ap_c)) (hv_assign rfl) ?_
        refine hl_nil ?_
        refine seqQ_n ?_
        refine hx_seq ?_
        obtain ⟨T66, hT67, H⟩ := H
        refine hx_drawT TyShJ.mixed T66 hT67 [.pure, .pure, .pure, .stay, .pure, .pure, .read, .ext, .tame, .pure, .pure, .pure, .stay, .pure, .pure, .stay, .pure, .pure, .tame, .pure, .wild] [0, 1, 2, 3, 4, 5, 6, 9, 10, 11, 12, 13, 14, 15, 16, 17, 7, 8, 18, 19, 20] (by kernel_rfl) ?_
        refine hp_pure (i := 0) rfl (wanted_0 rfl) rfl (ptr x_b x_o) (fun _ => hv_move rfl) ?_
        refine hp_pure (i := 1) rfl (wanted_0 rfl) rfl (ptr x_b x_o) (fun _ => hv_nil rfl) ?_
        refine hp_pure (i := 2) rfl (wanted_0 rfl) rfl (ptr x_b (x_o + 1)) (fun _ => hv_field TyShJ.fld80_1 (b := x_b) (o := x_o) rfl) ?_
        obtain ⟨x_5, x_n_4, x_c_4, hc68, H⟩ := H
        refine hp_stay (i := 3) rfl (wanted_0 rfl) rfl (.slice x_5 x_n_4 x_c_4) (fun _ he => hv_load TyShJ.agg78 rfl (hc68 _ he)) ?_
        refine hp_pure (i := 4) rfl (wanted_0 rfl) rfl (.int .i64 r0) (fun _ => hv_move rfl) ?_
        refine hp_pure (i := 5) rfl (wanted_0 rfl) rfl (.slice ap ap_n ap_c) (fun _ => hv_move rfl) ?_
        refine hp_read (i := 6) rfl (wanted_0 rfl) rfl (.agg #[(.int .u64 e_Hash), (.int .u64 e_At), (.int .u64 e_Version), (.int .u8 e_Hits)]) (fun _ he => hv_loads (vs := [(.int .u64 e_Hash), (.int .u64 e_At), (.int .u64 e_Version), (.int .u8 e_Hits)]) TyShJ.agg31 TyShJ.sz31 rfl (hcells_cons (Ext.cell he (rowcell hr4 rfl)) (hcells_cons (Ext.cell he (rowcell hr4 rfl)) (hcells_cons (Ext.cell he (rowcell hr4 rfl)) (hcells_cons (Ext.cell he (rowcell hr4 rfl)) hcells_nil))))) ?_
        refine hp_pure (i := 9) rfl (wanted_0 rfl) rfl (ptr x_b x_o) (fun _ => hv_move rfl) ?_
        refine hp_pure (i := 10) rfl (wanted_0 rfl) rfl (ptr x_b x_o) (fun _ => hv_nil rfl) ?_
        refine hp_pure (i := 11) rfl (wanted_0 rfl) rfl (ptr x_b (x_o + 1)) (fun _ => hv_field TyShJ.fld80_1 (b := x_b) (o := x_o) rfl) ?_
        obtain ⟨x_6, x_n_5, x_c_5, hc69, H⟩ := H
        refine hp_stay (i := 12) rfl (wanted_0 rfl) rfl (.slice x_6 x_n_5 x_c_5) (fun _ he => hv_load TyShJ.agg78 rfl (hc69 _ he)) ?_
        refine hp_pure (i := 13) rfl (wanted_0 rfl) rfl (.int .i64 r0) (fun _ => hv_move rfl) ?_
        obtain ⟨x_6_b, x_6_o, hqe, hi70, hi71, Hq⟩ := H
        subst hqe
        have H := Hq; clear Hq
        refine hp_pure (i := 14) rfl (wanted_0 rfl) rfl (ptr x_6_b (x_6_o + (Int.toNat r0) * 1)) (fun _ => hv_index TyShJ.el78 rfl rfl hi70 hi71) ?_
        obtain ⟨x_7, x_n_6, x_c_6, hc72, H⟩ := H
        refine hp_stay (i := 15) rfl (wanted_0 rfl) rfl (.slice x_7 x_n_6 x_c_6) (fun _ he => hv_load TyShJ.agg47 rfl (hc72 _ he)) ?_
        refine hp_pure (i := 16) rfl (wanted_0 rfl) rfl (.int .i64 r1) (fun _ => hv_move rfl) ?_
        obtain ⟨hs73, hs74, hs75, H⟩ := H
        obtain ⟨sl_1, hq76⟩ : ∃ q, q = slA x_7 (Int.toNat r1) 4 x_c_6 := ⟨_, rfl⟩
        replace H := H sl_1 hq76
        refine hp_pure (i := 17) rfl (wanted_0 rfl) rfl (.slice sl_1 (Int.toNat (x_n_6 : Int) - Int.toNat r1) (x_c_6 - Int.toNat r1)) (fun _ => hv_slice (l := r1) (r := (x_n_6 : Int)) TyShJ.u47 TyShJ.sz31 rfl (sl_some rfl) sh_none hs73 hs74 hs75 hq76) ?_
        refine hp_ext (i := 7) rfl (wanted_0 rfl) rfl (hn_buildSlice (n := 1) (vs := [(0, (.agg #[(.int .u64 e_Hash), (.int .u64 e_At), (.int .u64 e_Version), (.int .u8 e_Hits)]))]) (cs := #[(.int .u64 e_Hash), (.int .u64 e_At), (.int .u64 e_Version), (.int .u8 e_Hits)]) TyShJ.u47 TyShJ.sz31 TyShJ.z31 rfl rfl (by kernel_rfl) ?_)
        intro nb_1 h13 eb77 eh78
        replace H := H nb_1 h13 eb77 eh78
        have xx79 : Ext h12 h13 := by rw [eh78]; exact Ext.push _ _
        replace hr4 := Ext.row xx79 hr4
        replace hr9 := Ext.row xx79 hr9
        refine ⟨xx79, ?_⟩
        refine hp_tame (i := 8) rfl (wanted_0 rfl) rfl (hs_append rfl rfl (HAppend.mono H ?_))
        rintro _ h14 ⟨ht89, kp80, ap_1, ap_n_1, ap_c_1, rfl, H⟩
        refine ⟨ht89, ?_⟩
        replace hr9 := Kp.row kp80 (by simp) hr9
        refine hp_tame (i := 18) rfl (wanted_0 rfl) rfl (hs_append rfl rfl (HAppend.mono H ?_))
        rintro _ h15 ⟨ht88, kp81, ap_2, ap_n_2, ap_c_2, rfl, H⟩
        refine ⟨ht88, ?_⟩
        replace hr9 := Kp.row kp81 (by simp) hr9
        obtain ⟨x_5_b, x_5_o, hqe, hi82, hi83, Hq⟩ := H
        subst hqe
        have H := Hq; clear Hq
        refine hp_pure (i := 19) rfl (wanted_0 rfl) rfl (ptr x_5_b (x_5_o + (Int.toNat r0) * 1)) (fun _ => hv_index TyShJ.el78 rfl rfl hi82 hi83) ?_
        obtain ⟨hw85, ho86, H⟩ := H
        refine hp_wild (i := 20) rfl (wanted_0 rfl) rfl (hn_store (v := (.slice ap_2 ap_n_2 ap_c_2)) rfl rfl TyShJ.sz47 rfl hw85 ?_)
        intro h16 eh84
        replace H := H h16 eh84
        replace hr9 := row_hset_ne eh84 (ho86 _ (by simp)) hr9
        refine hp_nil ?_
        refine seqQ_n ?_
        refine hx_seq ?_
        refine hx_region ?_
        refine hl_val rfl rfl (v := (.agg #[(.int .u64 0), (.int .u64 0), (.int .u64 0), (.int .u8 0)])) (hv_build (vs := []) (cs := #[(.int .u64 0), (.int .u64 0), (.int .u64 0), (.int .u8 0)]) TyShJ.z31 TyShJ.pl31 rfl (by kernel_rfl)) ?_
        refine hl_step rfl rfl (hn_stores (vs := [(.int .u64 0), (.int .u64 0), (.int .u64 0), (.int .u8 0)]) rfl rfl TyShJ.sz31 rfl (HWs_row hr9 (by simp)) ?_)
        intro h17 eh87
        have hr9' : h17[pb]? = some (.cells #[(.int .u64 0), (.int .u64 0), (.int .u64 0), (.int .u8 0)] 31 (0, 0)) := row_hsets_eq eh87 hr9 rfl
        replace H := H h17 (fr_hsets_of eh87)
        refine hl_val rfl rfl (v := (.bool false)) (hv_assign rfl) ?_
        refine hl_val rfl rfl (v := (.int .i64 0)) (hv_assign rfl) ?_
        refine hl_nil ?_
        refine seqQ_n ?_
        refine hx_ret ?_
        exact endQ_ret _ (res_three Try.results34 (rv_cell (vs := [(.int .u64 0), (.int .u64 0), (.int .u64 0), (.int .u8 0)]) TyShJ.agg31 TyShJ.sz31 rfl (hcells_cons (rowcell hr9' rfl) (hcells_cons (rowcell hr9' rfl) (hcells_cons (rowcell hr9' rfl) (hcells_cons (rowcell hr9' rfl) hcells_nil))))) (rv_tmp rfl) (rv_tmp rfl)) H

/-- (*cellar/cellarref12.Index).Remove -/
theorem f37_sh (x_b : Nat) (x_o : Nat) (hash : Int) (h : Heap) (R : Value → Heap → Prop)
    (H : (∀ (pb : Nat) (h1 : Heap), Array.size h ≤ pb → pb < Array.size h1 → Ext h h1 → HC Try.prog 53 #[(ptr x_b x_o), (.int .u64 hash)] h1 (fun vv h2 => Kp [pb] h1 h2 ∧ ∃ r0 r1 : Int, ∃ r2 : Bool, vv = (.tuple #[(.int .i64 r0), (.int .i64 r1), (.bool r2)]) ∧ (((!r2) = true → (∀ h3, Fr (fun i => i = pb) h2 h3 → R (.tuple #[(.agg #[(.int .u64 0), (.int .u64 0), (.int .u64 0), (.int .u8 0)]), (.bool false)]) h3)) ∧ ((!r2) = false → (∃ x : Option Addr, ∃ x_n x_c : Nat, hcell h2 x_b (x_o + 1) = some (.slice x x_n x_c) ∧ (∃ x_b_1 x_o_1 : Nat, x = some ⟨x_b_1, x_o_1, none⟩ ∧ (0 : Int) ≤ r0 ∧ r0 < (x_n : Int) ∧ (∃ x_1 : Option Addr, ∃ x_n_1 x_c_1 : Nat, hcell h2 x_b_1 (x_o_1 + (Int.toNat r0) * 1) = some (.slice x_1 x_n_1 x_c_1) ∧ (∃ x_1_b x_1_o : Nat, x_1 = some ⟨x_1_b, x_1_o, none⟩ ∧ (0 : Int) ≤ r1 ∧ r1 < (x_n_1 : Int) ∧ (∃ x_Hash x_At x_Version x_Hits : Int, hcell h2 x_1_b (x_1_o + (Int.toNat r1) * 4) = some (.int .u64 x_Hash) ∧ hcell h2 x_1_b ((x_1_o + (Int.toNat r1) * 4) + 1) = some (.int .u64 x_At) ∧ hcell h2 x_1_b ((x_1_o + (Int.toNat r1) * 4) + 2) = some (.int .u64 x_Version) ∧ hcell h2 x_1_b ((x_1_o + (Int.toNat r1) * 4) + 3) = some (.int .u8 x_Hits) ∧ (∃ T27 : Heap → Heap → Prop, Fit T27 ∧ (∀ (old : Nat) (h5 : Heap), Array.size h2 ≤ old → old < Array.size h5 → Ext h2 h5 → (∃ x_2 : Option Addr, ∃ x_n_2 x_c_2 : Nat, (∀ hx, T27 h5 hx → hcell hx x_b (x_o + 1) = some (.slice x_2 x_n_2 x_c_2)) ∧ (∃ x_3 : Option Addr, ∃ x_n_3 x_c_3 : Nat, hcell h5 x_b (x_o + 1) = some (.slice x_3 x_n_3 x_c_3) ∧ (∃ x_3_b x_3_o : Nat, x_3 = some ⟨x_3_b, x_3_o, none⟩ ∧ (0 : Int) ≤ r0 ∧ r0 < (x_n_3 : Int) ∧ (∃ x_4 : Option Addr, ∃ x_n_4 x_c_4 : Nat, hcell h5 x_3_b (x_3_o + (Int.toNat r0) * 1) = some (.slice x_4 x_n_4 x_c_4) ∧ (0 ≤ ((0 : Int) : Int) ∧ (0 : Int) ≤ r1 ∧ r1 ≤ (x_c_4 : Int) ∧ ∀ sl : Option Addr, sl = slA x_4 (Int.toNat 0) 4 x_c_4 → (∃ x_5 : Option Addr, ∃ x_n_5 x_c_5 : Nat, (∀ hx, T27 h5 hx → hcell hx x_b (x_o + 1) = some (.slice x_5 x_n_5 x_c_5)) ∧ (∃ x_5_b x_5_o : Nat, x_5 = some ⟨x_5_b, x_5_o, none⟩ ∧ (0 : Int) ≤ r0 ∧ r0 < (x_n_5 : Int) ∧ (∃ x_6 : Option Addr, ∃ x_n_6 x_c_6 : Nat, (∀ hx, T27 h5 hx → hcell hx x_5_b (x_5_o + (Int.toNat r0) * 1) = some (.slice x_6 x_n_6 x_c_6)) ∧ (0 ≤ (IntKind.i64.wrap (r1 + 1) : Int) ∧ IntKind.i64.wrap (r1 + 1) ≤ (x_n_6 : Int) ∧ (x_n_6 : Int) ≤ (x_c_6 : Int) ∧ ∀ sl_1 : Option Addr, sl_1 = slA x_6 (Int.toNat (IntKind.i64.wrap (r1 + 1))) 4 x_c_6 → (∀ nb h6, nb = Array.size h5 → h6 = Array.push h5 (.cells #[] 31) → HAppend Try.prog 47 47 (.slice (some ⟨nb, 0, none⟩) 0 0) (.slice sl (Int.toNat r1 - Int.toNat 0) (x_c_4 - Int.toNat 0)) h6 (fun vv h7 => T27 h6 h7 ∧ Kp [pb, old] h6 h7 ∧ ∃ ap : Option Addr, ∃ ap_n ap_c : Nat, vv = (.slice ap ap_n ap_c) ∧ HAppend Try.prog 47 47 (.slice ap ap_n ap_c) (.slice sl_1 (Int.toNat (x_n_6 : Int) - Int.toNat (IntKind.i64.wrap (r1 + 1))) (x_c_6 - Int.toNat (IntKind.i64.wrap (r1 + 1)))) h7 (fun vv h8 => T27 h7 h8 ∧ Kp [pb, old] h7 h8 ∧ ∃ ap_1 : Option Addr, ∃ ap_n_1 ap_c_1 : Nat, vv = (.slice ap_1 ap_n_1 ap_c_1) ∧ (∃ x_2_b x_2_o : Nat, x_2 = some ⟨x_2_b, x_2_o, none⟩ ∧ (0 : Int) ≤ r0 ∧ r0 < (x_n_2 : Int) ∧ (HW h8 x_2_b (x_2_o + (Int.toNat r0) * 1) ∧ Off x_2_b [pb, old] ∧ ∀ h9, h9 = hset h8 x_2_b (x_2_o + (Int.toNat r0) * 1) (.slice ap_1 ap_n_1 ap_c_1) → (∀ h10, Fr (fun i => i = pb) h9 h10 → R (.tuple #[(.agg #[(.int .u64 x_Hash), (.int .u64 x_At), (.int .u64 x_Version), (.int .u8 x_Hits)]), (.bool true)]) h10))))))))))))))))))))))))))) :
    HC Try.prog 37 #[(ptr x_b x_o), (.int .u64 hash)] h R := by
  refine hc_of (args := [(ptr x_b x_o), (.int .u64 hash)]) Try.func37 rfl Try.ntmps37 (Nat.le_of_ble_eq_true rfl) ?_
  refine hx_seq ?_
  refine hx_region ?_
  refine hl_step rfl rfl (hn_alloc TyShJ.z31 ?_)
  intro pb h1 eb1 eh2
  have xx3 : Ext h h1 := by rw [eh2]; exact Ext.push _ _
  have lo5 : Array.size h ≤ pb := Nat.le_of_eq (Eq.symm eb1)
  have hr4 : h1[pb]? = some (.cells #[(.int .u64 0), (.int .u64 0), (.int .u64 0), (.int .u8 0)] 31 (0, 0)) := by rw [eh2]; exact push_new eb1
  refine hl_val rfl rfl (v := (.bool false)) (hv_assign rfl) ?_
  refine hl_nil ?_
  refine seqQ_n ?_
  refine hx_seq ?_
  refine hx_region ?_
  refine hl_val rfl rfl (v := (ptr x_b x_o)) (hv_move rfl) ?_
  refine hl_val rfl rfl (v := (.int .u64 hash)) (hv_move rfl) ?_
  replace H := H pb h1 lo5 (row_lt hr4) xx3
  refine hl_step rfl rfl (hs_call TyShJ.cb53 (vs := [(ptr x_b x_o), (.int .u64 hash)]) rfl (HC.mono H ?_))
  rintro _ h2 ⟨kp6, r0, r1, r2, rfl, H⟩
  replace hr4 := Kp.row kp6 (by simp) hr4
  refine hl_val rfl rfl (v := (.tuple #[(.int .i64 r0), (.int .i64 r1), (.bool r2)])) (hv_move rfl) ?_
  refine hl_val rfl rfl (v := (.int .i64 r0)) (hv_extract (vs := #[(.int .i64 r0), (.int .i64 r1), (.bool r2)]) rfl rfl) ?_
  refine hl_val rfl rfl (v := (.int .i64 r1)) (hv_extract (vs := #[(.int .i64 r0), (.int .i64 r1), (.bool r2)]) rfl rfl) ?_
  refine hl_val rfl rfl (v := (.bool r2)) (hv_extract (vs := #[(.int .i64 r0), (.int .i64 r1), (.bool r2)]) rfl rfl) ?_
  refine hl_val rfl rfl (v := (.int .i64 r0)) (hv_assign rfl) ?_
  refine hl_val rfl rfl (v := (.int .i64 r1)) (hv_assign rfl) ?_
  refine hl_val rfl rfl (v := (.bool r2)) (hv_assign rfl) ?_
  refine hl_nil ?_
  refine seqQ_n ?_
  refine hx_seq ?_
  refine hx_seq ?_
  refine hx_region ?_
  refine hl_val rfl rfl (v := (.bool r2)) (hv_move rfl) ?_
  refine hl_val rfl rfl (v := (.bool (!r2))) (hv_not (b := r2) rfl) ?_
  refine hl_nil ?_
  refine seqQ_n ?_
  refine hx_cond (b := !r2) rfl (fun hb7 => ?_) (fun hb7 => ?_)
  · replace H := H.1 hb7
    refine hx_seq ?_
    refine hx_region ?_
    refine hl_val rfl rfl (v := (.agg #[(.int .u64 0), (.int .u64 0), (.int .u64 0), (.int .u8 0)])) (hv_build (vs := []) (cs := #[(.int .u64 0), (.int .u64 0), (.int .u64 0), (.int .u8 0)]) TyShJ.z31 TyShJ.pl31 rfl (by kernel_rfl)) ?_
    refine hl_step rfl rfl (hn_stores (vs := [(.int .u64 0), (.int .u64 0), (.int .u64 0), (.int .u8 0)]) rfl rfl TyShJ.sz31 rfl (HWs_row hr4 (by simp)) ?_)
    intro h3 eh8
    have hr4' : h3[pb]? = some (.cells #[(.int .u64 0), (.int .u64 0), (.int .u64 0), (.int .u8 0)] 31 (0, 0)) := row_hsets_eq eh8 hr4 rfl
    replace H := H h3 (fr_hsets_of eh8)
    refine hl_val rfl rfl (v := (.bool false)) (hv_assign rfl) ?_
    refine hl_nil ?_
    refine seqQ_n ?_
    refine hx_ret ?_
    refine seqQ_ret ?_
    exact endQ_ret _ (res_two Try.results37 (rv_cell (vs := [(.int .u64 0), (.int .u64 0), (.int .u64 0), (.int .u8 0)]) TyShJ.agg31 TyShJ.sz31 rfl (hcells_cons (rowcell hr4' rfl) (hcells_cons (rowcell hr4' rfl) (hcells_cons (rowcell hr4' rfl) (hcells_cons (rowcell hr4' rfl) hcells_nil))))) (rv_tmp rfl)) H
  · replace H := H.2 hb7
    refine hx_skip ?_
    refine seqQ_n ?_
    refine hx_seq ?_
    refine hx_region ?_
    refine hl_val rfl rfl (v := (ptr x_b x_o)) (hv_move rfl) ?_
    refine hl_val rfl rfl (v := (ptr x_b x_o)) (hv_nil rfl) ?_
    refine hl_val rfl rfl (v := (ptr x_b (x_o + 1))) (hv_field TyShJ.fld80_1 (b := x_b) (o := x_o) rfl) ?_
    obtain ⟨x, x_n, x_c, hc9, H⟩ := H
    refine hl_val rfl rfl (v := (.slice x x_n x_c)) (hv_load TyShJ.agg78 rfl hc9) ?_
    refine hl_val rfl rfl (v := (.int .i64 r0)) (hv_move rfl) ?_
    obtain ⟨x_b_1, x_o_1, hqe, hi10, hi11, Hq⟩ := H
    subst hqe
    have H := Hq; clear Hq
    refine hl_val rfl rfl (v := (ptr x_b_1 (x_o_1 + (Int.toNat r0) * 1))) (hv_index TyShJ.el78 rfl rfl hi10 hi11) ?_
    obtain ⟨x_1, x_n_1, x_c_1, hc12, H⟩ := H
    refine hl_val rfl rfl (v := (.slice x_1 x_n_1 x_c_1)) (hv_load TyShJ.agg47 rfl hc12) ?_
    refine hl_val rfl rfl (v := (.int .i64 r1)) (hv_move rfl) ?_
    obtain ⟨x_1_b, x_1_o, hqe, hi13, hi14, Hq⟩ := H
    subst hqe
    have H := Hq; clear Hq
    refine hl_val rfl rfl (v := (ptr x_1_b (x_1_o + (Int.toNat r1) * 4))) (hv_index TyShJ.el47 rfl rfl hi13 hi14) ?_
    obtain ⟨x_Hash, x_At, x_Version, x_Hits, hc15, hc16, hc17, hc18, H⟩ := H
    refine hl_val rfl rfl (v := (.agg #[(.int .u64 x_Hash), (.int .u64 x_At), (.int .u64 x_Version), (.int .u8 x_Hits)])) (hv_loads (vs := [(.int .u64 x_Hash), (.int .u64 x_At), (.int .u64 x_Version), (.int .u8 x_Hits)]) TyShJ.agg31 TyShJ.sz31 rfl (hcells_cons hc15 (hcells_cons hc16 (hcells_cons hc17 (hcells_cons hc18 hcells_nil))))) ?_
    refine hl_step rfl rfl (hn_alloc TyShJ.z31 ?_)
    intro old h4 eb19 eh20
    have xx21 : Ext h2 h4 := by rw [eh20]; exact Ext.push _ _
    have ne24 := Nat.ne_of_lt (Nat.lt_of_lt_of_eq (row_lt hr4) (Eq.symm eb19))
    have lo23 : Array.size h2 ≤ old := Nat.le_of_eq (Eq.symm eb19)
    have hr22 : h4[old]? = some (.cells #[(.int .u64 0), (.int .u64 0), (.int .u64 0), (.int .u8 0)] 31 (0, 0)) := by rw [eh20]; exact push_new eb19
    replace hr4 := Ext.row xx21 hr4
    refine hl_step rfl rfl (hn_stores (vs := [(.int .u64 x_Hash), (.int .u64 x_At), (.int .u64 x_Version), (.int .u8 x_Hits)]) rfl rfl TyShJ.sz31 rfl (HWs_row hr22 (by simp)) ?_)
    intro h5 eh25
    replace hr4 := row_hsets_ne eh25 ne24 hr4
    have hr22' : h5[old]? = some (.cells #[(.int .u64 x_Hash), (.int .u64 x_At), (.int .u64 x_Version), (.int .u8 x_Hits)] 31 (0, 0)) := row_hsets_eq eh25 hr22 rfl
    have xv26 := ext_hsets eh25 xx21 lo23
    refine hl_nil ?_
    refine seqQ_n ?_
    refine hx_seq ?_
    obtain ⟨T27, hT28, H⟩ := H
    refine hx_drawT TyShJ.mixed T27 hT28 [.pure, .pure, .pure, .stay, .pure, .ext, .pure, .pure, .pure, .read, .pure, .pure, .read, .pure, .pure, .tame, .pure, .pure, .pure, .stay, .pure, .pure, .stay, .pure, .pure, .pure, .tame, .pure, .wild] [0, 1, 2, 3, 4, 6, 7, 8, 9, 10, 11, 12, 13, 14, 16, 17, 18, 19, 20, 21, 22, 23, 24, 25, 5, 15, 26, 27, 28] (by kernel_rfl) ?_
    refine hp_pure (i := 0) rfl (wanted_0 rfl) rfl (ptr x_b x_o) (fun _ => hv_move rfl) ?_
    refine hp_pure (i := 1) rfl (wanted_0 rfl) rfl (ptr x_b x_o) (fun _ => hv_nil rfl) ?_
    refine hp_pure (i := 2) rfl (wanted_0 rfl) rfl (ptr x_b (x_o + 1)) (fun _ => hv_field TyShJ.fld80_1 (b := x_b) (o := x_o) rfl) ?_
    replace H := H old h5 lo23 (row_lt hr22') xv26
    obtain ⟨x_2, x_n_2, x_c_2, hc29, H⟩ := H
    refine hp_stay (i := 3) rfl (wanted_0 rfl) rfl (.slice x_2 x_n_2 x_c_2) (fun _ he => hv_load TyShJ.agg78 rfl (hc29 _ he)) ?_
    refine hp_pure (i := 4) rfl (wanted_0 rfl) rfl (.int .i64 r0) (fun _ => hv_move rfl) ?_
    refine hp_pure (i := 6) rfl (wanted_0 rfl) rfl (ptr x_b x_o) (fun _ => hv_move rfl) ?_
    refine hp_pure (i := 7) rfl (wanted_0 rfl) rfl (ptr x_b x_o) (fun _ => hv_nil rfl) ?_
    refine hp_pure (i := 8) rfl (wanted_0 rfl) rfl (ptr x_b (x_o + 1)) (fun _ => hv_field TyShJ.fld80_1 (b := x_b) (o := x_o) rfl) ?_
    obtain ⟨x_3, x_n_3, x_c_3, hc30, H⟩ := H
    refine hp_read (i := 9) rfl (wanted_0 rfl) rfl (.slice x_3 x_n_3 x_c_3) (fun _ he => hv_load TyShJ.agg78 rfl (Ext.cell he hc30)) ?_
    refine hp_pure (i := 10) rfl (wanted_0 rfl) rfl (.int .i64 r0) (fun _ => hv_move rfl) ?_
    obtain ⟨x_3_b, x_3_o, hqe, hi31, hi32, Hq⟩ := H
    subst hqe
    have H := Hq; clear Hq
    refine hp_pure (i := 11) rfl (wanted_0 rfl) rfl (ptr x_3_b (x_3_o + (Int.toNat r0) * 1)) (fun _ => hv_index TyShJ.el78 rfl rfl hi31 hi32) ?_
    obtain ⟨x_4, x_n_4, x_c_4, hc33, H⟩ := H
    refine hp_read (i := 12) rfl (wanted_0 rfl) rfl (.slice x_4 x_n_4 x_c_4) (fun _ he => hv_load TyShJ.agg47 rfl (Ext.cell he hc33)) ?_
    refine hp_pure (i := 13) rfl (wanted_0 rfl) rfl (.int .i64 r1) (fun _ => hv_move rfl) ?_
    obtain ⟨hs34, hs35, hs36, H⟩ := H
    obtain ⟨sl, hq37⟩ : ∃ q, q = slA x_4 (Int.toNat 0) 4 x_c_4 := ⟨_, rfl⟩
    replace H := H sl hq37
    refine hp_pure (i := 14) rfl (wanted_0 rfl) rfl (.slice sl (Int.toNat r1 - Int.toNat 0) (x_c_4 - Int.toNat 0)) (fun _ => hv_slice (l := 0) (r := r1) TyShJ.u47 TyShJ.sz31 rfl sl_none (sh_some rfl) hs34 hs35 hs36 hq37) ?_
    refine hp_pure (i := 16) rfl (wanted_0 rfl) rfl (ptr x_b x_o) (fun _ => hv_move rfl) ?_
    refine hp_pure (i := 17) rfl (wanted_0 rfl) rfl (ptr x_b x_o) (fun _ => hv_nil rfl) ?_
    refine hp_pure (i := 18) rfl (wanted_0 rfl) rfl (ptr x_b (x_o + 1)) (fun _ => hv_field TyShJ.fld80_1 (b := x_b) (o := x_o) rfl) ?_
    obtain ⟨x_5, x_n_5, x_c_5, hc38, H⟩ := H
    refine hp_stay (i := 19) rfl (wanted_0 rfl) rfl (.slice x_5 x_n_5 x_c_5) (fun _ he => hv_load TyShJ.agg78 rfl (hc38 _ he)) ?_
    refine hp_pure (i := 20) rfl (wanted_0 rfl) rfl (.int .i64 r0) (fun _ => hv_move rfl) ?_
    obtain ⟨x_5_b, x_5_o, hqe, hi39, hi40, Hq⟩ := H
    subst hqe
    have H := Hq; clear Hq
    refine hp_pure (i := 21) rfl (wanted_0 rfl) rfl (ptr x_5_b (x_5_o + (Int.toNat r0) * 1)) (fun _ => hv_index TyShJ.el78 rfl rfl hi39 hi40) ?_
    obtain ⟨x_6, x_n_6, x_c_6, hc41, H⟩ := H
    refine hp_stay (i := 22) rfl (wanted_0 rfl) rfl (.slice x_6 x_n_6 x_c_6) (fun _ he => hv_load TyShJ.agg47 rfl (hc41 _ he)) ?_
    refine hp_pure (i := 23) rfl (wanted_0 rfl) rfl (.int .i64 r1) (fun _ => hv_move rfl) ?_
    refine hp_pure (i := 24) rfl (wanted_0 rfl) rfl (.int .i64 (IntKind.i64.wrap (r1 + 1))) (fun _ => hv_arith rfl rfl rfl) ?_
    obtain ⟨hs42, hs43, hs44, H⟩ := H
    obtain ⟨sl_1, hq45⟩ : ∃ q, q = slA x_6 (Int.toNat (IntKind.i64.wrap (r1 + 1))) 4 x_c_6 := ⟨_, rfl⟩
    replace H := H sl_1 hq45
    refine hp_pure (i := 25) rfl (wanted_0 rfl) rfl (.slice sl_1 (Int.toNat (x_n_6 : Int) - Int.toNat (IntKind.i64.wrap (r1 + 1))) (x_c_6 - Int.toNat (IntKind.i64.wrap (r1 + 1)))) (fun _ => hv_slice (l := IntKind.i64.wrap (r1 + 1)) (r := (x_n_6 : Int)) TyShJ.u47 TyShJ.sz31 rfl (sl_some rfl) sh_none hs42 hs43 hs44 hq45) ?_
    refine hp_ext (i := 5) rfl (wanted_0 rfl) rfl (hn_buildSlice (n := 0) (vs := []) (cs := #[]) TyShJ.u47 TyShJ.sz31 TyShJ.z31 rfl rfl (by kernel_rfl) ?_)
    intro nb h6 eb46 eh47
    replace H := H nb h6 eb46 eh47
    have xx48 : Ext h5 h6 := by rw [eh47]; exact Ext.push _ _
    replace hr4 := Ext.row xx48 hr4
    replace hr22' := Ext.row xx48 hr22'
    refine ⟨xx48, ?_⟩
    refine hp_tame (i := 15) rfl (wanted_0 rfl) rfl (hs_append rfl rfl (HAppend.mono H ?_))
    rintro _ h7 ⟨ht58, kp49, ap, ap_n, ap_c, rfl, H⟩
    refine ⟨ht58, ?_⟩
    replace hr4 := Kp.row kp49 (by simp) hr4
    replace hr22' := Kp.row kp49 (by simp) hr22'
    refine hp_tame (i := 26) rfl (wanted_0 rfl) rfl (hs_append rfl rfl (HAppend.mono H ?_))
    rintro _ h8 ⟨ht57, kp50, ap_1, ap_n_1, ap_c_1, rfl, H⟩
    refine ⟨ht57, ?_⟩
    replace hr4 := Kp.row kp50 (by simp) hr4
    replace hr22' := Kp.row kp50 (by simp) hr22'
    obtain ⟨x_2_b, x_2_o, hqe, hi51, hi52, Hq⟩ := H
    subst hqe
    have H := Hq; clear Hq
    refine hp_pure (i := 27) rfl (wanted_0 rfl) rfl (ptr x_2_b (x_2_o + (Int.toNat r0) * 1)) (fun _ => hv_index TyShJ.el78 rfl rfl hi51 hi52) ?_
    obtain ⟨hw54, ho55, H⟩ := H
    refine hp_wild (i := 28) rfl (wanted_0 rfl) rfl (hn_store (v := (.slice ap_1 ap_n_1 ap_c_1)) rfl rfl TyShJ.sz47 rfl hw54 ?_)
    intro h9 eh53
    replace H := H h9 eh53
    replace hr4 := row_hset_ne eh53 (ho55 _ (by simp)) hr4
    replace hr22' := row_hset_ne eh53 (ho55 _ (by simp)) hr22'
    refine hp_nil ?_
    refine seqQ_n ?_
    refine hx_seq ?_
    refine hx_region ?_
    refine hl_val rfl rfl (v := (.agg #[(.int .u64 x_Hash), (.int .u64 x_At), (.int .u64 x_Version), (.int .u8 x_Hits)])) (hv_loads (vs := [(.int .u64 x_Hash), (.int .u64 x_At), (.int .u64 x_Version), (.int .u8 x_Hits)]) TyShJ.agg31 TyShJ.sz31 rfl (hcells_cons (rowcell hr22' rfl) (hcells_cons (rowcell hr22' rfl) (hcells_cons (rowcell hr22' rfl) (hcells_cons (rowcell hr22' rfl) hcells_nil))))) ?_
    refine hl_step rfl rfl (hn_stores (vs := [(.int .u64 x_Hash), (.int .u64 x_At), (.int .u64 x_Version), (.int .u8 x_Hits)]) rfl rfl TyShJ.sz31 rfl (HWs_row hr4 (by simp)) ?_)
    intro h10 eh56
    replace hr22' := row_hsets_ne eh56 (Ne.symm ne24) hr22'
    have hr4' : h10[pb]? = some (.cells #[(.int .u64 x_Hash), (.int .u64 x_At), (.int .u64 x_Version), (.int .u8 x_Hits)] 31 (0, 0)) := row_hsets_eq eh56 hr4 rfl
    replace H := H h10 (fr_hsets_of eh56)
    refine hl_val rfl rfl (v := (.bool true)) (hv_assign rfl) ?_
    refine hl_nil ?_
    refine seqQ_n ?_
    refine hx_ret ?_
    exact endQ_ret _ (res_two Try.results37 (rv_cell (vs := [(.int .u64 x_Hash), (.int .u64 x_At), (.int .u64 x_Version), (.int .u8 x_Hits)]) TyShJ.agg31 TyShJ.sz31 rfl (hcells_cons (rowcell hr4' rfl) (hcells_cons (rowcell hr4' rfl) (hcells_cons (rowcell hr4' rfl) (hcells_cons (rowcell hr4' rfl) hcells_nil))))) (rv_tmp rfl)) H

/-- (*cellar/cellarref12.Index).RemoveIf -/
theorem f38_sh (x_b : Nat) (x_o : Nat) (hash : Int) (atv : Int) (h : Heap) (R : Value → Heap → Prop)
    (H : HC Try.prog 35 #[(ptr x_b x_o), (.int .u64 hash)] h (fun vv h1 => ∃ r0_Hash r0_At r0_Version r0_Hits : Int, ∃ r1 : Bool, vv = (.tuple #[(.agg #[(.int .u64 r0_Hash), (.int .u64 r0_At), (.int .u64 r0_Version), (.int .u8 r0_Hits)]), (.bool r1)]) ∧ ((((!r1) || (r0_At != atv)) = true → (∀ (h3 : Heap), Ext h1 h3 → R (.bool false) h3)) ∧ (((!r1) || (r0_At != atv)) = false → (∀ (h3 : Heap), Ext h1 h3 → HC Try.prog 37 #[(ptr x_b x_o), (.int .u64 hash)] h3 (fun vv h4 => ∃ r0_Hash_1 r0_At_1 r0_Version_1 r0_Hits_1 : Int, ∃ r1_1 : Bool, vv = (.tuple #[(.agg #[(.int .u64 r0_Hash_1), (.int .u64 r0_At_1), (.int .u64 r0_Version_1), (.int .u8 r0_Hits_1)]), (.bool r1_1)]) ∧ R (.bool true) h4)))))) :
    HC Try.prog 38 #[(ptr x_b x_o), (.int .u64 hash), (.int .u64 atv)] h R := by
  refine hc_of (args := [(ptr x_b x_o), (.int .u64 hash), (.int .u64 atv)]) Try.func38 rfl Try.ntmps38 (Nat.le_of_ble_eq_true rfl) ?_
  refine hx_seq ?_
  refine hx_region ?_
  refine hl_val rfl rfl (v := (.bool false)) (hv_assign rfl) ?_
  refine hl_nil ?_
  refine seqQ_n ?_
  refine hx_seq ?_
  refine hx_region ?_
  refine hl_val rfl rfl (v := (ptr x_b x_o)) (hv_move rfl) ?_
  refine hl_val rfl rfl (v := (.int .u64 hash)) (hv_move rfl) ?_
  refine hl_step rfl rfl (hs_call TyShJ.cb35 (vs := [(ptr x_b x_o), (.int .u64 hash)]) rfl (HC.mono H ?_))
  rintro _ h1 ⟨r0_Hash, r0_At, r0_Version, r0_Hits, r1, rfl, H⟩
  refine hl_val rfl rfl (v := (.tuple #[(.agg #[(.int .u64 r0_Hash), (.int .u64 r0_At), (.int .u64 r0_Version), (.int .u8 r0_Hits)]), (.bool r1)])) (hv_move rfl) ?_
  refine hl_val rfl rfl (v := (.agg #[(.int .u64 r0_Hash), (.int .u64 r0_At), (.int .u64 r0_Version), (.int .u8 r0_Hits)])) (hv_extract (vs := #[(.agg #[(.int .u64 r0_Hash), (.int .u64 r0_At), (.int .u64 r0_Version), (.int .u8 r0_Hits)]), (.bool r1)]) rfl rfl) ?_
  refine hl_val rfl rfl (v := (.bool r1)) (hv_extract (vs := #[(.agg #[(.int .u64 r0_Hash), (.int .u64 r0_At), (.int .u64 r0_Version), (.int .u8 r0_Hits)]), (.bool r1)]) rfl rfl) ?_
  refine hl_step rfl rfl (hn_alloc TyShJ.z31 ?_)
  intro e h2 eb1 eh2
  have xx3 : Ext h1 h2 := by rw [eh2]; exact Ext.push _ _
  have lo5 : Array.size h1 ≤ e := Nat.le_of_eq (Eq.symm eb1)
  have hr4 : h2[e]? = some (.cells #[(.int .u64 0), (.int .u64 0), (.int .u64 0), (.int .u8 0)] 31 (0, 0)) := by rw [eh2]; exact push_new eb1
  refine hl_step rfl rfl (hn_stores (vs := [(.int .u64 r0_Hash), (.int .u64 r0_At), (.int .u64 r0_Version), (.int .u8 r0_Hits)]) rfl rfl TyShJ.sz31 rfl (HWs_row hr4 (by simp)) ?_)
  intro h3 eh6
  have hr4' : h3[e]? = some (.cells #[(.int .u64 r0_Hash), (.int .u64 r0_At), (.int .u64 r0_Version), (.int .u8 r0_Hits)] 31 (0, 0)) := row_hsets_eq eh6 hr4 rfl
  have xv7 := ext_hsets eh6 xx3 lo5
  refine hl_val rfl rfl (v := (.bool r1)) (hv_assign rfl) ?_
  refine hl_nil ?_
  refine seqQ_n ?_
  refine hx_seq ?_
  refine hx_cut (fun ρ h' => h3 = h' ∧ Has ρ [(0, (ptr x_b x_o)), (1, (.int .u64 hash)), (22, (.bool ((!r1) || (r0_At != atv))))]) ?_ ?_
  · refine hx_region ?_
    refine hl_val rfl rfl (v := (.bool r1)) (hv_move rfl) ?_
    refine hl_val rfl rfl (v := (.bool (!r1))) (hv_not (b := r1) rfl) ?_
    refine hl_val rfl rfl (v := (.bool (!r1))) (hv_move rfl) ?_
    rcases bool_or (!r1) with hg10 | hg10
    · refine hl_no (wanted_n rfl rfl rfl hg10) rfl ?_
      refine hl_no (wanted_n rfl rfl rfl hg10) rfl ?_
      refine hl_no (wanted_n rfl rfl rfl hg10) rfl ?_
      refine hl_no (wanted_n rfl rfl rfl hg10) rfl ?_
      refine hl_val rfl rfl (v := (.bool true)) (hv_pick_t rfl hg10 rfl) ?_
      refine hl_nil ?_
      refine seqQ_n ?_
      exact ⟨rfl, (has_cons rfl (has_cons rfl (has_cons (show ((.bool true) : Value) = (.bool ((!r1) || (r0_At != atv))) from (by first | rfl | (try rw [hg10]; all_goals first | rfl | (simp only [Bool.true_or, Bool.or_true, Bool.false_or, Bool.or_false, Bool.true_and, Bool.and_true, Bool.false_and, Bool.and_false, Bool.not_true, Bool.not_false, Bool.cond_true, Bool.cond_false]; done)) | simp [hg10])) has_nil)))⟩
    · refine hl_yes (wanted_y rfl rfl rfl hg10) rfl (HStep.of_val (v := (ptr e 1)) (hv_field TyShJ.fld31_1 (b := e) (o := 0) rfl) ?_)
      refine hl_yes (wanted_y rfl rfl rfl hg10) rfl (HStep.of_val (v := (.int .u64 r0_At)) (hv_load TyShJ.agg29 rfl (rowcell hr4' rfl)) ?_)
      refine hl_yes (wanted_y rfl rfl rfl hg10) rfl (HStep.of_val (v := (.int .u64 atv)) (hv_move rfl) ?_)
      refine hl_yes (wanted_y rfl rfl rfl hg10) rfl (HStep.of_val (v := (.bool (r0_At != atv))) (hv_arith rfl rfl rfl) ?_)
      refine hl_val rfl rfl (v := (.bool (r0_At != atv))) (hv_pick_f rfl hg10 rfl) ?_
      refine hl_nil ?_
      refine seqQ_n ?_
      exact ⟨rfl, (has_cons rfl (has_cons rfl (has_cons (show ((.bool (r0_At != atv)) : Value) = (.bool ((!r1) || (r0_At != atv))) from (by first | rfl | (try rw [hg10]; all_goals first | rfl | (simp only [Bool.true_or, Bool.or_true, Bool.false_or, Bool.or_false, Bool.true_and, Bool.and_true, Bool.false_and, Bool.and_false, Bool.not_true, Bool.not_false, Bool.cond_true, Bool.cond_false]; done)) | simp [hg10])) has_nil)))⟩
  · rintro ρ _ ⟨rfl, hH⟩
    refine hx_has _ hH ?_
    refine hx_cond (b := ((!r1) || (r0_At != atv))) rfl (fun hb11 => ?_) (fun hb11 => ?_)
    · replace H := H.1 hb11
      refine hx_seq ?_
      refine hx_region ?_
      refine hl_val rfl rfl (v := (.bool false)) (hv_assign rfl) ?_
      refine hl_nil ?_
      refine seqQ_n ?_
      refine hx_ret ?_
      refine seqQ_ret ?_
      replace H := H h3 xv7
      exact endQ_ret _ (res_one Try.results38 (rv_tmp rfl)) H
    · replace H := H.2 hb11
      refine hx_skip ?_
      refine seqQ_n ?_
      refine hx_seq ?_
      refine hx_region ?_
      refine hl_val rfl rfl (v := (ptr x_b x_o)) (hv_move rfl) ?_
      refine hl_val rfl rfl (v := (.int .u64 hash)) (hv_move rfl) ?_
      replace H := H h3 xv7
      refine hl_step rfl rfl (hs_call TyShJ.cb37 (vs := [(ptr x_b x_o), (.int .u64 hash)]) rfl (HC.mono H ?_))
      rintro _ h4 ⟨r0_Hash_1, r0_At_1, r0_Version_1, r0_Hits_1, r1_1, rfl, H⟩
      refine hl_nil ?_
      refine seqQ_n ?_
      refine hx_seq ?_
      refine hx_region ?_
      refine hl_val rfl rfl (v := (.bool true)) (hv_assign rfl) ?_
      refine hl_nil ?_
      refine seqQ_n ?_
      refine hx_ret ?_
      exact endQ_ret _ (res_one Try.results38 (rv_tmp rfl)) H

/-- (*cellar/cellarref12.Index).Move -/
theorem f39_sh (x_b : Nat) (x_o : Nat) (hash : Int) (fromv : Int) (to : Int) (h : Heap) (R : Value → Heap → Prop)
    (H : HC Try.prog 53 #[(ptr x_b x_o), (.int .u64 hash)] h (fun vv h1 => ∃ r0 r1 : Int, ∃ r2 : Bool, vv = (.tuple #[(.int .i64 r0), (.int .i64 r1), (.bool r2)]) ∧ (∃ j : Bool, (((!r2) = true → (j = true)) ∧ ((!r2) = false → (∃ x : Option Addr, ∃ x_n x_c : Nat, hcell h1 x_b (x_o + 1) = some (.slice x x_n x_c) ∧ (∃ x_b_1 x_o_1 : Nat, x = some ⟨x_b_1, x_o_1, none⟩ ∧ (0 : Int) ≤ r0 ∧ r0 < (x_n : Int) ∧ (∃ x_1 : Option Addr, ∃ x_n_1 x_c_1 : Nat, hcell h1 x_b_1 (x_o_1 + (Int.toNat r0) * 1) = some (.slice x_1 x_n_1 x_c_1) ∧ (∃ x_1_b x_1_o : Nat, x_1 = some ⟨x_1_b, x_1_o, none⟩ ∧ (0 : Int) ≤ r1 ∧ r1 < (x_n_1 : Int) ∧ (∃ x_2 : Int, hcell h1 x_1_b ((x_1_o + (Int.toNat r1) * 4) + 1) = some (.int .u64 x_2) ∧ (((x_2 != fromv) = true → (j = true)) ∧ ((x_2 != fromv) = false → (j = (to == 0))))))))))) ∧ ((j = true → R (.bool false) h1) ∧ (j = false → (∃ x_3 : Option Addr, ∃ x_n_2 x_c_2 : Nat, hcell h1 x_b (x_o + 1) = some (.slice x_3 x_n_2 x_c_2) ∧ (∃ x_3_b x_3_o : Nat, x_3 = some ⟨x_3_b, x_3_o, none⟩ ∧ (0 : Int) ≤ r0 ∧ r0 < (x_n_2 : Int) ∧ (∃ x_4 : Option Addr, ∃ x_n_3 x_c_3 : Nat, hcell h1 x_3_b (x_3_o + (Int.toNat r0) * 1) = some (.slice x_4 x_n_3 x_c_3) ∧ (∃ x_4_b x_4_o : Nat, x_4 = some ⟨x_4_b, x_4_o, none⟩ ∧ (0 : Int) ≤ r1 ∧ r1 < (x_n_3 : Int) ∧ (HW h1 x_4_b ((x_4_o + (Int.toNat r1) * 4) + 1) ∧ ∀ h2, h2 = hset h1 x_4_b ((x_4_o + (Int.toNat r1) * 4) + 1) (.int .u64 to) → R (.bool true) h2)))))))))) :
    HC Try.prog 39 #[(ptr x_b x_o), (.int .u64 hash), (.int .u64 fromv), (.int .u64 to)] h R := by
  refine hc_of (args := [(ptr x_b x_o), (.int .u64 hash), (.int .u64 fromv), (.int .u64 to)]) Try.func39 rfl Try.ntmps39 (Nat.le_of_ble_eq_true rfl) ?_
  refine hx_seq ?_
  refine hx_region ?_
  refine hl_val rfl rfl (v := (.bool false)) (hv_assign rfl) ?_
  refine hl_nil ?_
  refine seqQ_n ?_
  refine hx_seq ?_
  refine hx_region ?_
  refine hl_val rfl rfl (v := (ptr x_b x_o)) (hv_move rfl) ?_
  refine hl_val rfl rfl (v := (.int .u64 hash)) (hv_move rfl) ?_
  refine hl_step rfl rfl (hs_call TyShJ.cb53 (vs := [(ptr x_b x_o), (.int .u64 hash)]) rfl (HC.mono H ?_))
  rintro _ h1 ⟨r0, r1, r2, rfl, H⟩
  refine hl_val rfl rfl (v := (.tuple #[(.int .i64 r0), (.int .i64 r1), (.bool r2)])) (hv_move rfl) ?_
  refine hl_val rfl rfl (v := (.int .i64 r0)) (hv_extract (vs := #[(.int .i64 r0), (.int .i64 r1), (.bool r2)]) rfl rfl) ?_
  refine hl_val rfl rfl (v := (.int .i64 r1)) (hv_extract (vs := #[(.int .i64 r0), (.int .i64 r1), (.bool r2)]) rfl rfl) ?_
  refine hl_val rfl rfl (v := (.bool r2)) (hv_extract (vs := #[(.int .i64 r0), (.int .i64 r1), (.bool r2)]) rfl rfl) ?_
  refine hl_val rfl rfl (v := (.int .i64 r0)) (hv_assign rfl) ?_
  refine hl_val rfl rfl (v := (.int .i64 r1)) (hv_assign rfl) ?_
  refine hl_val rfl rfl (v := (.bool r2)) (hv_assign rfl) ?_
  refine hl_nil ?_
  refine seqQ_n ?_
  refine hx_seq ?_
  obtain ⟨j, Hx1, Hy2⟩ := H
  refine hx_cut (fun ρ h' => h1 = h' ∧ Has ρ [(0, (ptr x_b x_o)), (3, (.int .u64 to)), (9, (.int .i64 r0)), (10, (.int .i64 r1)), (39, (.bool j))]) ?_ ?_
  · have H := Hx1; clear Hx1 Hy2
    refine hx_region ?_
    refine hl_val rfl rfl (v := (.bool r2)) (hv_move rfl) ?_
    refine hl_val rfl rfl (v := (.bool (!r2))) (hv_not (b := r2) rfl) ?_
    refine hl_val rfl rfl (v := (.bool (!r2))) (hv_move rfl) ?_
    rcases bool_or (!r2) with hg3 | hg3
    · replace H := H.1 hg3
      refine hl_no (wanted_n rfl rfl rfl hg3) rfl ?_
      refine hl_no (wanted_n rfl rfl rfl hg3) rfl ?_
      refine hl_no (wanted_n rfl rfl rfl hg3) rfl ?_
      refine hl_no (wanted_n rfl rfl rfl hg3) rfl ?_
      refine hl_no (wanted_n rfl rfl rfl hg3) rfl ?_
      refine hl_no (wanted_n rfl rfl rfl hg3) rfl ?_
      refine hl_no (wanted_n rfl rfl rfl hg3) rfl ?_
      refine hl_no (wanted_n rfl rfl rfl hg3) rfl ?_
      refine hl_no (wanted_n rfl rfl rfl hg3) rfl ?_
      refine hl_no (wanted_n rfl rfl rfl hg3) rfl ?_
      refine hl_no (wanted_n rfl rfl rfl hg3) rfl ?_
      refine hl_no (wanted_n rfl rfl rfl hg3) rfl ?_
      refine hl_no (wanted_n rfl rfl rfl hg3) rfl ?_
      refine hl_val rfl rfl (v := (.bool true)) (hv_pick_t rfl hg3 rfl) ?_
      refine hl_val rfl rfl (v := (.bool true)) (hv_move rfl) ?_
      refine hl_no (wanted_n rfl rfl (c := true) rfl rfl) rfl ?_
      refine hl_no (wanted_n rfl rfl (c := true) rfl rfl) rfl ?_
      refine hl_val rfl rfl (v := (.bool true)) (hv_pick (t := true) rfl rfl) ?_
      refine hl_nil ?_
      refine seqQ_n ?_
      obtain rfl := H
      exact ⟨rfl, (has_cons rfl (has_cons rfl (has_cons rfl (has_cons rfl (has_cons rfl has_nil)))))⟩
    · replace H := H.2 hg3
      refine hl_yes (wanted_y rfl rfl rfl hg3) rfl (HStep.of_val (v := (ptr x_b x_o)) (hv_move rfl) ?_)
      refine hl_yes (wanted_y rfl rfl rfl hg3) rfl (HStep.of_val (v := (ptr x_b x_o)) (hv_nil rfl) ?_)
      refine hl_yes (wanted_y rfl rfl rfl hg3) rfl (HStep.of_val (v := (ptr x_b (x_o + 1))) (hv_field TyShJ.fld80_1 (b := x_b) (o := x_o) rfl) ?_)
      obtain ⟨x, x_n, x_c, hc4, H⟩ := H
      refine hl_yes (wanted_y rfl rfl rfl hg3) rfl (HStep.of_val (v := (.slice x x_n x_c)) (hv_load TyShJ.agg78 rfl hc4) ?_)
      refine hl_yes (wanted_y rfl rfl rfl hg3) rfl (HStep.of_val (v := (.int .i64 r0)) (hv_move rfl) ?_)
      obtain ⟨x_b_1, x_o_1, hqe, hi5, hi6, Hq⟩ := H
      subst hqe
      have H := Hq; clear Hq
      refine hl_yes (wanted_y rfl rfl rfl hg3) rfl (HStep.of_val (v := (ptr x_b_1 (x_o_1 + (Int.toNat r0) * 1))) (hv_index TyShJ.el78 rfl rfl hi5 hi6) ?_)
      obtain ⟨x_1, x_n_1, x_c_1, hc7, H⟩ := H
      refine hl_yes (wanted_y rfl rfl rfl hg3) rfl (HStep.of_val (v := (.slice x_1 x_n_1 x_c_1)) (hv_load TyShJ.agg47 rfl hc7) ?_)
      refine hl_yes (wanted_y rfl rfl rfl hg3) rfl (HStep.of_val (v := (.int .i64 r1)) (hv_move rfl) ?_)
      obtain ⟨x_1_b, x_1_o, hqe, hi8, hi9, Hq⟩ := H
      subst hqe
      have H := Hq; clear Hq
      refine hl_yes (wanted_y rfl rfl rfl hg3) rfl (HStep.of_val (v := (ptr x_1_b (x_1_o + (Int.toNat r1) * 4))) (hv_index TyShJ.el47 rfl rfl hi8 hi9) ?_)
      refine hl_yes (wanted_y rfl rfl rfl hg3) rfl (HStep.of_val (v := (ptr x_1_b ((x_1_o + (Int.toNat r1) * 4) + 1))) (hv_field TyShJ.fld31_1 (b := x_1_b) (o := x_1_o + (Int.toNat r1) * 4) rfl) ?_)
      obtain ⟨x_2, hc10, H⟩ := H
      refine hl_yes (wanted_y rfl rfl rfl hg3) rfl (HStep.of_val (v := (.int .u64 x_2)) (hv_load TyShJ.agg29 rfl hc10) ?_)
      refine hl_yes (wanted_y rfl rfl rfl hg3) rfl (HStep.of_val (v := (.int .u64 fromv)) (hv_move rfl) ?_)
      refine hl_yes (wanted_y rfl rfl rfl hg3) rfl (HStep.of_val (v := (.bool (x_2 != fromv))) (hv_arith rfl rfl rfl) ?_)
      refine hl_val rfl rfl (v := (.bool (x_2 != fromv))) (hv_pick_f rfl hg3 rfl) ?_
      refine hl_val rfl rfl (v := (.bool (x_2 != fromv))) (hv_move rfl) ?_
      rcases bool_or (x_2 != fromv) with hg11 | hg11
      · replace H := H.1 hg11
        refine hl_no (wanted_n rfl rfl rfl hg11) rfl ?_
        refine hl_no (wanted_n rfl rfl rfl hg11) rfl ?_
        refine hl_val rfl rfl (v := (.bool true)) (hv_pick_t rfl hg11 rfl) ?_
        refine hl_nil ?_
        refine seqQ_n ?_
        obtain rfl := H
        exact ⟨rfl, (has_cons rfl (has_cons rfl (has_cons rfl (has_cons rfl (has_cons rfl has_nil)))))⟩
      · replace H := H.2 hg11
        refine hl_yes (wanted_y rfl rfl rfl hg11) rfl (HStep.of_val (v := (.int .u64 to)) (hv_move rfl) ?_)
        refine hl_yes (wanted_y rfl rfl rfl hg11) rfl (HStep.of_val (v := (.bool (to == 0))) (hv_arith rfl rfl rfl) ?_)
        refine hl_val rfl rfl (v := (.bool (to == 0))) (hv_pick_f rfl hg11 rfl) ?_
        refine hl_nil ?_
        refine seqQ_n ?_
        obtain rfl := H
        exact ⟨rfl, (has_cons rfl (has_cons rfl (has_cons rfl (has_cons rfl (has_cons rfl has_nil)))))⟩
  · have H := Hy2; clear Hx1 Hy2
    rintro ρ _ ⟨rfl, hH⟩
    refine hx_has _ hH ?_
    refine hx_cond (b := j) rfl (fun hb12 => ?_) (fun hb12 => ?_)
    · replace H := H.1 hb12
      refine hx_seq ?_
      refine hx_region ?_
      refine hl_val rfl rfl (v := (.bool false)) (hv_assign rfl) ?_
      refine hl_nil ?_
      refine seqQ_n ?_
      refine hx_ret ?_
      refine seqQ_ret ?_
      exact endQ_ret _ (res_one Try.results39 (rv_tmp rfl)) H
    · replace H := H.2 hb12
      refine hx_skip ?_
      refine seqQ_n ?_
      refine hx_seq ?_
      refine hx_region ?_
      refine hl_val rfl rfl (v := (ptr x_b x_o)) (hv_move rfl) ?_
      refine hl_val rfl rfl (v := (ptr x_b x_o)) (hv_nil rfl) ?_
      refine hl_val rfl rfl (v := (ptr x_b (x_o + 1))) (hv_field TyShJ.fld80_1 (b := x_b) (o := x_o) rfl) ?_
      obtain ⟨x_3, x_n_2, x_c_2, hc13, H⟩ := H
      refine hl_val rfl rfl (v := (.slice x_3 x_n_2 x_c_2)) (hv_load TyShJ.agg78 rfl hc13) ?_
      refine hl_val rfl rfl (v := (.int .i64 r0)) (hv_move rfl) ?_
      obtain ⟨x_3_b, x_3_o, hqe, hi14, hi15, Hq⟩ := H
      subst hqe
      have H := Hq; clear Hq
      refine hl_val rfl rfl (v := (ptr x_3_b (x_3_o + (Int.toNat r0) * 1))) (hv_index TyShJ.el78 rfl rfl hi14 hi15) ?_
      obtain ⟨x_4, x_n_3, x_c_3, hc16, H⟩ := H
      refine hl_val rfl rfl (v := (.slice x_4 x_n_3 x_c_3)) (hv_load TyShJ.agg47 rfl hc16) ?_
      refine hl_val rfl rfl (v := (.int .i64 r1)) (hv_move rfl) ?_
      refine hl_val rfl rfl (v := (.int .u64 to)) (hv_move rfl) ?_
      obtain ⟨x_4_b, x_4_o, hqe, hi17, hi18, Hq⟩ := H
      subst hqe
      have H := Hq; clear Hq
      refine hl_val rfl rfl (v := (ptr x_4_b (x_4_o + (Int.toNat r1) * 4))) (hv_index TyShJ.el47 rfl rfl hi17 hi18) ?_
      refine hl_val rfl rfl (v := (ptr x_4_b ((x_4_o + (Int.toNat r1) * 4) + 1))) (hv_field TyShJ.fld31_1 (b := x_4_b) (o := x_4_o + (Int.toNat r1) * 4) rfl) ?_
      obtain ⟨hw20, H⟩ := H
      refine hl_step rfl rfl (hn_store (v := (.int .u64 to)) rfl rfl TyShJ.sz29 rfl hw20 ?_)
      intro h2 eh19
      replace H := H h2 eh19
      refine hl_nil ?_
      refine seqQ_n ?_
      refine hx_seq ?_
      refine hx_region ?_
      refine hl_val rfl rfl (v := (.bool true)) (hv_assign rfl) ?_
      refine hl_nil ?_
      refine seqQ_n ?_
      refine hx_ret ?_
      exact endQ_ret _ (res_one Try.results39 (rv_tmp rfl)) H

/-- (*cellar/cellarref12.Index).Hit -/
theorem f40_sh (x_b : Nat) (x_o : Nat) (hash : Int) (h : Heap) (R : Value → Heap → Prop)
    (H : HC Try.prog 53 #[(ptr x_b x_o), (.int .u64 hash)] h (fun vv h1 => ∃ r0 r1 : Int, ∃ r2 : Bool, vv = (.tuple #[(.int .i64 r0), (.int .i64 r1), (.bool r2)]) ∧ (((!r2) = true → R (.bool false) h1) ∧ ((!r2) = false → (∃ A4 : Heap → Prop, (∃ x : Option Addr, ∃ x_n x_c : Nat, hcell h1 x_b (x_o + 1) = some (.slice x x_n x_c) ∧ (∃ x_b_1 x_o_1 : Nat, x = some ⟨x_b_1, x_o_1, none⟩ ∧ (0 : Int) ≤ r0 ∧ r0 < (x_n : Int) ∧ (∃ x_1 : Option Addr, ∃ x_n_1 x_c_1 : Nat, hcell h1 x_b_1 (x_o_1 + (Int.toNat r0) * 1) = some (.slice x_1 x_n_1 x_c_1) ∧ (∃ x_1_b x_1_o : Nat, x_1 = some ⟨x_1_b, x_1_o, none⟩ ∧ (0 : Int) ≤ r1 ∧ r1 < (x_n_1 : Int) ∧ (∃ x_2 : Int, hcell h1 x_1_b ((x_1_o + (Int.toNat r1) * 4) + 3) = some (.int .u8 x_2) ∧ (((decide (x_2 < 255)) = true → (HW h1 x_1_b ((x_1_o + (Int.toNat r1) * 4) + 3) ∧ ∀ h3, h3 = hset h1 x_1_b ((x_1_o + (Int.toNat r1) * 4) + 3) (.int .u8 (IntKind.u8.wrap (x_2 + 1))) → (A4 h3))) ∧ ((decide (x_2 < 255)) = false → (A4 h1)))))))) ∧ (∀ (h2 : Heap), A4 h2 → R (.bool true) h2)))))) :
    HC Try.prog 40 #[(ptr x_b x_o), (.int .u64 hash)] h R := by
  refine hc_of (args := [(ptr x_b x_o), (.int .u64 hash)]) Try.func40 rfl Try.ntmps40 (Nat.le_of_ble_eq_true rfl) ?_
  refine hx_seq ?_
  refine hx_region ?_
  refine hl_val rfl rfl (v := (.bool false)) (hv_assign rfl) ?_
  refine hl_nil ?_
  refine seqQ_n ?_
  refine hx_seq ?_
  refine hx_region ?_
  refine hl_val rfl rfl (v := (ptr x_b x_o)) (hv_move rfl) ?_
  refine hl_val rfl rfl (v := (.int .u64 hash)) (hv_move rfl) ?_
  refine hl_step rfl rfl (hs_call TyShJ.cb53 (vs := [(ptr x_b x_o), (.int .u64 hash)]) rfl (HC.mono H ?_))
  rintro _ h1 ⟨r0, r1, r2, rfl, H⟩
  refine hl_val rfl rfl (v := (.tuple #[(.int .i64 r0), (.int .i64 r1), (.bool r2)])) (hv_move rfl) ?_
  refine hl_val rfl rfl (v := (.int .i64 r0)) (hv_extract (vs := #[(.int .i64 r0), (.int .i64 r1), (.bool r2)]) rfl rfl) ?_
  refine hl_val rfl rfl (v := (.int .i64 r1)) (hv_extract (vs := #[(.int .i64 r0), (.int .i64 r1), (.bool r2)]) rfl rfl) ?_
  refine hl_val rfl rfl (v := (.bool r2)) (hv_extract (vs := #[(.int .i64 r0), (.int .i64 r1), (.bool r2)]) rfl rfl) ?_
  refine hl_val rfl rfl (v := (.int .i64 r0)) (hv_assign rfl) ?_
  refine hl_val rfl rfl (v := (.int .i64 r1)) (hv_assign rfl) ?_
  refine hl_val rfl rfl (v := (.bool r2)) (hv_assign rfl) ?_
  refine hl_nil ?_
  refine seqQ_n ?_
  refine hx_seq ?_
  refine hx_seq ?_
  refine hx_region ?_
  refine hl_val rfl rfl (v := (.bool r2)) (hv_move rfl) ?_
  refine hl_val rfl rfl (v := (.bool (!r2))) (hv_not (b := r2) rfl) ?_
  refine hl_nil ?_
  refine seqQ_n ?_
  refine hx_cond (b := !r2) rfl (fun hb1 => ?_) (fun hb1 => ?_)
  · replace H := H.1 hb1
    refine hx_seq ?_
    refine hx_region ?_
    refine hl_val rfl rfl (v := (.bool false)) (hv_assign rfl) ?_
    refine hl_nil ?_
    refine seqQ_n ?_
    refine hx_ret ?_
    refine seqQ_ret ?_
    exact endQ_ret _ (res_one Try.results40 (rv_tmp rfl)) H
  · replace H := H.2 hb1
    refine hx_skip ?_
    refine seqQ_n ?_
    obtain ⟨A4, Hx2, Hy3⟩ := H
    refine hx_cut (fun ρ h' => (A4 h' ∧ True) ∧ Has ρ []) ?_ ?_
    · have H := Hx2; clear Hx2 Hy3
      refine hx_seq ?_
      refine hx_region ?_
      refine hl_val rfl rfl (v := (ptr x_b x_o)) (hv_move rfl) ?_
      refine hl_val rfl rfl (v := (ptr x_b x_o)) (hv_nil rfl) ?_
      refine hl_val rfl rfl (v := (ptr x_b (x_o + 1))) (hv_field TyShJ.fld80_1 (b := x_b) (o := x_o) rfl) ?_
      obtain ⟨x, x_n, x_c, hc6, H⟩ := H
      refine hl_val rfl rfl (v := (.slice x x_n x_c)) (hv_load TyShJ.agg78 rfl hc6) ?_
      refine hl_val rfl rfl (v := (.int .i64 r0)) (hv_move rfl) ?_
      obtain ⟨x_b_1, x_o_1, hqe, hi7, hi8, Hq⟩ := H
      subst hqe
      have H := Hq; clear Hq
      refine hl_val rfl rfl (v := (ptr x_b_1 (x_o_1 + (Int.toNat r0) * 1))) (hv_index TyShJ.el78 rfl rfl hi7 hi8) ?_
      obtain ⟨x_1, x_n_1, x_c_1, hc9, H⟩ := H
      refine hl_val rfl rfl (v := (.slice x_1 x_n_1 x_c_1)) (hv_load TyShJ.agg47 rfl hc9) ?_
      refine hl_val rfl rfl (v := (.int .i64 r1)) (hv_move rfl) ?_
      obtain ⟨x_1_b, x_1_o, hqe, hi10, hi11, Hq⟩ := H
      subst hqe
      have H := Hq; clear Hq
      refine hl_val rfl rfl (v := (ptr x_1_b (x_1_o + (Int.toNat r1) * 4))) (hv_index TyShJ.el47 rfl rfl hi10 hi11) ?_
      refine hl_val rfl rfl (v := (ptr x_1_b ((x_1_o + (Int.toNat r1) * 4) + 3))) (hv_field TyShJ.fld31_3 (b := x_1_b) (o := x_1_o + (Int.toNat r1) * 4) rfl) ?_
      obtain ⟨x_2, hc12, H⟩ := H
      refine hl_val rfl rfl (v := (.int .u8 x_2)) (hv_load TyShJ.agg5 rfl hc12) ?_
      refine hl_val rfl rfl (v := (.bool (decide (x_2 < 255)))) (hv_arith rfl rfl rfl) ?_
      refine hl_nil ?_
      refine seqQ_n ?_
      refine hx_cond (b := decide (x_2 < 255)) rfl (fun hb13 => ?_) (fun hb13 => ?_)
      · replace H := H.1 hb13
        refine hx_region ?_
        refine hl_val rfl rfl (v := (ptr x_b x_o)) (hv_move rfl) ?_
        refine hl_val rfl rfl (v := (ptr x_b x_o)) (hv_nil rfl) ?_
        refine hl_val rfl rfl (v := (ptr x_b (x_o + 1))) (hv_field TyShJ.fld80_1 (b := x_b) (o := x_o) rfl) ?_
        refine hl_val rfl rfl (v := (.slice (some ⟨x_b_1, x_o_1, none⟩) x_n x_c)) (hv_load TyShJ.agg78 rfl hc6) ?_
        refine hl_val rfl rfl (v := (.int .i64 r0)) (hv_move rfl) ?_
        refine hl_val rfl rfl (v := (ptr x_b_1 (x_o_1 + (Int.toNat r0) * 1))) (hv_index TyShJ.el78 rfl rfl hi7 hi8) ?_
        refine hl_val rfl rfl (v := (.slice (some ⟨x_1_b, x_1_o, none⟩) x_n_1 x_c_1)) (hv_load TyShJ.agg47 rfl hc9) ?_
        refine hl_val rfl rfl (v := (.int .i64 r1)) (hv_move rfl) ?_
        refine hl_val rfl rfl (v := (ptr x_1_b (x_1_o + (Int.toNat r1) * 4))) (hv_index TyShJ.el47 rfl rfl hi10 hi11) ?_
        refine hl_val rfl rfl (v := (ptr x_1_b ((x_1_o + (Int.toNat r1) * 4) + 3))) (hv_field TyShJ.fld31_3 (b := x_1_b) (o := x_1_o + (Int.toNat r1) * 4) rfl) ?_
        refine hl_val rfl rfl (v := (.int .u8 x_2)) (hv_load TyShJ.agg5 rfl hc12) ?_
        refine hl_val rfl rfl (v := (.int .u8 (IntKind.u8.wrap (x_2 + 1)))) (hv_arith rfl rfl rfl) ?_
        refine hl_val rfl rfl (v := (ptr x_1_b (x_1_o + (Int.toNat r1) * 4))) (hv_index TyShJ.el47 rfl rfl hi10 hi11) ?_
        refine hl_val rfl rfl (v := (ptr x_1_b ((x_1_o + (Int.toNat r1) * 4) + 3))) (hv_field TyShJ.fld31_3 (b := x_1_b) (o := x_1_o + (Int.toNat r1) * 4) rfl) ?_
        obtain ⟨hw21, H⟩ := H
        refine hl_step rfl rfl (hn_store (v := (.int .u8 (IntKind.u8.wrap (x_2 + 1)))) rfl rfl TyShJ.sz5 rfl hw21 ?_)
        intro h3 eh20
        replace H := H h3 eh20
        refine hl_nil ?_
        refine seqQ_n ?_
        exact ⟨⟨H, trivial⟩, has_nil⟩
      · replace H := H.2 hb13
        refine hx_skip ?_
        refine seqQ_n ?_
        exact ⟨⟨H, trivial⟩, has_nil⟩
    · rintro ρ h2 ⟨⟨HA5, -⟩, hH⟩
      have H := Hy3 h2 HA5; clear Hx2 Hy3
      refine hx_has _ hH ?_
      refine hx_seq ?_
      refine hx_region ?_
      refine hl_val rfl rfl (v := (.bool true)) (hv_assign rfl) ?_
      refine hl_nil ?_
      refine seqQ_n ?_
      refine hx_ret ?_
      exact endQ_ret _ (res_one Try.results40 (rv_tmp rfl)) H

/-- (*cellar/cellarref12.Index).Purge -/
theorem f41_sh (x_b : Nat) (x_o : Nat) (stripe : Int) (region : Int) (h : Heap) (R : Value → Heap → Prop)
    (H : (∃ j : Bool, (((decide (stripe < 0)) = true → (j = true)) ∧ ((decide (stripe < 0)) = false → (∃ x : Option Addr, ∃ x_n x_c : Nat, hcell h x_b (x_o + 1) = some (.slice x x_n x_c) ∧ (((decide (stripe ≥ (x_n : Int))) = true → (j = true)) ∧ ((decide (stripe ≥ (x_n : Int))) = false → (j = (decide (region < 0)))))))) ∧ ((j = true → R (.int .i64 0) h) ∧ (j = false → (∃ x_1 : Option Addr, ∃ x_n_1 x_c_1 : Nat, hcell h x_b (x_o + 1) = some (.slice x_1 x_n_1 x_c_1) ∧ (∃ x_1_b x_1_o : Nat, x_1 = some ⟨x_1_b, x_1_o, none⟩ ∧ (0 : Int) ≤ stripe ∧ stripe < (x_n_1 : Int) ∧ (∃ x_2 : Option Addr, ∃ x_n_2 x_c_2 : Nat, hcell h x_1_b (x_1_o + (Int.toNat stripe) * 1) = some (.slice x_2 x_n_2 x_c_2) ∧ (∃ (I11 : Option Addr → Nat → Nat → Int → Int → Heap → Prop) (mu12 : Option Addr → Nat → Nat → Int → Int → Heap → Nat), I11 none 0 0 0 0 h ∧ (∀ (left : Option Addr) (left_n : Nat) (left_c : Nat) (n : Int) (v : Int) (h1 : Heap), I11 left left_n left_c n v h1 → (((decide (v < (x_n_2 : Int))) = true → (∃ A19 : Option Addr → Nat → Nat → Int → Heap → Prop, (∃ x_2_b x_2_o : Nat, x_2 = some ⟨x_2_b, x_2_o, none⟩ ∧ (0 : Int) ≤ v ∧ v < (x_n_2 : Int) ∧ (∃ x_Hash x_At x_Version x_Hits : Int, hcell h1 x_2_b (x_2_o + (Int.toNat v) * 4) = some (.int .u64 x_Hash) ∧ hcell h1 x_2_b ((x_2_o + (Int.toNat v) * 4) + 1) = some (.int .u64 x_At) ∧ hcell h1 x_2_b ((x_2_o + (Int.toNat v) * 4) + 2) = some (.int .u64 x_Version) ∧ hcell h1 x_2_b ((x_2_o + (Int.toNat v) * 4) + 3) = some (.int .u8 x_Hits) ∧ ((((Int.fdiv x_At (2 ^ min (Int.toNat 48) 64)) == (IntKind.u64.wrap region)) = true → (∀ (h4 : Heap), Ext h1 h4 → (A19 left left_n left_c (IntKind.i64.wrap (n + 1)) h4))) ∧ (((Int.fdiv x_At (2 ^ min (Int.toNat 48) 64)) == (IntKind.u64.wrap region)) = false → (∀ (h4 : Heap), Ext h1 h4 → (∀ nb h5, nb = Array.size h4 → h5 = Array.push h4 (.cells #[(.int .u64 x_Hash), (.int .u64 x_At), (.int .u64 x_Version), (.int .u8 x_Hits)] 31) → HAppend Try.prog 47 47 (.slice left left_n left_c) (.slice (some ⟨nb, 0, none⟩) 1 1) h5 (fun vv h6 => ∃ ap : Option Addr, ∃ ap_n ap_c : Nat, vv = (.slice ap ap_n ap_c) ∧ (A19 ap ap_n ap_c n h6)))))))) ∧ (∀ (left_1 : Option Addr) (left_n_1 : Nat) (left_c_1 : Nat) (n_1 : Int) (h2 : Heap), A19 left_1 left_n_1 left_c_1 n_1 h2 → (I11 left_1 left_n_1 left_c_1 n_1 (IntKind.i64.wrap (v + 1)) h2 ∧ mu12 left_1 left_n_1 left_c_1 n_1 (IntKind.i64.wrap (v + 1)) h2 < mu12 left left_n left_c n v h1)))) ∧ ((decide (v < (x_n_2 : Int))) = false → (∃ x_3 : Option Addr, ∃ x_n_3 x_c_3 : Nat, hcell h1 x_b (x_o + 1) = some (.slice x_3 x_n_3 x_c_3) ∧ (∃ x_3_b x_3_o : Nat, x_3 = some ⟨x_3_b, x_3_o, none⟩ ∧ (0 : Int) ≤ stripe ∧ stripe < (x_n_3 : Int) ∧ (HW h1 x_3_b (x_3_o + (Int.toNat stripe) * 1) ∧ ∀ h7, h7 = hset h1 x_3_b (x_3_o + (Int.toNat stripe) * 1) (.slice left left_n left_c) → R (.int .i64 n) h7)))))))))))))) :
    HC Try.prog 41 #[(ptr x_b x_o), (.int .i64 stripe), (.int .i64 region)] h R := by
  refine hc_of (args := [(ptr x_b x_o), (.int .i64 stripe), (.int .i64 region)]) Try.func41 rfl Try.ntmps41 (Nat.le_of_ble_eq_true rfl) ?_
  refine hx_seq ?_
  refine hx_region ?_
  refine hl_val rfl rfl (v := (.int .i64 0)) (hv_assign rfl) ?_
  refine hl_nil ?_
  refine seqQ_n ?_
  refine hx_seq ?_
  obtain ⟨j, Hx1, Hy2⟩ := H
  refine hx_cut (fun ρ h' => h = h' ∧ Has ρ [(0, (ptr x_b x_o)), (1, (.int .i64 stripe)), (2, (.int .i64 region)), (25, (.bool j))]) ?_ ?_
  · have H := Hx1; clear Hx1 Hy2
    refine hx_region ?_
    refine hl_val rfl rfl (v := (.int .i64 stripe)) (hv_move rfl) ?_
    refine hl_val rfl rfl (v := (.bool (decide (stripe < 0)))) (hv_arith rfl rfl rfl) ?_
    refine hl_val rfl rfl (v := (.bool (decide (stripe < 0)))) (hv_move rfl) ?_
    rcases bool_or (decide (stripe < 0)) with hg3 | hg3
    · replace H := H.1 hg3
      refine hl_no (wanted_n rfl rfl rfl hg3) rfl ?_
      refine hl_no (wanted_n rfl rfl rfl hg3) rfl ?_
      refine hl_no (wanted_n rfl rfl rfl hg3) rfl ?_
      refine hl_no (wanted_n rfl rfl rfl hg3) rfl ?_
      refine hl_no (wanted_n rfl rfl rfl hg3) rfl ?_
      refine hl_no (wanted_n rfl rfl rfl hg3) rfl ?_
      refine hl_no (wanted_n rfl rfl rfl hg3) rfl ?_
      refine hl_val rfl rfl (v := (.bool true)) (hv_pick_t rfl hg3 rfl) ?_
      refine hl_val rfl rfl (v := (.bool true)) (hv_move rfl) ?_
      refine hl_no (wanted_n rfl rfl (c := true) rfl rfl) rfl ?_
      refine hl_no (wanted_n rfl rfl (c := true) rfl rfl) rfl ?_
      refine hl_val rfl rfl (v := (.bool true)) (hv_pick (t := true) rfl rfl) ?_
      refine hl_nil ?_
      refine seqQ_n ?_
      obtain rfl := H
      exact ⟨rfl, (has_cons rfl (has_cons rfl (has_cons rfl (has_cons rfl has_nil))))⟩
    · replace H := H.2 hg3
      refine hl_yes (wanted_y rfl rfl rfl hg3) rfl (HStep.of_val (v := (.int .i64 stripe)) (hv_move rfl) ?_)
      refine hl_yes (wanted_y rfl rfl rfl hg3) rfl (HStep.of_val (v := (ptr x_b x_o)) (hv_move rfl) ?_)
      refine hl_yes (wanted_y rfl rfl rfl hg3) rfl (HStep.of_val (v := (ptr x_b x_o)) (hv_nil rfl) ?_)
      refine hl_yes (wanted_y rfl rfl rfl hg3) rfl (HStep.of_val (v := (ptr x_b (x_o + 1))) (hv_field TyShJ.fld80_1 (b := x_b) (o := x_o) rfl) ?_)
      obtain ⟨x, x_n, x_c, hc4, H⟩ := H
      refine hl_yes (wanted_y rfl rfl rfl hg3) rfl (HStep.of_val (v := (.slice x x_n x_c)) (hv_load TyShJ.agg78 rfl hc4) ?_)
      refine hl_yes (wanted_y rfl rfl rfl hg3) rfl (HStep.of_val (v := (.int .i64 (x_n : Int))) (hv_len (n := x_n) TyShJ.u78 rfl) ?_)
      refine hl_yes (wanted_y rfl rfl rfl hg3) rfl (HStep.of_val (v := (.bool (decide (stripe ≥ (x_n : Int))))) (hv_arith rfl rfl rfl) ?_)
      refine hl_val rfl rfl (v := (.bool (decide (stripe ≥ (x_n : Int))))) (hv_pick_f rfl hg3 rfl) ?_
      refine hl_val rfl rfl (v := (.bool (decide (stripe ≥ (x_n : Int))))) (hv_move rfl) ?_
      rcases bool_or (decide (stripe ≥ (x_n : Int))) with hg5 | hg5
      · replace H := H.1 hg5
        refine hl_no (wanted_n rfl rfl rfl hg5) rfl ?_
        refine hl_no (wanted_n rfl rfl rfl hg5) rfl ?_
        refine hl_val rfl rfl (v := (.bool true)) (hv_pick_t rfl hg5 rfl) ?_
        refine hl_nil ?_
        refine seqQ_n ?_
        obtain rfl := H
        exact ⟨rfl, (has_cons rfl (has_cons rfl (has_cons rfl (has_cons rfl has_nil))))⟩
      · replace H := H.2 hg5
        refine hl_yes (wanted_y rfl rfl rfl hg5) rfl (HStep.of_val (v := (.int .i64 region)) (hv_move rfl) ?_)
        refine hl_yes (wanted_y rfl rfl rfl hg5) rfl (HStep.of_val (v := (.bool (decide (region < 0)))) (hv_arith rfl rfl rfl) ?_)
        refine hl_val rfl rfl (v := (.bool (decide (region < 0)))) (hv_pick_f rfl hg5 rfl) ?_
        refine hl_nil ?_
        refine seqQ_n ?_
        obtain rfl := H
        exact ⟨rfl, (has_cons rfl (has_cons rfl (has_cons rfl (has_cons rfl has_nil))))⟩
  · have H := Hy2; clear Hx1 Hy2
    rintro ρ _ ⟨rfl, hH⟩
    refine hx_has _ hH ?_
    refine hx_cond (b := j) rfl (fun hb6 => ?_) (fun hb6 => ?_)
    · replace H := H.1 hb6
      refine hx_seq ?_
      refine hx_region ?_
      refine hl_val rfl rfl (v := (.int .i64 0)) (hv_assign rfl) ?_
      refine hl_nil ?_
      refine seqQ_n ?_
      refine hx_ret ?_
      refine seqQ_ret ?_
      exact endQ_ret _ (res_one Try.results41 (rv_tmp rfl)) H
    · replace H := H.2 hb6
      refine hx_skip ?_
      refine seqQ_n ?_
      refine hx_seq ?_
      refine hx_region ?_
      refine hl_val rfl rfl (v := (.slice none 0 0)) (hv_assign rfl) ?_
      refine hl_nil ?_
      refine seqQ_n ?_
      refine hx_seq ?_
      refine hx_region ?_
      refine hl_val rfl rfl (v := (.int .i64 0)) (hv_assign rfl) ?_
      refine hl_nil ?_
      refine seqQ_n ?_
      refine hx_seq ?_
      refine hx_seq ?_
      refine hx_region ?_
      refine hl_val rfl rfl (v := (ptr x_b x_o)) (hv_move rfl) ?_
      refine hl_val rfl rfl (v := (ptr x_b x_o)) (hv_nil rfl) ?_
      refine hl_val rfl rfl (v := (ptr x_b (x_o + 1))) (hv_field TyShJ.fld80_1 (b := x_b) (o := x_o) rfl) ?_
      obtain ⟨x_1, x_n_1, x_c_1, hc7, H⟩ := H
      refine hl_val rfl rfl (v := (.slice x_1 x_n_1 x_c_1)) (hv_load TyShJ.agg78 rfl hc7) ?_
      refine hl_val rfl rfl (v := (.int .i64 stripe)) (hv_move rfl) ?_
      obtain ⟨x_1_b, x_1_o, hqe, hi8, hi9, Hq⟩ := H
      subst hqe
      have H := Hq; clear Hq
      refine hl_val rfl rfl (v := (ptr x_1_b (x_1_o + (Int.toNat stripe) * 1))) (hv_index TyShJ.el78 rfl rfl hi8 hi9) ?_
      obtain ⟨x_2, x_n_2, x_c_2, hc10, H⟩ := H
      refine hl_val rfl rfl (v := (.slice x_2 x_n_2 x_c_2)) (hv_load TyShJ.agg47 rfl hc10) ?_
      refine hl_val rfl rfl (v := (.int .i64 (x_n_2 : Int))) (hv_len (n := x_n_2) TyShJ.u47 rfl) ?_
      refine hl_val rfl rfl (v := (.int .i64 0)) (hv_move rfl) ?_
      refine hl_nil ?_
      refine seqQ_n ?_
      refine hx_block ?_
      obtain ⟨I11, mu12, Ha13, Hr14⟩ := H
      refine hx_loopT (σ := Option Addr × Nat × Nat × Int × Int) (fun s => [(0, (ptr x_b x_o)), (1, (.int .i64 stripe)), (2, (.int .i64 region)), (7, (.slice s.1 s.2.1 s.2.2.1)), (8, (.int .i64 s.2.2.2.1)), (32, (.slice x_2 x_n_2 x_c_2)), (33, (.int .i64 (x_n_2 : Int))), (34, (.int .i64 s.2.2.2.2))]) (fun s h' => I11 s.1 s.2.1 s.2.2.1 s.2.2.2.1 s.2.2.2.2 h' ∧ True) (fun s h' => mu12 s.1 s.2.1 s.2.2.1 s.2.2.2.1 s.2.2.2.2 h') (none, 0, 0, 0, 0) ⟨Ha13, trivial⟩ (has_cons rfl (has_cons rfl (has_cons rfl (has_cons rfl (has_cons rfl (has_cons rfl (has_cons rfl (has_cons rfl has_nil)))))))) ?_
      rintro ⟨left, left_n, left_c, n, v⟩ ρ h1 ⟨Hi15, -⟩
      have H := Hr14 left left_n left_c n v h1 Hi15
      refine hx_seq ?_
      refine hx_region ?_
      refine hl_val rfl rfl (v := (.bool (decide (v < (x_n_2 : Int))))) (hv_arith rfl rfl rfl) ?_
      refine hl_nil ?_
      refine seqQ_n ?_
      refine hx_seq ?_
      refine hx_cond (b := decide (v < (x_n_2 : Int))) rfl (fun hb16 => ?_) (fun hb16 => ?_)
      · replace H := H.1 hb16
        refine hx_skip ?_
        refine seqQ_n ?_
        obtain ⟨A19, Hx17, Hy18⟩ := H
        refine hx_cut (fun ρ h' => ∃ left_1 : Option Addr, ∃ left_n_1 left_c_1 : Nat, ∃ n_1 : Int, (A19 left_1 left_n_1 left_c_1 n_1 h' ∧ True) ∧ Has ρ [(0, (ptr x_b x_o)), (1, (.int .i64 stripe)), (2, (.int .i64 region)), (7, (.slice left_1 left_n_1 left_c_1)), (8, (.int .i64 n_1)), (32, (.slice x_2 x_n_2 x_c_2)), (33, (.int .i64 (x_n_2 : Int))), (34, (.int .i64 v))]) ?_ ?_
        · have H := Hx17; clear Hx17 Hy18
          refine hx_block ?_
          refine hx_seq ?_
          refine hx_region ?_
          obtain ⟨x_2_b, x_2_o, hqe, hi21, hi22, Hq⟩ := H
          subst hqe
          have H := Hq; clear Hq
          refine hl_val rfl rfl (v := (ptr x_2_b (x_2_o + (Int.toNat v) * 4))) (hv_index TyShJ.el47 rfl rfl hi21 hi22) ?_
          obtain ⟨x_Hash, x_At, x_Version, x_Hits, hc23, hc24, hc25, hc26, H⟩ := H
          refine hl_val rfl rfl (v := (.agg #[(.int .u64 x_Hash), (.int .u64 x_At), (.int .u64 x_Version), (.int .u8 x_Hits)])) (hv_loads (vs := [(.int .u64 x_Hash), (.int .u64 x_At), (.int .u64 x_Version), (.int .u8 x_Hits)]) TyShJ.agg31 TyShJ.sz31 rfl (hcells_cons hc23 (hcells_cons hc24 (hcells_cons hc25 (hcells_cons hc26 hcells_nil))))) ?_
          refine hl_step rfl rfl (hn_alloc TyShJ.z31 ?_)
          intro e h3 eb27 eh28
          have xx29 : Ext h1 h3 := by rw [eh28]; exact Ext.push _ _
          have lo31 : Array.size h1 ≤ e := Nat.le_of_eq (Eq.symm eb27)
          have hr30 : h3[e]? = some (.cells #[(.int .u64 0), (.int .u64 0), (.int .u64 0), (.int .u8 0)] 31 (0, 0)) := by rw [eh28]; exact push_new eb27
          refine hl_step rfl rfl (hn_stores (vs := [(.int .u64 x_Hash), (.int .u64 x_At), (.int .u64 x_Version), (.int .u8 x_Hits)]) rfl rfl TyShJ.sz31 rfl (HWs_row hr30 (by simp)) ?_)
          intro h4 eh32
          have hr30' : h4[e]? = some (.cells #[(.int .u64 x_Hash), (.int .u64 x_At), (.int .u64 x_Version), (.int .u8 x_Hits)] 31 (0, 0)) := row_hsets_eq eh32 hr30 rfl
          have xv33 := ext_hsets eh32 xx29 lo31
          refine hl_nil ?_
          refine seqQ_n ?_
          refine hx_seq ?_
          refine hx_region ?_
          refine hl_val rfl rfl (v := (ptr e 1)) (hv_field TyShJ.fld31_1 (b := e) (o := 0) rfl) ?_
          refine hl_val rfl rfl (v := (.int .u64 x_At)) (hv_load TyShJ.agg29 rfl (rowcell hr30' rfl)) ?_
          refine hl_val rfl rfl (v := (.int .u64 (Int.fdiv x_At (2 ^ min (Int.toNat 48) 64)))) (hv_shift rfl rfl (by decide) rfl) ?_
          refine hl_val rfl rfl (v := (.int .i64 region)) (hv_move rfl) ?_
          refine hl_val rfl rfl (v := (.int .u64 (IntKind.u64.wrap region))) (hv_convInt TyShJ.u3 TyShJ.u29 rfl) ?_
          refine hl_val rfl rfl (v := (.bool ((Int.fdiv x_At (2 ^ min (Int.toNat 48) 64)) == (IntKind.u64.wrap region)))) (hv_arith rfl rfl rfl) ?_
          refine hl_nil ?_
          refine seqQ_n ?_
          refine hx_cond (b := (Int.fdiv x_At (2 ^ min (Int.toNat 48) 64)) == (IntKind.u64.wrap region)) rfl (fun hb34 => ?_) (fun hb34 => ?_)
          · replace H := H.1 hb34
            refine hx_region ?_
            refine hl_val rfl rfl (v := (.int .i64 n)) (hv_move rfl) ?_
            refine hl_val rfl rfl (v := (.int .i64 (IntKind.i64.wrap (n + 1)))) (hv_arith rfl rfl rfl) ?_
            refine hl_val rfl rfl (v := (.int .i64 (IntKind.i64.wrap (n + 1)))) (hv_assign rfl) ?_
            refine hl_nil ?_
            refine blockQ_n ?_
            replace H := H h4 xv33
            refine seqQ_n ?_
            exact ⟨_, _, _, _, ⟨H, trivial⟩, (has_cons rfl (has_cons rfl (has_cons rfl (has_cons rfl (has_cons rfl (has_cons rfl (has_cons rfl (has_cons rfl has_nil))))))))⟩
          · replace H := H.2 hb34
            refine hx_region ?_
            refine hl_val rfl rfl (v := (.slice left left_n left_c)) (hv_move rfl) ?_
            refine hl_val rfl rfl (v := (.agg #[(.int .u64 x_Hash), (.int .u64 x_At), (.int .u64 x_Version), (.int .u8 x_Hits)])) (hv_loads (vs := [(.int .u64 x_Hash), (.int .u64 x_At), (.int .u64 x_Version), (.int .u8 x_Hits)]) TyShJ.agg31 TyShJ.sz31 rfl (hcells_cons (rowcell hr30' rfl) (hcells_cons (rowcell hr30' rfl) (hcells_cons (rowcell hr30' rfl) (hcells_cons (rowcell hr30' rfl) hcells_nil))))) ?_
            replace H := H h4 xv33
            refine hl_step rfl rfl (hn_buildSlice (n := 1) (vs := [(0, (.agg #[(.int .u64 x_Hash), (.int .u64 x_At), (.int .u64 x_Version), (.int .u8 x_Hits)]))]) (cs := #[(.int .u64 x_Hash), (.int .u64 x_At), (.int .u64 x_Version), (.int .u8 x_Hits)]) TyShJ.u47 TyShJ.sz31 TyShJ.z31 rfl rfl (by kernel_rfl) ?_)
            intro nb h5 eb35 eh36
            replace H := H nb h5 eb35 eh36
            have xx37 : Ext h4 h5 := by rw [eh36]; exact Ext.push _ _
            refine hl_step rfl rfl (hs_append rfl rfl (HAppend.mono H ?_))
            rintro _ h6 ⟨ap, ap_n, ap_c, rfl, H⟩
            refine hl_val rfl rfl (v := (.slice ap ap_n ap_c)) (hv_assign rfl) ?_
            refine hl_nil ?_
            refine blockQ_n ?_
            refine seqQ_n ?_
            exact ⟨_, _, _, _, ⟨H, trivial⟩, (has_cons rfl (has_cons rfl (has_cons rfl (has_cons rfl (has_cons rfl (has_cons rfl (has_cons rfl (has_cons rfl has_nil))))))))⟩
        · rintro ρ h2 ⟨left_1, left_n_1, left_c_1, n_1, ⟨HA20, -⟩, hH⟩
          have H := Hy18 left_1 left_n_1 left_c_1 n_1 h2 HA20; clear Hx17 Hy18
          refine hx_has _ hH ?_
          refine hx_region ?_
          refine hl_val rfl rfl (v := (.int .i64 (IntKind.i64.wrap (v + 1)))) (hv_arith rfl rfl rfl) ?_
          refine hl_val rfl rfl (v := (.int .i64 (IntKind.i64.wrap (v + 1)))) (hv_move rfl) ?_
          refine hl_nil ?_
          refine seqQ_n ?_
          exact ⟨(left_1, left_n_1, left_c_1, n_1, IntKind.i64.wrap (v + 1)), ⟨⟨H.1, trivial⟩, H.2⟩, (has_cons rfl (has_cons rfl (has_cons rfl (has_cons rfl (has_cons rfl (has_cons rfl (has_cons rfl (has_cons rfl has_nil))))))))⟩
      · replace H := H.2 hb16
        refine hx_exit ?_
        refine seqQ_exit ?_
        refine seqQ_exit ?_
        refine blockQ_here ?_
        refine seqQ_n ?_
        refine hx_seq ?_
        refine hx_region ?_
        refine hl_val rfl rfl (v := (ptr x_b x_o)) (hv_move rfl) ?_
        refine hl_val rfl rfl (v := (ptr x_b x_o)) (hv_nil rfl) ?_
        refine hl_val rfl rfl (v := (ptr x_b (x_o + 1))) (hv_field TyShJ.fld80_1 (b := x_b) (o := x_o) rfl) ?_
        obtain ⟨x_3, x_n_3, x_c_3, hc38, H⟩ := H
        refine hl_val rfl rfl (v := (.slice x_3 x_n_3 x_c_3)) (hv_load TyShJ.agg78 rfl hc38) ?_
        refine hl_val rfl rfl (v := (.int .i64 stripe)) (hv_move rfl) ?_
        refine hl_val rfl rfl (v := (.slice left left_n left_c)) (hv_move rfl) ?_
        obtain ⟨x_3_b, x_3_o, hqe, hi39, hi40, Hq⟩ := H
        subst hqe
        have H := Hq; clear Hq
        refine hl_val rfl rfl (v := (ptr x_3_b (x_3_o + (Int.toNat stripe) * 1))) (hv_index TyShJ.el78 rfl rfl hi39 hi40) ?_
        obtain ⟨hw42, H⟩ := H
        refine hl_step rfl rfl (hn_store (v := (.slice left left_n left_c)) rfl rfl TyShJ.sz47 rfl hw42 ?_)
        intro h7 eh41
        replace H := H h7 eh41
        refine hl_nil ?_
        refine seqQ_n ?_
        refine hx_seq ?_
        refine hx_region ?_
        refine hl_val rfl rfl (v := (.int .i64 n)) (hv_move rfl) ?_
        refine hl_val rfl rfl (v := (.int .i64 n)) (hv_assign rfl) ?_
        refine hl_nil ?_
        refine seqQ_n ?_
        refine hx_ret ?_
        exact endQ_ret _ (res_one Try.results41 (rv_tmp rfl)) H

/-- (*cellar/cellarref12.Index).Len -/
theorem f43_sh (x_b : Nat) (x_o : Nat) (stripe : Int) (h : Heap) (R : Value → Heap → Prop)
    (H : (∃ j : Bool, (((decide (stripe < 0)) = true → (j = true)) ∧ ((decide (stripe < 0)) = false → (∃ x : Option Addr, ∃ x_n x_c : Nat, hcell h x_b (x_o + 1) = some (.slice x x_n x_c) ∧ (j = (decide (stripe ≥ (x_n : Int))))))) ∧ ((j = true → R (.int .i64 0) h) ∧ (j = false → (∃ x_1 : Option Addr, ∃ x_n_1 x_c_1 : Nat, hcell h x_b (x_o + 1) = some (.slice x_1 x_n_1 x_c_1) ∧ (∃ x_1_b x_1_o : Nat, x_1 = some ⟨x_1_b, x_1_o, none⟩ ∧ (0 : Int) ≤ stripe ∧ stripe < (x_n_1 : Int) ∧ (∃ x_2 : Option Addr, ∃ x_n_2 x_c_2 : Nat, hcell h x_1_b (x_1_o + (Int.toNat stripe) * 1) = some (.slice x_2 x_n_2 x_c_2) ∧ R (.int .i64 (x_n_2 : Int)) h))))))) :
    HC Try.prog 43 #[(ptr x_b x_o), (.int .i64 stripe)] h R := by
  refine hc_of (args := [(ptr x_b x_o), (.int .i64 stripe)]) Try.func43 rfl Try.ntmps43 (Nat.le_of_ble_eq_true rfl) ?_
  refine hx_seq ?_
  refine hx_region ?_
  refine hl_val rfl rfl (v := (.int .i64 0)) (hv_assign rfl) ?_
  refine hl_nil ?_
  refine seqQ_n ?_
  refine hx_seq ?_
  obtain ⟨j, Hx1, Hy2⟩ := H
  refine hx_cut (fun ρ h' => h = h' ∧ Has ρ [(0, (ptr x_b x_o)), (1, (.int .i64 stripe)), (15, (.bool j))]) ?_ ?_
  · have H := Hx1; clear Hx1 Hy2
    refine hx_region ?_
    refine hl_val rfl rfl (v := (.int .i64 stripe)) (hv_move rfl) ?_
    refine hl_val rfl rfl (v := (.bool (decide (stripe < 0)))) (hv_arith rfl rfl rfl) ?_
    refine hl_val rfl rfl (v := (.bool (decide (stripe < 0)))) (hv_move rfl) ?_
    rcases bool_or (decide (stripe < 0)) with hg3 | hg3
    · replace H := H.1 hg3
      refine hl_no (wanted_n rfl rfl rfl hg3) rfl ?_
      refine hl_no (wanted_n rfl rfl rfl hg3) rfl ?_
      refine hl_no (wanted_n rfl rfl rfl hg3) rfl ?_
      refine hl_no (wanted_n rfl rfl rfl hg3) rfl ?_
      refine hl_no (wanted_n rfl rfl rfl hg3) rfl ?_
      refine hl_no (wanted_n rfl rfl rfl hg3) rfl ?_
      refine hl_no (wanted_n rfl rfl rfl hg3) rfl ?_
      refine hl_val rfl rfl (v := (.bool true)) (hv_pick_t rfl hg3 rfl) ?_
      refine hl_nil ?_
      refine seqQ_n ?_
      obtain rfl := H
      exact ⟨rfl, (has_cons rfl (has_cons rfl (has_cons rfl has_nil)))⟩
    · replace H := H.2 hg3
      refine hl_yes (wanted_y rfl rfl rfl hg3) rfl (HStep.of_val (v := (.int .i64 stripe)) (hv_move rfl) ?_)
      refine hl_yes (wanted_y rfl rfl rfl hg3) rfl (HStep.of_val (v := (ptr x_b x_o)) (hv_move rfl) ?_)
      refine hl_yes (wanted_y rfl rfl rfl hg3) rfl (HStep.of_val (v := (ptr x_b x_o)) (hv_nil rfl) ?_)
      refine hl_yes (wanted_y rfl rfl rfl hg3) rfl (HStep.of_val (v := (ptr x_b (x_o + 1))) (hv_field TyShJ.fld80_1 (b := x_b) (o := x_o) rfl) ?_)
      obtain ⟨x, x_n, x_c, hc4, H⟩ := H
      refine hl_yes (wanted_y rfl rfl rfl hg3) rfl (HStep.of_val (v := (.slice x x_n x_c)) (hv_load TyShJ.agg78 rfl hc4) ?_)
      refine hl_yes (wanted_y rfl rfl rfl hg3) rfl (HStep.of_val (v := (.int .i64 (x_n : Int))) (hv_len (n := x_n) TyShJ.u78 rfl) ?_)
      refine hl_yes (wanted_y rfl rfl rfl hg3) rfl (HStep.of_val (v := (.bool (decide (stripe ≥ (x_n : Int))))) (hv_arith rfl rfl rfl) ?_)
      refine hl_val rfl rfl (v := (.bool (decide (stripe ≥ (x_n : Int))))) (hv_pick_f rfl hg3 rfl) ?_
      refine hl_nil ?_
      refine seqQ_n ?_
      obtain rfl := H
      exact ⟨rfl, (has_cons rfl (has_cons rfl (has_cons rfl has_nil)))⟩
  · have H := Hy2; clear Hx1 Hy2
    rintro ρ _ ⟨rfl, hH⟩
    refine hx_has _ hH ?_
    refine hx_cond (b := j) rfl (fun hb5 => ?_) (fun hb5 => ?_)
    · replace H := H.1 hb5
      refine hx_seq ?_
      refine hx_region ?_
      refine hl_val rfl rfl (v := (.int .i64 0)) (hv_assign rfl) ?_
      refine hl_nil ?_
      refine seqQ_n ?_
      refine hx_ret ?_
      refine seqQ_ret ?_
      exact endQ_ret _ (res_one Try.results43 (rv_tmp rfl)) H
    · replace H := H.2 hb5
      refine hx_skip ?_
      refine seqQ_n ?_
      refine hx_seq ?_
      refine hx_region ?_
      refine hl_val rfl rfl (v := (ptr x_b x_o)) (hv_move rfl) ?_
      refine hl_val rfl rfl (v := (ptr x_b x_o)) (hv_nil rfl) ?_
      refine hl_val rfl rfl (v := (ptr x_b (x_o + 1))) (hv_field TyShJ.fld80_1 (b := x_b) (o := x_o) rfl) ?_
      obtain ⟨x_1, x_n_1, x_c_1, hc6, H⟩ := H
      refine hl_val rfl rfl (v := (.slice x_1 x_n_1 x_c_1)) (hv_load TyShJ.agg78 rfl hc6) ?_
      refine hl_val rfl rfl (v := (.int .i64 stripe)) (hv_move rfl) ?_
      obtain ⟨x_1_b, x_1_o, hqe, hi7, hi8, Hq⟩ := H
      subst hqe
      have H := Hq; clear Hq
      refine hl_val rfl rfl (v := (ptr x_1_b (x_1_o + (Int.toNat stripe) * 1))) (hv_index TyShJ.el78 rfl rfl hi7 hi8) ?_
      obtain ⟨x_2, x_n_2, x_c_2, hc9, H⟩ := H
      refine hl_val rfl rfl (v := (.slice x_2 x_n_2 x_c_2)) (hv_load TyShJ.agg47 rfl hc9) ?_
      refine hl_val rfl rfl (v := (.int .i64 (x_n_2 : Int))) (hv_len (n := x_n_2) TyShJ.u47 rfl) ?_
      refine hl_val rfl rfl (v := (.int .i64 (x_n_2 : Int))) (hv_assign rfl) ?_
      refine hl_nil ?_
      refine seqQ_n ?_
      refine hx_ret ?_
      exact endQ_ret _ (res_one Try.results43 (rv_tmp rfl)) H

/-- (*cellar/cellarref12.Index).Entries -/
theorem f54_sh (x_b : Nat) (x_o : Nat) (stripe : Int) (h : Heap) (R : Value → Heap → Prop)
    (H : (∃ j : Bool, (((decide (stripe < 0)) = true → (j = true)) ∧ ((decide (stripe < 0)) = false → (∃ x : Option Addr, ∃ x_n x_c : Nat, hcell h x_b (x_o + 1) = some (.slice x x_n x_c) ∧ (j = (decide (stripe ≥ (x_n : Int))))))) ∧ ((j = true → R (.slice none 0 0) h) ∧ (j = false → (∀ nb h1, nb = Array.size h → h1 = Array.push h (.cells #[] 31) → (∃ x_1 : Option Addr, ∃ x_n_1 x_c_1 : Nat, hcell h1 x_b (x_o + 1) = some (.slice x_1 x_n_1 x_c_1) ∧ (∃ x_1_b x_1_o : Nat, x_1 = some ⟨x_1_b, x_1_o, none⟩ ∧ (0 : Int) ≤ stripe ∧ stripe < (x_n_1 : Int) ∧ (∃ x_2 : Option Addr, ∃ x_n_2 x_c_2 : Nat, hcell h1 x_1_b (x_1_o + (Int.toNat stripe) * 1) = some (.slice x_2 x_n_2 x_c_2) ∧ HAppend Try.prog 47 47 (.slice (some ⟨nb, 0, none⟩) 0 0) (.slice x_2 x_n_2 x_c_2) h1 (fun vv h2 => ∃ ap : Option Addr, ∃ ap_n ap_c : Nat, vv = (.slice ap ap_n ap_c) ∧ R (.slice ap ap_n ap_c) h2))))))))) :
    HC Try.prog 54 #[(ptr x_b x_o), (.int .i64 stripe)] h R := by
  refine hc_of (args := [(ptr x_b x_o), (.int .i64 stripe)]) Try.func54 rfl Try.ntmps54 (Nat.le_of_ble_eq_true rfl) ?_
  refine hx_seq ?_
  refine hx_region ?_
  refine hl_val rfl rfl (v := (.slice none 0 0)) (hv_assign rfl) ?_
  refine hl_nil ?_
  refine seqQ_n ?_
  refine hx_seq ?_
  obtain ⟨j, Hx1, Hy2⟩ := H
  refine hx_cut (fun ρ h' => h = h' ∧ Has ρ [(0, (ptr x_b x_o)), (1, (.int .i64 stripe)), (15, (.bool j))]) ?_ ?_
  · have H := Hx1; clear Hx1 Hy2
    refine hx_region ?_
    refine hl_val rfl rfl (v := (.int .i64 stripe)) (hv_move rfl) ?_
    refine hl_val rfl rfl (v := (.bool (decide (stripe < 0)))) (hv_arith rfl rfl rfl) ?_
    refine hl_val rfl rfl (v := (.bool (decide (stripe < 0)))) (hv_move rfl) ?_
    rcases bool_or (decide (stripe < 0)) with hg3 | hg3
    · replace H := H.1 hg3
      refine hl_no (wanted_n rfl rfl rfl hg3) rfl ?_
      refine hl_no (wanted_n rfl rfl rfl hg3) rfl ?_
      refine hl_no (wanted_n rfl rfl rfl hg3) rfl ?_
      refine hl_no (wanted_n rfl rfl rfl hg3) rfl ?_
      refine hl_no (wanted_n rfl rfl rfl hg3) rfl ?_
      refine hl_no (wanted_n rfl rfl rfl hg3) rfl ?_
      refine hl_no (wanted_n rfl rfl rfl hg3) rfl ?_
      refine hl_val rfl rfl (v := (.bool true)) (hv_pick_t rfl hg3 rfl) ?_
      refine hl_nil ?_
      refine seqQ_n ?_
      obtain rfl := H
      exact ⟨rfl, (has_cons rfl (has_cons rfl (has_cons rfl has_nil)))⟩
    · replace H := H.2 hg3
      refine hl_yes (wanted_y rfl rfl rfl hg3) rfl (HStep.of_val (v := (.int .i64 stripe)) (hv_move rfl) ?_)
      refine hl_yes (wanted_y rfl rfl rfl hg3) rfl (HStep.of_val (v := (ptr x_b x_o)) (hv_move rfl) ?_)
      refine hl_yes (wanted_y rfl rfl rfl hg3) rfl (HStep.of_val (v := (ptr x_b x_o)) (hv_nil rfl) ?_)
      refine hl_yes (wanted_y rfl rfl rfl hg3) rfl (HStep.of_val (v := (ptr x_b (x_o + 1))) (hv_field TyShJ.fld80_1 (b := x_b) (o := x_o) rfl) ?_)
      obtain ⟨x, x_n, x_c, hc4, H⟩ := H
      refine hl_yes (wanted_y rfl rfl rfl hg3) rfl (HStep.of_val (v := (.slice x x_n x_c)) (hv_load TyShJ.agg78 rfl hc4) ?_)
      refine hl_yes (wanted_y rfl rfl rfl hg3) rfl (HStep.of_val (v := (.int .i64 (x_n : Int))) (hv_len (n := x_n) TyShJ.u78 rfl) ?_)
      refine hl_yes (wanted_y rfl rfl rfl hg3) rfl (HStep.of_val (v := (.bool (decide (stripe ≥ (x_n : Int))))) (hv_arith rfl rfl rfl) ?_)
      refine hl_val rfl rfl (v := (.bool (decide (stripe ≥ (x_n : Int))))) (hv_pick_f rfl hg3 rfl) ?_
      refine hl_nil ?_
      refine seqQ_n ?_
      obtain rfl := H
      exact ⟨rfl, (has_cons rfl (has_cons rfl (has_cons rfl has_nil)))⟩
  · have H := Hy2; clear Hx1 Hy2
    rintro ρ _ ⟨rfl, hH⟩
    refine hx_has _ hH ?_
    refine hx_cond (b := j) rfl (fun hb5 => ?_) (fun hb5 => ?_)
    · replace H := H.1 hb5
      refine hx_seq ?_
      refine hx_region ?_
      refine hl_val rfl rfl (v := (.slice none 0 0)) (hv_assign rfl) ?_
      refine hl_nil ?_
      refine seqQ_n ?_
      refine hx_ret ?_
      refine seqQ_ret ?_
      exact endQ_ret _ (res_one Try.results54 (rv_tmp rfl)) H
    · replace H := H.2 hb5
      refine hx_skip ?_
      refine seqQ_n ?_
      refine hx_seq ?_
      refine hx_region ?_
      refine hl_step rfl rfl (hn_buildSlice (n := 0) (vs := []) (cs := #[]) TyShJ.u47 TyShJ.sz31 TyShJ.z31 rfl rfl (by kernel_rfl) ?_)
      intro nb h1 eb6 eh7
      replace H := H nb h1 eb6 eh7
      have xx8 : Ext h h1 := by rw [eh7]; exact Ext.push _ _
      refine hl_val rfl rfl (v := (ptr x_b x_o)) (hv_move rfl) ?_
      refine hl_val rfl rfl (v := (ptr x_b x_o)) (hv_nil rfl) ?_
      refine hl_val rfl rfl (v := (ptr x_b (x_o + 1))) (hv_field TyShJ.fld80_1 (b := x_b) (o := x_o) rfl) ?_
      obtain ⟨x_1, x_n_1, x_c_1, hc9, H⟩ := H
      refine hl_val rfl rfl (v := (.slice x_1 x_n_1 x_c_1)) (hv_load TyShJ.agg78 rfl hc9) ?_
      refine hl_val rfl rfl (v := (.int .i64 stripe)) (hv_move rfl) ?_
      obtain ⟨x_1_b, x_1_o, hqe, hi10, hi11, Hq⟩ := H
      subst hqe
      have H := Hq; clear Hq
      refine hl_val rfl rfl (v := (ptr x_1_b (x_1_o + (Int.toNat stripe) * 1))) (hv_index TyShJ.el78 rfl rfl hi10 hi11) ?_
      obtain ⟨x_2, x_n_2, x_c_2, hc12, H⟩ := H
      refine hl_val rfl rfl (v := (.slice x_2 x_n_2 x_c_2)) (hv_load TyShJ.agg47 rfl hc12) ?_
      refine hl_step rfl rfl (hs_append rfl rfl (HAppend.mono H ?_))
      rintro _ h2 ⟨ap, ap_n, ap_c, rfl, H⟩
      refine hl_val rfl rfl (v := (.slice ap ap_n ap_c)) (hv_assign rfl) ?_
      refine hl_nil ?_
      refine seqQ_n ?_
      refine hx_ret ?_
      exact endQ_ret _ (res_one Try.results54 (rv_tmp rfl)) H

/-- (*cellar/cellarref12.Index).Fork -/
theorem f21_sh (x_b : Nat) (x_o : Nat) (h : Heap) (R : Value → Heap → Prop)
    (H : (∃ x : Int, hcell h x_b x_o = some (.int .i64 x) ∧ (∀ nb h1, nb = Array.size h → h1 = Array.push h (.cells #[(.int .i64 x), (.slice none 0 0)] 80) → (∃ x_1 : Option Addr, ∃ x_n x_c : Nat, hcell h1 x_b (x_o + 1) = some (.slice x_1 x_n x_c) ∧ (∃ (I6 : Int → Heap → Prop) (mu7 : Int → Heap → Nat), I6 0 h1 ∧ (∀ (v : Int) (h2 : Heap), I6 v h2 → (((decide (v < (x_n : Int))) = true → (∃ x_1_b x_1_o : Nat, x_1 = some ⟨x_1_b, x_1_o, none⟩ ∧ (0 : Int) ≤ v ∧ v < (x_n : Int) ∧ (∃ x_2 : Option Addr, ∃ x_n_1 x_c_1 : Nat, hcell h2 x_1_b (x_1_o + (Int.toNat v) * 1) = some (.slice x_2 x_n_1 x_c_1) ∧ (∃ T15 : Heap → Heap → Prop, Fit T15 ∧ (∃ x_3 : Option Addr, ∃ x_n_2 x_c_2 : Nat, (∀ hx, T15 h2 hx → hcell hx nb 1 = some (.slice x_3 x_n_2 x_c_2)) ∧ (∀ nb_1 h3, nb_1 = Array.size h2 → h3 = Array.push h2 (.cells #[] 31) → HAppend Try.prog 47 47 (.slice (some ⟨nb_1, 0, none⟩) 0 0) (.slice x_2 x_n_1 x_c_1) h3 (fun vv h4 => T15 h3 h4 ∧ ∃ ap : Option Addr, ∃ ap_n ap_c : Nat, vv = (.slice ap ap_n ap_c) ∧ (∀ nb_2 h5, nb_2 = Array.size h4 → h5 = Array.push h4 (.cells #[(.slice ap ap_n ap_c)] 47) → HAppend Try.prog 78 78 (.slice x_3 x_n_2 x_c_2) (.slice (some ⟨nb_2, 0, none⟩) 1 1) h5 (fun vv h6 => ∃ ap_1 : Option Addr, ∃ ap_n_1 ap_c_1 : Nat, vv = (.slice ap_1 ap_n_1 ap_c_1) ∧ (HW h6 nb 1 ∧ ∀ h7, h7 = hset h6 nb 1 (.slice ap_1 ap_n_1 ap_c_1) → (I6 (IntKind.i64.wrap (v + 1)) h7 ∧ mu7 (IntKind.i64.wrap (v + 1)) h7 < mu7 v h2))))))))))) ∧ ((decide (v < (x_n : Int))) = false → R (ptr nb 0) h2)))))))) :
    HC Try.prog 21 #[(ptr x_b x_o)] h R := by
  refine hc_of (args := [(ptr x_b x_o)]) Try.func21 rfl Try.ntmps21 (Nat.le_of_ble_eq_true rfl) ?_
  refine hx_seq ?_
  refine hx_region ?_
  refine hl_val rfl rfl (v := (.pointer none)) (hv_assign rfl) ?_
  refine hl_nil ?_
  refine seqQ_n ?_
  refine hx_seq ?_
  refine hx_region ?_
  refine hl_val rfl rfl (v := (ptr x_b x_o)) (hv_move rfl) ?_
  refine hl_val rfl rfl (v := (ptr x_b x_o)) (hv_nil rfl) ?_
  refine hl_val rfl rfl (v := (ptr x_b x_o)) (hv_field TyShJ.fld80_0 (b := x_b) (o := x_o) rfl) ?_
  obtain ⟨x, hc1, H⟩ := H
  refine hl_val rfl rfl (v := (.int .i64 x)) (hv_load TyShJ.agg3 rfl hc1) ?_
  refine hl_val rfl rfl (v := (.agg #[(.int .i64 x), (.slice none 0 0)])) (hv_build (vs := [(0, (.int .i64 x))]) (cs := #[(.int .i64 x), (.slice none 0 0)]) TyShJ.z80 TyShJ.pl80 rfl (by kernel_rfl)) ?_
  refine hl_step rfl rfl (hn_box (v := (.agg #[(.int .i64 x), (.slice none 0 0)])) rfl ?_)
  intro nb h1 eb2 eh3
  replace H := H nb h1 eb2 eh3
  have xx4 : Ext h h1 := by rw [eh3]; exact Ext.push _ _
  refine hl_val rfl rfl (v := (ptr nb 0)) (hv_assign rfl) ?_
  refine hl_nil ?_
  refine seqQ_n ?_
  refine hx_seq ?_
  refine hx_seq ?_
  refine hx_region ?_
  refine hl_val rfl rfl (v := (ptr x_b x_o)) (hv_move rfl) ?_
  refine hl_val rfl rfl (v := (ptr x_b x_o)) (hv_nil rfl) ?_
  refine hl_val rfl rfl (v := (ptr x_b (x_o + 1))) (hv_field TyShJ.fld80_1 (b := x_b) (o := x_o) rfl) ?_
  obtain ⟨x_1, x_n, x_c, hc5, H⟩ := H
  refine hl_val rfl rfl (v := (.slice x_1 x_n x_c)) (hv_load TyShJ.agg78 rfl hc5) ?_
  refine hl_val rfl rfl (v := (.int .i64 (x_n : Int))) (hv_len (n := x_n) TyShJ.u78 rfl) ?_
  refine hl_val rfl rfl (v := (.int .i64 0)) (hv_move rfl) ?_
  refine hl_nil ?_
  refine seqQ_n ?_
  refine hx_block ?_
  obtain ⟨I6, mu7, Ha8, Hr9⟩ := H
  refine hx_loopT (σ := Int) (fun s => [(3, (ptr nb 0)), (15, (.slice x_1 x_n x_c)), (16, (.int .i64 (x_n : Int))), (17, (.int .i64 s))]) (fun s h' => I6 s h' ∧ True) (fun s h' => mu7 s h') 0 ⟨Ha8, trivial⟩ (has_cons rfl (has_cons rfl (has_cons rfl (has_cons rfl has_nil)))) ?_
  rintro v ρ h2 ⟨Hi10, -⟩
  have H := Hr9 v h2 Hi10
  refine hx_seq ?_
  refine hx_region ?_
  refine hl_val rfl rfl (v := (.bool (decide (v < (x_n : Int))))) (hv_arith rfl rfl rfl) ?_
  refine hl_nil ?_
  refine seqQ_n ?_
  refine hx_seq ?_
  refine hx_cond (b := decide (v < (x_n : Int))) rfl (fun hb11 => ?_) (fun hb11 => ?_)
  · replace H := H.1 hb11
    refine hx_skip ?_
    refine seqQ_n ?_
    refine hx_seq ?_
    refine hx_block ?_
    refine hx_seq ?_
    refine hx_region ?_
    obtain ⟨x_1_b, x_1_o, hqe, hi12, hi13, Hq⟩ := H
    subst hqe
    have H := Hq; clear Hq
    refine hl_val rfl rfl (v := (ptr x_1_b (x_1_o + (Int.toNat v) * 1))) (hv_index TyShJ.el78 rfl rfl hi12 hi13) ?_
    obtain ⟨x_2, x_n_1, x_c_1, hc14, H⟩ := H
    refine hl_val rfl rfl (v := (.slice x_2 x_n_1 x_c_1)) (hv_load TyShJ.agg47 rfl hc14) ?_
    refine hl_val rfl rfl (v := (.slice x_2 x_n_1 x_c_1)) (hv_assign rfl) ?_
    refine hl_nil ?_
    refine seqQ_n ?_
    obtain ⟨T15, hT16, H⟩ := H
    refine hx_drawT TyShJ.mixed T15 hT16 [.pure, .pure, .pure, .pure, .stay, .ext, .pure, .tame, .ext, .wild, .pure, .pure, .wild] [0, 1, 2, 3, 4, 6, 5, 7, 8, 9, 10, 11, 12] (by kernel_rfl) ?_
    refine hp_pure (i := 0) rfl (wanted_0 rfl) rfl (ptr nb 0) (fun _ => hv_move rfl) ?_
    refine hp_pure (i := 1) rfl (wanted_0 rfl) rfl (ptr nb 0) (fun _ => hv_move rfl) ?_
    refine hp_pure (i := 2) rfl (wanted_0 rfl) rfl (ptr nb 0) (fun _ => hv_nil rfl) ?_
    refine hp_pure (i := 3) rfl (wanted_0 rfl) rfl (ptr nb 1) (fun _ => hv_field TyShJ.fld80_1 (b := nb) (o := 0) rfl) ?_
    obtain ⟨x_3, x_n_2, x_c_2, hc17, H⟩ := H
    refine hp_stay (i := 4) rfl (wanted_0 rfl) rfl (.slice x_3 x_n_2 x_c_2) (fun _ he => hv_load TyShJ.agg78 rfl (hc17 _ he)) ?_
    refine hp_pure (i := 6) rfl (wanted_0 rfl) rfl (.slice x_2 x_n_1 x_c_1) (fun _ => hv_move rfl) ?_
    refine hp_ext (i := 5) rfl (wanted_0 rfl) rfl (hn_buildSlice (n := 0) (vs := []) (cs := #[]) TyShJ.u47 TyShJ.sz31 TyShJ.z31 rfl rfl (by kernel_rfl) ?_)
    intro nb_1 h3 eb18 eh19
    replace H := H nb_1 h3 eb18 eh19
    have xx20 : Ext h2 h3 := by rw [eh19]; exact Ext.push _ _
    refine ⟨xx20, ?_⟩
    refine hp_tame (i := 7) rfl (wanted_0 rfl) rfl (hs_append rfl rfl (HAppend.mono H ?_))
    rintro _ h4 ⟨ht26, ap, ap_n, ap_c, rfl, H⟩
    refine ⟨ht26, ?_⟩
    refine hp_ext (i := 8) rfl (wanted_0 rfl) rfl (hn_buildSlice (n := 1) (vs := [(0, (.slice ap ap_n ap_c))]) (cs := #[(.slice ap ap_n ap_c)]) TyShJ.u78 TyShJ.sz47 TyShJ.z47 rfl rfl (by kernel_rfl) ?_)
    intro nb_2 h5 eb21 eh22
    replace H := H nb_2 h5 eb21 eh22
    have xx23 : Ext h4 h5 := by rw [eh22]; exact Ext.push _ _
    refine ⟨xx23, ?_⟩
    refine hp_wild (i := 9) rfl (wanted_0 rfl) rfl (hs_append rfl rfl (HAppend.mono H ?_))
    rintro _ h6 ⟨ap_1, ap_n_1, ap_c_1, rfl, H⟩
    refine hp_pure (i := 10) rfl (wanted_0 rfl) rfl (ptr nb 0) (fun _ => hv_nil rfl) ?_
    refine hp_pure (i := 11) rfl (wanted_0 rfl) rfl (ptr nb 1) (fun _ => hv_field TyShJ.fld80_1 (b := nb) (o := 0) rfl) ?_
    obtain ⟨hw25, H⟩ := H
    refine hp_wild (i := 12) rfl (wanted_0 rfl) rfl (hn_store (v := (.slice ap_1 ap_n_1 ap_c_1)) rfl rfl TyShJ.sz78 rfl hw25 ?_)
    intro h7 eh24
    replace H := H h7 eh24
    refine hp_nil ?_
    refine blockQ_n ?_
    refine seqQ_n ?_
    refine hx_region ?_
    refine hl_val rfl rfl (v := (.int .i64 (IntKind.i64.wrap (v + 1)))) (hv_arith rfl rfl rfl) ?_
    refine hl_val rfl rfl (v := (.int .i64 (IntKind.i64.wrap (v + 1)))) (hv_move rfl) ?_
    refine hl_nil ?_
    refine seqQ_n ?_
    exact ⟨IntKind.i64.wrap (v + 1), ⟨⟨H.1, trivial⟩, H.2⟩, (has_cons rfl (has_cons rfl (has_cons rfl (has_cons rfl has_nil))))⟩
  · replace H := H.2 hb11
    refine hx_exit ?_
    refine seqQ_exit ?_
    refine seqQ_exit ?_
    refine blockQ_here ?_
    refine seqQ_n ?_
    refine hx_seq ?_
    refine hx_region ?_
    refine hl_val rfl rfl (v := (ptr nb 0)) (hv_move rfl) ?_
    refine hl_val rfl rfl (v := (ptr nb 0)) (hv_assign rfl) ?_
    refine hl_nil ?_
    refine seqQ_n ?_
    refine hx_ret ?_
    exact endQ_ret _ (res_one Try.results21 (rv_tmp rfl)) H

end Go.Proofs.Ytkecmljalcfhoaa
