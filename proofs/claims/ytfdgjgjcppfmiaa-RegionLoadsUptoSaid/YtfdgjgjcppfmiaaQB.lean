/-
Shallow forms, written by gen2.py (a program of ours) out of the print of the program.
-/
import Derived.Test.YtfdgjgjcppfmiaaPrv
import Derived.Test.YtfdgjgjcppfmiaaSrt
import Derived.Test.YtfdgjgjcppfmiaaRng
import Derived.Test.YtfdgjgjcppfmiaaMor
import Derived.Test.YtfdgjgjcppfmiaaProg
namespace Go.Proofs.Ytfdgjgjcppfmiaa
open Go
set_option maxRecDepth 100000
set_option maxHeartbeats 4000000

theorem TyQB.agg28 : aggB Try.prog 28 = some false := by kernel_rfl
theorem TyQB.agg29 : aggB Try.prog 29 = some false := by kernel_rfl
theorem TyQB.agg3 : aggB Try.prog 3 = some false := by kernel_rfl
theorem TyQB.agg50 : aggB Try.prog 50 = some false := by kernel_rfl
theorem TyQB.agg76 : aggB Try.prog 76 = some false := by kernel_rfl
theorem TyQB.by50 : byB Try.prog 50 = some 24 := by kernel_rfl
theorem TyQB.cb38 : CallB Try.prog 38 := fun _ _ => Try.call38 _ _
theorem TyQB.cb56 : CallB Try.prog 56 := fun _ _ => Try.call56 _ _
theorem TyQB.el28 : elB Try.prog 28 = some 4 := by kernel_rfl
theorem TyQB.el50 : elB Try.prog 50 = some 1 := by kernel_rfl
theorem TyQB.el76 : elB Try.prog 76 = some 1 := by kernel_rfl
theorem TyQB.fld31_0 : fldB Try.prog 31 0 = some 0 := by kernel_rfl
theorem TyQB.fld31_1 : fldB Try.prog 31 1 = some 1 := by kernel_rfl
theorem TyQB.fld31_2 : fldB Try.prog 31 2 = some 2 := by kernel_rfl
theorem TyQB.fld31_3 : fldB Try.prog 31 3 = some 3 := by kernel_rfl
theorem TyQB.fld78_0 : fldB Try.prog 78 0 = some 0 := by kernel_rfl
theorem TyQB.fld78_1 : fldB Try.prog 78 1 = some 1 := by kernel_rfl
theorem TyQB.fld78_2 : fldB Try.prog 78 2 = some 2 := by kernel_rfl
theorem TyQB.fld78_3 : fldB Try.prog 78 3 = some 3 := by kernel_rfl
theorem TyQB.fld78_4 : fldB Try.prog 78 4 = some 4 := by kernel_rfl
theorem TyQB.mixed : Try.prog.follows .mixedOrders = true := by kernel_rfl
theorem TyQB.pl31 : plB Try.prog 31 = some [(0, 1), (1, 1), (2, 1), (3, 1)] := by kernel_rfl
theorem TyQB.pl78 : plB Try.prog 78 = some [(0, 1), (1, 1), (2, 1), (3, 1), (4, 1)] := by kernel_rfl
theorem TyQB.sz28 : szB Try.prog 28 = some 1 := by kernel_rfl
theorem TyQB.sz29 : szB Try.prog 29 = some 1 := by kernel_rfl
theorem TyQB.sz3 : szB Try.prog 3 = some 1 := by kernel_rfl
theorem TyQB.sz31 : szB Try.prog 31 = some 4 := by kernel_rfl
theorem TyQB.sz50 : szB Try.prog 50 = some 1 := by kernel_rfl
theorem TyQB.u28 : Try.prog.underlying 28 = some (.slice 31) := by kernel_rfl
theorem TyQB.u50 : Try.prog.underlying 50 = some (.slice 3) := by kernel_rfl
theorem TyQB.u76 : Try.prog.underlying 76 = some (.slice 50) := by kernel_rfl
theorem TyQB.z3 : zeroB Try.prog 3 (.int .i64 0) := by unfold zeroB; kernel_rfl
theorem TyQB.z31 : zeroB Try.prog 31 (.agg #[(.int .i64 0), (.int .u64 0), (.int .i64 0), (.int .i64 0)]) := by unfold zeroB; kernel_rfl
theorem TyQB.z50 : zeroB Try.prog 50 (.slice none 0 0) := by unfold zeroB; kernel_rfl
theorem TyQB.z78 : zeroB Try.prog 78 (.agg #[(.slice none 0 0), (.slice none 0 0), (.int .u64 0), (.int .i64 0), (.slice none 0 0)]) := by unfold zeroB; kernel_rfl

/-- (*cellar/cellarref09.Man).is -/
theorem f56_sh (m_b : Nat) (m_o : Nat) (r : Int) (h : Heap) (R : Value → Heap → Prop)
    (H : (∃ j : Bool, (((decide (r ≥ 0)) = true → (∃ x : Option Addr, ∃ x_n x_c : Nat, hcell h m_b m_o = some (.slice x x_n x_c) ∧ (j = (decide (r < (x_n : Int)))))) ∧ ((decide (r ≥ 0)) = false → (j = false))) ∧ R (.bool j) h)) :
    HC Try.prog 56 #[(ptr m_b m_o), (.int .i64 r)] h R := by
  refine hc_of (args := [(ptr m_b m_o), (.int .i64 r)]) Try.func56 rfl Try.ntmps56 (Nat.le_of_ble_eq_true rfl) ?_
  refine hx_seq ?_
  refine hx_region ?_
  refine hl_val rfl rfl (v := (.bool false)) (hv_assign rfl) ?_
  refine hl_nil ?_
  refine seqQ_n ?_
  obtain ⟨j, Hx1, Hy2⟩ := H
  refine hx_cut (fun ρ h' => h = h' ∧ Has ρ [(4, (.bool j))]) ?_ ?_
  · have H := Hx1; clear Hx1 Hy2
    refine hx_region ?_
    refine hl_val rfl rfl (v := (.int .i64 r)) (hv_move rfl) ?_
    refine hl_val rfl rfl (v := (.bool (decide (r ≥ 0)))) (hv_arith rfl rfl rfl) ?_
    refine hl_val rfl rfl (v := (.bool (decide (r ≥ 0)))) (hv_move rfl) ?_
    rcases bool_or (decide (r ≥ 0)) with hg3 | hg3
    · replace H := H.1 hg3
      refine hl_yes (wanted_y rfl rfl rfl hg3) rfl (HStep.of_val (v := (.int .i64 r)) (hv_move rfl) ?_)
      refine hl_yes (wanted_y rfl rfl rfl hg3) rfl (HStep.of_val (v := (ptr m_b m_o)) (hv_move rfl) ?_)
      refine hl_yes (wanted_y rfl rfl rfl hg3) rfl (HStep.of_val (v := (ptr m_b m_o)) (hv_nil rfl) ?_)
      refine hl_yes (wanted_y rfl rfl rfl hg3) rfl (HStep.of_val (v := (ptr m_b m_o)) (hv_field TyQB.fld78_0 (b := m_b) (o := m_o) rfl) ?_)
      obtain ⟨x, x_n, x_c, hc4, H⟩ := H
      refine hl_yes (wanted_y rfl rfl rfl hg3) rfl (HStep.of_val (v := (.slice x x_n x_c)) (hv_load TyQB.agg28 rfl hc4) ?_)
      refine hl_yes (wanted_y rfl rfl rfl hg3) rfl (HStep.of_val (v := (.int .i64 (x_n : Int))) (hv_len (n := x_n) TyQB.u28 rfl) ?_)
      refine hl_yes (wanted_y rfl rfl rfl hg3) rfl (HStep.of_val (v := (.bool (decide (r < (x_n : Int))))) (hv_arith rfl rfl rfl) ?_)
      refine hl_val rfl rfl (v := (.bool (decide (r < (x_n : Int))))) (hv_pick_t rfl hg3 rfl) ?_
      refine hl_val rfl rfl (v := (.bool (decide (r < (x_n : Int))))) (hv_assign rfl) ?_
      refine hl_nil ?_
      refine seqQ_n ?_
      obtain rfl := H
      exact ⟨rfl, (has_cons rfl has_nil)⟩
    · replace H := H.2 hg3
      refine hl_no (wanted_n rfl rfl rfl hg3) rfl ?_
      refine hl_no (wanted_n rfl rfl rfl hg3) rfl ?_
      refine hl_no (wanted_n rfl rfl rfl hg3) rfl ?_
      refine hl_no (wanted_n rfl rfl rfl hg3) rfl ?_
      refine hl_no (wanted_n rfl rfl rfl hg3) rfl ?_
      refine hl_no (wanted_n rfl rfl rfl hg3) rfl ?_
      refine hl_no (wanted_n rfl rfl rfl hg3) rfl ?_
      refine hl_val rfl rfl (v := (.bool false)) (hv_pick_f rfl hg3 rfl) ?_
      refine hl_val rfl rfl (v := (.bool false)) (hv_assign rfl) ?_
      refine hl_nil ?_
      refine seqQ_n ?_
      obtain rfl := H
      exact ⟨rfl, (has_cons rfl has_nil)⟩
  · have H := Hy2; clear Hx1 Hy2
    rintro ρ _ ⟨rfl, hH⟩
    refine hx_has _ hH ?_
    refine hx_ret ?_
    exact endQ_ret _ (res_one Try.results56 (rv_tmp rfl)) H

/-- cellar/cellarref09.start -/
theorem f38_sh (n : Int) (h : Heap) (R : Value → Heap → Prop)
    (H : ((0 : Int) ≤ n ∧ 24 * n ≤ 140737488355328 ∧ n ≤ 140737488355328 ∧ ∀ nb h1, nb = Array.size h → h1 = Array.push h (.cells (zcells [(.slice none 0 0)] (Int.toNat n)).toArray 50) → (∀ nb_1 h2, nb_1 = Array.size h1 → h2 = Array.push h1 (.cells #[(.slice none 0 0), (.slice none 0 0), (.int .u64 0), (.int .i64 (-1)), (.slice (some ⟨nb, 0, none⟩) (Int.toNat n) (Int.toNat n))] 78) → (∃ (I10 : Int → Heap → Prop) (mu11 : Int → Heap → Nat), I10 0 h2 ∧ (∀ (i : Int) (h3 : Heap), I10 i h3 → (((decide (i < n)) = true → (∃ x : Option Addr, ∃ x_n x_c : Nat, hcell h3 nb_1 0 = some (.slice x x_n x_c) ∧ (∀ nb_2 h4, nb_2 = Array.size h3 → h4 = Array.push h3 (.cells #[(.int .i64 1), (.int .u64 0), (.int .i64 0), (.int .i64 0)] 31) → HAppend Try.prog 28 28 (.slice x x_n x_c) (.slice (some ⟨nb_2, 0, none⟩) 1 1) h4 (fun vv h5 => ∃ ap : Option Addr, ∃ ap_n ap_c : Nat, vv = (.slice ap ap_n ap_c) ∧ (HW h5 nb_1 0 ∧ ∀ h6, h6 = hset h5 nb_1 0 (.slice ap ap_n ap_c) → (I10 (IntKind.i64.wrap (i + 1)) h6 ∧ mu11 (IntKind.i64.wrap (i + 1)) h6 < mu11 i h3)))))) ∧ ((decide (i < n)) = false → R (ptr nb_1 0) h3))))))) :
    HC Try.prog 38 #[(.int .i64 n)] h R := by
  refine hc_of (args := [(.int .i64 n)]) Try.func38 rfl Try.ntmps38 (Nat.le_of_ble_eq_true rfl) ?_
  refine hx_seq ?_
  refine hx_region ?_
  refine hl_val rfl rfl (v := (.pointer none)) (hv_assign rfl) ?_
  refine hl_nil ?_
  refine seqQ_n ?_
  refine hx_seq ?_
  refine hx_region ?_
  refine hl_val rfl rfl (v := (.int .i64 n)) (hv_move rfl) ?_
  obtain ⟨hm1, hm2, hm3, H⟩ := H
  refine hl_step rfl rfl (hn_make (z := (.slice none 0 0)) (zs := [(.slice none 0 0)]) (n := n) TyQB.u76 TyQB.sz50 TyQB.by50 TyQB.z50 rfl rfl hm1 hm2 hm3 rfl rfl ?_)
  intro nb h1 eb4 eh5
  replace H := H nb h1 eb4 eh5
  have xx6 : Ext h h1 := by rw [eh5]; exact Ext.push _ _
  refine hl_val rfl rfl (v := (.agg #[(.slice none 0 0), (.slice none 0 0), (.int .u64 0), (.int .i64 (-1)), (.slice (some ⟨nb, 0, none⟩) (Int.toNat n) (Int.toNat n))])) (hv_build (vs := [(3, (.int .i64 (-1))), (4, (.slice (some ⟨nb, 0, none⟩) (Int.toNat n) (Int.toNat n)))]) (cs := #[(.slice none 0 0), (.slice none 0 0), (.int .u64 0), (.int .i64 (-1)), (.slice (some ⟨nb, 0, none⟩) (Int.toNat n) (Int.toNat n))]) TyQB.z78 TyQB.pl78 rfl (by kernel_rfl)) ?_
  refine hl_step rfl rfl (hn_box (v := (.agg #[(.slice none 0 0), (.slice none 0 0), (.int .u64 0), (.int .i64 (-1)), (.slice (some ⟨nb, 0, none⟩) (Int.toNat n) (Int.toNat n))])) rfl ?_)
  intro nb_1 h2 eb7 eh8
  replace H := H nb_1 h2 eb7 eh8
  have xx9 : Ext h1 h2 := by rw [eh8]; exact Ext.push _ _
  refine hl_val rfl rfl (v := (ptr nb_1 0)) (hv_assign rfl) ?_
  refine hl_nil ?_
  refine seqQ_n ?_
  refine hx_seq ?_
  refine hx_seq ?_
  refine hx_region ?_
  refine hl_val rfl rfl (v := (.int .i64 0)) (hv_assign rfl) ?_
  refine hl_nil ?_
  refine seqQ_n ?_
  refine hx_block ?_
  obtain ⟨I10, mu11, Ha12, Hr13⟩ := H
  refine hx_loopT (σ := Int) (fun s => [(0, (.int .i64 n)), (3, (ptr nb_1 0)), (4, (.int .i64 s))]) (fun s h' => I10 s h' ∧ True) (fun s h' => mu11 s h') 0 ⟨Ha12, trivial⟩ (has_cons rfl (has_cons rfl (has_cons rfl has_nil))) ?_
  rintro i ρ h3 ⟨Hi14, -⟩
  have H := Hr13 i h3 Hi14
  refine hx_seq ?_
  refine hx_seq ?_
  refine hx_region ?_
  refine hl_val rfl rfl (v := (.int .i64 i)) (hv_move rfl) ?_
  refine hl_val rfl rfl (v := (.int .i64 n)) (hv_move rfl) ?_
  refine hl_val rfl rfl (v := (.bool (decide (i < n)))) (hv_arith rfl rfl rfl) ?_
  refine hl_nil ?_
  refine seqQ_n ?_
  refine hx_cond (b := decide (i < n)) rfl (fun hb15 => ?_) (fun hb15 => ?_)
  · replace H := H.1 hb15
    refine hx_skip ?_
    refine seqQ_n ?_
    refine hx_seq ?_
    refine hx_block ?_
    refine hx_region ?_
    refine hl_val rfl rfl (v := (ptr nb_1 0)) (hv_move rfl) ?_
    refine hl_val rfl rfl (v := (ptr nb_1 0)) (hv_move rfl) ?_
    refine hl_val rfl rfl (v := (ptr nb_1 0)) (hv_nil rfl) ?_
    refine hl_val rfl rfl (v := (ptr nb_1 0)) (hv_field TyQB.fld78_0 (b := nb_1) (o := 0) rfl) ?_
    obtain ⟨x, x_n, x_c, hc16, H⟩ := H
    refine hl_val rfl rfl (v := (.slice x x_n x_c)) (hv_load TyQB.agg28 rfl hc16) ?_
    refine hl_val rfl rfl (v := (.agg #[(.int .i64 1), (.int .u64 0), (.int .i64 0), (.int .i64 0)])) (hv_build (vs := [(0, (.int .i64 1))]) (cs := #[(.int .i64 1), (.int .u64 0), (.int .i64 0), (.int .i64 0)]) TyQB.z31 TyQB.pl31 rfl (by kernel_rfl)) ?_
    refine hl_step rfl rfl (hn_buildSlice (n := 1) (vs := [(0, (.agg #[(.int .i64 1), (.int .u64 0), (.int .i64 0), (.int .i64 0)]))]) (cs := #[(.int .i64 1), (.int .u64 0), (.int .i64 0), (.int .i64 0)]) TyQB.u28 TyQB.sz31 TyQB.z31 rfl rfl (by kernel_rfl) ?_)
    intro nb_2 h4 eb17 eh18
    replace H := H nb_2 h4 eb17 eh18
    have xx19 : Ext h3 h4 := by rw [eh18]; exact Ext.push _ _
    refine hl_step rfl rfl (hs_append rfl rfl (HAppend.mono H ?_))
    rintro _ h5 ⟨ap, ap_n, ap_c, rfl, H⟩
    refine hl_val rfl rfl (v := (ptr nb_1 0)) (hv_nil rfl) ?_
    refine hl_val rfl rfl (v := (ptr nb_1 0)) (hv_field TyQB.fld78_0 (b := nb_1) (o := 0) rfl) ?_
    obtain ⟨hw21, H⟩ := H
    refine hl_step rfl rfl (hn_store (v := (.slice ap ap_n ap_c)) rfl rfl TyQB.sz28 rfl hw21 ?_)
    intro h6 eh20
    replace H := H h6 eh20
    refine hl_nil ?_
    refine blockQ_n ?_
    refine seqQ_n ?_
    refine hx_region ?_
    refine hl_val rfl rfl (v := (.int .i64 i)) (hv_move rfl) ?_
    refine hl_val rfl rfl (v := (.int .i64 (IntKind.i64.wrap (i + 1)))) (hv_arith rfl rfl rfl) ?_
    refine hl_val rfl rfl (v := (.int .i64 (IntKind.i64.wrap (i + 1)))) (hv_assign rfl) ?_
    refine hl_nil ?_
    refine seqQ_n ?_
    exact ⟨IntKind.i64.wrap (i + 1), ⟨⟨H.1, trivial⟩, H.2⟩, (has_cons rfl (has_cons rfl (has_cons rfl has_nil)))⟩
  · replace H := H.2 hb15
    refine hx_exit ?_
    refine seqQ_exit ?_
    refine seqQ_exit ?_
    refine blockQ_here ?_
    refine seqQ_n ?_
    refine hx_seq ?_
    refine hx_region ?_
    refine hl_val rfl rfl (v := (ptr nb_1 0)) (hv_move rfl) ?_
    refine hl_val rfl rfl (v := (ptr nb_1 0)) (hv_assign rfl) ?_
    refine hl_nil ?_
    refine seqQ_n ?_
    refine hx_ret ?_
    exact endQ_ret _ (res_one Try.results38 (rv_tmp rfl)) H

/-- cellar/cellarref09.New -/
theorem f17_sh (n : Int) (h : Heap) (R : Value → Heap → Prop)
    (H : ((((decide (n < 2)) || (decide (n > 256))) = true → R (.tuple #[(.pointer none), (.int .i64 1)]) h) ∧ (((decide (n < 2)) || (decide (n > 256))) = false → HC Try.prog 38 #[(.int .i64 n)] h (fun vv h1 => ∃ r : Option Addr, vv = (.pointer r) ∧ (∃ (I5 : Int → Heap → Prop) (mu6 : Int → Heap → Nat), I5 0 h1 ∧ (∀ (i : Int) (h2 : Heap), I5 i h2 → (((decide (i < n)) = true → (∃ r_b r_o : Nat, r = some ⟨r_b, r_o, none⟩ ∧ (∃ x : Option Addr, ∃ x_n x_c : Nat, hcell h2 r_b (r_o + 1) = some (.slice x x_n x_c) ∧ (∀ nb h3, nb = Array.size h2 → h3 = Array.push h2 (.cells #[(.int .i64 i)] 3) → HAppend Try.prog 50 50 (.slice x x_n x_c) (.slice (some ⟨nb, 0, none⟩) 1 1) h3 (fun vv h4 => ∃ ap : Option Addr, ∃ ap_n ap_c : Nat, vv = (.slice ap ap_n ap_c) ∧ (HW h4 r_b (r_o + 1) ∧ ∀ h5, h5 = hset h4 r_b (r_o + 1) (.slice ap ap_n ap_c) → (I5 (IntKind.i64.wrap (i + 1)) h5 ∧ mu6 (IntKind.i64.wrap (i + 1)) h5 < mu6 i h2))))))) ∧ ((decide (i < n)) = false → R (.tuple #[(.pointer r), (.int .i64 0)]) h2)))))))) :
    HC Try.prog 17 #[(.int .i64 n)] h R := by
  refine hc_of (args := [(.int .i64 n)]) Try.func17 rfl Try.ntmps17 (Nat.le_of_ble_eq_true rfl) ?_
  refine hx_seq ?_
  refine hx_region ?_
  refine hl_val rfl rfl (v := (.pointer none)) (hv_assign rfl) ?_
  refine hl_val rfl rfl (v := (.int .i64 0)) (hv_assign rfl) ?_
  refine hl_nil ?_
  refine seqQ_n ?_
  refine hx_seq ?_
  refine hx_cut (fun ρ h' => h = h' ∧ Has ρ [(0, (.int .i64 n)), (11, (.bool ((decide (n < 2)) || (decide (n > 256)))))]) ?_ ?_
  · refine hx_region ?_
    refine hl_val rfl rfl (v := (.int .i64 n)) (hv_move rfl) ?_
    refine hl_val rfl rfl (v := (.bool (decide (n < 2)))) (hv_arith rfl rfl rfl) ?_
    refine hl_val rfl rfl (v := (.bool (decide (n < 2)))) (hv_move rfl) ?_
    rcases bool_or (decide (n < 2)) with hg3 | hg3
    · refine hl_no (wanted_n rfl rfl rfl hg3) rfl ?_
      refine hl_no (wanted_n rfl rfl rfl hg3) rfl ?_
      refine hl_val rfl rfl (v := (.bool true)) (hv_pick_t rfl hg3 rfl) ?_
      refine hl_nil ?_
      refine seqQ_n ?_
      exact ⟨rfl, (has_cons rfl (has_cons (show ((.bool true) : Value) = (.bool ((decide (n < 2)) || (decide (n > 256)))) from (by first | rfl | ((try rw [hg3]); all_goals first | rfl | (simp only [Bool.true_or, Bool.or_true, Bool.false_or, Bool.or_false, Bool.true_and, Bool.and_true, Bool.false_and, Bool.and_false, Bool.not_true, Bool.not_false, Bool.cond_true, Bool.cond_false]; done)) | simp [hg3])) has_nil))⟩
    · refine hl_yes (wanted_y rfl rfl rfl hg3) rfl (HStep.of_val (v := (.int .i64 n)) (hv_move rfl) ?_)
      refine hl_yes (wanted_y rfl rfl rfl hg3) rfl (HStep.of_val (v := (.bool (decide (n > 256)))) (hv_arith rfl rfl rfl) ?_)
      refine hl_val rfl rfl (v := (.bool (decide (n > 256)))) (hv_pick_f rfl hg3 rfl) ?_
      refine hl_nil ?_
      refine seqQ_n ?_
      exact ⟨rfl, (has_cons rfl (has_cons (show ((.bool (decide (n > 256))) : Value) = (.bool ((decide (n < 2)) || (decide (n > 256)))) from (by first | rfl | ((try rw [hg3]); all_goals first | rfl | (simp only [Bool.true_or, Bool.or_true, Bool.false_or, Bool.or_false, Bool.true_and, Bool.and_true, Bool.false_and, Bool.and_false, Bool.not_true, Bool.not_false, Bool.cond_true, Bool.cond_false]; done)) | simp [hg3])) has_nil))⟩
  · rintro ρ _ ⟨rfl, hH⟩
    refine hx_has _ hH ?_
    refine hx_cond (b := ((decide (n < 2)) || (decide (n > 256)))) rfl (fun hb4 => ?_) (fun hb4 => ?_)
    · replace H := H.1 hb4
      refine hx_seq ?_
      refine hx_region ?_
      refine hl_val rfl rfl (v := (.pointer none)) (hv_assign rfl) ?_
      refine hl_val rfl rfl (v := (.int .i64 1)) (hv_assign rfl) ?_
      refine hl_nil ?_
      refine seqQ_n ?_
      refine hx_ret ?_
      refine seqQ_ret ?_
      exact endQ_ret _ (res_two Try.results17 (rv_tmp rfl) (rv_tmp rfl)) H
    · replace H := H.2 hb4
      refine hx_skip ?_
      refine seqQ_n ?_
      refine hx_seq ?_
      refine hx_region ?_
      refine hl_val rfl rfl (v := (.int .i64 n)) (hv_move rfl) ?_
      refine hl_step rfl rfl (hs_call TyQB.cb38 (vs := [(.int .i64 n)]) rfl (HC.mono H ?_))
      rintro _ h1 ⟨r, rfl, H⟩
      refine hl_val rfl rfl (v := (.pointer r)) (hv_assign rfl) ?_
      refine hl_nil ?_
      refine seqQ_n ?_
      refine hx_seq ?_
      refine hx_seq ?_
      refine hx_region ?_
      refine hl_val rfl rfl (v := (.int .i64 0)) (hv_assign rfl) ?_
      refine hl_nil ?_
      refine seqQ_n ?_
      refine hx_block ?_
      obtain ⟨I5, mu6, Ha7, Hr8⟩ := H
      refine hx_loopT (σ := Int) (fun s => [(0, (.int .i64 n)), (4, (.pointer r)), (5, (.int .i64 s))]) (fun s h' => I5 s h' ∧ True) (fun s h' => mu6 s h') 0 ⟨Ha7, trivial⟩ (has_cons rfl (has_cons rfl (has_cons rfl has_nil))) ?_
      rintro i ρ h2 ⟨Hi9, -⟩
      have H := Hr8 i h2 Hi9
      refine hx_seq ?_
      refine hx_seq ?_
      refine hx_region ?_
      refine hl_val rfl rfl (v := (.int .i64 i)) (hv_move rfl) ?_
      refine hl_val rfl rfl (v := (.int .i64 n)) (hv_move rfl) ?_
      refine hl_val rfl rfl (v := (.bool (decide (i < n)))) (hv_arith rfl rfl rfl) ?_
      refine hl_nil ?_
      refine seqQ_n ?_
      refine hx_cond (b := decide (i < n)) rfl (fun hb10 => ?_) (fun hb10 => ?_)
      · replace H := H.1 hb10
        refine hx_skip ?_
        refine seqQ_n ?_
        refine hx_seq ?_
        refine hx_block ?_
        refine hx_region ?_
        refine hl_val rfl rfl (v := (.pointer r)) (hv_move rfl) ?_
        refine hl_val rfl rfl (v := (.pointer r)) (hv_move rfl) ?_
        obtain ⟨r_b, r_o, hqe, Hq⟩ := H
        subst hqe
        have H := Hq; clear Hq
        refine hl_val rfl rfl (v := (ptr r_b r_o)) (hv_nil rfl) ?_
        refine hl_val rfl rfl (v := (ptr r_b (r_o + 1))) (hv_field TyQB.fld78_1 (b := r_b) (o := r_o) rfl) ?_
        obtain ⟨x, x_n, x_c, hc11, H⟩ := H
        refine hl_val rfl rfl (v := (.slice x x_n x_c)) (hv_load TyQB.agg50 rfl hc11) ?_
        refine hl_val rfl rfl (v := (.int .i64 i)) (hv_move rfl) ?_
        refine hl_step rfl rfl (hn_buildSlice (n := 1) (vs := [(0, (.int .i64 i))]) (cs := #[(.int .i64 i)]) TyQB.u50 TyQB.sz3 TyQB.z3 rfl rfl (by kernel_rfl) ?_)
        intro nb h3 eb12 eh13
        replace H := H nb h3 eb12 eh13
        have xx14 : Ext h2 h3 := by rw [eh13]; exact Ext.push _ _
        refine hl_step rfl rfl (hs_append rfl rfl (HAppend.mono H ?_))
        rintro _ h4 ⟨ap, ap_n, ap_c, rfl, H⟩
        refine hl_val rfl rfl (v := (ptr r_b r_o)) (hv_nil rfl) ?_
        refine hl_val rfl rfl (v := (ptr r_b (r_o + 1))) (hv_field TyQB.fld78_1 (b := r_b) (o := r_o) rfl) ?_
        obtain ⟨hw16, H⟩ := H
        refine hl_step rfl rfl (hn_store (v := (.slice ap ap_n ap_c)) rfl rfl TyQB.sz50 rfl hw16 ?_)
        intro h5 eh15
        replace H := H h5 eh15
        refine hl_nil ?_
        refine blockQ_n ?_
        refine seqQ_n ?_
        refine hx_region ?_
        refine hl_val rfl rfl (v := (.int .i64 i)) (hv_move rfl) ?_
        refine hl_val rfl rfl (v := (.int .i64 (IntKind.i64.wrap (i + 1)))) (hv_arith rfl rfl rfl) ?_
        refine hl_val rfl rfl (v := (.int .i64 (IntKind.i64.wrap (i + 1)))) (hv_assign rfl) ?_
        refine hl_nil ?_
        refine seqQ_n ?_
        exact ⟨IntKind.i64.wrap (i + 1), ⟨⟨H.1, trivial⟩, H.2⟩, (has_cons rfl (has_cons rfl (has_cons rfl has_nil)))⟩
      · replace H := H.2 hb10
        refine hx_exit ?_
        refine seqQ_exit ?_
        refine seqQ_exit ?_
        refine blockQ_here ?_
        refine seqQ_n ?_
        refine hx_seq ?_
        refine hx_region ?_
        refine hl_val rfl rfl (v := (.pointer r)) (hv_move rfl) ?_
        refine hl_val rfl rfl (v := (.pointer r)) (hv_assign rfl) ?_
        refine hl_val rfl rfl (v := (.int .i64 0)) (hv_assign rfl) ?_
        refine hl_nil ?_
        refine seqQ_n ?_
        refine hx_ret ?_
        exact endQ_ret _ (res_two Try.results17 (rv_tmp rfl) (rv_tmp rfl)) H

/-- (*cellar/cellarref09.Man).Open -/
theorem f39_sh (m_b : Nat) (m_o : Nat) (h : Heap) (R : Value → Heap → Prop)
    (H : (∃ x : Int, hcell h m_b (m_o + 3) = some (.int .i64 x) ∧ (((decide (x ≥ 0)) = true → R (.tuple #[(.int .i64 0), (.int .u64 0), (.int .i64 91)]) h) ∧ ((decide (x ≥ 0)) = false → (∃ x_1 : Option Addr, ∃ x_n x_c : Nat, hcell h m_b (m_o + 1) = some (.slice x_1 x_n x_c) ∧ ((((x_n : Int) == 0) = true → R (.tuple #[(.int .i64 0), (.int .u64 0), (.int .i64 2)]) h) ∧ (((x_n : Int) == 0) = false → (∃ x_2 : Int, hcell h m_b (m_o + 2) = some (.int .u64 x_2) ∧ (((x_2 == 9223372036854775807) = true → R (.tuple #[(.int .i64 0), (.int .u64 0), (.int .i64 3)]) h) ∧ ((x_2 == 9223372036854775807) = false → (∃ x_1_b x_1_o : Nat, x_1 = some ⟨x_1_b, x_1_o, none⟩ ∧ (0 : Int) ≤ 0 ∧ 0 < (x_n : Int) ∧ (∃ x_3 : Int, hcell h x_1_b (x_1_o + (Int.toNat 0) * 1) = some (.int .i64 x_3) ∧ (HW h m_b (m_o + 3) ∧ ∀ h1, h1 = hset h m_b (m_o + 3) (.int .i64 x_3) → (∀ nb h2, nb = Array.size h1 → h2 = Array.push h1 (.cells #[] 3) → (∃ x_4 : Option Addr, ∃ x_n_1 x_c_1 : Nat, hcell h2 m_b (m_o + 1) = some (.slice x_4 x_n_1 x_c_1) ∧ (0 ≤ ((1 : Int) : Int) ∧ (1 : Int) ≤ (x_n_1 : Int) ∧ (x_n_1 : Int) ≤ (x_c_1 : Int) ∧ ∀ sl : Option Addr, sl = slA x_4 (Int.toNat 1) 1 x_c_1 → HAppend Try.prog 50 50 (.slice (some ⟨nb, 0, none⟩) 0 0) (.slice sl (Int.toNat (x_n_1 : Int) - Int.toNat 1) (x_c_1 - Int.toNat 1)) h2 (fun vv h3 => ∃ ap : Option Addr, ∃ ap_n ap_c : Nat, vv = (.slice ap ap_n ap_c) ∧ (HW h3 m_b (m_o + 1) ∧ ∀ h4, h4 = hset h3 m_b (m_o + 1) (.slice ap ap_n ap_c) → (∃ x_5 : Int, hcell h4 m_b (m_o + 2) = some (.int .u64 x_5) ∧ (HW h4 m_b (m_o + 2) ∧ ∀ h5, h5 = hset h4 m_b (m_o + 2) (.int .u64 (IntKind.u64.wrap (x_5 + 1))) → (∃ x_6 : Option Addr, ∃ x_n_2 x_c_2 : Nat, hcell h5 m_b m_o = some (.slice x_6 x_n_2 x_c_2) ∧ (∃ x_7 : Int, hcell h5 m_b (m_o + 3) = some (.int .i64 x_7) ∧ (∃ x_6_b x_6_o : Nat, x_6 = some ⟨x_6_b, x_6_o, none⟩ ∧ (0 : Int) ≤ x_7 ∧ x_7 < (x_n_2 : Int) ∧ (HW h5 x_6_b (x_6_o + (Int.toNat x_7) * 4) ∧ ∀ h6, h6 = hset h5 x_6_b (x_6_o + (Int.toNat x_7) * 4) (.int .i64 2) → (∃ x_8 : Option Addr, ∃ x_n_3 x_c_3 : Nat, hcell h6 m_b m_o = some (.slice x_8 x_n_3 x_c_3) ∧ (∃ x_9 : Int, hcell h6 m_b (m_o + 3) = some (.int .i64 x_9) ∧ (∃ x_10 : Int, hcell h6 m_b (m_o + 2) = some (.int .u64 x_10) ∧ (∃ x_8_b x_8_o : Nat, x_8 = some ⟨x_8_b, x_8_o, none⟩ ∧ (0 : Int) ≤ x_9 ∧ x_9 < (x_n_3 : Int) ∧ (HW h6 x_8_b ((x_8_o + (Int.toNat x_9) * 4) + 1) ∧ ∀ h7, h7 = hset h6 x_8_b ((x_8_o + (Int.toNat x_9) * 4) + 1) (.int .u64 x_10) → (∃ x_11 : Int, hcell h7 m_b (m_o + 3) = some (.int .i64 x_11) ∧ (∃ x_12 : Int, hcell h7 m_b (m_o + 2) = some (.int .u64 x_12) ∧ R (.tuple #[(.int .i64 x_11), (.int .u64 x_12), (.int .i64 0)]) h7))))))))))))))))))))))))))))))) :
    HC Try.prog 39 #[(ptr m_b m_o)] h R := by
  refine hc_of (args := [(ptr m_b m_o)]) Try.func39 rfl Try.ntmps39 (Nat.le_of_ble_eq_true rfl) ?_
  refine hx_seq ?_
  refine hx_region ?_
  refine hl_val rfl rfl (v := (.int .i64 0)) (hv_assign rfl) ?_
  refine hl_val rfl rfl (v := (.int .u64 0)) (hv_assign rfl) ?_
  refine hl_val rfl rfl (v := (.int .i64 0)) (hv_assign rfl) ?_
  refine hl_nil ?_
  refine seqQ_n ?_
  refine hx_seq ?_
  refine hx_seq ?_
  refine hx_region ?_
  refine hl_val rfl rfl (v := (ptr m_b m_o)) (hv_move rfl) ?_
  refine hl_val rfl rfl (v := (ptr m_b m_o)) (hv_nil rfl) ?_
  refine hl_val rfl rfl (v := (ptr m_b (m_o + 3))) (hv_field TyQB.fld78_3 (b := m_b) (o := m_o) rfl) ?_
  obtain ⟨x, hc1, H⟩ := H
  refine hl_val rfl rfl (v := (.int .i64 x)) (hv_load TyQB.agg3 rfl hc1) ?_
  refine hl_val rfl rfl (v := (.bool (decide (x ≥ 0)))) (hv_arith rfl rfl rfl) ?_
  refine hl_nil ?_
  refine seqQ_n ?_
  refine hx_cond (b := decide (x ≥ 0)) rfl (fun hb2 => ?_) (fun hb2 => ?_)
  · replace H := H.1 hb2
    refine hx_seq ?_
    refine hx_region ?_
    refine hl_val rfl rfl (v := (.int .i64 0)) (hv_assign rfl) ?_
    refine hl_val rfl rfl (v := (.int .u64 0)) (hv_assign rfl) ?_
    refine hl_val rfl rfl (v := (.int .i64 91)) (hv_assign rfl) ?_
    refine hl_nil ?_
    refine seqQ_n ?_
    refine hx_ret ?_
    refine seqQ_ret ?_
    exact endQ_ret _ (res_three Try.results39 (rv_tmp rfl) (rv_tmp rfl) (rv_tmp rfl)) H
  · replace H := H.2 hb2
    refine hx_skip ?_
    refine seqQ_n ?_
    refine hx_seq ?_
    refine hx_seq ?_
    refine hx_region ?_
    refine hl_val rfl rfl (v := (ptr m_b m_o)) (hv_move rfl) ?_
    refine hl_val rfl rfl (v := (ptr m_b m_o)) (hv_nil rfl) ?_
    refine hl_val rfl rfl (v := (ptr m_b (m_o + 1))) (hv_field TyQB.fld78_1 (b := m_b) (o := m_o) rfl) ?_
    obtain ⟨x_1, x_n, x_c, hc3, H⟩ := H
    refine hl_val rfl rfl (v := (.slice x_1 x_n x_c)) (hv_load TyQB.agg50 rfl hc3) ?_
    refine hl_val rfl rfl (v := (.int .i64 (x_n : Int))) (hv_len (n := x_n) TyQB.u50 rfl) ?_
    refine hl_val rfl rfl (v := (.bool ((x_n : Int) == 0))) (hv_arith rfl rfl rfl) ?_
    refine hl_nil ?_
    refine seqQ_n ?_
    refine hx_cond (b := (x_n : Int) == 0) rfl (fun hb4 => ?_) (fun hb4 => ?_)
    · replace H := H.1 hb4
      refine hx_seq ?_
      refine hx_region ?_
      refine hl_val rfl rfl (v := (.int .i64 0)) (hv_assign rfl) ?_
      refine hl_val rfl rfl (v := (.int .u64 0)) (hv_assign rfl) ?_
      refine hl_val rfl rfl (v := (.int .i64 2)) (hv_assign rfl) ?_
      refine hl_nil ?_
      refine seqQ_n ?_
      refine hx_ret ?_
      refine seqQ_ret ?_
      exact endQ_ret _ (res_three Try.results39 (rv_tmp rfl) (rv_tmp rfl) (rv_tmp rfl)) H
    · replace H := H.2 hb4
      refine hx_skip ?_
      refine seqQ_n ?_
      refine hx_seq ?_
      refine hx_seq ?_
      refine hx_region ?_
      refine hl_val rfl rfl (v := (ptr m_b m_o)) (hv_move rfl) ?_
      refine hl_val rfl rfl (v := (ptr m_b m_o)) (hv_nil rfl) ?_
      refine hl_val rfl rfl (v := (ptr m_b (m_o + 2))) (hv_field TyQB.fld78_2 (b := m_b) (o := m_o) rfl) ?_
      obtain ⟨x_2, hc5, H⟩ := H
      refine hl_val rfl rfl (v := (.int .u64 x_2)) (hv_load TyQB.agg29 rfl hc5) ?_
      refine hl_val rfl rfl (v := (.bool (x_2 == 9223372036854775807))) (hv_arith rfl rfl rfl) ?_
      refine hl_nil ?_
      refine seqQ_n ?_
      refine hx_cond (b := x_2 == 9223372036854775807) rfl (fun hb6 => ?_) (fun hb6 => ?_)
      · replace H := H.1 hb6
        refine hx_seq ?_
        refine hx_region ?_
        refine hl_val rfl rfl (v := (.int .i64 0)) (hv_assign rfl) ?_
        refine hl_val rfl rfl (v := (.int .u64 0)) (hv_assign rfl) ?_
        refine hl_val rfl rfl (v := (.int .i64 3)) (hv_assign rfl) ?_
        refine hl_nil ?_
        refine seqQ_n ?_
        refine hx_ret ?_
        refine seqQ_ret ?_
        exact endQ_ret _ (res_three Try.results39 (rv_tmp rfl) (rv_tmp rfl) (rv_tmp rfl)) H
      · replace H := H.2 hb6
        refine hx_skip ?_
        refine seqQ_n ?_
        refine hx_seq ?_
        refine hx_region ?_
        refine hl_val rfl rfl (v := (ptr m_b m_o)) (hv_move rfl) ?_
        refine hl_val rfl rfl (v := (ptr m_b m_o)) (hv_move rfl) ?_
        refine hl_val rfl rfl (v := (ptr m_b m_o)) (hv_nil rfl) ?_
        refine hl_val rfl rfl (v := (ptr m_b (m_o + 1))) (hv_field TyQB.fld78_1 (b := m_b) (o := m_o) rfl) ?_
        refine hl_val rfl rfl (v := (.slice x_1 x_n x_c)) (hv_load TyQB.agg50 rfl hc3) ?_
        obtain ⟨x_1_b, x_1_o, hqe, hi7, hi8, Hq⟩ := H
        subst hqe
        have H := Hq; clear Hq
        refine hl_val rfl rfl (v := (ptr x_1_b (x_1_o + (Int.toNat 0) * 1))) (hv_index TyQB.el50 rfl rfl hi7 hi8) ?_
        obtain ⟨x_3, hc9, H⟩ := H
        refine hl_val rfl rfl (v := (.int .i64 x_3)) (hv_load TyQB.agg3 rfl hc9) ?_
        refine hl_val rfl rfl (v := (ptr m_b m_o)) (hv_nil rfl) ?_
        refine hl_val rfl rfl (v := (ptr m_b (m_o + 3))) (hv_field TyQB.fld78_3 (b := m_b) (o := m_o) rfl) ?_
        obtain ⟨hw11, H⟩ := H
        refine hl_step rfl rfl (hn_store (v := (.int .i64 x_3)) rfl rfl TyQB.sz3 rfl hw11 ?_)
        intro h1 eh10
        replace H := H h1 eh10
        refine hl_nil ?_
        refine seqQ_n ?_
        refine hx_seq ?_
        refine hx_region ?_
        refine hl_val rfl rfl (v := (ptr m_b m_o)) (hv_move rfl) ?_
        refine hl_step rfl rfl (hn_buildSlice (n := 0) (vs := []) (cs := #[]) TyQB.u50 TyQB.sz3 TyQB.z3 rfl rfl (by kernel_rfl) ?_)
        intro nb h2 eb12 eh13
        replace H := H nb h2 eb12 eh13
        have xx14 : Ext h1 h2 := by rw [eh13]; exact Ext.push _ _
        refine hl_val rfl rfl (v := (ptr m_b m_o)) (hv_move rfl) ?_
        refine hl_val rfl rfl (v := (ptr m_b m_o)) (hv_nil rfl) ?_
        refine hl_val rfl rfl (v := (ptr m_b (m_o + 1))) (hv_field TyQB.fld78_1 (b := m_b) (o := m_o) rfl) ?_
        obtain ⟨x_4, x_n_1, x_c_1, hc15, H⟩ := H
        refine hl_val rfl rfl (v := (.slice x_4 x_n_1 x_c_1)) (hv_load TyQB.agg50 rfl hc15) ?_
        obtain ⟨hs16, hs17, hs18, H⟩ := H
        obtain ⟨sl, hq19⟩ : ∃ q, q = slA x_4 (Int.toNat 1) 1 x_c_1 := ⟨_, rfl⟩
        replace H := H sl hq19
        refine hl_val rfl rfl (v := (.slice sl (Int.toNat (x_n_1 : Int) - Int.toNat 1) (x_c_1 - Int.toNat 1))) (hv_slice (l := 1) (r := (x_n_1 : Int)) TyQB.u50 TyQB.sz3 rfl (sl_some rfl) sh_none hs16 hs17 hs18 hq19) ?_
        refine hl_step rfl rfl (hs_append rfl rfl (HAppend.mono H ?_))
        rintro _ h3 ⟨ap, ap_n, ap_c, rfl, H⟩
        refine hl_val rfl rfl (v := (ptr m_b m_o)) (hv_nil rfl) ?_
        refine hl_val rfl rfl (v := (ptr m_b (m_o + 1))) (hv_field TyQB.fld78_1 (b := m_b) (o := m_o) rfl) ?_
        obtain ⟨hw21, H⟩ := H
        refine hl_step rfl rfl (hn_store (v := (.slice ap ap_n ap_c)) rfl rfl TyQB.sz50 rfl hw21 ?_)
        intro h4 eh20
        replace H := H h4 eh20
        refine hl_nil ?_
        refine seqQ_n ?_
        refine hx_seq ?_
        refine hx_region ?_
        refine hl_val rfl rfl (v := (ptr m_b m_o)) (hv_move rfl) ?_
        refine hl_val rfl rfl (v := (ptr m_b m_o)) (hv_nil rfl) ?_
        refine hl_val rfl rfl (v := (ptr m_b (m_o + 2))) (hv_field TyQB.fld78_2 (b := m_b) (o := m_o) rfl) ?_
        obtain ⟨x_5, hc22, H⟩ := H
        refine hl_val rfl rfl (v := (.int .u64 x_5)) (hv_load TyQB.agg29 rfl hc22) ?_
        refine hl_val rfl rfl (v := (.int .u64 (IntKind.u64.wrap (x_5 + 1)))) (hv_arith rfl rfl rfl) ?_
        refine hl_val rfl rfl (v := (ptr m_b m_o)) (hv_nil rfl) ?_
        refine hl_val rfl rfl (v := (ptr m_b (m_o + 2))) (hv_field TyQB.fld78_2 (b := m_b) (o := m_o) rfl) ?_
        obtain ⟨hw24, H⟩ := H
        refine hl_step rfl rfl (hn_store (v := (.int .u64 (IntKind.u64.wrap (x_5 + 1)))) rfl rfl TyQB.sz29 rfl hw24 ?_)
        intro h5 eh23
        replace H := H h5 eh23
        refine hl_nil ?_
        refine seqQ_n ?_
        refine hx_seq ?_
        refine hx_draw TyQB.mixed [.pure, .pure, .pure, .read, .pure, .pure, .pure, .read, .pure, .pure, .wild] [0, 1, 2, 3, 4, 5, 6, 7, 8, 9, 10] (by kernel_rfl) ?_
        refine hp_pure (i := 0) rfl (wanted_0 rfl) rfl (ptr m_b m_o) (fun _ => hv_move rfl) ?_
        refine hp_pure (i := 1) rfl (wanted_0 rfl) rfl (ptr m_b m_o) (fun _ => hv_nil rfl) ?_
        refine hp_pure (i := 2) rfl (wanted_0 rfl) rfl (ptr m_b m_o) (fun _ => hv_field TyQB.fld78_0 (b := m_b) (o := m_o) rfl) ?_
        obtain ⟨x_6, x_n_2, x_c_2, hc25, H⟩ := H
        refine hp_read (i := 3) rfl (wanted_0 rfl) rfl (.slice x_6 x_n_2 x_c_2) (fun _ he => hv_load TyQB.agg28 rfl (Ext.cell he hc25)) ?_
        refine hp_pure (i := 4) rfl (wanted_0 rfl) rfl (ptr m_b m_o) (fun _ => hv_move rfl) ?_
        refine hp_pure (i := 5) rfl (wanted_0 rfl) rfl (ptr m_b m_o) (fun _ => hv_nil rfl) ?_
        refine hp_pure (i := 6) rfl (wanted_0 rfl) rfl (ptr m_b (m_o + 3)) (fun _ => hv_field TyQB.fld78_3 (b := m_b) (o := m_o) rfl) ?_
        obtain ⟨x_7, hc26, H⟩ := H
        refine hp_read (i := 7) rfl (wanted_0 rfl) rfl (.int .i64 x_7) (fun _ he => hv_load TyQB.agg3 rfl (Ext.cell he hc26)) ?_
        obtain ⟨x_6_b, x_6_o, hqe, hi27, hi28, Hq⟩ := H
        subst hqe
        have H := Hq; clear Hq
        refine hp_pure (i := 8) rfl (wanted_0 rfl) rfl (ptr x_6_b (x_6_o + (Int.toNat x_7) * 4)) (fun _ => hv_index TyQB.el28 rfl rfl hi27 hi28) ?_
        refine hp_pure (i := 9) rfl (wanted_0 rfl) rfl (ptr x_6_b (x_6_o + (Int.toNat x_7) * 4)) (fun _ => hv_field TyQB.fld31_0 (b := x_6_b) (o := x_6_o + (Int.toNat x_7) * 4) rfl) ?_
        obtain ⟨hw30, H⟩ := H
        refine hp_wild (i := 10) rfl (wanted_0 rfl) rfl (hn_store (v := (.int .i64 2)) rfl rfl TyQB.sz3 rfl hw30 ?_)
        intro h6 eh29
        replace H := H h6 eh29
        refine hp_nil ?_
        refine seqQ_n ?_
        refine hx_seq ?_
        refine hx_draw TyQB.mixed [.pure, .pure, .pure, .read, .pure, .pure, .pure, .read, .pure, .pure, .pure, .read, .pure, .pure, .wild] [0, 1, 2, 3, 4, 5, 6, 7, 8, 9, 10, 11, 12, 13, 14] (by kernel_rfl) ?_
        refine hp_pure (i := 0) rfl (wanted_0 rfl) rfl (ptr m_b m_o) (fun _ => hv_move rfl) ?_
        refine hp_pure (i := 1) rfl (wanted_0 rfl) rfl (ptr m_b m_o) (fun _ => hv_nil rfl) ?_
        refine hp_pure (i := 2) rfl (wanted_0 rfl) rfl (ptr m_b m_o) (fun _ => hv_field TyQB.fld78_0 (b := m_b) (o := m_o) rfl) ?_
        obtain ⟨x_8, x_n_3, x_c_3, hc31, H⟩ := H
        refine hp_read (i := 3) rfl (wanted_0 rfl) rfl (.slice x_8 x_n_3 x_c_3) (fun _ he => hv_load TyQB.agg28 rfl (Ext.cell he hc31)) ?_
        refine hp_pure (i := 4) rfl (wanted_0 rfl) rfl (ptr m_b m_o) (fun _ => hv_move rfl) ?_
        refine hp_pure (i := 5) rfl (wanted_0 rfl) rfl (ptr m_b m_o) (fun _ => hv_nil rfl) ?_
        refine hp_pure (i := 6) rfl (wanted_0 rfl) rfl (ptr m_b (m_o + 3)) (fun _ => hv_field TyQB.fld78_3 (b := m_b) (o := m_o) rfl) ?_
        obtain ⟨x_9, hc32, H⟩ := H
        refine hp_read (i := 7) rfl (wanted_0 rfl) rfl (.int .i64 x_9) (fun _ he => hv_load TyQB.agg3 rfl (Ext.cell he hc32)) ?_
        refine hp_pure (i := 8) rfl (wanted_0 rfl) rfl (ptr m_b m_o) (fun _ => hv_move rfl) ?_
        refine hp_pure (i := 9) rfl (wanted_0 rfl) rfl (ptr m_b m_o) (fun _ => hv_nil rfl) ?_
        refine hp_pure (i := 10) rfl (wanted_0 rfl) rfl (ptr m_b (m_o + 2)) (fun _ => hv_field TyQB.fld78_2 (b := m_b) (o := m_o) rfl) ?_
        obtain ⟨x_10, hc33, H⟩ := H
        refine hp_read (i := 11) rfl (wanted_0 rfl) rfl (.int .u64 x_10) (fun _ he => hv_load TyQB.agg29 rfl (Ext.cell he hc33)) ?_
        obtain ⟨x_8_b, x_8_o, hqe, hi34, hi35, Hq⟩ := H
        subst hqe
        have H := Hq; clear Hq
        refine hp_pure (i := 12) rfl (wanted_0 rfl) rfl (ptr x_8_b (x_8_o + (Int.toNat x_9) * 4)) (fun _ => hv_index TyQB.el28 rfl rfl hi34 hi35) ?_
        refine hp_pure (i := 13) rfl (wanted_0 rfl) rfl (ptr x_8_b ((x_8_o + (Int.toNat x_9) * 4) + 1)) (fun _ => hv_field TyQB.fld31_1 (b := x_8_b) (o := x_8_o + (Int.toNat x_9) * 4) rfl) ?_
        obtain ⟨hw37, H⟩ := H
        refine hp_wild (i := 14) rfl (wanted_0 rfl) rfl (hn_store (v := (.int .u64 x_10)) rfl rfl TyQB.sz29 rfl hw37 ?_)
        intro h7 eh36
        replace H := H h7 eh36
        refine hp_nil ?_
        refine seqQ_n ?_
        refine hx_seq ?_
        refine hx_draw TyQB.mixed [.pure, .pure, .pure, .read, .pure, .pure, .pure, .read, .pure, .pure, .pure] [0, 1, 2, 3, 4, 5, 6, 7, 8, 9, 10] (by kernel_rfl) ?_
        refine hp_pure (i := 0) rfl (wanted_0 rfl) rfl (ptr m_b m_o) (fun _ => hv_move rfl) ?_
        refine hp_pure (i := 1) rfl (wanted_0 rfl) rfl (ptr m_b m_o) (fun _ => hv_nil rfl) ?_
        refine hp_pure (i := 2) rfl (wanted_0 rfl) rfl (ptr m_b (m_o + 3)) (fun _ => hv_field TyQB.fld78_3 (b := m_b) (o := m_o) rfl) ?_
        obtain ⟨x_11, hc38, H⟩ := H
        refine hp_read (i := 3) rfl (wanted_0 rfl) rfl (.int .i64 x_11) (fun _ he => hv_load TyQB.agg3 rfl (Ext.cell he hc38)) ?_
        refine hp_pure (i := 4) rfl (wanted_0 rfl) rfl (ptr m_b m_o) (fun _ => hv_move rfl) ?_
        refine hp_pure (i := 5) rfl (wanted_0 rfl) rfl (ptr m_b m_o) (fun _ => hv_nil rfl) ?_
        refine hp_pure (i := 6) rfl (wanted_0 rfl) rfl (ptr m_b (m_o + 2)) (fun _ => hv_field TyQB.fld78_2 (b := m_b) (o := m_o) rfl) ?_
        obtain ⟨x_12, hc39, H⟩ := H
        refine hp_read (i := 7) rfl (wanted_0 rfl) rfl (.int .u64 x_12) (fun _ he => hv_load TyQB.agg29 rfl (Ext.cell he hc39)) ?_
        refine hp_pure (i := 8) rfl (wanted_0 rfl) rfl (.int .i64 x_11) (fun _ => hv_assign rfl) ?_
        refine hp_pure (i := 9) rfl (wanted_0 rfl) rfl (.int .u64 x_12) (fun _ => hv_assign rfl) ?_
        refine hp_pure (i := 10) rfl (wanted_0 rfl) rfl (.int .i64 0) (fun _ => hv_assign rfl) ?_
        refine hp_nil ?_
        refine seqQ_n ?_
        refine hx_ret ?_
        exact endQ_ret _ (res_three Try.results39 (rv_tmp rfl) (rv_tmp rfl) (rv_tmp rfl)) H

/-- (*cellar/cellarref09.Man).Seal -/
theorem f40_sh (m_b : Nat) (m_o : Nat) (h : Heap) (R : Value → Heap → Prop)
    (H : (∃ x : Int, hcell h m_b (m_o + 3) = some (.int .i64 x) ∧ (((decide (x < 0)) = true → R (.int .i64 91) h) ∧ ((decide (x < 0)) = false → (∃ x_1 : Option Addr, ∃ x_n x_c : Nat, hcell h m_b m_o = some (.slice x_1 x_n x_c) ∧ (∃ x_1_b x_1_o : Nat, x_1 = some ⟨x_1_b, x_1_o, none⟩ ∧ (0 : Int) ≤ x ∧ x < (x_n : Int) ∧ (HW h x_1_b (x_1_o + (Int.toNat x) * 4) ∧ ∀ h1, h1 = hset h x_1_b (x_1_o + (Int.toNat x) * 4) (.int .i64 3) → (HW h1 m_b (m_o + 3) ∧ ∀ h2, h2 = hset h1 m_b (m_o + 3) (.int .i64 (-1)) → R (.int .i64 0) h2)))))))) :
    HC Try.prog 40 #[(ptr m_b m_o)] h R := by
  refine hc_of (args := [(ptr m_b m_o)]) Try.func40 rfl Try.ntmps40 (Nat.le_of_ble_eq_true rfl) ?_
  refine hx_seq ?_
  refine hx_region ?_
  refine hl_val rfl rfl (v := (.int .i64 0)) (hv_assign rfl) ?_
  refine hl_nil ?_
  refine seqQ_n ?_
  refine hx_seq ?_
  refine hx_seq ?_
  refine hx_region ?_
  refine hl_val rfl rfl (v := (ptr m_b m_o)) (hv_move rfl) ?_
  refine hl_val rfl rfl (v := (ptr m_b m_o)) (hv_nil rfl) ?_
  refine hl_val rfl rfl (v := (ptr m_b (m_o + 3))) (hv_field TyQB.fld78_3 (b := m_b) (o := m_o) rfl) ?_
  obtain ⟨x, hc1, H⟩ := H
  refine hl_val rfl rfl (v := (.int .i64 x)) (hv_load TyQB.agg3 rfl hc1) ?_
  refine hl_val rfl rfl (v := (.bool (decide (x < 0)))) (hv_arith rfl rfl rfl) ?_
  refine hl_nil ?_
  refine seqQ_n ?_
  refine hx_cond (b := decide (x < 0)) rfl (fun hb2 => ?_) (fun hb2 => ?_)
  · replace H := H.1 hb2
    refine hx_seq ?_
    refine hx_region ?_
    refine hl_val rfl rfl (v := (.int .i64 91)) (hv_assign rfl) ?_
    refine hl_nil ?_
    refine seqQ_n ?_
    refine hx_ret ?_
    refine seqQ_ret ?_
    exact endQ_ret _ (res_one Try.results40 (rv_tmp rfl)) H
  · replace H := H.2 hb2
    refine hx_skip ?_
    refine seqQ_n ?_
    refine hx_seq ?_
    refine hx_draw TyQB.mixed [.pure, .pure, .pure, .read, .pure, .pure, .pure, .read, .pure, .pure, .wild] [0, 1, 2, 3, 4, 5, 6, 7, 8, 9, 10] (by kernel_rfl) ?_
    refine hp_pure (i := 0) rfl (wanted_0 rfl) rfl (ptr m_b m_o) (fun _ => hv_move rfl) ?_
    refine hp_pure (i := 1) rfl (wanted_0 rfl) rfl (ptr m_b m_o) (fun _ => hv_nil rfl) ?_
    refine hp_pure (i := 2) rfl (wanted_0 rfl) rfl (ptr m_b m_o) (fun _ => hv_field TyQB.fld78_0 (b := m_b) (o := m_o) rfl) ?_
    obtain ⟨x_1, x_n, x_c, hc3, H⟩ := H
    refine hp_read (i := 3) rfl (wanted_0 rfl) rfl (.slice x_1 x_n x_c) (fun _ he => hv_load TyQB.agg28 rfl (Ext.cell he hc3)) ?_
    refine hp_pure (i := 4) rfl (wanted_0 rfl) rfl (ptr m_b m_o) (fun _ => hv_move rfl) ?_
    refine hp_pure (i := 5) rfl (wanted_0 rfl) rfl (ptr m_b m_o) (fun _ => hv_nil rfl) ?_
    refine hp_pure (i := 6) rfl (wanted_0 rfl) rfl (ptr m_b (m_o + 3)) (fun _ => hv_field TyQB.fld78_3 (b := m_b) (o := m_o) rfl) ?_
    refine hp_read (i := 7) rfl (wanted_0 rfl) rfl (.int .i64 x) (fun _ he => hv_load TyQB.agg3 rfl (Ext.cell he hc1)) ?_
    obtain ⟨x_1_b, x_1_o, hqe, hi4, hi5, Hq⟩ := H
    subst hqe
    have H := Hq; clear Hq
    refine hp_pure (i := 8) rfl (wanted_0 rfl) rfl (ptr x_1_b (x_1_o + (Int.toNat x) * 4)) (fun _ => hv_index TyQB.el28 rfl rfl hi4 hi5) ?_
    refine hp_pure (i := 9) rfl (wanted_0 rfl) rfl (ptr x_1_b (x_1_o + (Int.toNat x) * 4)) (fun _ => hv_field TyQB.fld31_0 (b := x_1_b) (o := x_1_o + (Int.toNat x) * 4) rfl) ?_
    obtain ⟨hw7, H⟩ := H
    refine hp_wild (i := 10) rfl (wanted_0 rfl) rfl (hn_store (v := (.int .i64 3)) rfl rfl TyQB.sz3 rfl hw7 ?_)
    intro h1 eh6
    replace H := H h1 eh6
    refine hp_nil ?_
    refine seqQ_n ?_
    refine hx_seq ?_
    refine hx_region ?_
    refine hl_val rfl rfl (v := (ptr m_b m_o)) (hv_move rfl) ?_
    refine hl_val rfl rfl (v := (ptr m_b m_o)) (hv_nil rfl) ?_
    refine hl_val rfl rfl (v := (ptr m_b (m_o + 3))) (hv_field TyQB.fld78_3 (b := m_b) (o := m_o) rfl) ?_
    obtain ⟨hw9, H⟩ := H
    refine hl_step rfl rfl (hn_store (v := (.int .i64 (-1))) rfl rfl TyQB.sz3 rfl hw9 ?_)
    intro h2 eh8
    replace H := H h2 eh8
    refine hl_nil ?_
    refine seqQ_n ?_
    refine hx_seq ?_
    refine hx_region ?_
    refine hl_val rfl rfl (v := (.int .i64 0)) (hv_assign rfl) ?_
    refine hl_nil ?_
    refine seqQ_n ?_
    refine hx_ret ?_
    exact endQ_ret _ (res_one Try.results40 (rv_tmp rfl)) H

/-- (*cellar/cellarref09.Man).Mark -/
theorem f41_sh (m_b : Nat) (m_o : Nat) (r : Int) (h : Heap) (R : Value → Heap → Prop)
    (H : (∃ r_1 : Bool, HC Try.prog 56 #[(ptr m_b m_o), (.int .i64 r)] h (fun vv h' => vv = (.bool r_1) ∧ h' = h) ∧ (((!r_1) = true → R (.int .i64 90) h) ∧ ((!r_1) = false → (∃ x : Option Addr, ∃ x_n x_c : Nat, hcell h m_b m_o = some (.slice x x_n x_c) ∧ (∃ x_b x_o : Nat, x = some ⟨x_b, x_o, none⟩ ∧ (0 : Int) ≤ r ∧ r < (x_n : Int) ∧ (∃ x_1 : Int, hcell h x_b (x_o + (Int.toNat r) * 4) = some (.int .i64 x_1) ∧ (((x_1 != 3) = true → R (.int .i64 91) h) ∧ ((x_1 != 3) = false → (HW h x_b (x_o + (Int.toNat r) * 4) ∧ ∀ h1, h1 = hset h x_b (x_o + (Int.toNat r) * 4) (.int .i64 4) → R (.int .i64 0) h1)))))))))) :
    HC Try.prog 41 #[(ptr m_b m_o), (.int .i64 r)] h R := by
  refine hc_of (args := [(ptr m_b m_o), (.int .i64 r)]) Try.func41 rfl Try.ntmps41 (Nat.le_of_ble_eq_true rfl) ?_
  refine hx_seq ?_
  refine hx_region ?_
  refine hl_val rfl rfl (v := (.int .i64 0)) (hv_assign rfl) ?_
  refine hl_nil ?_
  refine seqQ_n ?_
  refine hx_seq ?_
  refine hx_seq ?_
  refine hx_region ?_
  refine hl_val rfl rfl (v := (ptr m_b m_o)) (hv_move rfl) ?_
  refine hl_val rfl rfl (v := (.int .i64 r)) (hv_move rfl) ?_
  obtain ⟨r_1, hr1, H⟩ := H
  refine hl_val rfl rfl (v := (.bool r_1)) (hv_call TyQB.cb56 (vs := [(ptr m_b m_o), (.int .i64 r)]) rfl hr1) ?_
  refine hl_val rfl rfl (v := (.bool (!r_1))) (hv_not (b := r_1) rfl) ?_
  refine hl_nil ?_
  refine seqQ_n ?_
  refine hx_cond (b := !r_1) rfl (fun hb2 => ?_) (fun hb2 => ?_)
  · replace H := H.1 hb2
    refine hx_seq ?_
    refine hx_region ?_
    refine hl_val rfl rfl (v := (.int .i64 90)) (hv_assign rfl) ?_
    refine hl_nil ?_
    refine seqQ_n ?_
    refine hx_ret ?_
    refine seqQ_ret ?_
    exact endQ_ret _ (res_one Try.results41 (rv_tmp rfl)) H
  · replace H := H.2 hb2
    refine hx_skip ?_
    refine seqQ_n ?_
    refine hx_seq ?_
    refine hx_seq ?_
    refine hx_region ?_
    refine hl_val rfl rfl (v := (ptr m_b m_o)) (hv_move rfl) ?_
    refine hl_val rfl rfl (v := (ptr m_b m_o)) (hv_nil rfl) ?_
    refine hl_val rfl rfl (v := (ptr m_b m_o)) (hv_field TyQB.fld78_0 (b := m_b) (o := m_o) rfl) ?_
    obtain ⟨x, x_n, x_c, hc3, H⟩ := H
    refine hl_val rfl rfl (v := (.slice x x_n x_c)) (hv_load TyQB.agg28 rfl hc3) ?_
    refine hl_val rfl rfl (v := (.int .i64 r)) (hv_move rfl) ?_
    obtain ⟨x_b, x_o, hqe, hi4, hi5, Hq⟩ := H
    subst hqe
    have H := Hq; clear Hq
    refine hl_val rfl rfl (v := (ptr x_b (x_o + (Int.toNat r) * 4))) (hv_index TyQB.el28 rfl rfl hi4 hi5) ?_
    refine hl_val rfl rfl (v := (ptr x_b (x_o + (Int.toNat r) * 4))) (hv_field TyQB.fld31_0 (b := x_b) (o := x_o + (Int.toNat r) * 4) rfl) ?_
    obtain ⟨x_1, hc6, H⟩ := H
    refine hl_val rfl rfl (v := (.int .i64 x_1)) (hv_load TyQB.agg3 rfl hc6) ?_
    refine hl_val rfl rfl (v := (.bool (x_1 != 3))) (hv_arith rfl rfl rfl) ?_
    refine hl_nil ?_
    refine seqQ_n ?_
    refine hx_cond (b := x_1 != 3) rfl (fun hb7 => ?_) (fun hb7 => ?_)
    · replace H := H.1 hb7
      refine hx_seq ?_
      refine hx_region ?_
      refine hl_val rfl rfl (v := (.int .i64 91)) (hv_assign rfl) ?_
      refine hl_nil ?_
      refine seqQ_n ?_
      refine hx_ret ?_
      refine seqQ_ret ?_
      exact endQ_ret _ (res_one Try.results41 (rv_tmp rfl)) H
    · replace H := H.2 hb7
      refine hx_skip ?_
      refine seqQ_n ?_
      refine hx_seq ?_
      refine hx_region ?_
      refine hl_val rfl rfl (v := (ptr m_b m_o)) (hv_move rfl) ?_
      refine hl_val rfl rfl (v := (ptr m_b m_o)) (hv_nil rfl) ?_
      refine hl_val rfl rfl (v := (ptr m_b m_o)) (hv_field TyQB.fld78_0 (b := m_b) (o := m_o) rfl) ?_
      refine hl_val rfl rfl (v := (.slice (some ⟨x_b, x_o, none⟩) x_n x_c)) (hv_load TyQB.agg28 rfl hc3) ?_
      refine hl_val rfl rfl (v := (.int .i64 r)) (hv_move rfl) ?_
      refine hl_val rfl rfl (v := (ptr x_b (x_o + (Int.toNat r) * 4))) (hv_index TyQB.el28 rfl rfl hi4 hi5) ?_
      refine hl_val rfl rfl (v := (ptr x_b (x_o + (Int.toNat r) * 4))) (hv_field TyQB.fld31_0 (b := x_b) (o := x_o + (Int.toNat r) * 4) rfl) ?_
      obtain ⟨hw11, H⟩ := H
      refine hl_step rfl rfl (hn_store (v := (.int .i64 4)) rfl rfl TyQB.sz3 rfl hw11 ?_)
      intro h1 eh10
      replace H := H h1 eh10
      refine hl_nil ?_
      refine seqQ_n ?_
      refine hx_seq ?_
      refine hx_region ?_
      refine hl_val rfl rfl (v := (.int .i64 0)) (hv_assign rfl) ?_
      refine hl_nil ?_
      refine seqQ_n ?_
      refine hx_ret ?_
      exact endQ_ret _ (res_one Try.results41 (rv_tmp rfl)) H

/-- (*cellar/cellarref09.Man).Drain -/
theorem f42_sh (m_b : Nat) (m_o : Nat) (task : Int) (r : Int) (h : Heap) (R : Value → Heap → Prop)
    (H : (∃ r_1 : Bool, HC Try.prog 56 #[(ptr m_b m_o), (.int .i64 r)] h (fun vv h' => vv = (.bool r_1) ∧ h' = h) ∧ (((!r_1) = true → R (.tuple #[(.bool false), (.int .i64 90)]) h) ∧ ((!r_1) = false → (∃ x : Option Addr, ∃ x_n x_c : Nat, hcell h m_b m_o = some (.slice x x_n x_c) ∧ (∃ x_b x_o : Nat, x = some ⟨x_b, x_o, none⟩ ∧ (0 : Int) ≤ r ∧ r < (x_n : Int) ∧ (∃ x_1 : Int, hcell h x_b (x_o + (Int.toNat r) * 4) = some (.int .i64 x_1) ∧ (((x_1 != 4) = true → R (.tuple #[(.bool false), (.int .i64 91)]) h) ∧ ((x_1 != 4) = false → (∃ x_2 : Int, hcell h x_b ((x_o + (Int.toNat r) * 4) + 2) = some (.int .i64 x_2) ∧ (((x_2 == 0) = true → R (.tuple #[(.bool true), (.int .i64 0)]) h) ∧ ((x_2 == 0) = false → (∃ (I12 : Int → Prop) (mu13 : Int → Nat), I12 0 ∧ (∀ (i : Int), I12 i → (∃ x_3 : Option Addr, ∃ x_n_1 x_c_1 : Nat, hcell h m_b (m_o + 4) = some (.slice x_3 x_n_1 x_c_1) ∧ (∃ x_3_b x_3_o : Nat, x_3 = some ⟨x_3_b, x_3_o, none⟩ ∧ (0 : Int) ≤ r ∧ r < (x_n_1 : Int) ∧ (∃ x_4 : Option Addr, ∃ x_n_2 x_c_2 : Nat, hcell h x_3_b (x_3_o + (Int.toNat r) * 1) = some (.slice x_4 x_n_2 x_c_2) ∧ (((decide (i < (x_n_2 : Int))) = true → (∃ x_4_b x_4_o : Nat, x_4 = some ⟨x_4_b, x_4_o, none⟩ ∧ (0 : Int) ≤ i ∧ i < (x_n_2 : Int) ∧ (∃ x_5 : Int, hcell h x_4_b (x_4_o + (Int.toNat i) * 1) = some (.int .i64 x_5) ∧ (((x_5 == task) = true → R (.tuple #[(.bool false), (.int .i64 0)]) h) ∧ ((x_5 == task) = false → (I12 (IntKind.i64.wrap (i + 1)) ∧ mu13 (IntKind.i64.wrap (i + 1)) < mu13 i)))))) ∧ ((decide (i < (x_n_2 : Int))) = false → (∃ T28 : Heap → Heap → Prop, Fit T28 ∧ (∃ x_5 : Option Addr, ∃ x_n_3 x_c_3 : Nat, (∀ hx, T28 h hx → hcell hx m_b (m_o + 4) = some (.slice x_5 x_n_3 x_c_3)) ∧ (∀ nb h1, nb = Array.size h → h1 = Array.push h (.cells #[(.int .i64 task)] 3) → HAppend Try.prog 50 50 (.slice x_4 x_n_2 x_c_2) (.slice (some ⟨nb, 0, none⟩) 1 1) h1 (fun vv h2 => T28 h1 h2 ∧ ∃ ap : Option Addr, ∃ ap_n ap_c : Nat, vv = (.slice ap ap_n ap_c) ∧ (∃ x_5_b x_5_o : Nat, x_5 = some ⟨x_5_b, x_5_o, none⟩ ∧ (0 : Int) ≤ r ∧ r < (x_n_3 : Int) ∧ (HW h2 x_5_b (x_5_o + (Int.toNat r) * 1) ∧ ∀ h3, h3 = hset h2 x_5_b (x_5_o + (Int.toNat r) * 1) (.slice ap ap_n ap_c) → R (.tuple #[(.bool false), (.int .i64 0)]) h3))))))))))))))))))))))))) :
    HC Try.prog 42 #[(ptr m_b m_o), (.int .i64 task), (.int .i64 r)] h R := by
  refine hc_of (args := [(ptr m_b m_o), (.int .i64 task), (.int .i64 r)]) Try.func42 rfl Try.ntmps42 (Nat.le_of_ble_eq_true rfl) ?_
  refine hx_seq ?_
  refine hx_region ?_
  refine hl_val rfl rfl (v := (.bool false)) (hv_assign rfl) ?_
  refine hl_val rfl rfl (v := (.int .i64 0)) (hv_assign rfl) ?_
  refine hl_nil ?_
  refine seqQ_n ?_
  refine hx_seq ?_
  refine hx_seq ?_
  refine hx_region ?_
  refine hl_val rfl rfl (v := (ptr m_b m_o)) (hv_move rfl) ?_
  refine hl_val rfl rfl (v := (.int .i64 r)) (hv_move rfl) ?_
  obtain ⟨r_1, hr1, H⟩ := H
  refine hl_val rfl rfl (v := (.bool r_1)) (hv_call TyQB.cb56 (vs := [(ptr m_b m_o), (.int .i64 r)]) rfl hr1) ?_
  refine hl_val rfl rfl (v := (.bool (!r_1))) (hv_not (b := r_1) rfl) ?_
  refine hl_nil ?_
  refine seqQ_n ?_
  refine hx_cond (b := !r_1) rfl (fun hb2 => ?_) (fun hb2 => ?_)
  · replace H := H.1 hb2
    refine hx_seq ?_
    refine hx_region ?_
    refine hl_val rfl rfl (v := (.bool false)) (hv_assign rfl) ?_
    refine hl_val rfl rfl (v := (.int .i64 90)) (hv_assign rfl) ?_
    refine hl_nil ?_
    refine seqQ_n ?_
    refine hx_ret ?_
    refine seqQ_ret ?_
    exact endQ_ret _ (res_two Try.results42 (rv_tmp rfl) (rv_tmp rfl)) H
  · replace H := H.2 hb2
    refine hx_skip ?_
    refine seqQ_n ?_
    refine hx_seq ?_
    refine hx_seq ?_
    refine hx_region ?_
    refine hl_val rfl rfl (v := (ptr m_b m_o)) (hv_move rfl) ?_
    refine hl_val rfl rfl (v := (ptr m_b m_o)) (hv_nil rfl) ?_
    refine hl_val rfl rfl (v := (ptr m_b m_o)) (hv_field TyQB.fld78_0 (b := m_b) (o := m_o) rfl) ?_
    obtain ⟨x, x_n, x_c, hc3, H⟩ := H
    refine hl_val rfl rfl (v := (.slice x x_n x_c)) (hv_load TyQB.agg28 rfl hc3) ?_
    refine hl_val rfl rfl (v := (.int .i64 r)) (hv_move rfl) ?_
    obtain ⟨x_b, x_o, hqe, hi4, hi5, Hq⟩ := H
    subst hqe
    have H := Hq; clear Hq
    refine hl_val rfl rfl (v := (ptr x_b (x_o + (Int.toNat r) * 4))) (hv_index TyQB.el28 rfl rfl hi4 hi5) ?_
    refine hl_val rfl rfl (v := (ptr x_b (x_o + (Int.toNat r) * 4))) (hv_field TyQB.fld31_0 (b := x_b) (o := x_o + (Int.toNat r) * 4) rfl) ?_
    obtain ⟨x_1, hc6, H⟩ := H
    refine hl_val rfl rfl (v := (.int .i64 x_1)) (hv_load TyQB.agg3 rfl hc6) ?_
    refine hl_val rfl rfl (v := (.bool (x_1 != 4))) (hv_arith rfl rfl rfl) ?_
    refine hl_nil ?_
    refine seqQ_n ?_
    refine hx_cond (b := x_1 != 4) rfl (fun hb7 => ?_) (fun hb7 => ?_)
    · replace H := H.1 hb7
      refine hx_seq ?_
      refine hx_region ?_
      refine hl_val rfl rfl (v := (.bool false)) (hv_assign rfl) ?_
      refine hl_val rfl rfl (v := (.int .i64 91)) (hv_assign rfl) ?_
      refine hl_nil ?_
      refine seqQ_n ?_
      refine hx_ret ?_
      refine seqQ_ret ?_
      exact endQ_ret _ (res_two Try.results42 (rv_tmp rfl) (rv_tmp rfl)) H
    · replace H := H.2 hb7
      refine hx_skip ?_
      refine seqQ_n ?_
      refine hx_seq ?_
      refine hx_seq ?_
      refine hx_region ?_
      refine hl_val rfl rfl (v := (ptr m_b m_o)) (hv_move rfl) ?_
      refine hl_val rfl rfl (v := (ptr m_b m_o)) (hv_nil rfl) ?_
      refine hl_val rfl rfl (v := (ptr m_b m_o)) (hv_field TyQB.fld78_0 (b := m_b) (o := m_o) rfl) ?_
      refine hl_val rfl rfl (v := (.slice (some ⟨x_b, x_o, none⟩) x_n x_c)) (hv_load TyQB.agg28 rfl hc3) ?_
      refine hl_val rfl rfl (v := (.int .i64 r)) (hv_move rfl) ?_
      refine hl_val rfl rfl (v := (ptr x_b (x_o + (Int.toNat r) * 4))) (hv_index TyQB.el28 rfl rfl hi4 hi5) ?_
      refine hl_val rfl rfl (v := (ptr x_b ((x_o + (Int.toNat r) * 4) + 2))) (hv_field TyQB.fld31_2 (b := x_b) (o := x_o + (Int.toNat r) * 4) rfl) ?_
      obtain ⟨x_2, hc10, H⟩ := H
      refine hl_val rfl rfl (v := (.int .i64 x_2)) (hv_load TyQB.agg3 rfl hc10) ?_
      refine hl_val rfl rfl (v := (.bool (x_2 == 0))) (hv_arith rfl rfl rfl) ?_
      refine hl_nil ?_
      refine seqQ_n ?_
      refine hx_cond (b := x_2 == 0) rfl (fun hb11 => ?_) (fun hb11 => ?_)
      · replace H := H.1 hb11
        refine hx_seq ?_
        refine hx_region ?_
        refine hl_val rfl rfl (v := (.bool true)) (hv_assign rfl) ?_
        refine hl_val rfl rfl (v := (.int .i64 0)) (hv_assign rfl) ?_
        refine hl_nil ?_
        refine seqQ_n ?_
        refine hx_ret ?_
        refine seqQ_ret ?_
        exact endQ_ret _ (res_two Try.results42 (rv_tmp rfl) (rv_tmp rfl)) H
      · replace H := H.2 hb11
        refine hx_skip ?_
        refine seqQ_n ?_
        refine hx_seq ?_
        refine hx_seq ?_
        refine hx_region ?_
        refine hl_val rfl rfl (v := (.int .i64 0)) (hv_assign rfl) ?_
        refine hl_nil ?_
        refine seqQ_n ?_
        refine hx_block ?_
        obtain ⟨I12, mu13, Ha14, Hr15⟩ := H
        refine hx_loopT (σ := Int) (fun s => [(0, (ptr m_b m_o)), (1, (.int .i64 task)), (2, (.int .i64 r)), (8, (.int .i64 s))]) (fun s h' => I12 s ∧ h = h') (fun s _ => mu13 s) 0 ⟨Ha14, rfl⟩ (has_cons rfl (has_cons rfl (has_cons rfl (has_cons rfl has_nil)))) ?_
        rintro i ρ _ ⟨Hi16, rfl⟩
        have H := Hr15 i Hi16
        refine hx_seq ?_
        refine hx_seq ?_
        refine hx_region ?_
        refine hl_val rfl rfl (v := (.int .i64 i)) (hv_move rfl) ?_
        refine hl_val rfl rfl (v := (ptr m_b m_o)) (hv_move rfl) ?_
        refine hl_val rfl rfl (v := (ptr m_b m_o)) (hv_nil rfl) ?_
        refine hl_val rfl rfl (v := (ptr m_b (m_o + 4))) (hv_field TyQB.fld78_4 (b := m_b) (o := m_o) rfl) ?_
        obtain ⟨x_3, x_n_1, x_c_1, hc17, H⟩ := H
        refine hl_val rfl rfl (v := (.slice x_3 x_n_1 x_c_1)) (hv_load TyQB.agg76 rfl hc17) ?_
        refine hl_val rfl rfl (v := (.int .i64 r)) (hv_move rfl) ?_
        obtain ⟨x_3_b, x_3_o, hqe, hi18, hi19, Hq⟩ := H
        subst hqe
        have H := Hq; clear Hq
        refine hl_val rfl rfl (v := (ptr x_3_b (x_3_o + (Int.toNat r) * 1))) (hv_index TyQB.el76 rfl rfl hi18 hi19) ?_
        obtain ⟨x_4, x_n_2, x_c_2, hc20, H⟩ := H
        refine hl_val rfl rfl (v := (.slice x_4 x_n_2 x_c_2)) (hv_load TyQB.agg50 rfl hc20) ?_
        refine hl_val rfl rfl (v := (.int .i64 (x_n_2 : Int))) (hv_len (n := x_n_2) TyQB.u50 rfl) ?_
        refine hl_val rfl rfl (v := (.bool (decide (i < (x_n_2 : Int))))) (hv_arith rfl rfl rfl) ?_
        refine hl_nil ?_
        refine seqQ_n ?_
        refine hx_cond (b := decide (i < (x_n_2 : Int))) rfl (fun hb21 => ?_) (fun hb21 => ?_)
        · replace H := H.1 hb21
          refine hx_skip ?_
          refine seqQ_n ?_
          refine hx_seq ?_
          refine hx_block ?_
          refine hx_seq ?_
          refine hx_region ?_
          refine hl_val rfl rfl (v := (ptr m_b m_o)) (hv_move rfl) ?_
          refine hl_val rfl rfl (v := (ptr m_b m_o)) (hv_nil rfl) ?_
          refine hl_val rfl rfl (v := (ptr m_b (m_o + 4))) (hv_field TyQB.fld78_4 (b := m_b) (o := m_o) rfl) ?_
          refine hl_val rfl rfl (v := (.slice (some ⟨x_3_b, x_3_o, none⟩) x_n_1 x_c_1)) (hv_load TyQB.agg76 rfl hc17) ?_
          refine hl_val rfl rfl (v := (.int .i64 r)) (hv_move rfl) ?_
          refine hl_val rfl rfl (v := (ptr x_3_b (x_3_o + (Int.toNat r) * 1))) (hv_index TyQB.el76 rfl rfl hi18 hi19) ?_
          refine hl_val rfl rfl (v := (.slice x_4 x_n_2 x_c_2)) (hv_load TyQB.agg50 rfl hc20) ?_
          refine hl_val rfl rfl (v := (.int .i64 i)) (hv_move rfl) ?_
          obtain ⟨x_4_b, x_4_o, hqe, hi24, hi25, Hq⟩ := H
          subst hqe
          have H := Hq; clear Hq
          refine hl_val rfl rfl (v := (ptr x_4_b (x_4_o + (Int.toNat i) * 1))) (hv_index TyQB.el50 rfl rfl hi24 hi25) ?_
          obtain ⟨x_5, hc26, H⟩ := H
          refine hl_val rfl rfl (v := (.int .i64 x_5)) (hv_load TyQB.agg3 rfl hc26) ?_
          refine hl_val rfl rfl (v := (.int .i64 task)) (hv_move rfl) ?_
          refine hl_val rfl rfl (v := (.bool (x_5 == task))) (hv_arith rfl rfl rfl) ?_
          refine hl_nil ?_
          refine seqQ_n ?_
          refine hx_cond (b := x_5 == task) rfl (fun hb27 => ?_) (fun hb27 => ?_)
          · replace H := H.1 hb27
            refine hx_seq ?_
            refine hx_region ?_
            refine hl_val rfl rfl (v := (.bool false)) (hv_assign rfl) ?_
            refine hl_val rfl rfl (v := (.int .i64 0)) (hv_assign rfl) ?_
            refine hl_nil ?_
            refine seqQ_n ?_
            refine hx_ret ?_
            refine blockQ_ret ?_
            refine seqQ_ret ?_
            refine seqQ_ret ?_
            refine blockQ_ret ?_
            refine seqQ_ret ?_
            exact endQ_ret _ (res_two Try.results42 (rv_tmp rfl) (rv_tmp rfl)) H
          · replace H := H.2 hb27
            refine hx_skip ?_
            refine blockQ_n ?_
            refine seqQ_n ?_
            refine hx_region ?_
            refine hl_val rfl rfl (v := (.int .i64 i)) (hv_move rfl) ?_
            refine hl_val rfl rfl (v := (.int .i64 (IntKind.i64.wrap (i + 1)))) (hv_arith rfl rfl rfl) ?_
            refine hl_val rfl rfl (v := (.int .i64 (IntKind.i64.wrap (i + 1)))) (hv_assign rfl) ?_
            refine hl_nil ?_
            refine seqQ_n ?_
            exact ⟨IntKind.i64.wrap (i + 1), ⟨⟨H.1, rfl⟩, H.2⟩, (has_cons rfl (has_cons rfl (has_cons rfl (has_cons rfl has_nil))))⟩
        · replace H := H.2 hb21
          refine hx_exit ?_
          refine seqQ_exit ?_
          refine seqQ_exit ?_
          refine blockQ_here ?_
          refine seqQ_n ?_
          refine hx_seq ?_
          obtain ⟨T28, hT29, H⟩ := H
          refine hx_drawT TyQB.mixed T28 hT29 [.pure, .pure, .pure, .stay, .pure, .pure, .pure, .pure, .read, .pure, .pure, .read, .pure, .ext, .tame, .pure, .wild] [0, 1, 2, 3, 4, 5, 6, 7, 8, 9, 10, 11, 12, 13, 14, 15, 16] (by kernel_rfl) ?_
          refine hp_pure (i := 0) rfl (wanted_0 rfl) rfl (ptr m_b m_o) (fun _ => hv_move rfl) ?_
          refine hp_pure (i := 1) rfl (wanted_0 rfl) rfl (ptr m_b m_o) (fun _ => hv_nil rfl) ?_
          refine hp_pure (i := 2) rfl (wanted_0 rfl) rfl (ptr m_b (m_o + 4)) (fun _ => hv_field TyQB.fld78_4 (b := m_b) (o := m_o) rfl) ?_
          obtain ⟨x_5, x_n_3, x_c_3, hc30, H⟩ := H
          refine hp_stay (i := 3) rfl (wanted_0 rfl) rfl (.slice x_5 x_n_3 x_c_3) (fun _ he => hv_load TyQB.agg76 rfl (hc30 _ he)) ?_
          refine hp_pure (i := 4) rfl (wanted_0 rfl) rfl (.int .i64 r) (fun _ => hv_move rfl) ?_
          refine hp_pure (i := 5) rfl (wanted_0 rfl) rfl (ptr m_b m_o) (fun _ => hv_move rfl) ?_
          refine hp_pure (i := 6) rfl (wanted_0 rfl) rfl (ptr m_b m_o) (fun _ => hv_nil rfl) ?_
          refine hp_pure (i := 7) rfl (wanted_0 rfl) rfl (ptr m_b (m_o + 4)) (fun _ => hv_field TyQB.fld78_4 (b := m_b) (o := m_o) rfl) ?_
          refine hp_read (i := 8) rfl (wanted_0 rfl) rfl (.slice (some ⟨x_3_b, x_3_o, none⟩) x_n_1 x_c_1) (fun _ he => hv_load TyQB.agg76 rfl (Ext.cell he hc17)) ?_
          refine hp_pure (i := 9) rfl (wanted_0 rfl) rfl (.int .i64 r) (fun _ => hv_move rfl) ?_
          refine hp_pure (i := 10) rfl (wanted_0 rfl) rfl (ptr x_3_b (x_3_o + (Int.toNat r) * 1)) (fun _ => hv_index TyQB.el76 rfl rfl hi18 hi19) ?_
          refine hp_read (i := 11) rfl (wanted_0 rfl) rfl (.slice x_4 x_n_2 x_c_2) (fun _ he => hv_load TyQB.agg50 rfl (Ext.cell he hc20)) ?_
          refine hp_pure (i := 12) rfl (wanted_0 rfl) rfl (.int .i64 task) (fun _ => hv_move rfl) ?_
          refine hp_ext (i := 13) rfl (wanted_0 rfl) rfl (hn_buildSlice (n := 1) (vs := [(0, (.int .i64 task))]) (cs := #[(.int .i64 task)]) TyQB.u50 TyQB.sz3 TyQB.z3 rfl rfl (by kernel_rfl) ?_)
          intro nb h1 eb33 eh34
          replace H := H nb h1 eb33 eh34
          have xx35 : Ext h h1 := by rw [eh34]; exact Ext.push _ _
          refine ⟨xx35, ?_⟩
          refine hp_tame (i := 14) rfl (wanted_0 rfl) rfl (hs_append rfl rfl (HAppend.mono H ?_))
          rintro _ h2 ⟨ht40, ap, ap_n, ap_c, rfl, H⟩
          refine ⟨ht40, ?_⟩
          obtain ⟨x_5_b, x_5_o, hqe, hi36, hi37, Hq⟩ := H
          subst hqe
          have H := Hq; clear Hq
          refine hp_pure (i := 15) rfl (wanted_0 rfl) rfl (ptr x_5_b (x_5_o + (Int.toNat r) * 1)) (fun _ => hv_index TyQB.el76 rfl rfl hi36 hi37) ?_
          obtain ⟨hw39, H⟩ := H
          refine hp_wild (i := 16) rfl (wanted_0 rfl) rfl (hn_store (v := (.slice ap ap_n ap_c)) rfl rfl TyQB.sz50 rfl hw39 ?_)
          intro h3 eh38
          replace H := H h3 eh38
          refine hp_nil ?_
          refine seqQ_n ?_
          refine hx_seq ?_
          refine hx_region ?_
          refine hl_val rfl rfl (v := (.bool false)) (hv_assign rfl) ?_
          refine hl_val rfl rfl (v := (.int .i64 0)) (hv_assign rfl) ?_
          refine hl_nil ?_
          refine seqQ_n ?_
          refine hx_ret ?_
          exact endQ_ret _ (res_two Try.results42 (rv_tmp rfl) (rv_tmp rfl)) H

/-- (*cellar/cellarref09.Man).Free -/
theorem f43_sh (m_b : Nat) (m_o : Nat) (r : Int) (h : Heap) (R : Value → Heap → Prop)
    (H : (∃ r_1 : Bool, HC Try.prog 56 #[(ptr m_b m_o), (.int .i64 r)] h (fun vv h' => vv = (.bool r_1) ∧ h' = h) ∧ (((!r_1) = true → R (.int .i64 90) h) ∧ ((!r_1) = false → (∃ x : Option Addr, ∃ x_n x_c : Nat, hcell h m_b m_o = some (.slice x x_n x_c) ∧ (∃ x_b x_o : Nat, x = some ⟨x_b, x_o, none⟩ ∧ (0 : Int) ≤ r ∧ r < (x_n : Int) ∧ (∃ x_1 : Int, hcell h x_b (x_o + (Int.toNat r) * 4) = some (.int .i64 x_1) ∧ (((x_1 != 4) = true → R (.int .i64 91) h) ∧ ((x_1 != 4) = false → (∃ x_2 : Int, hcell h x_b ((x_o + (Int.toNat r) * 4) + 2) = some (.int .i64 x_2) ∧ (((x_2 != 0) = true → R (.int .i64 92) h) ∧ ((x_2 != 0) = false → (∃ x_3 : Int, hcell h x_b ((x_o + (Int.toNat r) * 4) + 3) = some (.int .i64 x_3) ∧ (∀ n : Int, n = (bif decide (x_3 < 2147483647) then IntKind.i64.wrap (x_3 + 1) else x_3) → (HWs h x_b (x_o + (Int.toNat r) * 4) 4 ∧ ∀ h1, h1 = hsets h x_b (x_o + (Int.toNat r) * 4) [(.int .i64 1), (.int .u64 0), (.int .i64 0), (.int .i64 n)] → (∃ x_4 : Option Addr, ∃ x_n_1 x_c_1 : Nat, hcell h1 m_b (m_o + 1) = some (.slice x_4 x_n_1 x_c_1) ∧ (∀ nb h2, nb = Array.size h1 → h2 = Array.push h1 (.cells #[(.int .i64 r)] 3) → HAppend Try.prog 50 50 (.slice x_4 x_n_1 x_c_1) (.slice (some ⟨nb, 0, none⟩) 1 1) h2 (fun vv h3 => ∃ ap : Option Addr, ∃ ap_n ap_c : Nat, vv = (.slice ap ap_n ap_c) ∧ (HW h3 m_b (m_o + 1) ∧ ∀ h4, h4 = hset h3 m_b (m_o + 1) (.slice ap ap_n ap_c) → (∃ x_5 : Option Addr, ∃ x_n_2 x_c_2 : Nat, hcell h4 m_b (m_o + 4) = some (.slice x_5 x_n_2 x_c_2) ∧ (∃ x_5_b x_5_o : Nat, x_5 = some ⟨x_5_b, x_5_o, none⟩ ∧ (0 : Int) ≤ r ∧ r < (x_n_2 : Int) ∧ (HW h4 x_5_b (x_5_o + (Int.toNat r) * 1) ∧ ∀ h5, h5 = hset h4 x_5_b (x_5_o + (Int.toNat r) * 1) (.slice none 0 0) → R (.int .i64 0) h5)))))))))))))))))))))) :
    HC Try.prog 43 #[(ptr m_b m_o), (.int .i64 r)] h R := by
  refine hc_of (args := [(ptr m_b m_o), (.int .i64 r)]) Try.func43 rfl Try.ntmps43 (Nat.le_of_ble_eq_true rfl) ?_
  refine hx_seq ?_
  refine hx_region ?_
  refine hl_val rfl rfl (v := (.int .i64 0)) (hv_assign rfl) ?_
  refine hl_nil ?_
  refine seqQ_n ?_
  refine hx_seq ?_
  refine hx_seq ?_
  refine hx_region ?_
  refine hl_val rfl rfl (v := (ptr m_b m_o)) (hv_move rfl) ?_
  refine hl_val rfl rfl (v := (.int .i64 r)) (hv_move rfl) ?_
  obtain ⟨r_1, hr1, H⟩ := H
  refine hl_val rfl rfl (v := (.bool r_1)) (hv_call TyQB.cb56 (vs := [(ptr m_b m_o), (.int .i64 r)]) rfl hr1) ?_
  refine hl_val rfl rfl (v := (.bool (!r_1))) (hv_not (b := r_1) rfl) ?_
  refine hl_nil ?_
  refine seqQ_n ?_
  refine hx_cond (b := !r_1) rfl (fun hb2 => ?_) (fun hb2 => ?_)
  · replace H := H.1 hb2
    refine hx_seq ?_
    refine hx_region ?_
    refine hl_val rfl rfl (v := (.int .i64 90)) (hv_assign rfl) ?_
    refine hl_nil ?_
    refine seqQ_n ?_
    refine hx_ret ?_
    refine seqQ_ret ?_
    exact endQ_ret _ (res_one Try.results43 (rv_tmp rfl)) H
  · replace H := H.2 hb2
    refine hx_skip ?_
    refine seqQ_n ?_
    refine hx_seq ?_
    refine hx_seq ?_
    refine hx_region ?_
    refine hl_val rfl rfl (v := (ptr m_b m_o)) (hv_move rfl) ?_
    refine hl_val rfl rfl (v := (ptr m_b m_o)) (hv_nil rfl) ?_
    refine hl_val rfl rfl (v := (ptr m_b m_o)) (hv_field TyQB.fld78_0 (b := m_b) (o := m_o) rfl) ?_
    obtain ⟨x, x_n, x_c, hc3, H⟩ := H
    refine hl_val rfl rfl (v := (.slice x x_n x_c)) (hv_load TyQB.agg28 rfl hc3) ?_
    refine hl_val rfl rfl (v := (.int .i64 r)) (hv_move rfl) ?_
    obtain ⟨x_b, x_o, hqe, hi4, hi5, Hq⟩ := H
    subst hqe
    have H := Hq; clear Hq
    refine hl_val rfl rfl (v := (ptr x_b (x_o + (Int.toNat r) * 4))) (hv_index TyQB.el28 rfl rfl hi4 hi5) ?_
    refine hl_val rfl rfl (v := (ptr x_b (x_o + (Int.toNat r) * 4))) (hv_field TyQB.fld31_0 (b := x_b) (o := x_o + (Int.toNat r) * 4) rfl) ?_
    obtain ⟨x_1, hc6, H⟩ := H
    refine hl_val rfl rfl (v := (.int .i64 x_1)) (hv_load TyQB.agg3 rfl hc6) ?_
    refine hl_val rfl rfl (v := (.bool (x_1 != 4))) (hv_arith rfl rfl rfl) ?_
    refine hl_nil ?_
    refine seqQ_n ?_
    refine hx_cond (b := x_1 != 4) rfl (fun hb7 => ?_) (fun hb7 => ?_)
    · replace H := H.1 hb7
      refine hx_seq ?_
      refine hx_region ?_
      refine hl_val rfl rfl (v := (.int .i64 91)) (hv_assign rfl) ?_
      refine hl_nil ?_
      refine seqQ_n ?_
      refine hx_ret ?_
      refine seqQ_ret ?_
      exact endQ_ret _ (res_one Try.results43 (rv_tmp rfl)) H
    · replace H := H.2 hb7
      refine hx_skip ?_
      refine seqQ_n ?_
      refine hx_seq ?_
      refine hx_seq ?_
      refine hx_region ?_
      refine hl_val rfl rfl (v := (ptr m_b m_o)) (hv_move rfl) ?_
      refine hl_val rfl rfl (v := (ptr m_b m_o)) (hv_nil rfl) ?_
      refine hl_val rfl rfl (v := (ptr m_b m_o)) (hv_field TyQB.fld78_0 (b := m_b) (o := m_o) rfl) ?_
      refine hl_val rfl rfl (v := (.slice (some ⟨x_b, x_o, none⟩) x_n x_c)) (hv_load TyQB.agg28 rfl hc3) ?_
      refine hl_val rfl rfl (v := (.int .i64 r)) (hv_move rfl) ?_
      refine hl_val rfl rfl (v := (ptr x_b (x_o + (Int.toNat r) * 4))) (hv_index TyQB.el28 rfl rfl hi4 hi5) ?_
      refine hl_val rfl rfl (v := (ptr x_b ((x_o + (Int.toNat r) * 4) + 2))) (hv_field TyQB.fld31_2 (b := x_b) (o := x_o + (Int.toNat r) * 4) rfl) ?_
      obtain ⟨x_2, hc10, H⟩ := H
      refine hl_val rfl rfl (v := (.int .i64 x_2)) (hv_load TyQB.agg3 rfl hc10) ?_
      refine hl_val rfl rfl (v := (.bool (x_2 != 0))) (hv_arith rfl rfl rfl) ?_
      refine hl_nil ?_
      refine seqQ_n ?_
      refine hx_cond (b := x_2 != 0) rfl (fun hb11 => ?_) (fun hb11 => ?_)
      · replace H := H.1 hb11
        refine hx_seq ?_
        refine hx_region ?_
        refine hl_val rfl rfl (v := (.int .i64 92)) (hv_assign rfl) ?_
        refine hl_nil ?_
        refine seqQ_n ?_
        refine hx_ret ?_
        refine seqQ_ret ?_
        exact endQ_ret _ (res_one Try.results43 (rv_tmp rfl)) H
      · replace H := H.2 hb11
        refine hx_skip ?_
        refine seqQ_n ?_
        refine hx_seq ?_
        refine hx_region ?_
        refine hl_val rfl rfl (v := (ptr m_b m_o)) (hv_move rfl) ?_
        refine hl_val rfl rfl (v := (ptr m_b m_o)) (hv_nil rfl) ?_
        refine hl_val rfl rfl (v := (ptr m_b m_o)) (hv_field TyQB.fld78_0 (b := m_b) (o := m_o) rfl) ?_
        refine hl_val rfl rfl (v := (.slice (some ⟨x_b, x_o, none⟩) x_n x_c)) (hv_load TyQB.agg28 rfl hc3) ?_
        refine hl_val rfl rfl (v := (.int .i64 r)) (hv_move rfl) ?_
        refine hl_val rfl rfl (v := (ptr x_b (x_o + (Int.toNat r) * 4))) (hv_index TyQB.el28 rfl rfl hi4 hi5) ?_
        refine hl_val rfl rfl (v := (ptr x_b ((x_o + (Int.toNat r) * 4) + 3))) (hv_field TyQB.fld31_3 (b := x_b) (o := x_o + (Int.toNat r) * 4) rfl) ?_
        obtain ⟨x_3, hc14, H⟩ := H
        refine hl_val rfl rfl (v := (.int .i64 x_3)) (hv_load TyQB.agg3 rfl hc14) ?_
        refine hl_val rfl rfl (v := (.int .i64 x_3)) (hv_assign rfl) ?_
        refine hl_nil ?_
        refine seqQ_n ?_
        obtain ⟨n, hq17⟩ : ∃ q : Int, q = (bif decide (x_3 < 2147483647) then IntKind.i64.wrap (x_3 + 1) else x_3) := ⟨_, rfl⟩
        replace H := H n hq17
        refine hx_cut (fun ρ h' => h = h' ∧ Has ρ [(0, (ptr m_b m_o)), (1, (.int .i64 r)), (5, (.int .i64 n))]) ?_ ?_
        · refine hx_seq ?_
          refine hx_region ?_
          refine hl_val rfl rfl (v := (.int .i64 x_3)) (hv_move rfl) ?_
          refine hl_val rfl rfl (v := (.bool (decide (x_3 < 2147483647)))) (hv_arith rfl rfl rfl) ?_
          refine hl_nil ?_
          refine seqQ_n ?_
          refine hx_cond (b := decide (x_3 < 2147483647)) rfl (fun hb18 => ?_) (fun hb18 => ?_)
          · refine hx_region ?_
            refine hl_val rfl rfl (v := (.int .i64 x_3)) (hv_move rfl) ?_
            refine hl_val rfl rfl (v := (.int .i64 (IntKind.i64.wrap (x_3 + 1)))) (hv_arith rfl rfl rfl) ?_
            refine hl_val rfl rfl (v := (.int .i64 (IntKind.i64.wrap (x_3 + 1)))) (hv_assign rfl) ?_
            refine hl_nil ?_
            refine seqQ_n ?_
            exact ⟨rfl, (has_cons rfl (has_cons rfl (has_cons (show ((.int .i64 (IntKind.i64.wrap (x_3 + 1))) : Value) = (.int .i64 n) from (by first | rfl | ((try rw [hb18]); (try rw [hq17]); (try rw [hb18]); all_goals first | rfl | (simp only [Bool.true_or, Bool.or_true, Bool.false_or, Bool.or_false, Bool.true_and, Bool.and_true, Bool.false_and, Bool.and_false, Bool.not_true, Bool.not_false, Bool.cond_true, Bool.cond_false]; done)) | simp [hb18, hq17, hb18])) has_nil)))⟩
          · refine hx_skip ?_
            refine seqQ_n ?_
            exact ⟨rfl, (has_cons rfl (has_cons rfl (has_cons (show ((.int .i64 x_3) : Value) = (.int .i64 n) from (by first | rfl | ((try rw [hb18]); (try rw [hq17]); (try rw [hb18]); all_goals first | rfl | (simp only [Bool.true_or, Bool.or_true, Bool.false_or, Bool.or_false, Bool.true_and, Bool.and_true, Bool.false_and, Bool.and_false, Bool.not_true, Bool.not_false, Bool.cond_true, Bool.cond_false]; done)) | simp [hb18, hq17, hb18])) has_nil)))⟩
        · rintro ρ _ ⟨rfl, hH⟩
          refine hx_has _ hH ?_
          refine hx_seq ?_
          refine hx_region ?_
          refine hl_val rfl rfl (v := (ptr m_b m_o)) (hv_move rfl) ?_
          refine hl_val rfl rfl (v := (ptr m_b m_o)) (hv_nil rfl) ?_
          refine hl_val rfl rfl (v := (ptr m_b m_o)) (hv_field TyQB.fld78_0 (b := m_b) (o := m_o) rfl) ?_
          refine hl_val rfl rfl (v := (.slice (some ⟨x_b, x_o, none⟩) x_n x_c)) (hv_load TyQB.agg28 rfl hc3) ?_
          refine hl_val rfl rfl (v := (.int .i64 r)) (hv_move rfl) ?_
          refine hl_val rfl rfl (v := (.int .i64 n)) (hv_move rfl) ?_
          refine hl_val rfl rfl (v := (.agg #[(.int .i64 1), (.int .u64 0), (.int .i64 0), (.int .i64 n)])) (hv_build (vs := [(0, (.int .i64 1)), (3, (.int .i64 n))]) (cs := #[(.int .i64 1), (.int .u64 0), (.int .i64 0), (.int .i64 n)]) TyQB.z31 TyQB.pl31 rfl (by kernel_rfl)) ?_
          refine hl_val rfl rfl (v := (ptr x_b (x_o + (Int.toNat r) * 4))) (hv_index TyQB.el28 rfl rfl hi4 hi5) ?_
          obtain ⟨hw22, H⟩ := H
          refine hl_step rfl rfl (hn_stores (vs := [(.int .i64 1), (.int .u64 0), (.int .i64 0), (.int .i64 n)]) rfl rfl TyQB.sz31 rfl hw22 ?_)
          intro h1 eh21
          replace H := H h1 eh21
          refine hl_nil ?_
          refine seqQ_n ?_
          refine hx_seq ?_
          refine hx_region ?_
          refine hl_val rfl rfl (v := (ptr m_b m_o)) (hv_move rfl) ?_
          refine hl_val rfl rfl (v := (ptr m_b m_o)) (hv_move rfl) ?_
          refine hl_val rfl rfl (v := (ptr m_b m_o)) (hv_nil rfl) ?_
          refine hl_val rfl rfl (v := (ptr m_b (m_o + 1))) (hv_field TyQB.fld78_1 (b := m_b) (o := m_o) rfl) ?_
          obtain ⟨x_4, x_n_1, x_c_1, hc23, H⟩ := H
          refine hl_val rfl rfl (v := (.slice x_4 x_n_1 x_c_1)) (hv_load TyQB.agg50 rfl hc23) ?_
          refine hl_val rfl rfl (v := (.int .i64 r)) (hv_move rfl) ?_
          refine hl_step rfl rfl (hn_buildSlice (n := 1) (vs := [(0, (.int .i64 r))]) (cs := #[(.int .i64 r)]) TyQB.u50 TyQB.sz3 TyQB.z3 rfl rfl (by kernel_rfl) ?_)
          intro nb h2 eb24 eh25
          replace H := H nb h2 eb24 eh25
          have xx26 : Ext h1 h2 := by rw [eh25]; exact Ext.push _ _
          refine hl_step rfl rfl (hs_append rfl rfl (HAppend.mono H ?_))
          rintro _ h3 ⟨ap, ap_n, ap_c, rfl, H⟩
          refine hl_val rfl rfl (v := (ptr m_b m_o)) (hv_nil rfl) ?_
          refine hl_val rfl rfl (v := (ptr m_b (m_o + 1))) (hv_field TyQB.fld78_1 (b := m_b) (o := m_o) rfl) ?_
          obtain ⟨hw28, H⟩ := H
          refine hl_step rfl rfl (hn_store (v := (.slice ap ap_n ap_c)) rfl rfl TyQB.sz50 rfl hw28 ?_)
          intro h4 eh27
          replace H := H h4 eh27
          refine hl_nil ?_
          refine seqQ_n ?_
          refine hx_seq ?_
          refine hx_region ?_
          refine hl_val rfl rfl (v := (ptr m_b m_o)) (hv_move rfl) ?_
          refine hl_val rfl rfl (v := (ptr m_b m_o)) (hv_nil rfl) ?_
          refine hl_val rfl rfl (v := (ptr m_b (m_o + 4))) (hv_field TyQB.fld78_4 (b := m_b) (o := m_o) rfl) ?_
          obtain ⟨x_5, x_n_2, x_c_2, hc29, H⟩ := H
          refine hl_val rfl rfl (v := (.slice x_5 x_n_2 x_c_2)) (hv_load TyQB.agg76 rfl hc29) ?_
          refine hl_val rfl rfl (v := (.int .i64 r)) (hv_move rfl) ?_
          obtain ⟨x_5_b, x_5_o, hqe, hi30, hi31, Hq⟩ := H
          subst hqe
          have H := Hq; clear Hq
          refine hl_val rfl rfl (v := (ptr x_5_b (x_5_o + (Int.toNat r) * 1))) (hv_index TyQB.el76 rfl rfl hi30 hi31) ?_
          obtain ⟨hw33, H⟩ := H
          refine hl_step rfl rfl (hn_store (v := (.slice none 0 0)) rfl rfl TyQB.sz50 rfl hw33 ?_)
          intro h5 eh32
          replace H := H h5 eh32
          refine hl_nil ?_
          refine seqQ_n ?_
          refine hx_seq ?_
          refine hx_region ?_
          refine hl_val rfl rfl (v := (.int .i64 0)) (hv_assign rfl) ?_
          refine hl_nil ?_
          refine seqQ_n ?_
          refine hx_ret ?_
          exact endQ_ret _ (res_one Try.results43 (rv_tmp rfl)) H

/-- (*cellar/cellarref09.Man).Pin -/
theorem f44_sh (m_b : Nat) (m_o : Nat) (r : Int) (h : Heap) (R : Value → Heap → Prop)
    (H : (∃ j : Bool, (∃ r_1 : Bool, HC Try.prog 56 #[(ptr m_b m_o), (.int .i64 r)] h (fun vv h' => vv = (.bool r_1) ∧ h' = h) ∧ (((!r_1) = true → (j = true)) ∧ ((!r_1) = false → (∃ x : Option Addr, ∃ x_n x_c : Nat, hcell h m_b m_o = some (.slice x x_n x_c) ∧ (∃ x_b x_o : Nat, x = some ⟨x_b, x_o, none⟩ ∧ (0 : Int) ≤ r ∧ r < (x_n : Int) ∧ (∃ x_1 : Int, hcell h x_b (x_o + (Int.toNat r) * 4) = some (.int .i64 x_1) ∧ (((x_1 != 2) = true → (((x_1 != 3) = true → (j = true)) ∧ ((x_1 != 3) = false → (∃ x_2 : Int, hcell h x_b ((x_o + (Int.toNat r) * 4) + 2) = some (.int .i64 x_2) ∧ (j = (x_2 == 2147483647)))))) ∧ ((x_1 != 2) = false → (∃ x_2 : Int, hcell h x_b ((x_o + (Int.toNat r) * 4) + 2) = some (.int .i64 x_2) ∧ (j = (x_2 == 2147483647))))))))))) ∧ ((j = true → R (.bool false) h) ∧ (j = false → (∃ x_3 : Option Addr, ∃ x_n_1 x_c_1 : Nat, hcell h m_b m_o = some (.slice x_3 x_n_1 x_c_1) ∧ (∃ x_3_b x_3_o : Nat, x_3 = some ⟨x_3_b, x_3_o, none⟩ ∧ (0 : Int) ≤ r ∧ r < (x_n_1 : Int) ∧ (∃ x_4 : Int, hcell h x_3_b ((x_3_o + (Int.toNat r) * 4) + 2) = some (.int .i64 x_4) ∧ (HW h x_3_b ((x_3_o + (Int.toNat r) * 4) + 2) ∧ ∀ h1, h1 = hset h x_3_b ((x_3_o + (Int.toNat r) * 4) + 2) (.int .i64 (IntKind.i64.wrap (x_4 + 1))) → R (.bool true) h1)))))))) :
    HC Try.prog 44 #[(ptr m_b m_o), (.int .i64 r)] h R := by
  refine hc_of (args := [(ptr m_b m_o), (.int .i64 r)]) Try.func44 rfl Try.ntmps44 (Nat.le_of_ble_eq_true rfl) ?_
  refine hx_seq ?_
  refine hx_region ?_
  refine hl_val rfl rfl (v := (.bool false)) (hv_assign rfl) ?_
  refine hl_nil ?_
  refine seqQ_n ?_
  refine hx_seq ?_
  obtain ⟨j, Hx1, Hy2⟩ := H
  refine hx_cut (fun ρ h' => h = h' ∧ Has ρ [(0, (ptr m_b m_o)), (1, (.int .i64 r)), (41, (.bool j))]) ?_ ?_
  · have H := Hx1; clear Hx1 Hy2
    refine hx_region ?_
    refine hl_val rfl rfl (v := (ptr m_b m_o)) (hv_move rfl) ?_
    refine hl_val rfl rfl (v := (.int .i64 r)) (hv_move rfl) ?_
    obtain ⟨r_1, hr3, H⟩ := H
    refine hl_val rfl rfl (v := (.bool r_1)) (hv_call TyQB.cb56 (vs := [(ptr m_b m_o), (.int .i64 r)]) rfl hr3) ?_
    refine hl_val rfl rfl (v := (.bool (!r_1))) (hv_not (b := r_1) rfl) ?_
    refine hl_val rfl rfl (v := (.bool (!r_1))) (hv_move rfl) ?_
    rcases bool_or (!r_1) with hg4 | hg4
    · replace H := H.1 hg4
      refine hl_no (wanted_n rfl rfl rfl hg4) rfl ?_
      refine hl_no (wanted_n rfl rfl rfl hg4) rfl ?_
      refine hl_no (wanted_n rfl rfl rfl hg4) rfl ?_
      refine hl_no (wanted_n rfl rfl rfl hg4) rfl ?_
      refine hl_no (wanted_n rfl rfl rfl hg4) rfl ?_
      refine hl_no (wanted_n rfl rfl rfl hg4) rfl ?_
      refine hl_no (wanted_n rfl rfl rfl hg4) rfl ?_
      refine hl_no (wanted_n rfl rfl rfl hg4) rfl ?_
      refine hl_no (wanted_n rfl rfl rfl hg4) rfl ?_
      refine hl_no (wanted_n rfl rfl rfl hg4) rfl ?_
      refine hl_no (wanted_u rfl rfl rfl) rfl ?_
      refine hl_no (wanted_u rfl rfl rfl) rfl ?_
      refine hl_no (wanted_u rfl rfl rfl) rfl ?_
      refine hl_no (wanted_u rfl rfl rfl) rfl ?_
      refine hl_no (wanted_u rfl rfl rfl) rfl ?_
      refine hl_no (wanted_u rfl rfl rfl) rfl ?_
      refine hl_no (wanted_u rfl rfl rfl) rfl ?_
      refine hl_no (wanted_u rfl rfl rfl) rfl ?_
      refine hl_no (wanted_u rfl rfl rfl) rfl ?_
      refine hl_no (wanted_n rfl rfl rfl hg4) rfl ?_
      refine hl_val rfl rfl (v := (.bool true)) (hv_pick_t rfl hg4 rfl) ?_
      refine hl_val rfl rfl (v := (.bool true)) (hv_move rfl) ?_
      refine hl_no (wanted_n rfl rfl (c := true) rfl rfl) rfl ?_
      refine hl_no (wanted_n rfl rfl (c := true) rfl rfl) rfl ?_
      refine hl_no (wanted_n rfl rfl (c := true) rfl rfl) rfl ?_
      refine hl_no (wanted_n rfl rfl (c := true) rfl rfl) rfl ?_
      refine hl_no (wanted_n rfl rfl (c := true) rfl rfl) rfl ?_
      refine hl_no (wanted_n rfl rfl (c := true) rfl rfl) rfl ?_
      refine hl_no (wanted_n rfl rfl (c := true) rfl rfl) rfl ?_
      refine hl_no (wanted_n rfl rfl (c := true) rfl rfl) rfl ?_
      refine hl_no (wanted_n rfl rfl (c := true) rfl rfl) rfl ?_
      refine hl_val rfl rfl (v := (.bool true)) (hv_pick (t := true) rfl rfl) ?_
      refine hl_nil ?_
      refine seqQ_n ?_
      obtain rfl := H
      exact ⟨rfl, (has_cons rfl (has_cons rfl (has_cons rfl has_nil)))⟩
    · replace H := H.2 hg4
      refine hl_yes (wanted_y rfl rfl rfl hg4) rfl (HStep.of_val (v := (ptr m_b m_o)) (hv_move rfl) ?_)
      refine hl_yes (wanted_y rfl rfl rfl hg4) rfl (HStep.of_val (v := (ptr m_b m_o)) (hv_nil rfl) ?_)
      refine hl_yes (wanted_y rfl rfl rfl hg4) rfl (HStep.of_val (v := (ptr m_b m_o)) (hv_field TyQB.fld78_0 (b := m_b) (o := m_o) rfl) ?_)
      obtain ⟨x, x_n, x_c, hc5, H⟩ := H
      refine hl_yes (wanted_y rfl rfl rfl hg4) rfl (HStep.of_val (v := (.slice x x_n x_c)) (hv_load TyQB.agg28 rfl hc5) ?_)
      refine hl_yes (wanted_y rfl rfl rfl hg4) rfl (HStep.of_val (v := (.int .i64 r)) (hv_move rfl) ?_)
      obtain ⟨x_b, x_o, hqe, hi6, hi7, Hq⟩ := H
      subst hqe
      have H := Hq; clear Hq
      refine hl_yes (wanted_y rfl rfl rfl hg4) rfl (HStep.of_val (v := (ptr x_b (x_o + (Int.toNat r) * 4))) (hv_index TyQB.el28 rfl rfl hi6 hi7) ?_)
      refine hl_yes (wanted_y rfl rfl rfl hg4) rfl (HStep.of_val (v := (ptr x_b (x_o + (Int.toNat r) * 4))) (hv_field TyQB.fld31_0 (b := x_b) (o := x_o + (Int.toNat r) * 4) rfl) ?_)
      obtain ⟨x_1, hc8, H⟩ := H
      refine hl_yes (wanted_y rfl rfl rfl hg4) rfl (HStep.of_val (v := (.int .i64 x_1)) (hv_load TyQB.agg3 rfl hc8) ?_)
      refine hl_yes (wanted_y rfl rfl rfl hg4) rfl (HStep.of_val (v := (.bool (x_1 != 2))) (hv_arith rfl rfl rfl) ?_)
      refine hl_yes (wanted_y rfl rfl rfl hg4) rfl (HStep.of_val (v := (.bool (x_1 != 2))) (hv_move rfl) ?_)
      rcases bool_or (x_1 != 2) with hg9 | hg9
      · replace H := H.1 hg9
        refine hl_yes (wanted_y rfl rfl rfl hg9) rfl (HStep.of_val (v := (ptr m_b m_o)) (hv_move rfl) ?_)
        refine hl_yes (wanted_y rfl rfl rfl hg9) rfl (HStep.of_val (v := (ptr m_b m_o)) (hv_nil rfl) ?_)
        refine hl_yes (wanted_y rfl rfl rfl hg9) rfl (HStep.of_val (v := (ptr m_b m_o)) (hv_field TyQB.fld78_0 (b := m_b) (o := m_o) rfl) ?_)
        refine hl_yes (wanted_y rfl rfl rfl hg9) rfl (HStep.of_val (v := (.slice (some ⟨x_b, x_o, none⟩) x_n x_c)) (hv_load TyQB.agg28 rfl hc5) ?_)
        refine hl_yes (wanted_y rfl rfl rfl hg9) rfl (HStep.of_val (v := (.int .i64 r)) (hv_move rfl) ?_)
        refine hl_yes (wanted_y rfl rfl rfl hg9) rfl (HStep.of_val (v := (ptr x_b (x_o + (Int.toNat r) * 4))) (hv_index TyQB.el28 rfl rfl hi6 hi7) ?_)
        refine hl_yes (wanted_y rfl rfl rfl hg9) rfl (HStep.of_val (v := (ptr x_b (x_o + (Int.toNat r) * 4))) (hv_field TyQB.fld31_0 (b := x_b) (o := x_o + (Int.toNat r) * 4) rfl) ?_)
        refine hl_yes (wanted_y rfl rfl rfl hg9) rfl (HStep.of_val (v := (.int .i64 x_1)) (hv_load TyQB.agg3 rfl hc8) ?_)
        refine hl_yes (wanted_y rfl rfl rfl hg9) rfl (HStep.of_val (v := (.bool (x_1 != 3))) (hv_arith rfl rfl rfl) ?_)
        refine hl_yes (wanted_y rfl rfl rfl hg4) rfl (HStep.of_val (v := (.bool (x_1 != 3))) (hv_pick_t rfl hg9 rfl) ?_)
        refine hl_val rfl rfl (v := (.bool (x_1 != 3))) (hv_pick_f rfl hg4 rfl) ?_
        refine hl_val rfl rfl (v := (.bool (x_1 != 3))) (hv_move rfl) ?_
        rcases bool_or (x_1 != 3) with hg12 | hg12
        · replace H := H.1 hg12
          refine hl_no (wanted_n rfl rfl rfl hg12) rfl ?_
          refine hl_no (wanted_n rfl rfl rfl hg12) rfl ?_
          refine hl_no (wanted_n rfl rfl rfl hg12) rfl ?_
          refine hl_no (wanted_n rfl rfl rfl hg12) rfl ?_
          refine hl_no (wanted_n rfl rfl rfl hg12) rfl ?_
          refine hl_no (wanted_n rfl rfl rfl hg12) rfl ?_
          refine hl_no (wanted_n rfl rfl rfl hg12) rfl ?_
          refine hl_no (wanted_n rfl rfl rfl hg12) rfl ?_
          refine hl_no (wanted_n rfl rfl rfl hg12) rfl ?_
          refine hl_val rfl rfl (v := (.bool true)) (hv_pick_t rfl hg12 rfl) ?_
          refine hl_nil ?_
          refine seqQ_n ?_
          obtain rfl := H
          exact ⟨rfl, (has_cons rfl (has_cons rfl (has_cons rfl has_nil)))⟩
        · replace H := H.2 hg12
          refine hl_yes (wanted_y rfl rfl rfl hg12) rfl (HStep.of_val (v := (ptr m_b m_o)) (hv_move rfl) ?_)
          refine hl_yes (wanted_y rfl rfl rfl hg12) rfl (HStep.of_val (v := (ptr m_b m_o)) (hv_nil rfl) ?_)
          refine hl_yes (wanted_y rfl rfl rfl hg12) rfl (HStep.of_val (v := (ptr m_b m_o)) (hv_field TyQB.fld78_0 (b := m_b) (o := m_o) rfl) ?_)
          refine hl_yes (wanted_y rfl rfl rfl hg12) rfl (HStep.of_val (v := (.slice (some ⟨x_b, x_o, none⟩) x_n x_c)) (hv_load TyQB.agg28 rfl hc5) ?_)
          refine hl_yes (wanted_y rfl rfl rfl hg12) rfl (HStep.of_val (v := (.int .i64 r)) (hv_move rfl) ?_)
          refine hl_yes (wanted_y rfl rfl rfl hg12) rfl (HStep.of_val (v := (ptr x_b (x_o + (Int.toNat r) * 4))) (hv_index TyQB.el28 rfl rfl hi6 hi7) ?_)
          refine hl_yes (wanted_y rfl rfl rfl hg12) rfl (HStep.of_val (v := (ptr x_b ((x_o + (Int.toNat r) * 4) + 2))) (hv_field TyQB.fld31_2 (b := x_b) (o := x_o + (Int.toNat r) * 4) rfl) ?_)
          obtain ⟨x_2, hc15, H⟩ := H
          refine hl_yes (wanted_y rfl rfl rfl hg12) rfl (HStep.of_val (v := (.int .i64 x_2)) (hv_load TyQB.agg3 rfl hc15) ?_)
          refine hl_yes (wanted_y rfl rfl rfl hg12) rfl (HStep.of_val (v := (.bool (x_2 == 2147483647))) (hv_arith rfl rfl rfl) ?_)
          refine hl_val rfl rfl (v := (.bool (x_2 == 2147483647))) (hv_pick_f rfl hg12 rfl) ?_
          refine hl_nil ?_
          refine seqQ_n ?_
          obtain rfl := H
          exact ⟨rfl, (has_cons rfl (has_cons rfl (has_cons rfl has_nil)))⟩
      · replace H := H.2 hg9
        refine hl_no (wanted_n rfl rfl rfl hg9) rfl ?_
        refine hl_no (wanted_n rfl rfl rfl hg9) rfl ?_
        refine hl_no (wanted_n rfl rfl rfl hg9) rfl ?_
        refine hl_no (wanted_n rfl rfl rfl hg9) rfl ?_
        refine hl_no (wanted_n rfl rfl rfl hg9) rfl ?_
        refine hl_no (wanted_n rfl rfl rfl hg9) rfl ?_
        refine hl_no (wanted_n rfl rfl rfl hg9) rfl ?_
        refine hl_no (wanted_n rfl rfl rfl hg9) rfl ?_
        refine hl_no (wanted_n rfl rfl rfl hg9) rfl ?_
        refine hl_yes (wanted_y rfl rfl rfl hg4) rfl (HStep.of_val (v := (.bool false)) (hv_pick_f rfl hg9 rfl) ?_)
        refine hl_val rfl rfl (v := (.bool false)) (hv_pick_f rfl hg4 rfl) ?_
        refine hl_val rfl rfl (v := (.bool false)) (hv_move rfl) ?_
        refine hl_yes (wanted_y rfl rfl (c := false) rfl rfl) rfl (HStep.of_val (v := (ptr m_b m_o)) (hv_move rfl) ?_)
        refine hl_yes (wanted_y rfl rfl (c := false) rfl rfl) rfl (HStep.of_val (v := (ptr m_b m_o)) (hv_nil rfl) ?_)
        refine hl_yes (wanted_y rfl rfl (c := false) rfl rfl) rfl (HStep.of_val (v := (ptr m_b m_o)) (hv_field TyQB.fld78_0 (b := m_b) (o := m_o) rfl) ?_)
        refine hl_yes (wanted_y rfl rfl (c := false) rfl rfl) rfl (HStep.of_val (v := (.slice (some ⟨x_b, x_o, none⟩) x_n x_c)) (hv_load TyQB.agg28 rfl hc5) ?_)
        refine hl_yes (wanted_y rfl rfl (c := false) rfl rfl) rfl (HStep.of_val (v := (.int .i64 r)) (hv_move rfl) ?_)
        refine hl_yes (wanted_y rfl rfl (c := false) rfl rfl) rfl (HStep.of_val (v := (ptr x_b (x_o + (Int.toNat r) * 4))) (hv_index TyQB.el28 rfl rfl hi6 hi7) ?_)
        refine hl_yes (wanted_y rfl rfl (c := false) rfl rfl) rfl (HStep.of_val (v := (ptr x_b ((x_o + (Int.toNat r) * 4) + 2))) (hv_field TyQB.fld31_2 (b := x_b) (o := x_o + (Int.toNat r) * 4) rfl) ?_)
        obtain ⟨x_2, hc18, H⟩ := H
        refine hl_yes (wanted_y rfl rfl (c := false) rfl rfl) rfl (HStep.of_val (v := (.int .i64 x_2)) (hv_load TyQB.agg3 rfl hc18) ?_)
        refine hl_yes (wanted_y rfl rfl (c := false) rfl rfl) rfl (HStep.of_val (v := (.bool (x_2 == 2147483647))) (hv_arith rfl rfl rfl) ?_)
        refine hl_val rfl rfl (v := (.bool (x_2 == 2147483647))) (hv_pick (t := false) rfl rfl) ?_
        refine hl_nil ?_
        refine seqQ_n ?_
        obtain rfl := H
        exact ⟨rfl, (has_cons rfl (has_cons rfl (has_cons rfl has_nil)))⟩
  · have H := Hy2; clear Hx1 Hy2
    rintro ρ _ ⟨rfl, hH⟩
    refine hx_has _ hH ?_
    refine hx_cond (b := j) rfl (fun hb19 => ?_) (fun hb19 => ?_)
    · replace H := H.1 hb19
      refine hx_seq ?_
      refine hx_region ?_
      refine hl_val rfl rfl (v := (.bool false)) (hv_assign rfl) ?_
      refine hl_nil ?_
      refine seqQ_n ?_
      refine hx_ret ?_
      refine seqQ_ret ?_
      exact endQ_ret _ (res_one Try.results44 (rv_tmp rfl)) H
    · replace H := H.2 hb19
      refine hx_skip ?_
      refine seqQ_n ?_
      refine hx_seq ?_
      refine hx_region ?_
      refine hl_val rfl rfl (v := (ptr m_b m_o)) (hv_move rfl) ?_
      refine hl_val rfl rfl (v := (ptr m_b m_o)) (hv_nil rfl) ?_
      refine hl_val rfl rfl (v := (ptr m_b m_o)) (hv_field TyQB.fld78_0 (b := m_b) (o := m_o) rfl) ?_
      obtain ⟨x_3, x_n_1, x_c_1, hc20, H⟩ := H
      refine hl_val rfl rfl (v := (.slice x_3 x_n_1 x_c_1)) (hv_load TyQB.agg28 rfl hc20) ?_
      refine hl_val rfl rfl (v := (.int .i64 r)) (hv_move rfl) ?_
      obtain ⟨x_3_b, x_3_o, hqe, hi21, hi22, Hq⟩ := H
      subst hqe
      have H := Hq; clear Hq
      refine hl_val rfl rfl (v := (ptr x_3_b (x_3_o + (Int.toNat r) * 4))) (hv_index TyQB.el28 rfl rfl hi21 hi22) ?_
      refine hl_val rfl rfl (v := (ptr x_3_b ((x_3_o + (Int.toNat r) * 4) + 2))) (hv_field TyQB.fld31_2 (b := x_3_b) (o := x_3_o + (Int.toNat r) * 4) rfl) ?_
      obtain ⟨x_4, hc23, H⟩ := H
      refine hl_val rfl rfl (v := (.int .i64 x_4)) (hv_load TyQB.agg3 rfl hc23) ?_
      refine hl_val rfl rfl (v := (.int .i64 (IntKind.i64.wrap (x_4 + 1)))) (hv_arith rfl rfl rfl) ?_
      refine hl_val rfl rfl (v := (ptr x_3_b (x_3_o + (Int.toNat r) * 4))) (hv_index TyQB.el28 rfl rfl hi21 hi22) ?_
      refine hl_val rfl rfl (v := (ptr x_3_b ((x_3_o + (Int.toNat r) * 4) + 2))) (hv_field TyQB.fld31_2 (b := x_3_b) (o := x_3_o + (Int.toNat r) * 4) rfl) ?_
      obtain ⟨hw27, H⟩ := H
      refine hl_step rfl rfl (hn_store (v := (.int .i64 (IntKind.i64.wrap (x_4 + 1)))) rfl rfl TyQB.sz3 rfl hw27 ?_)
      intro h1 eh26
      replace H := H h1 eh26
      refine hl_nil ?_
      refine seqQ_n ?_
      refine hx_seq ?_
      refine hx_region ?_
      refine hl_val rfl rfl (v := (.bool true)) (hv_assign rfl) ?_
      refine hl_nil ?_
      refine seqQ_n ?_
      refine hx_ret ?_
      exact endQ_ret _ (res_one Try.results44 (rv_tmp rfl)) H

/-- (*cellar/cellarref09.Man).Unpin -/
theorem f45_sh (m_b : Nat) (m_o : Nat) (r : Int) (h : Heap) (R : Value → Heap → Prop)
    (H : (∃ r_1 : Bool, HC Try.prog 56 #[(ptr m_b m_o), (.int .i64 r)] h (fun vv h' => vv = (.bool r_1) ∧ h' = h) ∧ (((!r_1) = true → R (.tuple #[(.slice none 0 0), (.int .i64 90)]) h) ∧ ((!r_1) = false → (∃ x : Option Addr, ∃ x_n x_c : Nat, hcell h m_b m_o = some (.slice x x_n x_c) ∧ (∃ x_b x_o : Nat, x = some ⟨x_b, x_o, none⟩ ∧ (0 : Int) ≤ r ∧ r < (x_n : Int) ∧ (∃ x_1 : Int, hcell h x_b ((x_o + (Int.toNat r) * 4) + 2) = some (.int .i64 x_1) ∧ (((x_1 == 0) = true → R (.tuple #[(.slice none 0 0), (.int .i64 92)]) h) ∧ ((x_1 == 0) = false → (HW h x_b ((x_o + (Int.toNat r) * 4) + 2) ∧ ∀ h1, h1 = hset h x_b ((x_o + (Int.toNat r) * 4) + 2) (.int .i64 (IntKind.i64.wrap (x_1 - 1))) → (∃ j : Bool, (∃ x_2 : Option Addr, ∃ x_n_1 x_c_1 : Nat, hcell h1 m_b m_o = some (.slice x_2 x_n_1 x_c_1) ∧ (∃ x_2_b x_2_o : Nat, x_2 = some ⟨x_2_b, x_2_o, none⟩ ∧ (0 : Int) ≤ r ∧ r < (x_n_1 : Int) ∧ (∃ x_3 : Int, hcell h1 x_2_b (x_2_o + (Int.toNat r) * 4) = some (.int .i64 x_3) ∧ (((x_3 == 4) = true → (∃ x_4 : Int, hcell h1 x_2_b ((x_2_o + (Int.toNat r) * 4) + 2) = some (.int .i64 x_4) ∧ (j = (x_4 == 0)))) ∧ ((x_3 == 4) = false → (j = false)))))) ∧ ((j = true → (∃ x_5 : Option Addr, ∃ x_n_2 x_c_2 : Nat, hcell h1 m_b (m_o + 4) = some (.slice x_5 x_n_2 x_c_2) ∧ (∃ x_5_b x_5_o : Nat, x_5 = some ⟨x_5_b, x_5_o, none⟩ ∧ (0 : Int) ≤ r ∧ r < (x_n_2 : Int) ∧ (∃ x_6 : Option Addr, ∃ x_n_3 x_c_3 : Nat, hcell h1 x_5_b (x_5_o + (Int.toNat r) * 1) = some (.slice x_6 x_n_3 x_c_3) ∧ (HW h1 x_5_b (x_5_o + (Int.toNat r) * 1) ∧ ∀ h2, h2 = hset h1 x_5_b (x_5_o + (Int.toNat r) * 1) (.slice none 0 0) → R (.tuple #[(.slice x_6 x_n_3 x_c_3), (.int .i64 0)]) h2))))) ∧ (j = false → R (.tuple #[(.slice none 0 0), (.int .i64 0)]) h1))))))))))))) :
    HC Try.prog 45 #[(ptr m_b m_o), (.int .i64 r)] h R := by
  refine hc_of (args := [(ptr m_b m_o), (.int .i64 r)]) Try.func45 rfl Try.ntmps45 (Nat.le_of_ble_eq_true rfl) ?_
  refine hx_seq ?_
  refine hx_region ?_
  refine hl_val rfl rfl (v := (.slice none 0 0)) (hv_assign rfl) ?_
  refine hl_val rfl rfl (v := (.int .i64 0)) (hv_assign rfl) ?_
  refine hl_nil ?_
  refine seqQ_n ?_
  refine hx_seq ?_
  refine hx_seq ?_
  refine hx_region ?_
  refine hl_val rfl rfl (v := (ptr m_b m_o)) (hv_move rfl) ?_
  refine hl_val rfl rfl (v := (.int .i64 r)) (hv_move rfl) ?_
  obtain ⟨r_1, hr1, H⟩ := H
  refine hl_val rfl rfl (v := (.bool r_1)) (hv_call TyQB.cb56 (vs := [(ptr m_b m_o), (.int .i64 r)]) rfl hr1) ?_
  refine hl_val rfl rfl (v := (.bool (!r_1))) (hv_not (b := r_1) rfl) ?_
  refine hl_nil ?_
  refine seqQ_n ?_
  refine hx_cond (b := !r_1) rfl (fun hb2 => ?_) (fun hb2 => ?_)
  · replace H := H.1 hb2
    refine hx_seq ?_
    refine hx_region ?_
    refine hl_val rfl rfl (v := (.slice none 0 0)) (hv_assign rfl) ?_
    refine hl_val rfl rfl (v := (.int .i64 90)) (hv_assign rfl) ?_
    refine hl_nil ?_
    refine seqQ_n ?_
    refine hx_ret ?_
    refine seqQ_ret ?_
    exact endQ_ret _ (res_two Try.results45 (rv_tmp rfl) (rv_tmp rfl)) H
  · replace H := H.2 hb2
    refine hx_skip ?_
    refine seqQ_n ?_
    refine hx_seq ?_
    refine hx_seq ?_
    refine hx_region ?_
    refine hl_val rfl rfl (v := (ptr m_b m_o)) (hv_move rfl) ?_
    refine hl_val rfl rfl (v := (ptr m_b m_o)) (hv_nil rfl) ?_
    refine hl_val rfl rfl (v := (ptr m_b m_o)) (hv_field TyQB.fld78_0 (b := m_b) (o := m_o) rfl) ?_
    obtain ⟨x, x_n, x_c, hc3, H⟩ := H
    refine hl_val rfl rfl (v := (.slice x x_n x_c)) (hv_load TyQB.agg28 rfl hc3) ?_
    refine hl_val rfl rfl (v := (.int .i64 r)) (hv_move rfl) ?_
    obtain ⟨x_b, x_o, hqe, hi4, hi5, Hq⟩ := H
    subst hqe
    have H := Hq; clear Hq
    refine hl_val rfl rfl (v := (ptr x_b (x_o + (Int.toNat r) * 4))) (hv_index TyQB.el28 rfl rfl hi4 hi5) ?_
    refine hl_val rfl rfl (v := (ptr x_b ((x_o + (Int.toNat r) * 4) + 2))) (hv_field TyQB.fld31_2 (b := x_b) (o := x_o + (Int.toNat r) * 4) rfl) ?_
    obtain ⟨x_1, hc6, H⟩ := H
    refine hl_val rfl rfl (v := (.int .i64 x_1)) (hv_load TyQB.agg3 rfl hc6) ?_
    refine hl_val rfl rfl (v := (.bool (x_1 == 0))) (hv_arith rfl rfl rfl) ?_
    refine hl_nil ?_
    refine seqQ_n ?_
    refine hx_cond (b := x_1 == 0) rfl (fun hb7 => ?_) (fun hb7 => ?_)
    · replace H := H.1 hb7
      refine hx_seq ?_
      refine hx_region ?_
      refine hl_val rfl rfl (v := (.slice none 0 0)) (hv_assign rfl) ?_
      refine hl_val rfl rfl (v := (.int .i64 92)) (hv_assign rfl) ?_
      refine hl_nil ?_
      refine seqQ_n ?_
      refine hx_ret ?_
      refine seqQ_ret ?_
      exact endQ_ret _ (res_two Try.results45 (rv_tmp rfl) (rv_tmp rfl)) H
    · replace H := H.2 hb7
      refine hx_skip ?_
      refine seqQ_n ?_
      refine hx_seq ?_
      refine hx_region ?_
      refine hl_val rfl rfl (v := (ptr m_b m_o)) (hv_move rfl) ?_
      refine hl_val rfl rfl (v := (ptr m_b m_o)) (hv_nil rfl) ?_
      refine hl_val rfl rfl (v := (ptr m_b m_o)) (hv_field TyQB.fld78_0 (b := m_b) (o := m_o) rfl) ?_
      refine hl_val rfl rfl (v := (.slice (some ⟨x_b, x_o, none⟩) x_n x_c)) (hv_load TyQB.agg28 rfl hc3) ?_
      refine hl_val rfl rfl (v := (.int .i64 r)) (hv_move rfl) ?_
      refine hl_val rfl rfl (v := (ptr x_b (x_o + (Int.toNat r) * 4))) (hv_index TyQB.el28 rfl rfl hi4 hi5) ?_
      refine hl_val rfl rfl (v := (ptr x_b ((x_o + (Int.toNat r) * 4) + 2))) (hv_field TyQB.fld31_2 (b := x_b) (o := x_o + (Int.toNat r) * 4) rfl) ?_
      refine hl_val rfl rfl (v := (.int .i64 x_1)) (hv_load TyQB.agg3 rfl hc6) ?_
      refine hl_val rfl rfl (v := (.int .i64 (IntKind.i64.wrap (x_1 - 1)))) (hv_arith rfl rfl rfl) ?_
      refine hl_val rfl rfl (v := (ptr x_b (x_o + (Int.toNat r) * 4))) (hv_index TyQB.el28 rfl rfl hi4 hi5) ?_
      refine hl_val rfl rfl (v := (ptr x_b ((x_o + (Int.toNat r) * 4) + 2))) (hv_field TyQB.fld31_2 (b := x_b) (o := x_o + (Int.toNat r) * 4) rfl) ?_
      obtain ⟨hw13, H⟩ := H
      refine hl_step rfl rfl (hn_store (v := (.int .i64 (IntKind.i64.wrap (x_1 - 1)))) rfl rfl TyQB.sz3 rfl hw13 ?_)
      intro h1 eh12
      replace H := H h1 eh12
      refine hl_nil ?_
      refine seqQ_n ?_
      refine hx_seq ?_
      obtain ⟨j, Hx14, Hy15⟩ := H
      refine hx_cut (fun ρ h' => h1 = h' ∧ Has ρ [(0, (ptr m_b m_o)), (1, (.int .i64 r)), (50, (.bool j))]) ?_ ?_
      · have H := Hx14; clear Hx14 Hy15
        refine hx_region ?_
        refine hl_val rfl rfl (v := (ptr m_b m_o)) (hv_move rfl) ?_
        refine hl_val rfl rfl (v := (ptr m_b m_o)) (hv_nil rfl) ?_
        refine hl_val rfl rfl (v := (ptr m_b m_o)) (hv_field TyQB.fld78_0 (b := m_b) (o := m_o) rfl) ?_
        obtain ⟨x_2, x_n_1, x_c_1, hc16, H⟩ := H
        refine hl_val rfl rfl (v := (.slice x_2 x_n_1 x_c_1)) (hv_load TyQB.agg28 rfl hc16) ?_
        refine hl_val rfl rfl (v := (.int .i64 r)) (hv_move rfl) ?_
        obtain ⟨x_2_b, x_2_o, hqe, hi17, hi18, Hq⟩ := H
        subst hqe
        have H := Hq; clear Hq
        refine hl_val rfl rfl (v := (ptr x_2_b (x_2_o + (Int.toNat r) * 4))) (hv_index TyQB.el28 rfl rfl hi17 hi18) ?_
        refine hl_val rfl rfl (v := (ptr x_2_b (x_2_o + (Int.toNat r) * 4))) (hv_field TyQB.fld31_0 (b := x_2_b) (o := x_2_o + (Int.toNat r) * 4) rfl) ?_
        obtain ⟨x_3, hc19, H⟩ := H
        refine hl_val rfl rfl (v := (.int .i64 x_3)) (hv_load TyQB.agg3 rfl hc19) ?_
        refine hl_val rfl rfl (v := (.bool (x_3 == 4))) (hv_arith rfl rfl rfl) ?_
        refine hl_val rfl rfl (v := (.bool (x_3 == 4))) (hv_move rfl) ?_
        rcases bool_or (x_3 == 4) with hg20 | hg20
        · replace H := H.1 hg20
          refine hl_yes (wanted_y rfl rfl rfl hg20) rfl (HStep.of_val (v := (ptr m_b m_o)) (hv_move rfl) ?_)
          refine hl_yes (wanted_y rfl rfl rfl hg20) rfl (HStep.of_val (v := (ptr m_b m_o)) (hv_nil rfl) ?_)
          refine hl_yes (wanted_y rfl rfl rfl hg20) rfl (HStep.of_val (v := (ptr m_b m_o)) (hv_field TyQB.fld78_0 (b := m_b) (o := m_o) rfl) ?_)
          refine hl_yes (wanted_y rfl rfl rfl hg20) rfl (HStep.of_val (v := (.slice (some ⟨x_2_b, x_2_o, none⟩) x_n_1 x_c_1)) (hv_load TyQB.agg28 rfl hc16) ?_)
          refine hl_yes (wanted_y rfl rfl rfl hg20) rfl (HStep.of_val (v := (.int .i64 r)) (hv_move rfl) ?_)
          refine hl_yes (wanted_y rfl rfl rfl hg20) rfl (HStep.of_val (v := (ptr x_2_b (x_2_o + (Int.toNat r) * 4))) (hv_index TyQB.el28 rfl rfl hi17 hi18) ?_)
          refine hl_yes (wanted_y rfl rfl rfl hg20) rfl (HStep.of_val (v := (ptr x_2_b ((x_2_o + (Int.toNat r) * 4) + 2))) (hv_field TyQB.fld31_2 (b := x_2_b) (o := x_2_o + (Int.toNat r) * 4) rfl) ?_)
          obtain ⟨x_4, hc23, H⟩ := H
          refine hl_yes (wanted_y rfl rfl rfl hg20) rfl (HStep.of_val (v := (.int .i64 x_4)) (hv_load TyQB.agg3 rfl hc23) ?_)
          refine hl_yes (wanted_y rfl rfl rfl hg20) rfl (HStep.of_val (v := (.bool (x_4 == 0))) (hv_arith rfl rfl rfl) ?_)
          refine hl_val rfl rfl (v := (.bool (x_4 == 0))) (hv_pick_t rfl hg20 rfl) ?_
          refine hl_nil ?_
          refine seqQ_n ?_
          obtain rfl := H
          exact ⟨rfl, (has_cons rfl (has_cons rfl (has_cons rfl has_nil)))⟩
        · replace H := H.2 hg20
          refine hl_no (wanted_n rfl rfl rfl hg20) rfl ?_
          refine hl_no (wanted_n rfl rfl rfl hg20) rfl ?_
          refine hl_no (wanted_n rfl rfl rfl hg20) rfl ?_
          refine hl_no (wanted_n rfl rfl rfl hg20) rfl ?_
          refine hl_no (wanted_n rfl rfl rfl hg20) rfl ?_
          refine hl_no (wanted_n rfl rfl rfl hg20) rfl ?_
          refine hl_no (wanted_n rfl rfl rfl hg20) rfl ?_
          refine hl_no (wanted_n rfl rfl rfl hg20) rfl ?_
          refine hl_no (wanted_n rfl rfl rfl hg20) rfl ?_
          refine hl_val rfl rfl (v := (.bool false)) (hv_pick_f rfl hg20 rfl) ?_
          refine hl_nil ?_
          refine seqQ_n ?_
          obtain rfl := H
          exact ⟨rfl, (has_cons rfl (has_cons rfl (has_cons rfl has_nil)))⟩
      · have H := Hy15; clear Hx14 Hy15
        rintro ρ _ ⟨rfl, hH⟩
        refine hx_has _ hH ?_
        refine hx_cond (b := j) rfl (fun hb24 => ?_) (fun hb24 => ?_)
        · replace H := H.1 hb24
          refine hx_seq ?_
          refine hx_region ?_
          refine hl_val rfl rfl (v := (ptr m_b m_o)) (hv_move rfl) ?_
          refine hl_val rfl rfl (v := (ptr m_b m_o)) (hv_nil rfl) ?_
          refine hl_val rfl rfl (v := (ptr m_b (m_o + 4))) (hv_field TyQB.fld78_4 (b := m_b) (o := m_o) rfl) ?_
          obtain ⟨x_5, x_n_2, x_c_2, hc25, H⟩ := H
          refine hl_val rfl rfl (v := (.slice x_5 x_n_2 x_c_2)) (hv_load TyQB.agg76 rfl hc25) ?_
          refine hl_val rfl rfl (v := (.int .i64 r)) (hv_move rfl) ?_
          obtain ⟨x_5_b, x_5_o, hqe, hi26, hi27, Hq⟩ := H
          subst hqe
          have H := Hq; clear Hq
          refine hl_val rfl rfl (v := (ptr x_5_b (x_5_o + (Int.toNat r) * 1))) (hv_index TyQB.el76 rfl rfl hi26 hi27) ?_
          obtain ⟨x_6, x_n_3, x_c_3, hc28, H⟩ := H
          refine hl_val rfl rfl (v := (.slice x_6 x_n_3 x_c_3)) (hv_load TyQB.agg50 rfl hc28) ?_
          refine hl_val rfl rfl (v := (.slice x_6 x_n_3 x_c_3)) (hv_assign rfl) ?_
          refine hl_nil ?_
          refine seqQ_n ?_
          refine hx_seq ?_
          refine hx_region ?_
          refine hl_val rfl rfl (v := (ptr m_b m_o)) (hv_move rfl) ?_
          refine hl_val rfl rfl (v := (ptr m_b m_o)) (hv_nil rfl) ?_
          refine hl_val rfl rfl (v := (ptr m_b (m_o + 4))) (hv_field TyQB.fld78_4 (b := m_b) (o := m_o) rfl) ?_
          refine hl_val rfl rfl (v := (.slice (some ⟨x_5_b, x_5_o, none⟩) x_n_2 x_c_2)) (hv_load TyQB.agg76 rfl hc25) ?_
          refine hl_val rfl rfl (v := (.int .i64 r)) (hv_move rfl) ?_
          refine hl_val rfl rfl (v := (ptr x_5_b (x_5_o + (Int.toNat r) * 1))) (hv_index TyQB.el76 rfl rfl hi26 hi27) ?_
          obtain ⟨hw32, H⟩ := H
          refine hl_step rfl rfl (hn_store (v := (.slice none 0 0)) rfl rfl TyQB.sz50 rfl hw32 ?_)
          intro h2 eh31
          replace H := H h2 eh31
          refine hl_nil ?_
          refine seqQ_n ?_
          refine hx_seq ?_
          refine hx_region ?_
          refine hl_val rfl rfl (v := (.slice x_6 x_n_3 x_c_3)) (hv_move rfl) ?_
          refine hl_val rfl rfl (v := (.slice x_6 x_n_3 x_c_3)) (hv_assign rfl) ?_
          refine hl_val rfl rfl (v := (.int .i64 0)) (hv_assign rfl) ?_
          refine hl_nil ?_
          refine seqQ_n ?_
          refine hx_ret ?_
          refine seqQ_ret ?_
          exact endQ_ret _ (res_two Try.results45 (rv_tmp rfl) (rv_tmp rfl)) H
        · replace H := H.2 hb24
          refine hx_skip ?_
          refine seqQ_n ?_
          refine hx_seq ?_
          refine hx_region ?_
          refine hl_val rfl rfl (v := (.slice none 0 0)) (hv_assign rfl) ?_
          refine hl_val rfl rfl (v := (.int .i64 0)) (hv_assign rfl) ?_
          refine hl_nil ?_
          refine seqQ_n ?_
          refine hx_ret ?_
          exact endQ_ret _ (res_two Try.results45 (rv_tmp rfl) (rv_tmp rfl)) H

/-- (*cellar/cellarref09.Man).Sealed -/
theorem f20_sh (m_b : Nat) (m_o : Nat) (h : Heap) (R : Value → Heap → Prop)
    (H : (∃ (I1 : Option Addr → Nat → Nat → Int → Heap → Prop) (mu2 : Option Addr → Nat → Nat → Int → Heap → Nat), I1 none 0 0 0 h ∧ (∀ (l : Option Addr) (l_n : Nat) (l_c : Nat) (i : Int) (h1 : Heap), I1 l l_n l_c i h1 → (∃ x : Option Addr, ∃ x_n x_c : Nat, hcell h1 m_b m_o = some (.slice x x_n x_c) ∧ (((decide (i < (x_n : Int))) = true → (∃ A10 : Option Addr → Nat → Nat → Heap → Prop, (∃ x_b x_o : Nat, x = some ⟨x_b, x_o, none⟩ ∧ (0 : Int) ≤ i ∧ i < (x_n : Int) ∧ (∃ x_1 : Int, hcell h1 x_b (x_o + (Int.toNat i) * 4) = some (.int .i64 x_1) ∧ (((x_1 != 3) = true → (A10 l l_n l_c h1)) ∧ ((x_1 != 3) = false → (∀ nb h3, nb = Array.size h1 → h3 = Array.push h1 (.cells #[(.int .i64 i)] 3) → HAppend Try.prog 50 50 (.slice l l_n l_c) (.slice (some ⟨nb, 0, none⟩) 1 1) h3 (fun vv h4 => ∃ ap : Option Addr, ∃ ap_n ap_c : Nat, vv = (.slice ap ap_n ap_c) ∧ (∃ (I19 : Int → Heap → Prop) (mu20 : Int → Heap → Nat), I19 (l_n : Int) h4 ∧ (∀ (k : Int) (h5 : Heap), I19 k h5 → (∃ j : Bool, (((decide (k > 0)) = true → (∃ x_2 : Option Addr, ∃ x_n_1 x_c_1 : Nat, hcell h5 m_b m_o = some (.slice x_2 x_n_1 x_c_1) ∧ (∃ ap_b ap_o : Nat, ap = some ⟨ap_b, ap_o, none⟩ ∧ (0 : Int) ≤ IntKind.i64.wrap (k - 1) ∧ IntKind.i64.wrap (k - 1) < (ap_n : Int) ∧ (∃ x_3 : Int, hcell h5 ap_b (ap_o + (Int.toNat (IntKind.i64.wrap (k - 1))) * 1) = some (.int .i64 x_3) ∧ (∃ x_2_b x_2_o : Nat, x_2 = some ⟨x_2_b, x_2_o, none⟩ ∧ (0 : Int) ≤ x_3 ∧ x_3 < (x_n_1 : Int) ∧ (∃ x_4 : Int, hcell h5 x_2_b ((x_2_o + (Int.toNat x_3) * 4) + 1) = some (.int .u64 x_4) ∧ ((0 : Int) ≤ i ∧ i < (x_n_1 : Int) ∧ (∃ x_5 : Int, hcell h5 x_2_b ((x_2_o + (Int.toNat i) * 4) + 1) = some (.int .u64 x_5) ∧ (j = (decide (x_4 > x_5))))))))))) ∧ ((decide (k > 0)) = false → (j = false))) ∧ ((j = true → (∃ ap_b_1 ap_o_1 : Nat, ap = some ⟨ap_b_1, ap_o_1, none⟩ ∧ (0 : Int) ≤ IntKind.i64.wrap (k - 1) ∧ IntKind.i64.wrap (k - 1) < (ap_n : Int) ∧ (∃ x_6 : Int, hcell h5 ap_b_1 (ap_o_1 + (Int.toNat (IntKind.i64.wrap (k - 1))) * 1) = some (.int .i64 x_6) ∧ ((0 : Int) ≤ k ∧ k < (ap_n : Int) ∧ (HW h5 ap_b_1 (ap_o_1 + (Int.toNat k) * 1) ∧ ∀ h6, h6 = hset h5 ap_b_1 (ap_o_1 + (Int.toNat k) * 1) (.int .i64 x_6) → (I19 (IntKind.i64.wrap (k - 1)) h6 ∧ mu20 (IntKind.i64.wrap (k - 1)) h6 < mu20 k h5)))))) ∧ (j = false → (∃ ap_b_1 ap_o_1 : Nat, ap = some ⟨ap_b_1, ap_o_1, none⟩ ∧ (0 : Int) ≤ k ∧ k < (ap_n : Int) ∧ (HW h5 ap_b_1 (ap_o_1 + (Int.toNat k) * 1) ∧ ∀ h7, h7 = hset h5 ap_b_1 (ap_o_1 + (Int.toNat k) * 1) (.int .i64 i) → (A10 (some ⟨ap_b_1, ap_o_1, none⟩) ap_n ap_c h7)))))))))))))) ∧ (∀ (l_1 : Option Addr) (l_n_1 : Nat) (l_c_1 : Nat) (h2 : Heap), A10 l_1 l_n_1 l_c_1 h2 → (I1 l_1 l_n_1 l_c_1 (IntKind.i64.wrap (i + 1)) h2 ∧ mu2 l_1 l_n_1 l_c_1 (IntKind.i64.wrap (i + 1)) h2 < mu2 l l_n l_c i h1)))) ∧ ((decide (i < (x_n : Int))) = false → R (.slice l l_n l_c) h1)))))) :
    HC Try.prog 20 #[(ptr m_b m_o)] h R := by
  refine hc_of (args := [(ptr m_b m_o)]) Try.func20 rfl Try.ntmps20 (Nat.le_of_ble_eq_true rfl) ?_
  refine hx_seq ?_
  refine hx_region ?_
  refine hl_val rfl rfl (v := (.slice none 0 0)) (hv_assign rfl) ?_
  refine hl_nil ?_
  refine seqQ_n ?_
  refine hx_seq ?_
  refine hx_region ?_
  refine hl_val rfl rfl (v := (.slice none 0 0)) (hv_assign rfl) ?_
  refine hl_nil ?_
  refine seqQ_n ?_
  refine hx_seq ?_
  refine hx_seq ?_
  refine hx_region ?_
  refine hl_val rfl rfl (v := (.int .i64 0)) (hv_assign rfl) ?_
  refine hl_nil ?_
  refine seqQ_n ?_
  refine hx_block ?_
  obtain ⟨I1, mu2, Ha3, Hr4⟩ := H
  refine hx_loopT (σ := Option Addr × Nat × Nat × Int) (fun s => [(0, (ptr m_b m_o)), (3, (.slice s.1 s.2.1 s.2.2.1)), (4, (.int .i64 s.2.2.2))]) (fun s h' => I1 s.1 s.2.1 s.2.2.1 s.2.2.2 h' ∧ True) (fun s h' => mu2 s.1 s.2.1 s.2.2.1 s.2.2.2 h') (none, 0, 0, 0) ⟨Ha3, trivial⟩ (has_cons rfl (has_cons rfl (has_cons rfl has_nil))) ?_
  rintro ⟨l, l_n, l_c, i⟩ ρ h1 ⟨Hi5, -⟩
  have H := Hr4 l l_n l_c i h1 Hi5
  refine hx_seq ?_
  refine hx_seq ?_
  refine hx_region ?_
  refine hl_val rfl rfl (v := (.int .i64 i)) (hv_move rfl) ?_
  refine hl_val rfl rfl (v := (ptr m_b m_o)) (hv_move rfl) ?_
  refine hl_val rfl rfl (v := (ptr m_b m_o)) (hv_nil rfl) ?_
  refine hl_val rfl rfl (v := (ptr m_b m_o)) (hv_field TyQB.fld78_0 (b := m_b) (o := m_o) rfl) ?_
  obtain ⟨x, x_n, x_c, hc6, H⟩ := H
  refine hl_val rfl rfl (v := (.slice x x_n x_c)) (hv_load TyQB.agg28 rfl hc6) ?_
  refine hl_val rfl rfl (v := (.int .i64 (x_n : Int))) (hv_len (n := x_n) TyQB.u28 rfl) ?_
  refine hl_val rfl rfl (v := (.bool (decide (i < (x_n : Int))))) (hv_arith rfl rfl rfl) ?_
  refine hl_nil ?_
  refine seqQ_n ?_
  refine hx_cond (b := decide (i < (x_n : Int))) rfl (fun hb7 => ?_) (fun hb7 => ?_)
  · replace H := H.1 hb7
    refine hx_skip ?_
    refine seqQ_n ?_
    obtain ⟨A10, Hx8, Hy9⟩ := H
    refine hx_cut (fun ρ h' => ∃ l_1 : Option Addr, ∃ l_n_1 l_c_1 : Nat, (A10 l_1 l_n_1 l_c_1 h' ∧ True) ∧ Has ρ [(0, (ptr m_b m_o)), (3, (.slice l_1 l_n_1 l_c_1)), (4, (.int .i64 i))]) ?_ ?_
    · have H := Hx8; clear Hx8 Hy9
      refine hx_block ?_
      refine hx_seq ?_
      refine hx_seq ?_
      refine hx_region ?_
      refine hl_val rfl rfl (v := (ptr m_b m_o)) (hv_move rfl) ?_
      refine hl_val rfl rfl (v := (ptr m_b m_o)) (hv_nil rfl) ?_
      refine hl_val rfl rfl (v := (ptr m_b m_o)) (hv_field TyQB.fld78_0 (b := m_b) (o := m_o) rfl) ?_
      refine hl_val rfl rfl (v := (.slice x x_n x_c)) (hv_load TyQB.agg28 rfl hc6) ?_
      refine hl_val rfl rfl (v := (.int .i64 i)) (hv_move rfl) ?_
      obtain ⟨x_b, x_o, hqe, hi12, hi13, Hq⟩ := H
      subst hqe
      have H := Hq; clear Hq
      refine hl_val rfl rfl (v := (ptr x_b (x_o + (Int.toNat i) * 4))) (hv_index TyQB.el28 rfl rfl hi12 hi13) ?_
      refine hl_val rfl rfl (v := (ptr x_b (x_o + (Int.toNat i) * 4))) (hv_field TyQB.fld31_0 (b := x_b) (o := x_o + (Int.toNat i) * 4) rfl) ?_
      obtain ⟨x_1, hc14, H⟩ := H
      refine hl_val rfl rfl (v := (.int .i64 x_1)) (hv_load TyQB.agg3 rfl hc14) ?_
      refine hl_val rfl rfl (v := (.bool (x_1 != 3))) (hv_arith rfl rfl rfl) ?_
      refine hl_nil ?_
      refine seqQ_n ?_
      refine hx_cond (b := x_1 != 3) rfl (fun hb15 => ?_) (fun hb15 => ?_)
      · replace H := H.1 hb15
        refine hx_exit ?_
        refine seqQ_exit ?_
        refine blockQ_here ?_
        refine seqQ_n ?_
        exact ⟨_, _, _, ⟨H, trivial⟩, (has_cons rfl (has_cons rfl (has_cons rfl has_nil)))⟩
      · replace H := H.2 hb15
        refine hx_skip ?_
        refine seqQ_n ?_
        refine hx_seq ?_
        refine hx_region ?_
        refine hl_val rfl rfl (v := (.slice l l_n l_c)) (hv_move rfl) ?_
        refine hl_val rfl rfl (v := (.int .i64 (l_n : Int))) (hv_len (n := l_n) TyQB.u50 rfl) ?_
        refine hl_val rfl rfl (v := (.int .i64 (l_n : Int))) (hv_assign rfl) ?_
        refine hl_nil ?_
        refine seqQ_n ?_
        refine hx_seq ?_
        refine hx_region ?_
        refine hl_val rfl rfl (v := (.slice l l_n l_c)) (hv_move rfl) ?_
        refine hl_val rfl rfl (v := (.int .i64 i)) (hv_move rfl) ?_
        refine hl_step rfl rfl (hn_buildSlice (n := 1) (vs := [(0, (.int .i64 i))]) (cs := #[(.int .i64 i)]) TyQB.u50 TyQB.sz3 TyQB.z3 rfl rfl (by kernel_rfl) ?_)
        intro nb h3 eb16 eh17
        replace H := H nb h3 eb16 eh17
        have xx18 : Ext h1 h3 := by rw [eh17]; exact Ext.push _ _
        refine hl_step rfl rfl (hs_append rfl rfl (HAppend.mono H ?_))
        rintro _ h4 ⟨ap, ap_n, ap_c, rfl, H⟩
        refine hl_val rfl rfl (v := (.slice ap ap_n ap_c)) (hv_assign rfl) ?_
        refine hl_nil ?_
        refine seqQ_n ?_
        refine hx_seq ?_
        refine hx_block ?_
        obtain ⟨I19, mu20, Ha21, Hr22⟩ := H
        refine hx_loopT (σ := Int) (fun s => [(0, (ptr m_b m_o)), (3, (.slice ap ap_n ap_c)), (4, (.int .i64 i)), (5, (.int .i64 s))]) (fun s h' => I19 s h' ∧ True) (fun s h' => mu20 s h') (l_n : Int) ⟨Ha21, trivial⟩ (has_cons rfl (has_cons rfl (has_cons rfl (has_cons rfl has_nil)))) ?_
        rintro k ρ h5 ⟨Hi23, -⟩
        have H := Hr22 k h5 Hi23
        refine hx_seq ?_
        obtain ⟨j, Hx24, Hy25⟩ := H
        refine hx_cut (fun ρ h' => h5 = h' ∧ Has ρ [(0, (ptr m_b m_o)), (3, (.slice ap ap_n ap_c)), (4, (.int .i64 i)), (5, (.int .i64 k)), (54, (.bool j))]) ?_ ?_
        · have H := Hx24; clear Hx24 Hy25
          refine hx_draw TyQB.mixed [.pure, .pure, .pure, .pure, .pure, .pure, .read, .pure, .pure, .pure, .pure, .read, .pure, .pure, .read, .pure, .pure, .pure, .read, .pure, .pure, .pure, .read, .pure, .pure] [0, 1, 2, 3, 4, 5, 6, 7, 8, 9, 10, 11, 12, 13, 14, 15, 16, 17, 18, 19, 20, 21, 22, 23, 24] (by kernel_rfl) ?_
          refine hp_pure (i := 0) rfl (wanted_0 rfl) rfl (.int .i64 k) (fun _ => hv_move rfl) ?_
          refine hp_pure (i := 1) rfl (wanted_0 rfl) rfl (.bool (decide (k > 0))) (fun _ => hv_arith rfl rfl rfl) ?_
          refine hp_pure (i := 2) rfl (wanted_0 rfl) rfl (.bool (decide (k > 0))) (fun _ => hv_move rfl) ?_
          rcases bool_or (decide (k > 0)) with hg26 | hg26
          · replace H := H.1 hg26
            refine hp_pure (i := 3) rfl (wanted_y rfl rfl rfl hg26) rfl (ptr m_b m_o) (fun _ => hv_move rfl) ?_
            refine hp_pure (i := 4) rfl (wanted_y rfl rfl rfl hg26) rfl (ptr m_b m_o) (fun _ => hv_nil rfl) ?_
            refine hp_pure (i := 5) rfl (wanted_y rfl rfl rfl hg26) rfl (ptr m_b m_o) (fun _ => hv_field TyQB.fld78_0 (b := m_b) (o := m_o) rfl) ?_
            obtain ⟨x_2, x_n_1, x_c_1, hc27, H⟩ := H
            refine hp_read (i := 6) rfl (wanted_y rfl rfl rfl hg26) rfl (.slice x_2 x_n_1 x_c_1) (fun _ he => hv_load TyQB.agg28 rfl (Ext.cell he hc27)) ?_
            refine hp_pure (i := 7) rfl (wanted_y rfl rfl rfl hg26) rfl (.slice ap ap_n ap_c) (fun _ => hv_move rfl) ?_
            refine hp_pure (i := 8) rfl (wanted_y rfl rfl rfl hg26) rfl (.int .i64 k) (fun _ => hv_move rfl) ?_
            refine hp_pure (i := 9) rfl (wanted_y rfl rfl rfl hg26) rfl (.int .i64 (IntKind.i64.wrap (k - 1))) (fun _ => hv_arith rfl rfl rfl) ?_
            obtain ⟨ap_b, ap_o, hqe, hi28, hi29, Hq⟩ := H
            subst hqe
            have H := Hq; clear Hq
            refine hp_pure (i := 10) rfl (wanted_y rfl rfl rfl hg26) rfl (ptr ap_b (ap_o + (Int.toNat (IntKind.i64.wrap (k - 1))) * 1)) (fun _ => hv_index TyQB.el50 rfl rfl hi28 hi29) ?_
            obtain ⟨x_3, hc30, H⟩ := H
            refine hp_read (i := 11) rfl (wanted_y rfl rfl rfl hg26) rfl (.int .i64 x_3) (fun _ he => hv_load TyQB.agg3 rfl (Ext.cell he hc30)) ?_
            obtain ⟨x_2_b, x_2_o, hqe, hi31, hi32, Hq⟩ := H
            subst hqe
            have H := Hq; clear Hq
            refine hp_pure (i := 12) rfl (wanted_y rfl rfl rfl hg26) rfl (ptr x_2_b (x_2_o + (Int.toNat x_3) * 4)) (fun _ => hv_index TyQB.el28 rfl rfl hi31 hi32) ?_
            refine hp_pure (i := 13) rfl (wanted_y rfl rfl rfl hg26) rfl (ptr x_2_b ((x_2_o + (Int.toNat x_3) * 4) + 1)) (fun _ => hv_field TyQB.fld31_1 (b := x_2_b) (o := x_2_o + (Int.toNat x_3) * 4) rfl) ?_
            obtain ⟨x_4, hc33, H⟩ := H
            refine hp_read (i := 14) rfl (wanted_y rfl rfl rfl hg26) rfl (.int .u64 x_4) (fun _ he => hv_load TyQB.agg29 rfl (Ext.cell he hc33)) ?_
            refine hp_pure (i := 15) rfl (wanted_y rfl rfl rfl hg26) rfl (ptr m_b m_o) (fun _ => hv_move rfl) ?_
            refine hp_pure (i := 16) rfl (wanted_y rfl rfl rfl hg26) rfl (ptr m_b m_o) (fun _ => hv_nil rfl) ?_
            refine hp_pure (i := 17) rfl (wanted_y rfl rfl rfl hg26) rfl (ptr m_b m_o) (fun _ => hv_field TyQB.fld78_0 (b := m_b) (o := m_o) rfl) ?_
            refine hp_read (i := 18) rfl (wanted_y rfl rfl rfl hg26) rfl (.slice (some ⟨x_2_b, x_2_o, none⟩) x_n_1 x_c_1) (fun _ he => hv_load TyQB.agg28 rfl (Ext.cell he hc27)) ?_
            refine hp_pure (i := 19) rfl (wanted_y rfl rfl rfl hg26) rfl (.int .i64 i) (fun _ => hv_move rfl) ?_
            obtain ⟨hi34, hi35, H⟩ := H
            refine hp_pure (i := 20) rfl (wanted_y rfl rfl rfl hg26) rfl (ptr x_2_b (x_2_o + (Int.toNat i) * 4)) (fun _ => hv_index TyQB.el28 rfl rfl hi34 hi35) ?_
            refine hp_pure (i := 21) rfl (wanted_y rfl rfl rfl hg26) rfl (ptr x_2_b ((x_2_o + (Int.toNat i) * 4) + 1)) (fun _ => hv_field TyQB.fld31_1 (b := x_2_b) (o := x_2_o + (Int.toNat i) * 4) rfl) ?_
            obtain ⟨x_5, hc36, H⟩ := H
            refine hp_read (i := 22) rfl (wanted_y rfl rfl rfl hg26) rfl (.int .u64 x_5) (fun _ he => hv_load TyQB.agg29 rfl (Ext.cell he hc36)) ?_
            refine hp_pure (i := 23) rfl (wanted_y rfl rfl rfl hg26) rfl (.bool (decide (x_4 > x_5))) (fun _ => hv_arith rfl rfl rfl) ?_
            refine hp_pure (i := 24) rfl (wanted_0 rfl) rfl (.bool (decide (x_4 > x_5))) (fun _ => hv_pick_t rfl hg26 rfl) ?_
            refine hp_nil ?_
            refine seqQ_n ?_
            obtain rfl := H
            exact ⟨rfl, (has_cons rfl (has_cons rfl (has_cons rfl (has_cons rfl (has_cons rfl has_nil)))))⟩
          · replace H := H.2 hg26
            refine hp_no (i := 3) rfl (wanted_n rfl rfl rfl hg26) ?_
            refine hp_no (i := 4) rfl (wanted_n rfl rfl rfl hg26) ?_
            refine hp_no (i := 5) rfl (wanted_n rfl rfl rfl hg26) ?_
            refine hp_no (i := 6) rfl (wanted_n rfl rfl rfl hg26) ?_
            refine hp_no (i := 7) rfl (wanted_n rfl rfl rfl hg26) ?_
            refine hp_no (i := 8) rfl (wanted_n rfl rfl rfl hg26) ?_
            refine hp_no (i := 9) rfl (wanted_n rfl rfl rfl hg26) ?_
            refine hp_no (i := 10) rfl (wanted_n rfl rfl rfl hg26) ?_
            refine hp_no (i := 11) rfl (wanted_n rfl rfl rfl hg26) ?_
            refine hp_no (i := 12) rfl (wanted_n rfl rfl rfl hg26) ?_
            refine hp_no (i := 13) rfl (wanted_n rfl rfl rfl hg26) ?_
            refine hp_no (i := 14) rfl (wanted_n rfl rfl rfl hg26) ?_
            refine hp_no (i := 15) rfl (wanted_n rfl rfl rfl hg26) ?_
            refine hp_no (i := 16) rfl (wanted_n rfl rfl rfl hg26) ?_
            refine hp_no (i := 17) rfl (wanted_n rfl rfl rfl hg26) ?_
            refine hp_no (i := 18) rfl (wanted_n rfl rfl rfl hg26) ?_
            refine hp_no (i := 19) rfl (wanted_n rfl rfl rfl hg26) ?_
            refine hp_no (i := 20) rfl (wanted_n rfl rfl rfl hg26) ?_
            refine hp_no (i := 21) rfl (wanted_n rfl rfl rfl hg26) ?_
            refine hp_no (i := 22) rfl (wanted_n rfl rfl rfl hg26) ?_
            refine hp_no (i := 23) rfl (wanted_n rfl rfl rfl hg26) ?_
            refine hp_pure (i := 24) rfl (wanted_0 rfl) rfl (.bool false) (fun _ => hv_pick_f rfl hg26 rfl) ?_
            refine hp_nil ?_
            refine seqQ_n ?_
            obtain rfl := H
            exact ⟨rfl, (has_cons rfl (has_cons rfl (has_cons rfl (has_cons rfl (has_cons rfl has_nil)))))⟩
        · have H := Hy25; clear Hx24 Hy25
          rintro ρ _ ⟨rfl, hH⟩
          refine hx_has _ hH ?_
          refine hx_cond (b := j) rfl (fun hb37 => ?_) (fun hb37 => ?_)
          · replace H := H.1 hb37
            refine hx_skip ?_
            refine seqQ_n ?_
            refine hx_block ?_
            refine hx_seq ?_
            refine hx_region ?_
            refine hl_val rfl rfl (v := (.slice ap ap_n ap_c)) (hv_move rfl) ?_
            refine hl_val rfl rfl (v := (.int .i64 k)) (hv_move rfl) ?_
            refine hl_val rfl rfl (v := (.slice ap ap_n ap_c)) (hv_move rfl) ?_
            refine hl_val rfl rfl (v := (.int .i64 k)) (hv_move rfl) ?_
            refine hl_val rfl rfl (v := (.int .i64 (IntKind.i64.wrap (k - 1)))) (hv_arith rfl rfl rfl) ?_
            obtain ⟨ap_b_1, ap_o_1, hqe, hi38, hi39, Hq⟩ := H
            subst hqe
            have H := Hq; clear Hq
            refine hl_val rfl rfl (v := (ptr ap_b_1 (ap_o_1 + (Int.toNat (IntKind.i64.wrap (k - 1))) * 1))) (hv_index TyQB.el50 rfl rfl hi38 hi39) ?_
            obtain ⟨x_6, hc40, H⟩ := H
            refine hl_val rfl rfl (v := (.int .i64 x_6)) (hv_load TyQB.agg3 rfl hc40) ?_
            obtain ⟨hi41, hi42, H⟩ := H
            refine hl_val rfl rfl (v := (ptr ap_b_1 (ap_o_1 + (Int.toNat k) * 1))) (hv_index TyQB.el50 rfl rfl hi41 hi42) ?_
            obtain ⟨hw44, H⟩ := H
            refine hl_step rfl rfl (hn_store (v := (.int .i64 x_6)) rfl rfl TyQB.sz3 rfl hw44 ?_)
            intro h6 eh43
            replace H := H h6 eh43
            refine hl_nil ?_
            refine seqQ_n ?_
            refine hx_region ?_
            refine hl_val rfl rfl (v := (.int .i64 k)) (hv_move rfl) ?_
            refine hl_val rfl rfl (v := (.int .i64 (IntKind.i64.wrap (k - 1)))) (hv_arith rfl rfl rfl) ?_
            refine hl_val rfl rfl (v := (.int .i64 (IntKind.i64.wrap (k - 1)))) (hv_assign rfl) ?_
            refine hl_nil ?_
            refine blockQ_n ?_
            refine seqQ_n ?_
            exact ⟨IntKind.i64.wrap (k - 1), ⟨⟨H.1, trivial⟩, H.2⟩, (has_cons rfl (has_cons rfl (has_cons rfl (has_cons rfl has_nil))))⟩
          · replace H := H.2 hb37
            refine hx_exit ?_
            refine seqQ_exit ?_
            refine seqQ_exit ?_
            refine blockQ_here ?_
            refine seqQ_n ?_
            refine hx_region ?_
            refine hl_val rfl rfl (v := (.slice ap ap_n ap_c)) (hv_move rfl) ?_
            refine hl_val rfl rfl (v := (.int .i64 k)) (hv_move rfl) ?_
            refine hl_val rfl rfl (v := (.int .i64 i)) (hv_move rfl) ?_
            obtain ⟨ap_b_1, ap_o_1, hqe, hi45, hi46, Hq⟩ := H
            subst hqe
            have H := Hq; clear Hq
            refine hl_val rfl rfl (v := (ptr ap_b_1 (ap_o_1 + (Int.toNat k) * 1))) (hv_index TyQB.el50 rfl rfl hi45 hi46) ?_
            obtain ⟨hw48, H⟩ := H
            refine hl_step rfl rfl (hn_store (v := (.int .i64 i)) rfl rfl TyQB.sz3 rfl hw48 ?_)
            intro h7 eh47
            replace H := H h7 eh47
            refine hl_nil ?_
            refine blockQ_n ?_
            refine seqQ_n ?_
            exact ⟨_, _, _, ⟨H, trivial⟩, (has_cons rfl (has_cons rfl (has_cons rfl has_nil)))⟩
    · rintro ρ h2 ⟨l_1, l_n_1, l_c_1, ⟨HA11, -⟩, hH⟩
      have H := Hy9 l_1 l_n_1 l_c_1 h2 HA11; clear Hx8 Hy9
      refine hx_has _ hH ?_
      refine hx_region ?_
      refine hl_val rfl rfl (v := (.int .i64 i)) (hv_move rfl) ?_
      refine hl_val rfl rfl (v := (.int .i64 (IntKind.i64.wrap (i + 1)))) (hv_arith rfl rfl rfl) ?_
      refine hl_val rfl rfl (v := (.int .i64 (IntKind.i64.wrap (i + 1)))) (hv_assign rfl) ?_
      refine hl_nil ?_
      refine seqQ_n ?_
      exact ⟨(l_1, l_n_1, l_c_1, IntKind.i64.wrap (i + 1)), ⟨⟨H.1, trivial⟩, H.2⟩, (has_cons rfl (has_cons rfl (has_cons rfl has_nil)))⟩
  · replace H := H.2 hb7
    refine hx_exit ?_
    refine seqQ_exit ?_
    refine seqQ_exit ?_
    refine blockQ_here ?_
    refine seqQ_n ?_
    refine hx_seq ?_
    refine hx_region ?_
    refine hl_val rfl rfl (v := (.slice l l_n l_c)) (hv_move rfl) ?_
    refine hl_val rfl rfl (v := (.slice l l_n l_c)) (hv_assign rfl) ?_
    refine hl_nil ?_
    refine seqQ_n ?_
    refine hx_ret ?_
    exact endQ_ret _ (res_one Try.results20 (rv_tmp rfl)) H

/-- cellar/cellarlaw09.sameInts -/
theorem f46_sh (a : Option Addr) (a_n : Nat) (a_c : Nat) (b : Option Addr) (b_n : Nat) (b_c : Nat) (h : Heap) (R : Value → Heap → Prop)
    (H : ((((a_n : Int) != (b_n : Int)) = true → R (.bool false) h) ∧ (((a_n : Int) != (b_n : Int)) = false → (∃ (I2 : Int → Prop) (mu3 : Int → Nat), I2 0 ∧ (∀ (i : Int), I2 i → (((decide (i < (a_n : Int))) = true → (∃ a_b a_o : Nat, a = some ⟨a_b, a_o, none⟩ ∧ (0 : Int) ≤ i ∧ i < (a_n : Int) ∧ (∃ x : Int, hcell h a_b (a_o + (Int.toNat i) * 1) = some (.int .i64 x) ∧ (∃ b_b b_o : Nat, b = some ⟨b_b, b_o, none⟩ ∧ (0 : Int) ≤ i ∧ i < (b_n : Int) ∧ (∃ x_1 : Int, hcell h b_b (b_o + (Int.toNat i) * 1) = some (.int .i64 x_1) ∧ (((x != x_1) = true → R (.bool false) h) ∧ ((x != x_1) = false → (I2 (IntKind.i64.wrap (i + 1)) ∧ mu3 (IntKind.i64.wrap (i + 1)) < mu3 i)))))))) ∧ ((decide (i < (a_n : Int))) = false → R (.bool true) h))))))) :
    HC Try.prog 46 #[(.slice a a_n a_c), (.slice b b_n b_c)] h R := by
  refine hc_of (args := [(.slice a a_n a_c), (.slice b b_n b_c)]) Try.func46 rfl Try.ntmps46 (Nat.le_of_ble_eq_true rfl) ?_
  refine hx_seq ?_
  refine hx_region ?_
  refine hl_val rfl rfl (v := (.bool false)) (hv_assign rfl) ?_
  refine hl_nil ?_
  refine seqQ_n ?_
  refine hx_seq ?_
  refine hx_seq ?_
  refine hx_region ?_
  refine hl_val rfl rfl (v := (.slice a a_n a_c)) (hv_move rfl) ?_
  refine hl_val rfl rfl (v := (.int .i64 (a_n : Int))) (hv_len (n := a_n) TyQB.u50 rfl) ?_
  refine hl_val rfl rfl (v := (.slice b b_n b_c)) (hv_move rfl) ?_
  refine hl_val rfl rfl (v := (.int .i64 (b_n : Int))) (hv_len (n := b_n) TyQB.u50 rfl) ?_
  refine hl_val rfl rfl (v := (.bool ((a_n : Int) != (b_n : Int)))) (hv_arith rfl rfl rfl) ?_
  refine hl_nil ?_
  refine seqQ_n ?_
  refine hx_cond (b := (a_n : Int) != (b_n : Int)) rfl (fun hb1 => ?_) (fun hb1 => ?_)
  · replace H := H.1 hb1
    refine hx_seq ?_
    refine hx_region ?_
    refine hl_val rfl rfl (v := (.bool false)) (hv_assign rfl) ?_
    refine hl_nil ?_
    refine seqQ_n ?_
    refine hx_ret ?_
    refine seqQ_ret ?_
    exact endQ_ret _ (res_one Try.results46 (rv_tmp rfl)) H
  · replace H := H.2 hb1
    refine hx_skip ?_
    refine seqQ_n ?_
    refine hx_seq ?_
    refine hx_seq ?_
    refine hx_region ?_
    refine hl_val rfl rfl (v := (.int .i64 0)) (hv_assign rfl) ?_
    refine hl_nil ?_
    refine seqQ_n ?_
    refine hx_block ?_
    obtain ⟨I2, mu3, Ha4, Hr5⟩ := H
    refine hx_loopT (σ := Int) (fun s => [(0, (.slice a a_n a_c)), (1, (.slice b b_n b_c)), (5, (.int .i64 s))]) (fun s h' => I2 s ∧ h = h') (fun s _ => mu3 s) 0 ⟨Ha4, rfl⟩ (has_cons rfl (has_cons rfl (has_cons rfl has_nil))) ?_
    rintro i ρ _ ⟨Hi6, rfl⟩
    have H := Hr5 i Hi6
    refine hx_seq ?_
    refine hx_seq ?_
    refine hx_region ?_
    refine hl_val rfl rfl (v := (.int .i64 i)) (hv_move rfl) ?_
    refine hl_val rfl rfl (v := (.slice a a_n a_c)) (hv_move rfl) ?_
    refine hl_val rfl rfl (v := (.int .i64 (a_n : Int))) (hv_len (n := a_n) TyQB.u50 rfl) ?_
    refine hl_val rfl rfl (v := (.bool (decide (i < (a_n : Int))))) (hv_arith rfl rfl rfl) ?_
    refine hl_nil ?_
    refine seqQ_n ?_
    refine hx_cond (b := decide (i < (a_n : Int))) rfl (fun hb7 => ?_) (fun hb7 => ?_)
    · replace H := H.1 hb7
      refine hx_skip ?_
      refine seqQ_n ?_
      refine hx_seq ?_
      refine hx_block ?_
      refine hx_seq ?_
      refine hx_draw TyQB.mixed [.pure, .pure, .pure, .read, .pure, .pure, .pure, .read, .pure] [0, 1, 2, 3, 4, 5, 6, 7, 8] (by kernel_rfl) ?_
      refine hp_pure (i := 0) rfl (wanted_0 rfl) rfl (.slice a a_n a_c) (fun _ => hv_move rfl) ?_
      refine hp_pure (i := 1) rfl (wanted_0 rfl) rfl (.int .i64 i) (fun _ => hv_move rfl) ?_
      obtain ⟨a_b, a_o, hqe, hi8, hi9, Hq⟩ := H
      subst hqe
      have H := Hq; clear Hq
      refine hp_pure (i := 2) rfl (wanted_0 rfl) rfl (ptr a_b (a_o + (Int.toNat i) * 1)) (fun _ => hv_index TyQB.el50 rfl rfl hi8 hi9) ?_
      obtain ⟨x, hc10, H⟩ := H
      refine hp_read (i := 3) rfl (wanted_0 rfl) rfl (.int .i64 x) (fun _ he => hv_load TyQB.agg3 rfl (Ext.cell he hc10)) ?_
      refine hp_pure (i := 4) rfl (wanted_0 rfl) rfl (.slice b b_n b_c) (fun _ => hv_move rfl) ?_
      refine hp_pure (i := 5) rfl (wanted_0 rfl) rfl (.int .i64 i) (fun _ => hv_move rfl) ?_
      obtain ⟨b_b, b_o, hqe, hi11, hi12, Hq⟩ := H
      subst hqe
      have H := Hq; clear Hq
      refine hp_pure (i := 6) rfl (wanted_0 rfl) rfl (ptr b_b (b_o + (Int.toNat i) * 1)) (fun _ => hv_index TyQB.el50 rfl rfl hi11 hi12) ?_
      obtain ⟨x_1, hc13, H⟩ := H
      refine hp_read (i := 7) rfl (wanted_0 rfl) rfl (.int .i64 x_1) (fun _ he => hv_load TyQB.agg3 rfl (Ext.cell he hc13)) ?_
      refine hp_pure (i := 8) rfl (wanted_0 rfl) rfl (.bool (x != x_1)) (fun _ => hv_arith rfl rfl rfl) ?_
      refine hp_nil ?_
      refine seqQ_n ?_
      refine hx_cond (b := x != x_1) rfl (fun hb14 => ?_) (fun hb14 => ?_)
      · replace H := H.1 hb14
        refine hx_seq ?_
        refine hx_region ?_
        refine hl_val rfl rfl (v := (.bool false)) (hv_assign rfl) ?_
        refine hl_nil ?_
        refine seqQ_n ?_
        refine hx_ret ?_
        refine blockQ_ret ?_
        refine seqQ_ret ?_
        refine seqQ_ret ?_
        refine blockQ_ret ?_
        refine seqQ_ret ?_
        exact endQ_ret _ (res_one Try.results46 (rv_tmp rfl)) H
      · replace H := H.2 hb14
        refine hx_skip ?_
        refine blockQ_n ?_
        refine seqQ_n ?_
        refine hx_region ?_
        refine hl_val rfl rfl (v := (.int .i64 i)) (hv_move rfl) ?_
        refine hl_val rfl rfl (v := (.int .i64 (IntKind.i64.wrap (i + 1)))) (hv_arith rfl rfl rfl) ?_
        refine hl_val rfl rfl (v := (.int .i64 (IntKind.i64.wrap (i + 1)))) (hv_assign rfl) ?_
        refine hl_nil ?_
        refine seqQ_n ?_
        exact ⟨IntKind.i64.wrap (i + 1), ⟨⟨H.1, rfl⟩, H.2⟩, (has_cons rfl (has_cons rfl (has_cons rfl has_nil)))⟩
    · replace H := H.2 hb7
      refine hx_exit ?_
      refine seqQ_exit ?_
      refine seqQ_exit ?_
      refine blockQ_here ?_
      refine seqQ_n ?_
      refine hx_seq ?_
      refine hx_region ?_
      refine hl_val rfl rfl (v := (.bool true)) (hv_assign rfl) ?_
      refine hl_nil ?_
      refine seqQ_n ?_
      refine hx_ret ?_
      exact endQ_ret _ (res_one Try.results46 (rv_tmp rfl)) H

end Go.Proofs.Ytfdgjgjcppfmiaa
