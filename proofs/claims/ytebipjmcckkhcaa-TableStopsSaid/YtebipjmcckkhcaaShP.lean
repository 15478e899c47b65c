/-
Shallow forms, written by gen2.py (a program of ours) out of the print of the program.
-/
import Derived.Test.YtebipjmcckkhcaaPrv
import Derived.Test.YtebipjmcckkhcaaSrt
import Derived.Test.YtebipjmcckkhcaaRng
import Derived.Test.YtebipjmcckkhcaaMor
import Derived.Test.YtebipjmcckkhcaaProg
namespace Go.Proofs.Ytebipjmcckkhcaa
open Go
set_option maxRecDepth 100000
set_option maxHeartbeats 4000000

theorem TyShP.agg29 : aggB Try.prog 29 = some false := by kernel_rfl
theorem TyShP.agg3 : aggB Try.prog 3 = some false := by kernel_rfl
theorem TyShP.agg31 : aggB Try.prog 31 = some true := by kernel_rfl
theorem TyShP.agg35 : aggB Try.prog 35 = some false := by kernel_rfl
theorem TyShP.agg5 : aggB Try.prog 5 = some false := by kernel_rfl
theorem TyShP.cb48 : CallB Try.prog 48 := fun _ _ => Try.call48 _ _
theorem TyShP.el35 : elB Try.prog 35 = some 4 := by kernel_rfl
theorem TyShP.fld31_0 : fldB Try.prog 31 0 = some 0 := by kernel_rfl
theorem TyShP.fld31_1 : fldB Try.prog 31 1 = some 1 := by kernel_rfl
theorem TyShP.fld31_3 : fldB Try.prog 31 3 = some 3 := by kernel_rfl
theorem TyShP.fld55_0 : fldB Try.prog 55 0 = some 0 := by kernel_rfl
theorem TyShP.fld55_1 : fldB Try.prog 55 1 = some 1 := by kernel_rfl
theorem TyShP.fld55_2 : fldB Try.prog 55 2 = some 2 := by kernel_rfl
theorem TyShP.mixed : Try.prog.follows .mixedOrders = true := by kernel_rfl
theorem TyShP.pl31 : plB Try.prog 31 = some [(0, 1), (1, 1), (2, 1), (3, 1)] := by kernel_rfl
theorem TyShP.pl55 : plB Try.prog 55 = some [(0, 1), (1, 1), (2, 1)] := by kernel_rfl
theorem TyShP.se31 : seB Try.prog 31 = some [(29, 0), (29, 1), (29, 2), (5, 3)] := by kernel_rfl
theorem TyShP.sz3 : szB Try.prog 3 = some 1 := by kernel_rfl
theorem TyShP.sz31 : szB Try.prog 31 = some 4 := by kernel_rfl
theorem TyShP.sz35 : szB Try.prog 35 = some 1 := by kernel_rfl
theorem TyShP.sz5 : szB Try.prog 5 = some 1 := by kernel_rfl
theorem TyShP.u29 : Try.prog.underlying 29 = some (.int .u64) := by kernel_rfl
theorem TyShP.u3 : Try.prog.underlying 3 = some (.int .i64) := by kernel_rfl
theorem TyShP.u35 : Try.prog.underlying 35 = some (.slice 31) := by kernel_rfl
theorem TyShP.z31 : zeroB Try.prog 31 (.agg #[(.int .u64 0), (.int .u64 0), (.int .u64 0), (.int .u8 0)]) := by unfold zeroB; kernel_rfl
theorem TyShP.z55 : zeroB Try.prog 55 (.agg #[(.int .i64 0), (.int .i64 0), (.slice none 0 0)]) := by unfold zeroB; kernel_rfl

/-- (*cellar/cellarref11.Table).Home -/
theorem f46_sh (t_b : Nat) (t_o : Nat) (hash : Int) (h : Heap) (R : Value → Heap → Prop)
    (H : (∃ x : Int, hcell h t_b t_o = some (.int .i64 x) ∧ ((0 : Int) ≤ IntKind.i64.wrap (64 - x) ∧ R (.int .i64 (IntKind.i64.wrap (Int.fdiv hash (2 ^ min (Int.toNat (IntKind.i64.wrap (64 - x))) 64)))) h))) :
    HC Try.prog 46 #[(ptr t_b t_o), (.int .u64 hash)] h R := by
  refine hc_of (args := [(ptr t_b t_o), (.int .u64 hash)]) Try.func46 rfl Try.ntmps46 (Nat.le_of_ble_eq_true rfl) ?_
  refine hx_seq ?_
  refine hx_region ?_
  refine hl_val rfl rfl (v := (.int .i64 0)) (hv_assign rfl) ?_
  refine hl_nil ?_
  refine seqQ_n ?_
  refine hx_seq ?_
  refine hx_region ?_
  refine hl_val rfl rfl (v := (.int .u64 hash)) (hv_move rfl) ?_
  refine hl_val rfl rfl (v := (ptr t_b t_o)) (hv_move rfl) ?_
  refine hl_val rfl rfl (v := (ptr t_b t_o)) (hv_nil rfl) ?_
  refine hl_val rfl rfl (v := (ptr t_b t_o)) (hv_field TyShP.fld55_0 (b := t_b) (o := t_o) rfl) ?_
  obtain ⟨x, hc1, H⟩ := H
  refine hl_val rfl rfl (v := (.int .i64 x)) (hv_load TyShP.agg3 rfl hc1) ?_
  refine hl_val rfl rfl (v := (.int .i64 (IntKind.i64.wrap (64 - x)))) (hv_arith rfl rfl rfl) ?_
  obtain ⟨hz2, H⟩ := H
  refine hl_val rfl rfl (v := (.int .u64 (Int.fdiv hash (2 ^ min (Int.toNat (IntKind.i64.wrap (64 - x))) 64)))) (hv_shift rfl rfl hz2 rfl) ?_
  refine hl_val rfl rfl (v := (.int .i64 (IntKind.i64.wrap (Int.fdiv hash (2 ^ min (Int.toNat (IntKind.i64.wrap (64 - x))) 64))))) (hv_convInt TyShP.u29 TyShP.u3 rfl) ?_
  refine hl_val rfl rfl (v := (.int .i64 (IntKind.i64.wrap (Int.fdiv hash (2 ^ min (Int.toNat (IntKind.i64.wrap (64 - x))) 64))))) (hv_assign rfl) ?_
  refine hl_nil ?_
  refine seqQ_n ?_
  refine hx_ret ?_
  exact endQ_ret _ (res_one Try.results46 (rv_tmp rfl)) H

/-- (*cellar/cellarref11.Table).find -/
theorem f48_sh (t_b : Nat) (t_o : Nat) (hash : Int) (h : Heap) (R : Value → Heap → Prop)
    (H : (∃ (I1 : Int → Prop) (mu2 : Int → Nat), I1 0 ∧ (∀ (i : Int), I1 i → (∃ j : Bool, (∃ x : Option Addr, ∃ x_n x_c : Nat, hcell h t_b (t_o + 2) = some (.slice x x_n x_c) ∧ (((decide (i < (x_n : Int))) = true → (∃ x_b x_o : Nat, x = some ⟨x_b, x_o, none⟩ ∧ (0 : Int) ≤ i ∧ i < (x_n : Int) ∧ (∃ x_1 : Int, hcell h x_b (x_o + (Int.toNat i) * 4) = some (.int .u64 x_1) ∧ (j = (decide (x_1 < hash)))))) ∧ ((decide (i < (x_n : Int))) = false → (j = false)))) ∧ ((j = true → (I1 (IntKind.i64.wrap (i + 1)) ∧ mu2 (IntKind.i64.wrap (i + 1)) < mu2 i)) ∧ (j = false → (∃ j_1 : Bool, (∃ x_2 : Option Addr, ∃ x_n_1 x_c_1 : Nat, hcell h t_b (t_o + 2) = some (.slice x_2 x_n_1 x_c_1) ∧ (((decide (i < (x_n_1 : Int))) = true → (∃ x_2_b x_2_o : Nat, x_2 = some ⟨x_2_b, x_2_o, none⟩ ∧ (0 : Int) ≤ i ∧ i < (x_n_1 : Int) ∧ (∃ x_3 : Int, hcell h x_2_b (x_2_o + (Int.toNat i) * 4) = some (.int .u64 x_3) ∧ (j_1 = (x_3 == hash))))) ∧ ((decide (i < (x_n_1 : Int))) = false → (j_1 = false)))) ∧ R (.tuple #[(.int .i64 i), (.bool j_1)]) h))))))) :
    HC Try.prog 48 #[(ptr t_b t_o), (.int .u64 hash)] h R := by
  refine hc_of (args := [(ptr t_b t_o), (.int .u64 hash)]) Try.func48 rfl Try.ntmps48 (Nat.le_of_ble_eq_true rfl) ?_
  refine hx_seq ?_
  refine hx_region ?_
  refine hl_val rfl rfl (v := (.int .i64 0)) (hv_assign rfl) ?_
  refine hl_val rfl rfl (v := (.bool false)) (hv_assign rfl) ?_
  refine hl_nil ?_
  refine seqQ_n ?_
  refine hx_seq ?_
  refine hx_region ?_
  refine hl_val rfl rfl (v := (.int .i64 0)) (hv_assign rfl) ?_
  refine hl_nil ?_
  refine seqQ_n ?_
  refine hx_seq ?_
  refine hx_block ?_
  obtain ⟨I1, mu2, Ha3, Hr4⟩ := H
  refine hx_loopT (σ := Int) (fun s => [(0, (ptr t_b t_o)), (1, (.int .u64 hash)), (6, (.int .i64 s))]) (fun s h' => I1 s ∧ h = h') (fun s _ => mu2 s) 0 ⟨Ha3, rfl⟩ (has_cons rfl (has_cons rfl (has_cons rfl has_nil))) ?_
  rintro i ρ _ ⟨Hi5, rfl⟩
  have H := Hr4 i Hi5
  refine hx_seq ?_
  obtain ⟨j, Hx6, Hy7⟩ := H
  refine hx_cut (fun ρ h' => h = h' ∧ Has ρ [(0, (ptr t_b t_o)), (1, (.int .u64 hash)), (6, (.int .i64 i)), (25, (.bool j))]) ?_ ?_
  · have H := Hx6; clear Hx6 Hy7
    refine hx_region ?_
    refine hl_val rfl rfl (v := (.int .i64 i)) (hv_move rfl) ?_
    refine hl_val rfl rfl (v := (ptr t_b t_o)) (hv_move rfl) ?_
    refine hl_val rfl rfl (v := (ptr t_b t_o)) (hv_nil rfl) ?_
    refine hl_val rfl rfl (v := (ptr t_b (t_o + 2))) (hv_field TyShP.fld55_2 (b := t_b) (o := t_o) rfl) ?_
    obtain ⟨x, x_n, x_c, hc8, H⟩ := H
    refine hl_val rfl rfl (v := (.slice x x_n x_c)) (hv_load TyShP.agg35 rfl hc8) ?_
    refine hl_val rfl rfl (v := (.int .i64 (x_n : Int))) (hv_len (n := x_n) TyShP.u35 rfl) ?_
    refine hl_val rfl rfl (v := (.bool (decide (i < (x_n : Int))))) (hv_arith rfl rfl rfl) ?_
    refine hl_val rfl rfl (v := (.bool (decide (i < (x_n : Int))))) (hv_move rfl) ?_
    rcases bool_or (decide (i < (x_n : Int))) with hg9 | hg9
    · replace H := H.1 hg9
      refine hl_yes (wanted_y rfl rfl rfl hg9) rfl (HStep.of_val (v := (ptr t_b t_o)) (hv_move rfl) ?_)
      refine hl_yes (wanted_y rfl rfl rfl hg9) rfl (HStep.of_val (v := (ptr t_b t_o)) (hv_nil rfl) ?_)
      refine hl_yes (wanted_y rfl rfl rfl hg9) rfl (HStep.of_val (v := (ptr t_b (t_o + 2))) (hv_field TyShP.fld55_2 (b := t_b) (o := t_o) rfl) ?_)
      refine hl_yes (wanted_y rfl rfl rfl hg9) rfl (HStep.of_val (v := (.slice x x_n x_c)) (hv_load TyShP.agg35 rfl hc8) ?_)
      refine hl_yes (wanted_y rfl rfl rfl hg9) rfl (HStep.of_val (v := (.int .i64 i)) (hv_move rfl) ?_)
      obtain ⟨x_b, x_o, hqe, hi10, hi11, Hq⟩ := H
      subst hqe
      have H := Hq; clear Hq
      refine hl_yes (wanted_y rfl rfl rfl hg9) rfl (HStep.of_val (v := (ptr x_b (x_o + (Int.toNat i) * 4))) (hv_index TyShP.el35 rfl rfl hi10 hi11) ?_)
      refine hl_yes (wanted_y rfl rfl rfl hg9) rfl (HStep.of_val (v := (ptr x_b (x_o + (Int.toNat i) * 4))) (hv_field TyShP.fld31_0 (b := x_b) (o := x_o + (Int.toNat i) * 4) rfl) ?_)
      obtain ⟨x_1, hc12, H⟩ := H
      refine hl_yes (wanted_y rfl rfl rfl hg9) rfl (HStep.of_val (v := (.int .u64 x_1)) (hv_load TyShP.agg29 rfl hc12) ?_)
      refine hl_yes (wanted_y rfl rfl rfl hg9) rfl (HStep.of_val (v := (.int .u64 hash)) (hv_move rfl) ?_)
      refine hl_yes (wanted_y rfl rfl rfl hg9) rfl (HStep.of_val (v := (.bool (decide (x_1 < hash)))) (hv_arith rfl rfl rfl) ?_)
      refine hl_val rfl rfl (v := (.bool (decide (x_1 < hash)))) (hv_pick_t rfl hg9 rfl) ?_
      refine hl_nil ?_
      refine seqQ_n ?_
      obtain rfl := H
      exact ⟨rfl, (has_cons rfl (has_cons rfl (has_cons rfl (has_cons rfl has_nil))))⟩
    · replace H := H.2 hg9
      refine hl_no (wanted_n rfl rfl rfl hg9) rfl ?_
      refine hl_no (wanted_n rfl rfl rfl hg9) rfl ?_
      refine hl_no (wanted_n rfl rfl rfl hg9) rfl ?_
      refine hl_no (wanted_n rfl rfl rfl hg9) rfl ?_
      refine hl_no (wanted_n rfl rfl rfl hg9) rfl ?_
      refine hl_no (wanted_n rfl rfl rfl hg9) rfl ?_
      refine hl_no (wanted_n rfl rfl rfl hg9) rfl ?_
      refine hl_no (wanted_n rfl rfl rfl hg9) rfl ?_
      refine hl_no (wanted_n rfl rfl rfl hg9) rfl ?_
      refine hl_no (wanted_n rfl rfl rfl hg9) rfl ?_
      refine hl_val rfl rfl (v := (.bool false)) (hv_pick_f rfl hg9 rfl) ?_
      refine hl_nil ?_
      refine seqQ_n ?_
      obtain rfl := H
      exact ⟨rfl, (has_cons rfl (has_cons rfl (has_cons rfl (has_cons rfl has_nil))))⟩
  · have H := Hy7; clear Hx6 Hy7
    rintro ρ _ ⟨rfl, hH⟩
    refine hx_has _ hH ?_
    refine hx_cond (b := j) rfl (fun hb13 => ?_) (fun hb13 => ?_)
    · replace H := H.1 hb13
      refine hx_skip ?_
      refine seqQ_n ?_
      refine hx_block ?_
      refine hx_region ?_
      refine hl_val rfl rfl (v := (.int .i64 i)) (hv_move rfl) ?_
      refine hl_val rfl rfl (v := (.int .i64 (IntKind.i64.wrap (i + 1)))) (hv_arith rfl rfl rfl) ?_
      refine hl_val rfl rfl (v := (.int .i64 (IntKind.i64.wrap (i + 1)))) (hv_assign rfl) ?_
      refine hl_nil ?_
      refine blockQ_n ?_
      refine seqQ_n ?_
      exact ⟨IntKind.i64.wrap (i + 1), ⟨⟨H.1, rfl⟩, H.2⟩, (has_cons rfl (has_cons rfl (has_cons rfl has_nil)))⟩
    · replace H := H.2 hb13
      refine hx_exit ?_
      refine seqQ_exit ?_
      refine seqQ_exit ?_
      refine blockQ_here ?_
      refine seqQ_n ?_
      obtain ⟨j_1, Hx14, Hy15⟩ := H
      refine hx_cut (fun ρ h' => h = h' ∧ Has ρ [(4, (.int .i64 i)), (5, (.bool j_1))]) ?_ ?_
      · have H := Hx14; clear Hx14 Hy15
        refine hx_draw TyShP.mixed [.pure, .pure, .pure, .pure, .pure, .read, .pure, .pure, .pure, .pure, .pure, .pure, .read, .pure, .pure, .pure, .read, .pure, .pure, .pure, .pure, .pure] [0, 1, 2, 3, 4, 5, 6, 7, 8, 9, 10, 11, 12, 13, 14, 15, 16, 17, 18, 19, 20, 21] (by kernel_rfl) ?_
        refine hp_pure (i := 0) rfl (wanted_0 rfl) rfl (.int .i64 i) (fun _ => hv_move rfl) ?_
        refine hp_pure (i := 1) rfl (wanted_0 rfl) rfl (.int .i64 i) (fun _ => hv_move rfl) ?_
        refine hp_pure (i := 2) rfl (wanted_0 rfl) rfl (ptr t_b t_o) (fun _ => hv_move rfl) ?_
        refine hp_pure (i := 3) rfl (wanted_0 rfl) rfl (ptr t_b t_o) (fun _ => hv_nil rfl) ?_
        refine hp_pure (i := 4) rfl (wanted_0 rfl) rfl (ptr t_b (t_o + 2)) (fun _ => hv_field TyShP.fld55_2 (b := t_b) (o := t_o) rfl) ?_
        obtain ⟨x_2, x_n_1, x_c_1, hc16, H⟩ := H
        refine hp_read (i := 5) rfl (wanted_0 rfl) rfl (.slice x_2 x_n_1 x_c_1) (fun _ he => hv_load TyShP.agg35 rfl (Ext.cell he hc16)) ?_
        refine hp_pure (i := 6) rfl (wanted_0 rfl) rfl (.int .i64 (x_n_1 : Int)) (fun _ => hv_len (n := x_n_1) TyShP.u35 rfl) ?_
        refine hp_pure (i := 7) rfl (wanted_0 rfl) rfl (.bool (decide (i < (x_n_1 : Int)))) (fun _ => hv_arith rfl rfl rfl) ?_
        refine hp_pure (i := 8) rfl (wanted_0 rfl) rfl (.bool (decide (i < (x_n_1 : Int)))) (fun _ => hv_move rfl) ?_
        rcases bool_or (decide (i < (x_n_1 : Int))) with hg17 | hg17
        · replace H := H.1 hg17
          refine hp_pure (i := 9) rfl (wanted_y rfl rfl rfl hg17) rfl (ptr t_b t_o) (fun _ => hv_move rfl) ?_
          refine hp_pure (i := 10) rfl (wanted_y rfl rfl rfl hg17) rfl (ptr t_b t_o) (fun _ => hv_nil rfl) ?_
          refine hp_pure (i := 11) rfl (wanted_y rfl rfl rfl hg17) rfl (ptr t_b (t_o + 2)) (fun _ => hv_field TyShP.fld55_2 (b := t_b) (o := t_o) rfl) ?_
          refine hp_read (i := 12) rfl (wanted_y rfl rfl rfl hg17) rfl (.slice x_2 x_n_1 x_c_1) (fun _ he => hv_load TyShP.agg35 rfl (Ext.cell he hc16)) ?_
          refine hp_pure (i := 13) rfl (wanted_y rfl rfl rfl hg17) rfl (.int .i64 i) (fun _ => hv_move rfl) ?_
          obtain ⟨x_2_b, x_2_o, hqe, hi18, hi19, Hq⟩ := H
          subst hqe
          have H := Hq; clear Hq
          refine hp_pure (i := 14) rfl (wanted_y rfl rfl rfl hg17) rfl (ptr x_2_b (x_2_o + (Int.toNat i) * 4)) (fun _ => hv_index TyShP.el35 rfl rfl hi18 hi19) ?_
          refine hp_pure (i := 15) rfl (wanted_y rfl rfl rfl hg17) rfl (ptr x_2_b (x_2_o + (Int.toNat i) * 4)) (fun _ => hv_field TyShP.fld31_0 (b := x_2_b) (o := x_2_o + (Int.toNat i) * 4) rfl) ?_
          obtain ⟨x_3, hc20, H⟩ := H
          refine hp_read (i := 16) rfl (wanted_y rfl rfl rfl hg17) rfl (.int .u64 x_3) (fun _ he => hv_load TyShP.agg29 rfl (Ext.cell he hc20)) ?_
          refine hp_pure (i := 17) rfl (wanted_y rfl rfl rfl hg17) rfl (.int .u64 hash) (fun _ => hv_move rfl) ?_
          refine hp_pure (i := 18) rfl (wanted_y rfl rfl rfl hg17) rfl (.bool (x_3 == hash)) (fun _ => hv_arith rfl rfl rfl) ?_
          refine hp_pure (i := 19) rfl (wanted_0 rfl) rfl (.bool (x_3 == hash)) (fun _ => hv_pick_t rfl hg17 rfl) ?_
          refine hp_pure (i := 20) rfl (wanted_0 rfl) rfl (.int .i64 i) (fun _ => hv_assign rfl) ?_
          refine hp_pure (i := 21) rfl (wanted_0 rfl) rfl (.bool (x_3 == hash)) (fun _ => hv_assign rfl) ?_
          refine hp_nil ?_
          refine seqQ_n ?_
          obtain rfl := H
          exact ⟨rfl, (has_cons rfl (has_cons rfl has_nil))⟩
        · replace H := H.2 hg17
          refine hp_no (i := 9) rfl (wanted_n rfl rfl rfl hg17) ?_
          refine hp_no (i := 10) rfl (wanted_n rfl rfl rfl hg17) ?_
          refine hp_no (i := 11) rfl (wanted_n rfl rfl rfl hg17) ?_
          refine hp_no (i := 12) rfl (wanted_n rfl rfl rfl hg17) ?_
          refine hp_no (i := 13) rfl (wanted_n rfl rfl rfl hg17) ?_
          refine hp_no (i := 14) rfl (wanted_n rfl rfl rfl hg17) ?_
          refine hp_no (i := 15) rfl (wanted_n rfl rfl rfl hg17) ?_
          refine hp_no (i := 16) rfl (wanted_n rfl rfl rfl hg17) ?_
          refine hp_no (i := 17) rfl (wanted_n rfl rfl rfl hg17) ?_
          refine hp_no (i := 18) rfl (wanted_n rfl rfl rfl hg17) ?_
          refine hp_pure (i := 19) rfl (wanted_0 rfl) rfl (.bool false) (fun _ => hv_pick_f rfl hg17 rfl) ?_
          refine hp_pure (i := 20) rfl (wanted_0 rfl) rfl (.int .i64 i) (fun _ => hv_assign rfl) ?_
          refine hp_pure (i := 21) rfl (wanted_0 rfl) rfl (.bool false) (fun _ => hv_assign rfl) ?_
          refine hp_nil ?_
          refine seqQ_n ?_
          obtain rfl := H
          exact ⟨rfl, (has_cons rfl (has_cons rfl has_nil))⟩
      · have H := Hy15; clear Hx14 Hy15
        rintro ρ _ ⟨rfl, hH⟩
        refine hx_has _ hH ?_
        refine hx_ret ?_
        exact endQ_ret _ (res_two Try.results48 (rv_tmp rfl) (rv_tmp rfl)) H

/-- cellar/cellarref11.New -/
theorem f21_sh (bits : Int) (most : Int) (h : Heap) (R : Value → Heap → Prop)
    (H : ((((decide (bits < 2)) || ((decide (most < bits)) || (decide (most > 16)))) = true → R (.tuple #[(.pointer none), (.int .i64 110)]) h) ∧ (((decide (bits < 2)) || ((decide (most < bits)) || (decide (most > 16)))) = false → (∀ nb h1, nb = Array.size h → h1 = Array.push h (.cells #[(.int .i64 bits), (.int .i64 most), (.slice none 0 0)] 55) → R (.tuple #[(ptr nb 0), (.int .i64 0)]) h1)))) :
    HC Try.prog 21 #[(.int .i64 bits), (.int .i64 most)] h R := by
  refine hc_of (args := [(.int .i64 bits), (.int .i64 most)]) Try.func21 rfl Try.ntmps21 (Nat.le_of_ble_eq_true rfl) ?_
  refine hx_seq ?_
  refine hx_region ?_
  refine hl_val rfl rfl (v := (.pointer none)) (hv_assign rfl) ?_
  refine hl_val rfl rfl (v := (.int .i64 0)) (hv_assign rfl) ?_
  refine hl_nil ?_
  refine seqQ_n ?_
  refine hx_seq ?_
  refine hx_cut (fun ρ h' => h = h' ∧ Has ρ [(0, (.int .i64 bits)), (1, (.int .i64 most)), (16, (.bool ((decide (bits < 2)) || ((decide (most < bits)) || (decide (most > 16))))))]) ?_ ?_
  · refine hx_region ?_
    refine hl_val rfl rfl (v := (.int .i64 bits)) (hv_move rfl) ?_
    refine hl_val rfl rfl (v := (.bool (decide (bits < 2)))) (hv_arith rfl rfl rfl) ?_
    refine hl_val rfl rfl (v := (.bool (decide (bits < 2)))) (hv_move rfl) ?_
    rcases bool_or (decide (bits < 2)) with hg3 | hg3
    · refine hl_no (wanted_n rfl rfl rfl hg3) rfl ?_
      refine hl_no (wanted_n rfl rfl rfl hg3) rfl ?_
      refine hl_no (wanted_n rfl rfl rfl hg3) rfl ?_
      refine hl_val rfl rfl (v := (.bool true)) (hv_pick_t rfl hg3 rfl) ?_
      refine hl_val rfl rfl (v := (.bool true)) (hv_move rfl) ?_
      refine hl_no (wanted_n rfl rfl (c := true) rfl rfl) rfl ?_
      refine hl_no (wanted_n rfl rfl (c := true) rfl rfl) rfl ?_
      refine hl_val rfl rfl (v := (.bool true)) (hv_pick (t := true) rfl rfl) ?_
      refine hl_nil ?_
      refine seqQ_n ?_
      exact ⟨rfl, (has_cons rfl (has_cons rfl (has_cons (show ((.bool true) : Value) = (.bool ((decide (bits < 2)) || ((decide (most < bits)) || (decide (most > 16))))) from (by first | rfl | (try rw [hg3]; all_goals first | rfl | (simp only [Bool.true_or, Bool.or_true, Bool.false_or, Bool.or_false, Bool.true_and, Bool.and_true, Bool.false_and, Bool.and_false, Bool.not_true, Bool.not_false, Bool.cond_true, Bool.cond_false]; done)) | simp [hg3])) has_nil)))⟩
    · refine hl_yes (wanted_y rfl rfl rfl hg3) rfl (HStep.of_val (v := (.int .i64 most)) (hv_move rfl) ?_)
      refine hl_yes (wanted_y rfl rfl rfl hg3) rfl (HStep.of_val (v := (.int .i64 bits)) (hv_move rfl) ?_)
      refine hl_yes (wanted_y rfl rfl rfl hg3) rfl (HStep.of_val (v := (.bool (decide (most < bits)))) (hv_arith rfl rfl rfl) ?_)
      refine hl_val rfl rfl (v := (.bool (decide (most < bits)))) (hv_pick_f rfl hg3 rfl) ?_
      refine hl_val rfl rfl (v := (.bool (decide (most < bits)))) (hv_move rfl) ?_
      rcases bool_or (decide (most < bits)) with hg4 | hg4
      · refine hl_no (wanted_n rfl rfl rfl hg4) rfl ?_
        refine hl_no (wanted_n rfl rfl rfl hg4) rfl ?_
        refine hl_val rfl rfl (v := (.bool true)) (hv_pick_t rfl hg4 rfl) ?_
        refine hl_nil ?_
        refine seqQ_n ?_
        exact ⟨rfl, (has_cons rfl (has_cons rfl (has_cons (show ((.bool true) : Value) = (.bool ((decide (bits < 2)) || ((decide (most < bits)) || (decide (most > 16))))) from (by first | rfl | (try rw [hg3]; try rw [hg4]; all_goals first | rfl | (simp only [Bool.true_or, Bool.or_true, Bool.false_or, Bool.or_false, Bool.true_and, Bool.and_true, Bool.false_and, Bool.and_false, Bool.not_true, Bool.not_false, Bool.cond_true, Bool.cond_false]; done)) | simp [hg3, hg4])) has_nil)))⟩
      · refine hl_yes (wanted_y rfl rfl rfl hg4) rfl (HStep.of_val (v := (.int .i64 most)) (hv_move rfl) ?_)
        refine hl_yes (wanted_y rfl rfl rfl hg4) rfl (HStep.of_val (v := (.bool (decide (most > 16)))) (hv_arith rfl rfl rfl) ?_)
        refine hl_val rfl rfl (v := (.bool (decide (most > 16)))) (hv_pick_f rfl hg4 rfl) ?_
        refine hl_nil ?_
        refine seqQ_n ?_
        exact ⟨rfl, (has_cons rfl (has_cons rfl (has_cons (show ((.bool (decide (most > 16))) : Value) = (.bool ((decide (bits < 2)) || ((decide (most < bits)) || (decide (most > 16))))) from (by first | rfl | (try rw [hg3]; try rw [hg4]; all_goals first | rfl | (simp only [Bool.true_or, Bool.or_true, Bool.false_or, Bool.or_false, Bool.true_and, Bool.and_true, Bool.false_and, Bool.and_false, Bool.not_true, Bool.not_false, Bool.cond_true, Bool.cond_false]; done)) | simp [hg3, hg4])) has_nil)))⟩
  · rintro ρ _ ⟨rfl, hH⟩
    refine hx_has _ hH ?_
    refine hx_cond (b := ((decide (bits < 2)) || ((decide (most < bits)) || (decide (most > 16))))) rfl (fun hb5 => ?_) (fun hb5 => ?_)
    · replace H := H.1 hb5
      refine hx_seq ?_
      refine hx_region ?_
      refine hl_val rfl rfl (v := (.pointer none)) (hv_assign rfl) ?_
      refine hl_val rfl rfl (v := (.int .i64 110)) (hv_assign rfl) ?_
      refine hl_nil ?_
      refine seqQ_n ?_
      refine hx_ret ?_
      refine seqQ_ret ?_
      exact endQ_ret _ (res_two Try.results21 (rv_tmp rfl) (rv_tmp rfl)) H
    · replace H := H.2 hb5
      refine hx_skip ?_
      refine seqQ_n ?_
      refine hx_seq ?_
      refine hx_region ?_
      refine hl_val rfl rfl (v := (.int .i64 bits)) (hv_move rfl) ?_
      refine hl_val rfl rfl (v := (.int .i64 most)) (hv_move rfl) ?_
      refine hl_val rfl rfl (v := (.agg #[(.int .i64 bits), (.int .i64 most), (.slice none 0 0)])) (hv_build (vs := [(0, (.int .i64 bits)), (1, (.int .i64 most))]) (cs := #[(.int .i64 bits), (.int .i64 most), (.slice none 0 0)]) TyShP.z55 TyShP.pl55 rfl (by kernel_rfl)) ?_
      refine hl_step rfl rfl (hn_box (v := (.agg #[(.int .i64 bits), (.int .i64 most), (.slice none 0 0)])) rfl ?_)
      intro nb h1 eb6 eh7
      replace H := H nb h1 eb6 eh7
      have xx8 : Ext h h1 := by rw [eh7]; exact Ext.push _ _
      refine hl_val rfl rfl (v := (ptr nb 0)) (hv_assign rfl) ?_
      refine hl_val rfl rfl (v := (.int .i64 0)) (hv_assign rfl) ?_
      refine hl_nil ?_
      refine seqQ_n ?_
      refine hx_ret ?_
      exact endQ_ret _ (res_two Try.results21 (rv_tmp rfl) (rv_tmp rfl)) H

/-- cellar/cellarlaw11.sameEntries -/
theorem f20_sh (a : Option Addr) (a_n : Nat) (a_c : Nat) (b : Option Addr) (b_n : Nat) (b_c : Nat) (h : Heap) (R : Value → Heap → Prop)
    (H : ((((a_n : Int) != (b_n : Int)) = true → R (.bool false) h) ∧ (((a_n : Int) != (b_n : Int)) = false → (∃ (I2 : Int → Prop) (mu3 : Int → Nat), I2 0 ∧ (∀ (i : Int), I2 i → (((decide (i < (a_n : Int))) = true → (∃ a_b a_o : Nat, a = some ⟨a_b, a_o, none⟩ ∧ (0 : Int) ≤ i ∧ i < (a_n : Int) ∧ (∃ x_Hash x_At x_Version x_Hits : Int, hcell h a_b (a_o + (Int.toNat i) * 4) = some (.int .u64 x_Hash) ∧ hcell h a_b ((a_o + (Int.toNat i) * 4) + 1) = some (.int .u64 x_At) ∧ hcell h a_b ((a_o + (Int.toNat i) * 4) + 2) = some (.int .u64 x_Version) ∧ hcell h a_b ((a_o + (Int.toNat i) * 4) + 3) = some (.int .u8 x_Hits) ∧ (∃ b_b b_o : Nat, b = some ⟨b_b, b_o, none⟩ ∧ (0 : Int) ≤ i ∧ i < (b_n : Int) ∧ (∃ x_Hash_1 x_At_1 x_Version_1 x_Hits_1 : Int, hcell h b_b (b_o + (Int.toNat i) * 4) = some (.int .u64 x_Hash_1) ∧ hcell h b_b ((b_o + (Int.toNat i) * 4) + 1) = some (.int .u64 x_At_1) ∧ hcell h b_b ((b_o + (Int.toNat i) * 4) + 2) = some (.int .u64 x_Version_1) ∧ hcell h b_b ((b_o + (Int.toNat i) * 4) + 3) = some (.int .u8 x_Hits_1) ∧ (((!((x_Hash == x_Hash_1 && (x_At == x_At_1 && (x_Version == x_Version_1 && (x_Hits == x_Hits_1 && true)))))) = true → R (.bool false) h) ∧ ((!((x_Hash == x_Hash_1 && (x_At == x_At_1 && (x_Version == x_Version_1 && (x_Hits == x_Hits_1 && true)))))) = false → (I2 (IntKind.i64.wrap (i + 1)) ∧ mu3 (IntKind.i64.wrap (i + 1)) < mu3 i)))))))) ∧ ((decide (i < (a_n : Int))) = false → R (.bool true) h))))))) :
    HC Try.prog 20 #[(.slice a a_n a_c), (.slice b b_n b_c)] h R := by
  refine hc_of (args := [(.slice a a_n a_c), (.slice b b_n b_c)]) Try.func20 rfl Try.ntmps20 (Nat.le_of_ble_eq_true rfl) ?_
  refine hx_seq ?_
  refine hx_region ?_
  refine hl_val rfl rfl (v := (.bool false)) (hv_assign rfl) ?_
  refine hl_nil ?_
  refine seqQ_n ?_
  refine hx_seq ?_
  refine hx_seq ?_
  refine hx_region ?_
  refine hl_val rfl rfl (v := (.slice a a_n a_c)) (hv_move rfl) ?_
  refine hl_val rfl rfl (v := (.int .i64 (a_n : Int))) (hv_len (n := a_n) TyShP.u35 rfl) ?_
  refine hl_val rfl rfl (v := (.slice b b_n b_c)) (hv_move rfl) ?_
  refine hl_val rfl rfl (v := (.int .i64 (b_n : Int))) (hv_len (n := b_n) TyShP.u35 rfl) ?_
  refine hl_val rfl rfl (v := (.bool ((a_n : Int) != (b_n : Int)))) (hv_arith rfl rfl rfl) ?_
  refine hl_nil ?_
  refine seqQ_n ?_
  refine hx_cond (b := (a_n : Int) != (b_n : Int)) rfl (fun hb1 => ?_) (fun hb1 => ?_)
  · replace H := H.1 hb1
    refine hx_seq ?_
    refine hx_region ?_
    refine hl_val rfl rfl (v := (.bool false)) (hv_assign rfl) ?_
    refine hl_nil ?_
    refine seqQ_n ?_
    refine hx_ret ?_
    refine seqQ_ret ?_
    exact endQ_ret _ (res_one Try.results20 (rv_tmp rfl)) H
  · replace H := H.2 hb1
    refine hx_skip ?_
    refine seqQ_n ?_
    refine hx_seq ?_
    refine hx_seq ?_
    refine hx_region ?_
    refine hl_val rfl rfl (v := (.int .i64 0)) (hv_assign rfl) ?_
    refine hl_nil ?_
    refine seqQ_n ?_
    refine hx_block ?_
    obtain ⟨I2, mu3, Ha4, Hr5⟩ := H
    refine hx_loopT (σ := Int) (fun s => [(0, (.slice a a_n a_c)), (1, (.slice b b_n b_c)), (5, (.int .i64 s))]) (fun s h' => I2 s ∧ h = h') (fun s _ => mu3 s) 0 ⟨Ha4, rfl⟩ (has_cons rfl (has_cons rfl (has_cons rfl has_nil))) ?_
    rintro i ρ _ ⟨Hi6, rfl⟩
    have H := Hr5 i Hi6
    refine hx_seq ?_
    refine hx_seq ?_
    refine hx_region ?_
    refine hl_val rfl rfl (v := (.int .i64 i)) (hv_move rfl) ?_
    refine hl_val rfl rfl (v := (.slice a a_n a_c)) (hv_move rfl) ?_
    refine hl_val rfl rfl (v := (.int .i64 (a_n : Int))) (hv_len (n := a_n) TyShP.u35 rfl) ?_
    refine hl_val rfl rfl (v := (.bool (decide (i < (a_n : Int))))) (hv_arith rfl rfl rfl) ?_
    refine hl_nil ?_
    refine seqQ_n ?_
    refine hx_cond (b := decide (i < (a_n : Int))) rfl (fun hb7 => ?_) (fun hb7 => ?_)
    · replace H := H.1 hb7
      refine hx_skip ?_
      refine seqQ_n ?_
      refine hx_seq ?_
      refine hx_block ?_
      refine hx_seq ?_
      refine hx_draw TyShP.mixed [.pure, .pure, .pure, .read, .pure, .pure, .pure, .read, .pure] [0, 1, 2, 3, 4, 5, 6, 7, 8] (by kernel_rfl) ?_
      refine hp_pure (i := 0) rfl (wanted_0 rfl) rfl (.slice a a_n a_c) (fun _ => hv_move rfl) ?_
      refine hp_pure (i := 1) rfl (wanted_0 rfl) rfl (.int .i64 i) (fun _ => hv_move rfl) ?_
      obtain ⟨a_b, a_o, hqe, hi8, hi9, Hq⟩ := H
      subst hqe
      have H := Hq; clear Hq
      refine hp_pure (i := 2) rfl (wanted_0 rfl) rfl (ptr a_b (a_o + (Int.toNat i) * 4)) (fun _ => hv_index TyShP.el35 rfl rfl hi8 hi9) ?_
      obtain ⟨x_Hash, x_At, x_Version, x_Hits, hc10, hc11, hc12, hc13, H⟩ := H
      refine hp_read (i := 3) rfl (wanted_0 rfl) rfl (.agg #[(.int .u64 x_Hash), (.int .u64 x_At), (.int .u64 x_Version), (.int .u8 x_Hits)]) (fun _ he => hv_loads (vs := [(.int .u64 x_Hash), (.int .u64 x_At), (.int .u64 x_Version), (.int .u8 x_Hits)]) TyShP.agg31 TyShP.sz31 rfl (hcells_cons (Ext.cell he hc10) (hcells_cons (Ext.cell he hc11) (hcells_cons (Ext.cell he hc12) (hcells_cons (Ext.cell he hc13) hcells_nil))))) ?_
      refine hp_pure (i := 4) rfl (wanted_0 rfl) rfl (.slice b b_n b_c) (fun _ => hv_move rfl) ?_
      refine hp_pure (i := 5) rfl (wanted_0 rfl) rfl (.int .i64 i) (fun _ => hv_move rfl) ?_
      obtain ⟨b_b, b_o, hqe, hi14, hi15, Hq⟩ := H
      subst hqe
      have H := Hq; clear Hq
      refine hp_pure (i := 6) rfl (wanted_0 rfl) rfl (ptr b_b (b_o + (Int.toNat i) * 4)) (fun _ => hv_index TyShP.el35 rfl rfl hi14 hi15) ?_
      obtain ⟨x_Hash_1, x_At_1, x_Version_1, x_Hits_1, hc16, hc17, hc18, hc19, H⟩ := H
      refine hp_read (i := 7) rfl (wanted_0 rfl) rfl (.agg #[(.int .u64 x_Hash_1), (.int .u64 x_At_1), (.int .u64 x_Version_1), (.int .u8 x_Hits_1)]) (fun _ he => hv_loads (vs := [(.int .u64 x_Hash_1), (.int .u64 x_At_1), (.int .u64 x_Version_1), (.int .u8 x_Hits_1)]) TyShP.agg31 TyShP.sz31 rfl (hcells_cons (Ext.cell he hc16) (hcells_cons (Ext.cell he hc17) (hcells_cons (Ext.cell he hc18) (hcells_cons (Ext.cell he hc19) hcells_nil))))) ?_
      refine hp_pure (i := 8) rfl (wanted_0 rfl) rfl (.bool (!((x_Hash == x_Hash_1 && (x_At == x_At_1 && (x_Version == x_Version_1 && (x_Hits == x_Hits_1 && true))))))) (fun _ => hv_structEq (xs := [(.int .u64 x_Hash), (.int .u64 x_At), (.int .u64 x_Version), (.int .u8 x_Hits)]) (ys := [(.int .u64 x_Hash_1), (.int .u64 x_At_1), (.int .u64 x_Version_1), (.int .u8 x_Hits_1)]) (b := (x_Hash == x_Hash_1 && (x_At == x_At_1 && (x_Version == x_Version_1 && (x_Hits == x_Hits_1 && true))))) TyShP.se31 rfl rfl (by kernel_rfl) rfl) ?_
      refine hp_nil ?_
      refine seqQ_n ?_
      refine hx_cond (b := !((x_Hash == x_Hash_1 && (x_At == x_At_1 && (x_Version == x_Version_1 && (x_Hits == x_Hits_1 && true)))))) rfl (fun hb20 => ?_) (fun hb20 => ?_)
      · replace H := H.1 hb20
        refine hx_seq ?_
        refine hx_region ?_
        refine hl_val rfl rfl (v := (.bool false)) (hv_assign rfl) ?_
        refine hl_nil ?_
        refine seqQ_n ?_
        refine hx_ret ?_
        refine blockQ_ret ?_
        refine seqQ_ret ?_
        refine seqQ_ret ?_
        refine blockQ_ret ?_
        refine seqQ_ret ?_
        exact endQ_ret _ (res_one Try.results20 (rv_tmp rfl)) H
      · replace H := H.2 hb20
        refine hx_skip ?_
        refine blockQ_n ?_
        refine seqQ_n ?_
        refine hx_region ?_
        refine hl_val rfl rfl (v := (.int .i64 i)) (hv_move rfl) ?_
        refine hl_val rfl rfl (v := (.int .i64 (IntKind.i64.wrap (i + 1)))) (hv_arith rfl rfl rfl) ?_
        refine hl_val rfl rfl (v := (.int .i64 (IntKind.i64.wrap (i + 1)))) (hv_assign rfl) ?_
        refine hl_nil ?_
        refine seqQ_n ?_
        exact ⟨IntKind.i64.wrap (i + 1), ⟨⟨H.1, rfl⟩, H.2⟩, (has_cons rfl (has_cons rfl (has_cons rfl has_nil)))⟩
    · replace H := H.2 hb7
      refine hx_exit ?_
      refine seqQ_exit ?_
      refine seqQ_exit ?_
      refine blockQ_here ?_
      refine seqQ_n ?_
      refine hx_seq ?_
      refine hx_region ?_
      refine hl_val rfl rfl (v := (.bool true)) (hv_assign rfl) ?_
      refine hl_nil ?_
      refine seqQ_n ?_
      refine hx_ret ?_
      exact endQ_ret _ (res_one Try.results20 (rv_tmp rfl)) H

/-- (*cellar/cellarref11.Table).Get -/
theorem f38_sh (t_b : Nat) (t_o : Nat) (hash : Int) (h : Heap) (R : Value → Heap → Prop)
    (H : (∀ (pb : Nat) (h1 : Heap), Array.size h ≤ pb → pb < Array.size h1 → Ext h h1 → (∃ r0 : Int, ∃ r1 : Bool, HC Try.prog 48 #[(ptr t_b t_o), (.int .u64 hash)] h1 (fun vv h' => vv = (.tuple #[(.int .i64 r0), (.bool r1)]) ∧ h' = h1) ∧ (((!r1) = true → (∀ h2, Fr (fun i => i = pb) h1 h2 → R (.tuple #[(.agg #[(.int .u64 0), (.int .u64 0), (.int .u64 0), (.int .u8 0)]), (.bool false)]) h2)) ∧ ((!r1) = false → (∃ x : Option Addr, ∃ x_n x_c : Nat, hcell h1 t_b (t_o + 2) = some (.slice x x_n x_c) ∧ (∃ x_b x_o : Nat, x = some ⟨x_b, x_o, none⟩ ∧ (0 : Int) ≤ r0 ∧ r0 < (x_n : Int) ∧ (∃ x_Hash x_At x_Version x_Hits : Int, hcell h1 x_b (x_o + (Int.toNat r0) * 4) = some (.int .u64 x_Hash) ∧ hcell h1 x_b ((x_o + (Int.toNat r0) * 4) + 1) = some (.int .u64 x_At) ∧ hcell h1 x_b ((x_o + (Int.toNat r0) * 4) + 2) = some (.int .u64 x_Version) ∧ hcell h1 x_b ((x_o + (Int.toNat r0) * 4) + 3) = some (.int .u8 x_Hits) ∧ (∀ h3, Fr (fun i => i = pb) h1 h3 → R (.tuple #[(.agg #[(.int .u64 x_Hash), (.int .u64 x_At), (.int .u64 x_Version), (.int .u8 x_Hits)]), (.bool true)]) h3))))))))) :
    HC Try.prog 38 #[(ptr t_b t_o), (.int .u64 hash)] h R := by
  refine hc_of (args := [(ptr t_b t_o), (.int .u64 hash)]) Try.func38 rfl Try.ntmps38 (Nat.le_of_ble_eq_true rfl) ?_
  refine hx_seq ?_
  refine hx_region ?_
  refine hl_step rfl rfl (hn_alloc TyShP.z31 ?_)
  intro pb h1 eb1 eh2
  have xx3 : Ext h h1 := by rw [eh2]; exact Ext.push _ _
  have lo5 : Array.size h ≤ pb := Nat.le_of_eq (Eq.symm eb1)
  have hr4 : h1[pb]? = some (.cells #[(.int .u64 0), (.int .u64 0), (.int .u64 0), (.int .u8 0)] 31 (0, 0)) := by rw [eh2]; exact push_new eb1
  refine hl_val rfl rfl (v := (.bool false)) (hv_assign rfl) ?_
  refine hl_nil ?_
  refine seqQ_n ?_
  refine hx_seq ?_
  refine hx_region ?_
  refine hl_val rfl rfl (v := (ptr t_b t_o)) (hv_move rfl) ?_
  refine hl_val rfl rfl (v := (.int .u64 hash)) (hv_move rfl) ?_
  replace H := H pb h1 lo5 (row_lt hr4) xx3
  obtain ⟨r0, r1, hr6, H⟩ := H
  refine hl_val rfl rfl (v := (.tuple #[(.int .i64 r0), (.bool r1)])) (hv_call TyShP.cb48 (vs := [(ptr t_b t_o), (.int .u64 hash)]) rfl hr6) ?_
  refine hl_val rfl rfl (v := (.tuple #[(.int .i64 r0), (.bool r1)])) (hv_move rfl) ?_
  refine hl_val rfl rfl (v := (.int .i64 r0)) (hv_extract (vs := #[(.int .i64 r0), (.bool r1)]) rfl rfl) ?_
  refine hl_val rfl rfl (v := (.bool r1)) (hv_extract (vs := #[(.int .i64 r0), (.bool r1)]) rfl rfl) ?_
  refine hl_val rfl rfl (v := (.int .i64 r0)) (hv_assign rfl) ?_
  refine hl_val rfl rfl (v := (.bool r1)) (hv_assign rfl) ?_
  refine hl_nil ?_
  refine seqQ_n ?_
  refine hx_seq ?_
  refine hx_seq ?_
  refine hx_region ?_
  refine hl_val rfl rfl (v := (.bool r1)) (hv_move rfl) ?_
  refine hl_val rfl rfl (v := (.bool (!r1))) (hv_not (b := r1) rfl) ?_
  refine hl_nil ?_
  refine seqQ_n ?_
  refine hx_cond (b := !r1) rfl (fun hb7 => ?_) (fun hb7 => ?_)
  · replace H := H.1 hb7
    refine hx_seq ?_
    refine hx_region ?_
    refine hl_val rfl rfl (v := (.agg #[(.int .u64 0), (.int .u64 0), (.int .u64 0), (.int .u8 0)])) (hv_build (vs := []) (cs := #[(.int .u64 0), (.int .u64 0), (.int .u64 0), (.int .u8 0)]) TyShP.z31 TyShP.pl31 rfl (by kernel_rfl)) ?_
    refine hl_step rfl rfl (hn_stores (vs := [(.int .u64 0), (.int .u64 0), (.int .u64 0), (.int .u8 0)]) rfl rfl TyShP.sz31 rfl (HWs_row hr4 (by simp)) ?_)
    intro h2 eh8
    have hr4' : h2[pb]? = some (.cells #[(.int .u64 0), (.int .u64 0), (.int .u64 0), (.int .u8 0)] 31 (0, 0)) := row_hsets_eq eh8 hr4 rfl
    replace H := H h2 (fr_hsets_of eh8)
    refine hl_val rfl rfl (v := (.bool false)) (hv_assign rfl) ?_
    refine hl_nil ?_
    refine seqQ_n ?_
    refine hx_ret ?_
    refine seqQ_ret ?_
    exact endQ_ret _ (res_two Try.results38 (rv_cell (vs := [(.int .u64 0), (.int .u64 0), (.int .u64 0), (.int .u8 0)]) TyShP.agg31 TyShP.sz31 rfl (hcells_cons (rowcell hr4' rfl) (hcells_cons (rowcell hr4' rfl) (hcells_cons (rowcell hr4' rfl) (hcells_cons (rowcell hr4' rfl) hcells_nil))))) (rv_tmp rfl)) H
  · replace H := H.2 hb7
    refine hx_skip ?_
    refine seqQ_n ?_
    refine hx_seq ?_
    refine hx_region ?_
    refine hl_val rfl rfl (v := (ptr t_b t_o)) (hv_move rfl) ?_
    refine hl_val rfl rfl (v := (ptr t_b t_o)) (hv_nil rfl) ?_
    refine hl_val rfl rfl (v := (ptr t_b (t_o + 2))) (hv_field TyShP.fld55_2 (b := t_b) (o := t_o) rfl) ?_
    obtain ⟨x, x_n, x_c, hc9, H⟩ := H
    refine hl_val rfl rfl (v := (.slice x x_n x_c)) (hv_load TyShP.agg35 rfl hc9) ?_
    refine hl_val rfl rfl (v := (.int .i64 r0)) (hv_move rfl) ?_
    obtain ⟨x_b, x_o, hqe, hi10, hi11, Hq⟩ := H
    subst hqe
    have H := Hq; clear Hq
    refine hl_val rfl rfl (v := (ptr x_b (x_o + (Int.toNat r0) * 4))) (hv_index TyShP.el35 rfl rfl hi10 hi11) ?_
    obtain ⟨x_Hash, x_At, x_Version, x_Hits, hc12, hc13, hc14, hc15, H⟩ := H
    refine hl_val rfl rfl (v := (.agg #[(.int .u64 x_Hash), (.int .u64 x_At), (.int .u64 x_Version), (.int .u8 x_Hits)])) (hv_loads (vs := [(.int .u64 x_Hash), (.int .u64 x_At), (.int .u64 x_Version), (.int .u8 x_Hits)]) TyShP.agg31 TyShP.sz31 rfl (hcells_cons hc12 (hcells_cons hc13 (hcells_cons hc14 (hcells_cons hc15 hcells_nil))))) ?_
    refine hl_step rfl rfl (hn_stores (vs := [(.int .u64 x_Hash), (.int .u64 x_At), (.int .u64 x_Version), (.int .u8 x_Hits)]) rfl rfl TyShP.sz31 rfl (HWs_row hr4 (by simp)) ?_)
    intro h3 eh16
    have hr4' : h3[pb]? = some (.cells #[(.int .u64 x_Hash), (.int .u64 x_At), (.int .u64 x_Version), (.int .u8 x_Hits)] 31 (0, 0)) := row_hsets_eq eh16 hr4 rfl
    replace H := H h3 (fr_hsets_of eh16)
    refine hl_val rfl rfl (v := (.bool true)) (hv_assign rfl) ?_
    refine hl_nil ?_
    refine seqQ_n ?_
    refine hx_ret ?_
    exact endQ_ret _ (res_two Try.results38 (rv_cell (vs := [(.int .u64 x_Hash), (.int .u64 x_At), (.int .u64 x_Version), (.int .u8 x_Hits)]) TyShP.agg31 TyShP.sz31 rfl (hcells_cons (rowcell hr4' rfl) (hcells_cons (rowcell hr4' rfl) (hcells_cons (rowcell hr4' rfl) (hcells_cons (rowcell hr4' rfl) hcells_nil))))) (rv_tmp rfl)) H

/-- (*cellar/cellarref11.Table).Remove -/
theorem f39_sh (t_b : Nat) (t_o : Nat) (hash : Int) (h : Heap) (R : Value → Heap → Prop)
    (H : (∀ (pb : Nat) (h1 : Heap), Array.size h ≤ pb → pb < Array.size h1 → Ext h h1 → (∃ r0 : Int, ∃ r1 : Bool, HC Try.prog 48 #[(ptr t_b t_o), (.int .u64 hash)] h1 (fun vv h' => vv = (.tuple #[(.int .i64 r0), (.bool r1)]) ∧ h' = h1) ∧ (((!r1) = true → (∀ h2, Fr (fun i => i = pb) h1 h2 → R (.tuple #[(.agg #[(.int .u64 0), (.int .u64 0), (.int .u64 0), (.int .u8 0)]), (.bool false)]) h2)) ∧ ((!r1) = false → (∃ x : Option Addr, ∃ x_n x_c : Nat, hcell h1 t_b (t_o + 2) = some (.slice x x_n x_c) ∧ (∃ x_b x_o : Nat, x = some ⟨x_b, x_o, none⟩ ∧ (0 : Int) ≤ r0 ∧ r0 < (x_n : Int) ∧ (∃ x_Hash x_At x_Version x_Hits : Int, hcell h1 x_b (x_o + (Int.toNat r0) * 4) = some (.int .u64 x_Hash) ∧ hcell h1 x_b ((x_o + (Int.toNat r0) * 4) + 1) = some (.int .u64 x_At) ∧ hcell h1 x_b ((x_o + (Int.toNat r0) * 4) + 2) = some (.int .u64 x_Version) ∧ hcell h1 x_b ((x_o + (Int.toNat r0) * 4) + 3) = some (.int .u8 x_Hits) ∧ (∃ T24 : Heap → Heap → Prop, Fit T24 ∧ (0 ≤ ((0 : Int) : Int) ∧ (0 : Int) ≤ r0 ∧ r0 ≤ (x_c : Int) ∧ ∀ sl : Option Addr, sl = slA (some ⟨x_b, x_o, none⟩) (Int.toNat 0) 4 x_c → (∀ (e : Nat) (h4 : Heap), Array.size h1 ≤ e → e < Array.size h4 → Ext h1 h4 → (∃ x_1 : Option Addr, ∃ x_n_1 x_c_1 : Nat, (∀ hx, T24 h4 hx → hcell hx t_b (t_o + 2) = some (.slice x_1 x_n_1 x_c_1)) ∧ (0 ≤ (IntKind.i64.wrap (r0 + 1) : Int) ∧ IntKind.i64.wrap (r0 + 1) ≤ (x_n_1 : Int) ∧ (x_n_1 : Int) ≤ (x_c_1 : Int) ∧ ∀ sl_1 : Option Addr, sl_1 = slA x_1 (Int.toNat (IntKind.i64.wrap (r0 + 1))) 4 x_c_1 → (∀ nb h5, nb = Array.size h4 → h5 = Array.push h4 (.cells #[] 31) → HAppend Try.prog 35 35 (.slice (some ⟨nb, 0, none⟩) 0 0) (.slice sl (Int.toNat r0 - Int.toNat 0) (x_c - Int.toNat 0)) h5 (fun vv h6 => T24 h5 h6 ∧ Kp [pb, e] h5 h6 ∧ ∃ ap : Option Addr, ∃ ap_n ap_c : Nat, vv = (.slice ap ap_n ap_c) ∧ HAppend Try.prog 35 35 (.slice ap ap_n ap_c) (.slice sl_1 (Int.toNat (x_n_1 : Int) - Int.toNat (IntKind.i64.wrap (r0 + 1))) (x_c_1 - Int.toNat (IntKind.i64.wrap (r0 + 1)))) h6 (fun vv h7 => Kp [pb, e] h6 h7 ∧ ∃ ap_1 : Option Addr, ∃ ap_n_1 ap_c_1 : Nat, vv = (.slice ap_1 ap_n_1 ap_c_1) ∧ (HW h7 t_b (t_o + 2) ∧ Off t_b [pb, e] ∧ ∀ h8, h8 = hset h7 t_b (t_o + 2) (.slice ap_1 ap_n_1 ap_c_1) → (∀ h9, Fr (fun i => i = pb) h8 h9 → R (.tuple #[(.agg #[(.int .u64 x_Hash), (.int .u64 x_At), (.int .u64 x_Version), (.int .u8 x_Hits)]), (.bool true)]) h9)))))))))))))))))) :
    HC Try.prog 39 #[(ptr t_b t_o), (.int .u64 hash)] h R := by
  refine hc_of (args := [(ptr t_b t_o), (.int .u64 hash)]) Try.func39 rfl Try.ntmps39 (Nat.le_of_ble_eq_true rfl) ?_
  refine hx_seq ?_
  refine hx_region ?_
  refine hl_step rfl rfl (hn_alloc TyShP.z31 ?_)
  intro pb h1 eb1 eh2
  have xx3 : Ext h h1 := by rw [eh2]; exact Ext.push _ _
  have lo5 : Array.size h ≤ pb := Nat.le_of_eq (Eq.symm eb1)
  have hr4 : h1[pb]? = some (.cells #[(.int .u64 0), (.int .u64 0), (.int .u64 0), (.int .u8 0)] 31 (0, 0)) := by rw [eh2]; exact push_new eb1
  refine hl_val rfl rfl (v := (.bool false)) (hv_assign rfl) ?_
  refine hl_nil ?_
  refine seqQ_n ?_
  refine hx_seq ?_
  refine hx_region ?_
  refine hl_val rfl rfl (v := (ptr t_b t_o)) (hv_move rfl) ?_
  refine hl_val rfl rfl (v := (.int .u64 hash)) (hv_move rfl) ?_
  replace H := H pb h1 lo5 (row_lt hr4) xx3
  obtain ⟨r0, r1, hr6, H⟩ := H
  refine hl_val rfl rfl (v := (.tuple #[(.int .i64 r0), (.bool r1)])) (hv_call TyShP.cb48 (vs := [(ptr t_b t_o), (.int .u64 hash)]) rfl hr6) ?_
  refine hl_val rfl rfl (v := (.tuple #[(.int .i64 r0), (.bool r1)])) (hv_move rfl) ?_
  refine hl_val rfl rfl (v := (.int .i64 r0)) (hv_extract (vs := #[(.int .i64 r0), (.bool r1)]) rfl rfl) ?_
  refine hl_val rfl rfl (v := (.bool r1)) (hv_extract (vs := #[(.int .i64 r0), (.bool r1)]) rfl rfl) ?_
  refine hl_val rfl rfl (v := (.int .i64 r0)) (hv_assign rfl) ?_
  refine hl_val rfl rfl (v := (.bool r1)) (hv_assign rfl) ?_
  refine hl_nil ?_
  refine seqQ_n ?_
  refine hx_seq ?_
  refine hx_seq ?_
  refine hx_region ?_
  refine hl_val rfl rfl (v := (.bool r1)) (hv_move rfl) ?_
  refine hl_val rfl rfl (v := (.bool (!r1))) (hv_not (b := r1) rfl) ?_
  refine hl_nil ?_
  refine seqQ_n ?_
  refine hx_cond (b := !r1) rfl (fun hb7 => ?_) (fun hb7 => ?_)
  · replace H := H.1 hb7
    refine hx_seq ?_
    refine hx_region ?_
    refine hl_val rfl rfl (v := (.agg #[(.int .u64 0), (.int .u64 0), (.int .u64 0), (.int .u8 0)])) (hv_build (vs := []) (cs := #[(.int .u64 0), (.int .u64 0), (.int .u64 0), (.int .u8 0)]) TyShP.z31 TyShP.pl31 rfl (by kernel_rfl)) ?_
    refine hl_step rfl rfl (hn_stores (vs := [(.int .u64 0), (.int .u64 0), (.int .u64 0), (.int .u8 0)]) rfl rfl TyShP.sz31 rfl (HWs_row hr4 (by simp)) ?_)
    intro h2 eh8
    have hr4' : h2[pb]? = some (.cells #[(.int .u64 0), (.int .u64 0), (.int .u64 0), (.int .u8 0)] 31 (0, 0)) := row_hsets_eq eh8 hr4 rfl
    replace H := H h2 (fr_hsets_of eh8)
    refine hl_val rfl rfl (v := (.bool false)) (hv_assign rfl) ?_
    refine hl_nil ?_
    refine seqQ_n ?_
    refine hx_ret ?_
    refine seqQ_ret ?_
    exact endQ_ret _ (res_two Try.results39 (rv_cell (vs := [(.int .u64 0), (.int .u64 0), (.int .u64 0), (.int .u8 0)]) TyShP.agg31 TyShP.sz31 rfl (hcells_cons (rowcell hr4' rfl) (hcells_cons (rowcell hr4' rfl) (hcells_cons (rowcell hr4' rfl) (hcells_cons (rowcell hr4' rfl) hcells_nil))))) (rv_tmp rfl)) H
  · replace H := H.2 hb7
    refine hx_skip ?_
    refine seqQ_n ?_
    refine hx_seq ?_
    refine hx_region ?_
    refine hl_val rfl rfl (v := (ptr t_b t_o)) (hv_move rfl) ?_
    refine hl_val rfl rfl (v := (ptr t_b t_o)) (hv_nil rfl) ?_
    refine hl_val rfl rfl (v := (ptr t_b (t_o + 2))) (hv_field TyShP.fld55_2 (b := t_b) (o := t_o) rfl) ?_
    obtain ⟨x, x_n, x_c, hc9, H⟩ := H
    refine hl_val rfl rfl (v := (.slice x x_n x_c)) (hv_load TyShP.agg35 rfl hc9) ?_
    refine hl_val rfl rfl (v := (.int .i64 r0)) (hv_move rfl) ?_
    obtain ⟨x_b, x_o, hqe, hi10, hi11, Hq⟩ := H
    subst hqe
    have H := Hq; clear Hq
    refine hl_val rfl rfl (v := (ptr x_b (x_o + (Int.toNat r0) * 4))) (hv_index TyShP.el35 rfl rfl hi10 hi11) ?_
    obtain ⟨x_Hash, x_At, x_Version, x_Hits, hc12, hc13, hc14, hc15, H⟩ := H
    refine hl_val rfl rfl (v := (.agg #[(.int .u64 x_Hash), (.int .u64 x_At), (.int .u64 x_Version), (.int .u8 x_Hits)])) (hv_loads (vs := [(.int .u64 x_Hash), (.int .u64 x_At), (.int .u64 x_Version), (.int .u8 x_Hits)]) TyShP.agg31 TyShP.sz31 rfl (hcells_cons hc12 (hcells_cons hc13 (hcells_cons hc14 (hcells_cons hc15 hcells_nil))))) ?_
    refine hl_step rfl rfl (hn_alloc TyShP.z31 ?_)
    intro e h3 eb16 eh17
    have xx18 : Ext h1 h3 := by rw [eh17]; exact Ext.push _ _
    have ne21 := Nat.ne_of_lt (Nat.lt_of_lt_of_eq (row_lt hr4) (Eq.symm eb16))
    have lo20 : Array.size h1 ≤ e := Nat.le_of_eq (Eq.symm eb16)
    have hr19 : h3[e]? = some (.cells #[(.int .u64 0), (.int .u64 0), (.int .u64 0), (.int .u8 0)] 31 (0, 0)) := by rw [eh17]; exact push_new eb16
    replace hr4 := Ext.row xx18 hr4
    refine hl_step rfl rfl (hn_stores (vs := [(.int .u64 x_Hash), (.int .u64 x_At), (.int .u64 x_Version), (.int .u8 x_Hits)]) rfl rfl TyShP.sz31 rfl (HWs_row hr19 (by simp)) ?_)
    intro h4 eh22
    replace hr4 := row_hsets_ne eh22 ne21 hr4
    have hr19' : h4[e]? = some (.cells #[(.int .u64 x_Hash), (.int .u64 x_At), (.int .u64 x_Version), (.int .u8 x_Hits)] 31 (0, 0)) := row_hsets_eq eh22 hr19 rfl
    have xv23 := ext_hsets eh22 xx18 lo20
    refine hl_nil ?_
    refine seqQ_n ?_
    refine hx_seq ?_
    obtain ⟨T24, hT25, H⟩ := H
    refine hx_drawT TyShP.mixed T24 hT25 [.pure, .ext, .pure, .pure, .pure, .read, .pure, .pure, .tame, .pure, .pure, .pure, .stay, .pure, .pure, .pure, .wild, .pure, .pure, .wild] [0, 2, 3, 4, 5, 6, 7, 9, 10, 11, 12, 13, 14, 15, 1, 8, 16, 17, 18, 19] (by kernel_rfl) ?_
    refine hp_pure (i := 0) rfl (wanted_0 rfl) rfl (ptr t_b t_o) (fun _ => hv_move rfl) ?_
    refine hp_pure (i := 2) rfl (wanted_0 rfl) rfl (ptr t_b t_o) (fun _ => hv_move rfl) ?_
    refine hp_pure (i := 3) rfl (wanted_0 rfl) rfl (ptr t_b t_o) (fun _ => hv_nil rfl) ?_
    refine hp_pure (i := 4) rfl (wanted_0 rfl) rfl (ptr t_b (t_o + 2)) (fun _ => hv_field TyShP.fld55_2 (b := t_b) (o := t_o) rfl) ?_
    refine hp_read (i := 5) rfl (wanted_0 rfl) rfl (.slice (some ⟨x_b, x_o, none⟩) x_n x_c) (fun _ he => hv_load TyShP.agg35 rfl (Ext.cell he (Ext.cell xv23 hc9))) ?_
    refine hp_pure (i := 6) rfl (wanted_0 rfl) rfl (.int .i64 r0) (fun _ => hv_move rfl) ?_
    obtain ⟨hs26, hs27, hs28, H⟩ := H
    obtain ⟨sl, hq29⟩ : ∃ q, q = slA (some ⟨x_b, x_o, none⟩) (Int.toNat 0) 4 x_c := ⟨_, rfl⟩
    replace H := H sl hq29
    refine hp_pure (i := 7) rfl (wanted_0 rfl) rfl (.slice sl (Int.toNat r0 - Int.toNat 0) (x_c - Int.toNat 0)) (fun _ => hv_slice (l := 0) (r := r0) TyShP.u35 TyShP.sz31 rfl sl_none (sh_some rfl) hs26 hs27 hs28 hq29) ?_
    refine hp_pure (i := 9) rfl (wanted_0 rfl) rfl (ptr t_b t_o) (fun _ => hv_move rfl) ?_
    refine hp_pure (i := 10) rfl (wanted_0 rfl) rfl (ptr t_b t_o) (fun _ => hv_nil rfl) ?_
    refine hp_pure (i := 11) rfl (wanted_0 rfl) rfl (ptr t_b (t_o + 2)) (fun _ => hv_field TyShP.fld55_2 (b := t_b) (o := t_o) rfl) ?_
    replace H := H e h4 lo20 (row_lt hr19') xv23
    obtain ⟨x_1, x_n_1, x_c_1, hc30, H⟩ := H
    refine hp_stay (i := 12) rfl (wanted_0 rfl) rfl (.slice x_1 x_n_1 x_c_1) (fun _ he => hv_load TyShP.agg35 rfl (hc30 _ he)) ?_
    refine hp_pure (i := 13) rfl (wanted_0 rfl) rfl (.int .i64 r0) (fun _ => hv_move rfl) ?_
    refine hp_pure (i := 14) rfl (wanted_0 rfl) rfl (.int .i64 (IntKind.i64.wrap (r0 + 1))) (fun _ => hv_arith rfl rfl rfl) ?_
    obtain ⟨hs31, hs32, hs33, H⟩ := H
    obtain ⟨sl_1, hq34⟩ : ∃ q, q = slA x_1 (Int.toNat (IntKind.i64.wrap (r0 + 1))) 4 x_c_1 := ⟨_, rfl⟩
    replace H := H sl_1 hq34
    refine hp_pure (i := 15) rfl (wanted_0 rfl) rfl (.slice sl_1 (Int.toNat (x_n_1 : Int) - Int.toNat (IntKind.i64.wrap (r0 + 1))) (x_c_1 - Int.toNat (IntKind.i64.wrap (r0 + 1)))) (fun _ => hv_slice (l := IntKind.i64.wrap (r0 + 1)) (r := (x_n_1 : Int)) TyShP.u35 TyShP.sz31 rfl (sl_some rfl) sh_none hs31 hs32 hs33 hq34) ?_
    refine hp_ext (i := 1) rfl (wanted_0 rfl) rfl (hn_buildSlice (n := 0) (vs := []) (cs := #[]) TyShP.u35 TyShP.sz31 TyShP.z31 rfl rfl (by kernel_rfl) ?_)
    intro nb h5 eb35 eh36
    replace H := H nb h5 eb35 eh36
    have xx37 : Ext h4 h5 := by rw [eh36]; exact Ext.push _ _
    replace hr4 := Ext.row xx37 hr4
    replace hr19' := Ext.row xx37 hr19'
    refine ⟨xx37, ?_⟩
    refine hp_tame (i := 8) rfl (wanted_0 rfl) rfl (hs_append rfl rfl (HAppend.mono H ?_))
    rintro _ h6 ⟨ht44, kp38, ap, ap_n, ap_c, rfl, H⟩
    refine ⟨ht44, ?_⟩
    replace hr4 := Kp.row kp38 (by simp) hr4
    replace hr19' := Kp.row kp38 (by simp) hr19'
    refine hp_wild (i := 16) rfl (wanted_0 rfl) rfl (hs_append rfl rfl (HAppend.mono H ?_))
    rintro _ h7 ⟨kp39, ap_1, ap_n_1, ap_c_1, rfl, H⟩
    replace hr4 := Kp.row kp39 (by simp) hr4
    replace hr19' := Kp.row kp39 (by simp) hr19'
    refine hp_pure (i := 17) rfl (wanted_0 rfl) rfl (ptr t_b t_o) (fun _ => hv_nil rfl) ?_
    refine hp_pure (i := 18) rfl (wanted_0 rfl) rfl (ptr t_b (t_o + 2)) (fun _ => hv_field TyShP.fld55_2 (b := t_b) (o := t_o) rfl) ?_
    obtain ⟨hw41, ho42, H⟩ := H
    refine hp_wild (i := 19) rfl (wanted_0 rfl) rfl (hn_store (v := (.slice ap_1 ap_n_1 ap_c_1)) rfl rfl TyShP.sz35 rfl hw41 ?_)
    intro h8 eh40
    replace H := H h8 eh40
    replace hr4 := row_hset_ne eh40 (ho42 _ (by simp)) hr4
    replace hr19' := row_hset_ne eh40 (ho42 _ (by simp)) hr19'
    refine hp_nil ?_
    refine seqQ_n ?_
    refine hx_seq ?_
    refine hx_region ?_
    refine hl_val rfl rfl (v := (.agg #[(.int .u64 x_Hash), (.int .u64 x_At), (.int .u64 x_Version), (.int .u8 x_Hits)])) (hv_loads (vs := [(.int .u64 x_Hash), (.int .u64 x_At), (.int .u64 x_Version), (.int .u8 x_Hits)]) TyShP.agg31 TyShP.sz31 rfl (hcells_cons (rowcell hr19' rfl) (hcells_cons (rowcell hr19' rfl) (hcells_cons (rowcell hr19' rfl) (hcells_cons (rowcell hr19' rfl) hcells_nil))))) ?_
    refine hl_step rfl rfl (hn_stores (vs := [(.int .u64 x_Hash), (.int .u64 x_At), (.int .u64 x_Version), (.int .u8 x_Hits)]) rfl rfl TyShP.sz31 rfl (HWs_row hr4 (by simp)) ?_)
    intro h9 eh43
    replace hr19' := row_hsets_ne eh43 (Ne.symm ne21) hr19'
    have hr4' : h9[pb]? = some (.cells #[(.int .u64 x_Hash), (.int .u64 x_At), (.int .u64 x_Version), (.int .u8 x_Hits)] 31 (0, 0)) := row_hsets_eq eh43 hr4 rfl
    replace H := H h9 (fr_hsets_of eh43)
    refine hl_val rfl rfl (v := (.bool true)) (hv_assign rfl) ?_
    refine hl_nil ?_
    refine seqQ_n ?_
    refine hx_ret ?_
    exact endQ_ret _ (res_two Try.results39 (rv_cell (vs := [(.int .u64 x_Hash), (.int .u64 x_At), (.int .u64 x_Version), (.int .u8 x_Hits)]) TyShP.agg31 TyShP.sz31 rfl (hcells_cons (rowcell hr4' rfl) (hcells_cons (rowcell hr4' rfl) (hcells_cons (rowcell hr4' rfl) (hcells_cons (rowcell hr4' rfl) hcells_nil))))) (rv_tmp rfl)) H

/-- (*cellar/cellarref11.Table).Put -/
theorem f37_sh (t_b : Nat) (t_o : Nat) (e_Hash : Int) (e_At : Int) (e_Version : Int) (e_Hits : Int) (h : Heap) (R : Value → Heap → Prop)
    (H : (((e_At == 0) = true → (∀ (h3 : Heap), Ext h h3 → R (.tuple #[(.agg #[(.int .u64 0), (.int .u64 0), (.int .u64 0), (.int .u8 0)]), (.bool false), (.int .i64 1)]) h3)) ∧ ((e_At == 0) = false → (∀ (e : Nat) (pb : Nat) (h2 : Heap), Array.size h ≤ e → e < Array.size h2 → Array.size h ≤ pb → pb < Array.size h2 → Ext h h2 → (∃ r0 : Int, ∃ r1 : Bool, HC Try.prog 48 #[(ptr t_b t_o), (.int .u64 e_Hash)] h2 (fun vv h' => vv = (.tuple #[(.int .i64 r0), (.bool r1)]) ∧ h' = h2) ∧ ((r1 = true → (∃ x : Option Addr, ∃ x_n x_c : Nat, hcell h2 t_b (t_o + 2) = some (.slice x x_n x_c) ∧ (∃ x_b x_o : Nat, x = some ⟨x_b, x_o, none⟩ ∧ (0 : Int) ≤ r0 ∧ r0 < (x_n : Int) ∧ (∃ x_Hash x_At x_Version x_Hits : Int, hcell h2 x_b (x_o + (Int.toNat r0) * 4) = some (.int .u64 x_Hash) ∧ hcell h2 x_b ((x_o + (Int.toNat r0) * 4) + 1) = some (.int .u64 x_At) ∧ hcell h2 x_b ((x_o + (Int.toNat r0) * 4) + 2) = some (.int .u64 x_Version) ∧ hcell h2 x_b ((x_o + (Int.toNat r0) * 4) + 3) = some (.int .u8 x_Hits) ∧ (∀ (old : Nat) (h5 : Heap), Array.size h2 ≤ old → old < Array.size h5 → Ext h2 h5 → (HWs h5 x_b (x_o + (Int.toNat r0) * 4) 4 ∧ Off x_b [e, pb, old] ∧ ∀ h6, h6 = hsets h5 x_b (x_o + (Int.toNat r0) * 4) [(.int .u64 e_Hash), (.int .u64 e_At), (.int .u64 e_Version), (.int .u8 e_Hits)] → (∀ h7, Fr (fun i => i = pb) h6 h7 → R (.tuple #[(.agg #[(.int .u64 x_Hash), (.int .u64 x_At), (.int .u64 x_Version), (.int .u8 x_Hits)]), (.bool true), (.int .i64 0)]) h7))))))) ∧ (r1 = false → (∃ A44 : Heap → Prop, (∃ x : Option Addr, ∃ x_n x_c : Nat, hcell h2 t_b (t_o + 2) = some (.slice x x_n x_c) ∧ (∃ x_1 : Int, hcell h2 t_b t_o = some (.int .i64 x_1) ∧ ((0 : Int) ≤ x_1 ∧ (((decide ((IntKind.i64.wrap (8 * (IntKind.i64.wrap ((x_n : Int) + 1)))) > (IntKind.i64.wrap (7 * 2 ^ min (Int.toNat x_1) 64)))) = true → (∃ x_2 : Int, hcell h2 t_b (t_o + 1) = some (.int .i64 x_2) ∧ (((x_1 == x_2) = true → (∀ h9, Fr (fun i => i = pb) h2 h9 → R (.tuple #[(.agg #[(.int .u64 0), (.int .u64 0), (.int .u64 0), (.int .u8 0)]), (.bool false), (.int .i64 2)]) h9)) ∧ ((x_1 == x_2) = false → (HW h2 t_b t_o ∧ Off t_b [e, pb] ∧ ∀ h10, h10 = hset h2 t_b t_o (.int .i64 (IntKind.i64.wrap (x_1 + 1))) → (A44 h10)))))) ∧ ((decide ((IntKind.i64.wrap (8 * (IntKind.i64.wrap ((x_n : Int) + 1)))) > (IntKind.i64.wrap (7 * 2 ^ min (Int.toNat x_1) 64)))) = false → (A44 h2)))))) ∧ (∀ (h8 : Heap), A44 h8 → (∀ nb h11, nb = Array.size h8 → h11 = Array.push h8 (.cells #[] 31) → (∃ x_3 : Option Addr, ∃ x_n_1 x_c_1 : Nat, hcell h11 t_b (t_o + 2) = some (.slice x_3 x_n_1 x_c_1) ∧ (0 ≤ ((0 : Int) : Int) ∧ (0 : Int) ≤ r0 ∧ r0 ≤ (x_c_1 : Int) ∧ ∀ sl : Option Addr, sl = slA x_3 (Int.toNat 0) 4 x_c_1 → HAppend Try.prog 35 35 (.slice (some ⟨nb, 0, none⟩) 0 0) (.slice sl (Int.toNat r0 - Int.toNat 0) (x_c_1 - Int.toNat 0)) h11 (fun vv h12 => Kp [e, pb] h11 h12 ∧ ∃ ap : Option Addr, ∃ ap_n ap_c : Nat, vv = (.slice ap ap_n ap_c) ∧ (∀ nb_1 h13, nb_1 = Array.size h12 → h13 = Array.push h12 (.cells #[(.int .u64 e_Hash), (.int .u64 e_At), (.int .u64 e_Version), (.int .u8 e_Hits)] 31) → HAppend Try.prog 35 35 (.slice ap ap_n ap_c) (.slice (some ⟨nb_1, 0, none⟩) 1 1) h13 (fun vv h14 => Kp [pb] h13 h14 ∧ ∃ ap_1 : Option Addr, ∃ ap_n_1 ap_c_1 : Nat, vv = (.slice ap_1 ap_n_1 ap_c_1) ∧ (∃ x_4 : Option Addr, ∃ x_n_2 x_c_2 : Nat, hcell h14 t_b (t_o + 2) = some (.slice x_4 x_n_2 x_c_2) ∧ (0 ≤ (r0 : Int) ∧ r0 ≤ (x_n_2 : Int) ∧ (x_n_2 : Int) ≤ (x_c_2 : Int) ∧ ∀ sl_1 : Option Addr, sl_1 = slA x_4 (Int.toNat r0) 4 x_c_2 → HAppend Try.prog 35 35 (.slice ap_1 ap_n_1 ap_c_1) (.slice sl_1 (Int.toNat (x_n_2 : Int) - Int.toNat r0) (x_c_2 - Int.toNat r0)) h14 (fun vv h15 => Kp [pb] h14 h15 ∧ ∃ ap_2 : Option Addr, ∃ ap_n_2 ap_c_2 : Nat, vv = (.slice ap_2 ap_n_2 ap_c_2) ∧ (HW h15 t_b (t_o + 2) ∧ Off t_b [pb] ∧ ∀ h16, h16 = hset h15 t_b (t_o + 2) (.slice ap_2 ap_n_2 ap_c_2) → (∀ h17, Fr (fun i => i = pb) h16 h17 → R (.tuple #[(.agg #[(.int .u64 0), (.int .u64 0), (.int .u64 0), (.int .u8 0)]), (.bool false), (.int .i64 0)]) h17)))))))))))))))))))) :
    HC Try.prog 37 #[(ptr t_b t_o), (.agg #[(.int .u64 e_Hash), (.int .u64 e_At), (.int .u64 e_Version), (.int .u8 e_Hits)])] h R := by
  refine hc_of (args := [(ptr t_b t_o), (.agg #[(.int .u64 e_Hash), (.int .u64 e_At), (.int .u64 e_Version), (.int .u8 e_Hits)])]) Try.func37 rfl Try.ntmps37 (Nat.le_of_ble_eq_true rfl) ?_
  refine hx_seq ?_
  refine hx_region ?_
  refine hl_step rfl rfl (hn_box (v := (.agg #[(.int .u64 e_Hash), (.int .u64 e_At), (.int .u64 e_Version), (.int .u8 e_Hits)])) rfl ?_)
  intro e h1 eb1 eh2
  have xx3 : Ext h h1 := by rw [eh2]; exact Ext.push _ _
  have lo5 : Array.size h ≤ e := Nat.le_of_eq (Eq.symm eb1)
  have hr4 : h1[e]? = some (.cells #[(.int .u64 e_Hash), (.int .u64 e_At), (.int .u64 e_Version), (.int .u8 e_Hits)] 31 (0, 0)) := by rw [eh2]; exact push_new eb1
  refine hl_step rfl rfl (hn_alloc TyShP.z31 ?_)
  intro pb h2 eb6 eh7
  have xx8 : Ext h1 h2 := by rw [eh7]; exact Ext.push _ _
  have ne11 := Nat.ne_of_lt (Nat.lt_of_lt_of_eq (row_lt hr4) (Eq.symm eb6))
  have lo10 : Array.size h ≤ pb := Nat.le_trans (Ext.size xx3) (Nat.le_of_eq (Eq.symm eb6))
  have hr9 : h2[pb]? = some (.cells #[(.int .u64 0), (.int .u64 0), (.int .u64 0), (.int .u8 0)] 31 (0, 0)) := by rw [eh7]; exact push_new eb6
  replace hr4 := Ext.row xx8 hr4
  have xv12 := Ext.trans xx3 xx8
  refine hl_val rfl rfl (v := (.bool false)) (hv_assign rfl) ?_
  refine hl_val rfl rfl (v := (.int .i64 0)) (hv_assign rfl) ?_
  refine hl_nil ?_
  refine seqQ_n ?_
  refine hx_seq ?_
  refine hx_seq ?_
  refine hx_region ?_
  refine hl_val rfl rfl (v := (ptr e 1)) (hv_field TyShP.fld31_1 (b := e) (o := 0) rfl) ?_
  refine hl_val rfl rfl (v := (.int .u64 e_At)) (hv_load TyShP.agg29 rfl (rowcell hr4 rfl)) ?_
  refine hl_val rfl rfl (v := (.bool (e_At == 0))) (hv_arith rfl rfl rfl) ?_
  refine hl_nil ?_
  refine seqQ_n ?_
  refine hx_cond (b := e_At == 0) rfl (fun hb13 => ?_) (fun hb13 => ?_)
  · replace H := H.1 hb13
    refine hx_seq ?_
    refine hx_region ?_
    refine hl_val rfl rfl (v := (.agg #[(.int .u64 0), (.int .u64 0), (.int .u64 0), (.int .u8 0)])) (hv_build (vs := []) (cs := #[(.int .u64 0), (.int .u64 0), (.int .u64 0), (.int .u8 0)]) TyShP.z31 TyShP.pl31 rfl (by kernel_rfl)) ?_
    refine hl_step rfl rfl (hn_stores (vs := [(.int .u64 0), (.int .u64 0), (.int .u64 0), (.int .u8 0)]) rfl rfl TyShP.sz31 rfl (HWs_row hr9 (by simp)) ?_)
    intro h3 eh14
    replace hr4 := row_hsets_ne eh14 ne11 hr4
    have hr9' : h3[pb]? = some (.cells #[(.int .u64 0), (.int .u64 0), (.int .u64 0), (.int .u8 0)] 31 (0, 0)) := row_hsets_eq eh14 hr9 rfl
    have xv15 := ext_hsets eh14 xv12 lo10
    refine hl_val rfl rfl (v := (.bool false)) (hv_assign rfl) ?_
    refine hl_val rfl rfl (v := (.int .i64 1)) (hv_assign rfl) ?_
    refine hl_nil ?_
    refine seqQ_n ?_
    refine hx_ret ?_
    refine seqQ_ret ?_
    replace H := H h3 xv15
    exact endQ_ret _ (res_three Try.results37 (rv_cell (vs := [(.int .u64 0), (.int .u64 0), (.int .u64 0), (.int .u8 0)]) TyShP.agg31 TyShP.sz31 rfl (hcells_cons (rowcell hr9' rfl) (hcells_cons (rowcell hr9' rfl) (hcells_cons (rowcell hr9' rfl) (hcells_cons (rowcell hr9' rfl) hcells_nil))))) (rv_tmp rfl) (rv_tmp rfl)) H
  · replace H := H.2 hb13
    refine hx_skip ?_
    refine seqQ_n ?_
    refine hx_seq ?_
    refine hx_region ?_
    refine hl_val rfl rfl (v := (ptr t_b t_o)) (hv_move rfl) ?_
    refine hl_val rfl rfl (v := (ptr e 0)) (hv_field TyShP.fld31_0 (b := e) (o := 0) rfl) ?_
    refine hl_val rfl rfl (v := (.int .u64 e_Hash)) (hv_load TyShP.agg29 rfl (rowcell hr4 rfl)) ?_
    replace H := H e pb h2 lo5 (row_lt hr4) lo10 (row_lt hr9) xv12
    obtain ⟨r0, r1, hr16, H⟩ := H
    refine hl_val rfl rfl (v := (.tuple #[(.int .i64 r0), (.bool r1)])) (hv_call TyShP.cb48 (vs := [(ptr t_b t_o), (.int .u64 e_Hash)]) rfl hr16) ?_
    refine hl_val rfl rfl (v := (.tuple #[(.int .i64 r0), (.bool r1)])) (hv_move rfl) ?_
    refine hl_val rfl rfl (v := (.int .i64 r0)) (hv_extract (vs := #[(.int .i64 r0), (.bool r1)]) rfl rfl) ?_
    refine hl_val rfl rfl (v := (.bool r1)) (hv_extract (vs := #[(.int .i64 r0), (.bool r1)]) rfl rfl) ?_
    refine hl_val rfl rfl (v := (.int .i64 r0)) (hv_assign rfl) ?_
    refine hl_val rfl rfl (v := (.bool r1)) (hv_assign rfl) ?_
    refine hl_nil ?_
    refine seqQ_n ?_
    refine hx_seq ?_
    refine hx_seq ?_
    refine hx_region ?_
    refine hl_val rfl rfl (v := (.bool r1)) (hv_move rfl) ?_
    refine hl_nil ?_
    refine seqQ_n ?_
    refine hx_cond (b := r1) rfl (fun hb17 => ?_) (fun hb17 => ?_)
    · replace H := H.1 hb17
      refine hx_seq ?_
      refine hx_region ?_
      refine hl_val rfl rfl (v := (ptr t_b t_o)) (hv_move rfl) ?_
      refine hl_val rfl rfl (v := (ptr t_b t_o)) (hv_nil rfl) ?_
      refine hl_val rfl rfl (v := (ptr t_b (t_o + 2))) (hv_field TyShP.fld55_2 (b := t_b) (o := t_o) rfl) ?_
      obtain ⟨x, x_n, x_c, hc18, H⟩ := H
      refine hl_val rfl rfl (v := (.slice x x_n x_c)) (hv_load TyShP.agg35 rfl hc18) ?_
      refine hl_val rfl rfl (v := (.int .i64 r0)) (hv_move rfl) ?_
      obtain ⟨x_b, x_o, hqe, hi19, hi20, Hq⟩ := H
      subst hqe
      have H := Hq; clear Hq
      refine hl_val rfl rfl (v := (ptr x_b (x_o + (Int.toNat r0) * 4))) (hv_index TyShP.el35 rfl rfl hi19 hi20) ?_
      obtain ⟨x_Hash, x_At, x_Version, x_Hits, hc21, hc22, hc23, hc24, H⟩ := H
      refine hl_val rfl rfl (v := (.agg #[(.int .u64 x_Hash), (.int .u64 x_At), (.int .u64 x_Version), (.int .u8 x_Hits)])) (hv_loads (vs := [(.int .u64 x_Hash), (.int .u64 x_At), (.int .u64 x_Version), (.int .u8 x_Hits)]) TyShP.agg31 TyShP.sz31 rfl (hcells_cons hc21 (hcells_cons hc22 (hcells_cons hc23 (hcells_cons hc24 hcells_nil))))) ?_
      refine hl_step rfl rfl (hn_alloc TyShP.z31 ?_)
      intro old h4 eb25 eh26
      have xx27 : Ext h2 h4 := by rw [eh26]; exact Ext.push _ _
      have ne30 := Nat.ne_of_lt (Nat.lt_of_lt_of_eq (row_lt hr4) (Eq.symm eb25))
      have ne31 := Nat.ne_of_lt (Nat.lt_of_lt_of_eq (row_lt hr9) (Eq.symm eb25))
      have lo29 : Array.size h2 ≤ old := Nat.le_of_eq (Eq.symm eb25)
      have hr28 : h4[old]? = some (.cells #[(.int .u64 0), (.int .u64 0), (.int .u64 0), (.int .u8 0)] 31 (0, 0)) := by rw [eh26]; exact push_new eb25
      replace hr4 := Ext.row xx27 hr4
      replace hr9 := Ext.row xx27 hr9
      refine hl_step rfl rfl (hn_stores (vs := [(.int .u64 x_Hash), (.int .u64 x_At), (.int .u64 x_Version), (.int .u8 x_Hits)]) rfl rfl TyShP.sz31 rfl (HWs_row hr28 (by simp)) ?_)
      intro h5 eh32
      replace hr4 := row_hsets_ne eh32 ne30 hr4
      replace hr9 := row_hsets_ne eh32 ne31 hr9
      have hr28' : h5[old]? = some (.cells #[(.int .u64 x_Hash), (.int .u64 x_At), (.int .u64 x_Version), (.int .u8 x_Hits)] 31 (0, 0)) := row_hsets_eq eh32 hr28 rfl
      have xv33 := ext_hsets eh32 xx27 lo29
      refine hl_nil ?_
      refine seqQ_n ?_
      refine hx_seq ?_
      refine hx_draw TyShP.mixed [.pure, .pure, .pure, .read, .pure, .read, .pure, .wild] [0, 1, 2, 3, 4, 5, 6, 7] (by kernel_rfl) ?_
      refine hp_pure (i := 0) rfl (wanted_0 rfl) rfl (ptr t_b t_o) (fun _ => hv_move rfl) ?_
      refine hp_pure (i := 1) rfl (wanted_0 rfl) rfl (ptr t_b t_o) (fun _ => hv_nil rfl) ?_
      refine hp_pure (i := 2) rfl (wanted_0 rfl) rfl (ptr t_b (t_o + 2)) (fun _ => hv_field TyShP.fld55_2 (b := t_b) (o := t_o) rfl) ?_
      refine hp_read (i := 3) rfl (wanted_0 rfl) rfl (.slice (some ⟨x_b, x_o, none⟩) x_n x_c) (fun _ he => hv_load TyShP.agg35 rfl (Ext.cell he (Ext.cell xv33 hc18))) ?_
      refine hp_pure (i := 4) rfl (wanted_0 rfl) rfl (.int .i64 r0) (fun _ => hv_move rfl) ?_
      refine hp_read (i := 5) rfl (wanted_0 rfl) rfl (.agg #[(.int .u64 e_Hash), (.int .u64 e_At), (.int .u64 e_Version), (.int .u8 e_Hits)]) (fun _ he => hv_loads (vs := [(.int .u64 e_Hash), (.int .u64 e_At), (.int .u64 e_Version), (.int .u8 e_Hits)]) TyShP.agg31 TyShP.sz31 rfl (hcells_cons (Ext.cell he (rowcell hr4 rfl)) (hcells_cons (Ext.cell he (rowcell hr4 rfl)) (hcells_cons (Ext.cell he (rowcell hr4 rfl)) (hcells_cons (Ext.cell he (rowcell hr4 rfl)) hcells_nil))))) ?_
      refine hp_pure (i := 6) rfl (wanted_0 rfl) rfl (ptr x_b (x_o + (Int.toNat r0) * 4)) (fun _ => hv_index TyShP.el35 rfl rfl hi19 hi20) ?_
      replace H := H old h5 lo29 (row_lt hr28') xv33
      obtain ⟨hw37, ho38, H⟩ := H
      refine hp_wild (i := 7) rfl (wanted_0 rfl) rfl (hn_stores (vs := [(.int .u64 e_Hash), (.int .u64 e_At), (.int .u64 e_Version), (.int .u8 e_Hits)]) rfl rfl TyShP.sz31 rfl hw37 ?_)
      intro h6 eh36
      replace H := H h6 eh36
      replace hr4 := row_hsets_ne eh36 (ho38 _ (by simp)) hr4
      replace hr9 := row_hsets_ne eh36 (ho38 _ (by simp)) hr9
      replace hr28' := row_hsets_ne eh36 (ho38 _ (by simp)) hr28'
      refine hp_nil ?_
      refine seqQ_n ?_
      refine hx_seq ?_
      refine hx_region ?_
      refine hl_val rfl rfl (v := (.agg #[(.int .u64 x_Hash), (.int .u64 x_At), (.int .u64 x_Version), (.int .u8 x_Hits)])) (hv_loads (vs := [(.int .u64 x_Hash), (.int .u64 x_At), (.int .u64 x_Version), (.int .u8 x_Hits)]) TyShP.agg31 TyShP.sz31 rfl (hcells_cons (rowcell hr28' rfl) (hcells_cons (rowcell hr28' rfl) (hcells_cons (rowcell hr28' rfl) (hcells_cons (rowcell hr28' rfl) hcells_nil))))) ?_
      refine hl_step rfl rfl (hn_stores (vs := [(.int .u64 x_Hash), (.int .u64 x_At), (.int .u64 x_Version), (.int .u8 x_Hits)]) rfl rfl TyShP.sz31 rfl (HWs_row hr9 (by simp)) ?_)
      intro h7 eh39
      replace hr4 := row_hsets_ne eh39 ne11 hr4
      replace hr28' := row_hsets_ne eh39 (Ne.symm ne31) hr28'
      have hr9' : h7[pb]? = some (.cells #[(.int .u64 x_Hash), (.int .u64 x_At), (.int .u64 x_Version), (.int .u8 x_Hits)] 31 (0, 0)) := row_hsets_eq eh39 hr9 rfl
      replace H := H h7 (fr_hsets_of eh39)
      refine hl_val rfl rfl (v := (.bool true)) (hv_assign rfl) ?_
      refine hl_val rfl rfl (v := (.int .i64 0)) (hv_assign rfl) ?_
      refine hl_nil ?_
      refine seqQ_n ?_
      refine hx_ret ?_
      refine seqQ_ret ?_
      exact endQ_ret _ (res_three Try.results37 (rv_cell (vs := [(.int .u64 x_Hash), (.int .u64 x_At), (.int .u64 x_Version), (.int .u8 x_Hits)]) TyShP.agg31 TyShP.sz31 rfl (hcells_cons (rowcell hr9' rfl) (hcells_cons (rowcell hr9' rfl) (hcells_cons (rowcell hr9' rfl) (hcells_cons (rowcell hr9' rfl) hcells_nil))))) (rv_tmp rfl) (rv_tmp rfl)) H
    · replace H := H.2 hb17
      refine hx_skip ?_
      refine seqQ_n ?_
      obtain ⟨A44, Hx40, Hy41⟩ := H
      refine hx_cut (fun ρ h' => (A44 h' ∧ h'[e]? = some (.cells #[(.int .u64 e_Hash), (.int .u64 e_At), (.int .u64 e_Version), (.int .u8 e_Hits)] 31 (0, 0)) ∧ h'[pb]? = some (.cells #[(.int .u64 0), (.int .u64 0), (.int .u64 0), (.int .u8 0)] 31 (0, 0)) ∧ True) ∧ Has ρ [(0, (ptr t_b t_o)), (3, (ptr e 0)), (4, (ptr pb 0)), (7, (.int .i64 r0))]) ?_ ?_
      · have H := Hx40; clear Hx40 Hy41
        refine hx_seq ?_
        refine hx_draw TyShP.mixed [.pure, .pure, .pure, .read, .pure, .pure, .pure, .pure, .pure, .pure, .read, .pure, .pure] [0, 1, 2, 3, 4, 5, 6, 7, 8, 9, 10, 11, 12] (by kernel_rfl) ?_
        refine hp_pure (i := 0) rfl (wanted_0 rfl) rfl (ptr t_b t_o) (fun _ => hv_move rfl) ?_
        refine hp_pure (i := 1) rfl (wanted_0 rfl) rfl (ptr t_b t_o) (fun _ => hv_nil rfl) ?_
        refine hp_pure (i := 2) rfl (wanted_0 rfl) rfl (ptr t_b (t_o + 2)) (fun _ => hv_field TyShP.fld55_2 (b := t_b) (o := t_o) rfl) ?_
        obtain ⟨x, x_n, x_c, hc46, H⟩ := H
        refine hp_read (i := 3) rfl (wanted_0 rfl) rfl (.slice x x_n x_c) (fun _ he => hv_load TyShP.agg35 rfl (Ext.cell he hc46)) ?_
        refine hp_pure (i := 4) rfl (wanted_0 rfl) rfl (.int .i64 (x_n : Int)) (fun _ => hv_len (n := x_n) TyShP.u35 rfl) ?_
        refine hp_pure (i := 5) rfl (wanted_0 rfl) rfl (.int .i64 (IntKind.i64.wrap ((x_n : Int) + 1))) (fun _ => hv_arith rfl rfl rfl) ?_
        refine hp_pure (i := 6) rfl (wanted_0 rfl) rfl (.int .i64 (IntKind.i64.wrap (8 * (IntKind.i64.wrap ((x_n : Int) + 1))))) (fun _ => hv_arith rfl rfl rfl) ?_
        refine hp_pure (i := 7) rfl (wanted_0 rfl) rfl (ptr t_b t_o) (fun _ => hv_move rfl) ?_
        refine hp_pure (i := 8) rfl (wanted_0 rfl) rfl (ptr t_b t_o) (fun _ => hv_nil rfl) ?_
        refine hp_pure (i := 9) rfl (wanted_0 rfl) rfl (ptr t_b t_o) (fun _ => hv_field TyShP.fld55_0 (b := t_b) (o := t_o) rfl) ?_
        obtain ⟨x_1, hc47, H⟩ := H
        refine hp_read (i := 10) rfl (wanted_0 rfl) rfl (.int .i64 x_1) (fun _ he => hv_load TyShP.agg3 rfl (Ext.cell he hc47)) ?_
        obtain ⟨hz55, H⟩ := H
        refine hp_pure (i := 11) rfl (wanted_0 rfl) rfl (.int .i64 (IntKind.i64.wrap (7 * 2 ^ min (Int.toNat x_1) 64))) (fun _ => hv_shift rfl rfl hz55 rfl) ?_
        refine hp_pure (i := 12) rfl (wanted_0 rfl) rfl (.bool (decide ((IntKind.i64.wrap (8 * (IntKind.i64.wrap ((x_n : Int) + 1)))) > (IntKind.i64.wrap (7 * 2 ^ min (Int.toNat x_1) 64))))) (fun _ => hv_arith rfl rfl rfl) ?_
        refine hp_nil ?_
        refine seqQ_n ?_
        refine hx_cond (b := decide ((IntKind.i64.wrap (8 * (IntKind.i64.wrap ((x_n : Int) + 1)))) > (IntKind.i64.wrap (7 * 2 ^ min (Int.toNat x_1) 64)))) rfl (fun hb48 => ?_) (fun hb48 => ?_)
        · replace H := H.1 hb48
          refine hx_seq ?_
          refine hx_seq ?_
          refine hx_draw TyShP.mixed [.pure, .pure, .pure, .read, .pure, .pure, .pure, .read, .pure] [0, 1, 2, 3, 4, 5, 6, 7, 8] (by kernel_rfl) ?_
          refine hp_pure (i := 0) rfl (wanted_0 rfl) rfl (ptr t_b t_o) (fun _ => hv_move rfl) ?_
          refine hp_pure (i := 1) rfl (wanted_0 rfl) rfl (ptr t_b t_o) (fun _ => hv_nil rfl) ?_
          refine hp_pure (i := 2) rfl (wanted_0 rfl) rfl (ptr t_b t_o) (fun _ => hv_field TyShP.fld55_0 (b := t_b) (o := t_o) rfl) ?_
          refine hp_read (i := 3) rfl (wanted_0 rfl) rfl (.int .i64 x_1) (fun _ he => hv_load TyShP.agg3 rfl (Ext.cell he hc47)) ?_
          refine hp_pure (i := 4) rfl (wanted_0 rfl) rfl (ptr t_b t_o) (fun _ => hv_move rfl) ?_
          refine hp_pure (i := 5) rfl (wanted_0 rfl) rfl (ptr t_b t_o) (fun _ => hv_nil rfl) ?_
          refine hp_pure (i := 6) rfl (wanted_0 rfl) rfl (ptr t_b (t_o + 1)) (fun _ => hv_field TyShP.fld55_1 (b := t_b) (o := t_o) rfl) ?_
          obtain ⟨x_2, hc49, H⟩ := H
          refine hp_read (i := 7) rfl (wanted_0 rfl) rfl (.int .i64 x_2) (fun _ he => hv_load TyShP.agg3 rfl (Ext.cell he hc49)) ?_
          refine hp_pure (i := 8) rfl (wanted_0 rfl) rfl (.bool (x_1 == x_2)) (fun _ => hv_arith rfl rfl rfl) ?_
          refine hp_nil ?_
          refine seqQ_n ?_
          refine hx_cond (b := x_1 == x_2) rfl (fun hb50 => ?_) (fun hb50 => ?_)
          · replace H := H.1 hb50
            refine hx_seq ?_
            refine hx_region ?_
            refine hl_val rfl rfl (v := (.agg #[(.int .u64 0), (.int .u64 0), (.int .u64 0), (.int .u8 0)])) (hv_build (vs := []) (cs := #[(.int .u64 0), (.int .u64 0), (.int .u64 0), (.int .u8 0)]) TyShP.z31 TyShP.pl31 rfl (by kernel_rfl)) ?_
            refine hl_step rfl rfl (hn_stores (vs := [(.int .u64 0), (.int .u64 0), (.int .u64 0), (.int .u8 0)]) rfl rfl TyShP.sz31 rfl (HWs_row hr9 (by simp)) ?_)
            intro h9 eh51
            replace hr4 := row_hsets_ne eh51 ne11 hr4
            have hr9' : h9[pb]? = some (.cells #[(.int .u64 0), (.int .u64 0), (.int .u64 0), (.int .u8 0)] 31 (0, 0)) := row_hsets_eq eh51 hr9 rfl
            replace H := H h9 (fr_hsets_of eh51)
            refine hl_val rfl rfl (v := (.bool false)) (hv_assign rfl) ?_
            refine hl_val rfl rfl (v := (.int .i64 2)) (hv_assign rfl) ?_
            refine hl_nil ?_
            refine seqQ_n ?_
            refine hx_ret ?_
            refine seqQ_ret ?_
            refine seqQ_ret ?_
            exact endQ_ret _ (res_three Try.results37 (rv_cell (vs := [(.int .u64 0), (.int .u64 0), (.int .u64 0), (.int .u8 0)]) TyShP.agg31 TyShP.sz31 rfl (hcells_cons (rowcell hr9' rfl) (hcells_cons (rowcell hr9' rfl) (hcells_cons (rowcell hr9' rfl) (hcells_cons (rowcell hr9' rfl) hcells_nil))))) (rv_tmp rfl) (rv_tmp rfl)) H
          · replace H := H.2 hb50
            refine hx_skip ?_
            refine seqQ_n ?_
            refine hx_region ?_
            refine hl_val rfl rfl (v := (ptr t_b t_o)) (hv_move rfl) ?_
            refine hl_val rfl rfl (v := (ptr t_b t_o)) (hv_nil rfl) ?_
            refine hl_val rfl rfl (v := (ptr t_b t_o)) (hv_field TyShP.fld55_0 (b := t_b) (o := t_o) rfl) ?_
            refine hl_val rfl rfl (v := (.int .i64 x_1)) (hv_load TyShP.agg3 rfl hc47) ?_
            refine hl_val rfl rfl (v := (.int .i64 (IntKind.i64.wrap (x_1 + 1)))) (hv_arith rfl rfl rfl) ?_
            refine hl_val rfl rfl (v := (ptr t_b t_o)) (hv_nil rfl) ?_
            refine hl_val rfl rfl (v := (ptr t_b t_o)) (hv_field TyShP.fld55_0 (b := t_b) (o := t_o) rfl) ?_
            obtain ⟨hw53, ho54, H⟩ := H
            refine hl_step rfl rfl (hn_store (v := (.int .i64 (IntKind.i64.wrap (x_1 + 1)))) rfl rfl TyShP.sz3 rfl hw53 ?_)
            intro h10 eh52
            replace H := H h10 eh52
            replace hr4 := row_hset_ne eh52 (ho54 _ (by simp)) hr4
            replace hr9 := row_hset_ne eh52 (ho54 _ (by simp)) hr9
            refine hl_nil ?_
            refine seqQ_n ?_
            exact ⟨⟨H, hr4, hr9, trivial⟩, (has_cons rfl (has_cons rfl (has_cons rfl (has_cons rfl has_nil))))⟩
        · replace H := H.2 hb48
          refine hx_skip ?_
          refine seqQ_n ?_
          exact ⟨⟨H, hr4, hr9, trivial⟩, (has_cons rfl (has_cons rfl (has_cons rfl (has_cons rfl has_nil))))⟩
      · rintro ρ h8 ⟨⟨HA45, hr42, hr43, -⟩, hH⟩
        have H := Hy41 h8 HA45; clear Hx40 Hy41
        refine hx_has _ hH ?_
        refine hx_seq ?_
        refine hx_region ?_
        refine hl_step rfl rfl (hn_buildSlice (n := 0) (vs := []) (cs := #[]) TyShP.u35 TyShP.sz31 TyShP.z31 rfl rfl (by kernel_rfl) ?_)
        intro nb h11 eb56 eh57
        replace H := H nb h11 eb56 eh57
        have xx58 : Ext h8 h11 := by rw [eh57]; exact Ext.push _ _
        replace hr42 := Ext.row xx58 hr42
        replace hr43 := Ext.row xx58 hr43
        refine hl_val rfl rfl (v := (ptr t_b t_o)) (hv_move rfl) ?_
        refine hl_val rfl rfl (v := (ptr t_b t_o)) (hv_nil rfl) ?_
        refine hl_val rfl rfl (v := (ptr t_b (t_o + 2))) (hv_field TyShP.fld55_2 (b := t_b) (o := t_o) rfl) ?_
        obtain ⟨x_3, x_n_1, x_c_1, hc59, H⟩ := H
        refine hl_val rfl rfl (v := (.slice x_3 x_n_1 x_c_1)) (hv_load TyShP.agg35 rfl hc59) ?_
        refine hl_val rfl rfl (v := (.int .i64 r0)) (hv_move rfl) ?_
        obtain ⟨hs60, hs61, hs62, H⟩ := H
        obtain ⟨sl, hq63⟩ : ∃ q, q = slA x_3 (Int.toNat 0) 4 x_c_1 := ⟨_, rfl⟩
        replace H := H sl hq63
        refine hl_val rfl rfl (v := (.slice sl (Int.toNat r0 - Int.toNat 0) (x_c_1 - Int.toNat 0))) (hv_slice (l := 0) (r := r0) TyShP.u35 TyShP.sz31 rfl sl_none (sh_some rfl) hs60 hs61 hs62 hq63) ?_
        refine hl_step rfl rfl (hs_append rfl rfl (HAppend.mono H ?_))
        rintro _ h12 ⟨kp64, ap, ap_n, ap_c, rfl, H⟩
        replace hr42 := Kp.row kp64 (by simp) hr42
        replace hr43 := Kp.row kp64 (by simp) hr43
        refine hl_val rfl rfl (v := (.slice ap ap_n ap_c)) (hv_assign rfl) ?_
        refine hl_nil ?_
        refine seqQ_n ?_
        refine hx_seq ?_
        refine hx_region ?_
        refine hl_val rfl rfl (v := (.slice ap ap_n ap_c)) (hv_move rfl) ?_
        refine hl_val rfl rfl (v := (.agg #[(.int .u64 e_Hash), (.int .u64 e_At), (.int .u64 e_Version), (.int .u8 e_Hits)])) (hv_loads (vs := [(.int .u64 e_Hash), (.int .u64 e_At), (.int .u64 e_Version), (.int .u8 e_Hits)]) TyShP.agg31 TyShP.sz31 rfl (hcells_cons (rowcell hr42 rfl) (hcells_cons (rowcell hr42 rfl) (hcells_cons (rowcell hr42 rfl) (hcells_cons (rowcell hr42 rfl) hcells_nil))))) ?_
        refine hl_step rfl rfl (hn_buildSlice (n := 1) (vs := [(0, (.agg #[(.int .u64 e_Hash), (.int .u64 e_At), (.int .u64 e_Version), (.int .u8 e_Hits)]))]) (cs := #[(.int .u64 e_Hash), (.int .u64 e_At), (.int .u64 e_Version), (.int .u8 e_Hits)]) TyShP.u35 TyShP.sz31 TyShP.z31 rfl rfl (by kernel_rfl) ?_)
        intro nb_1 h13 eb65 eh66
        replace H := H nb_1 h13 eb65 eh66
        have xx67 : Ext h12 h13 := by rw [eh66]; exact Ext.push _ _
        replace hr42 := Ext.row xx67 hr42
        replace hr43 := Ext.row xx67 hr43
        refine hl_step rfl rfl (hs_append rfl rfl (HAppend.mono H ?_))
        rintro _ h14 ⟨kp68, ap_1, ap_n_1, ap_c_1, rfl, H⟩
        replace hr43 := Kp.row kp68 (by simp) hr43
        refine hl_val rfl rfl (v := (.slice ap_1 ap_n_1 ap_c_1)) (hv_assign rfl) ?_
        refine hl_nil ?_
        refine seqQ_n ?_
        refine hx_seq ?_
        refine hx_region ?_
        refine hl_val rfl rfl (v := (ptr t_b t_o)) (hv_move rfl) ?_
        refine hl_val rfl rfl (v := (.slice ap_1 ap_n_1 ap_c_1)) (hv_move rfl) ?_
        refine hl_val rfl rfl (v := (ptr t_b t_o)) (hv_move rfl) ?_
        refine hl_val rfl rfl (v := (ptr t_b t_o)) (hv_nil rfl) ?_
        refine hl_val rfl rfl (v := (ptr t_b (t_o + 2))) (hv_field TyShP.fld55_2 (b := t_b) (o := t_o) rfl) ?_
        obtain ⟨x_4, x_n_2, x_c_2, hc69, H⟩ := H
        refine hl_val rfl rfl (v := (.slice x_4 x_n_2 x_c_2)) (hv_load TyShP.agg35 rfl hc69) ?_
        refine hl_val rfl rfl (v := (.int .i64 r0)) (hv_move rfl) ?_
        obtain ⟨hs70, hs71, hs72, H⟩ := H
        obtain ⟨sl_1, hq73⟩ : ∃ q, q = slA x_4 (Int.toNat r0) 4 x_c_2 := ⟨_, rfl⟩
        replace H := H sl_1 hq73
        refine hl_val rfl rfl (v := (.slice sl_1 (Int.toNat (x_n_2 : Int) - Int.toNat r0) (x_c_2 - Int.toNat r0))) (hv_slice (l := r0) (r := (x_n_2 : Int)) TyShP.u35 TyShP.sz31 rfl (sl_some rfl) sh_none hs70 hs71 hs72 hq73) ?_
        refine hl_step rfl rfl (hs_append rfl rfl (HAppend.mono H ?_))
        rintro _ h15 ⟨kp74, ap_2, ap_n_2, ap_c_2, rfl, H⟩
        replace hr43 := Kp.row kp74 (by simp) hr43
        refine hl_val rfl rfl (v := (ptr t_b t_o)) (hv_nil rfl) ?_
        refine hl_val rfl rfl (v := (ptr t_b (t_o + 2))) (hv_field TyShP.fld55_2 (b := t_b) (o := t_o) rfl) ?_
        obtain ⟨hw76, ho77, H⟩ := H
        refine hl_step rfl rfl (hn_store (v := (.slice ap_2 ap_n_2 ap_c_2)) rfl rfl TyShP.sz35 rfl hw76 ?_)
        intro h16 eh75
        replace H := H h16 eh75
        replace hr43 := row_hset_ne eh75 (ho77 _ (by simp)) hr43
        refine hl_nil ?_
        refine seqQ_n ?_
        refine hx_seq ?_
        refine hx_region ?_
        refine hl_val rfl rfl (v := (.agg #[(.int .u64 0), (.int .u64 0), (.int .u64 0), (.int .u8 0)])) (hv_build (vs := []) (cs := #[(.int .u64 0), (.int .u64 0), (.int .u64 0), (.int .u8 0)]) TyShP.z31 TyShP.pl31 rfl (by kernel_rfl)) ?_
        refine hl_step rfl rfl (hn_stores (vs := [(.int .u64 0), (.int .u64 0), (.int .u64 0), (.int .u8 0)]) rfl rfl TyShP.sz31 rfl (HWs_row hr43 (by simp)) ?_)
        intro h17 eh78
        have hr43' : h17[pb]? = some (.cells #[(.int .u64 0), (.int .u64 0), (.int .u64 0), (.int .u8 0)] 31 (0, 0)) := row_hsets_eq eh78 hr43 rfl
        replace H := H h17 (fr_hsets_of eh78)
        refine hl_val rfl rfl (v := (.bool false)) (hv_assign rfl) ?_
        refine hl_val rfl rfl (v := (.int .i64 0)) (hv_assign rfl) ?_
        refine hl_nil ?_
        refine seqQ_n ?_
        refine hx_ret ?_
        exact endQ_ret _ (res_three Try.results37 (rv_cell (vs := [(.int .u64 0), (.int .u64 0), (.int .u64 0), (.int .u8 0)]) TyShP.agg31 TyShP.sz31 rfl (hcells_cons (rowcell hr43' rfl) (hcells_cons (rowcell hr43' rfl) (hcells_cons (rowcell hr43' rfl) (hcells_cons (rowcell hr43' rfl) hcells_nil))))) (rv_tmp rfl) (rv_tmp rfl)) H

/-- (*cellar/cellarref11.Table).Hit -/
theorem f40_sh (t_b : Nat) (t_o : Nat) (hash : Int) (h : Heap) (R : Value → Heap → Prop)
    (H : (∃ r0 : Int, ∃ r1 : Bool, HC Try.prog 48 #[(ptr t_b t_o), (.int .u64 hash)] h (fun vv h' => vv = (.tuple #[(.int .i64 r0), (.bool r1)]) ∧ h' = h) ∧ (∃ A4 : Heap → Prop, (∃ j : Bool, ((r1 = true → (∃ x : Option Addr, ∃ x_n x_c : Nat, hcell h t_b (t_o + 2) = some (.slice x x_n x_c) ∧ (∃ x_b x_o : Nat, x = some ⟨x_b, x_o, none⟩ ∧ (0 : Int) ≤ r0 ∧ r0 < (x_n : Int) ∧ (∃ x_1 : Int, hcell h x_b ((x_o + (Int.toNat r0) * 4) + 3) = some (.int .u8 x_1) ∧ (j = (decide (x_1 < 255))))))) ∧ (r1 = false → (j = false))) ∧ ((j = true → (∃ x_2 : Option Addr, ∃ x_n_1 x_c_1 : Nat, hcell h t_b (t_o + 2) = some (.slice x_2 x_n_1 x_c_1) ∧ (∃ x_2_b x_2_o : Nat, x_2 = some ⟨x_2_b, x_2_o, none⟩ ∧ (0 : Int) ≤ r0 ∧ r0 < (x_n_1 : Int) ∧ (∃ x_3 : Int, hcell h x_2_b ((x_2_o + (Int.toNat r0) * 4) + 3) = some (.int .u8 x_3) ∧ (HW h x_2_b ((x_2_o + (Int.toNat r0) * 4) + 3) ∧ ∀ h2, h2 = hset h x_2_b ((x_2_o + (Int.toNat r0) * 4) + 3) (.int .u8 (IntKind.u8.wrap (x_3 + 1))) → (A4 h2)))))) ∧ (j = false → (A4 h)))) ∧ (∀ (h1 : Heap), A4 h1 → R (.bool r1) h1)))) :
    HC Try.prog 40 #[(ptr t_b t_o), (.int .u64 hash)] h R := by
  refine hc_of (args := [(ptr t_b t_o), (.int .u64 hash)]) Try.func40 rfl Try.ntmps40 (Nat.le_of_ble_eq_true rfl) ?_
  refine hx_seq ?_
  refine hx_region ?_
  refine hl_val rfl rfl (v := (.bool false)) (hv_assign rfl) ?_
  refine hl_nil ?_
  refine seqQ_n ?_
  refine hx_seq ?_
  refine hx_region ?_
  refine hl_val rfl rfl (v := (ptr t_b t_o)) (hv_move rfl) ?_
  refine hl_val rfl rfl (v := (.int .u64 hash)) (hv_move rfl) ?_
  obtain ⟨r0, r1, hr1, H⟩ := H
  refine hl_val rfl rfl (v := (.tuple #[(.int .i64 r0), (.bool r1)])) (hv_call TyShP.cb48 (vs := [(ptr t_b t_o), (.int .u64 hash)]) rfl hr1) ?_
  refine hl_val rfl rfl (v := (.tuple #[(.int .i64 r0), (.bool r1)])) (hv_move rfl) ?_
  refine hl_val rfl rfl (v := (.int .i64 r0)) (hv_extract (vs := #[(.int .i64 r0), (.bool r1)]) rfl rfl) ?_
  refine hl_val rfl rfl (v := (.bool r1)) (hv_extract (vs := #[(.int .i64 r0), (.bool r1)]) rfl rfl) ?_
  refine hl_val rfl rfl (v := (.int .i64 r0)) (hv_assign rfl) ?_
  refine hl_val rfl rfl (v := (.bool r1)) (hv_assign rfl) ?_
  refine hl_nil ?_
  refine seqQ_n ?_
  obtain ⟨A4, Hx2, Hy3⟩ := H
  refine hx_cut (fun ρ h' => (A4 h' ∧ True) ∧ Has ρ [(6, (.bool r1))]) ?_ ?_
  · have H := Hx2; clear Hx2 Hy3
    obtain ⟨j, Hx6, Hy7⟩ := H
    refine hx_cut (fun ρ h' => h = h' ∧ Has ρ [(0, (ptr t_b t_o)), (5, (.int .i64 r0)), (6, (.bool r1)), (24, (.bool j))]) ?_ ?_
    · have H := Hx6; clear Hx6 Hy7
      refine hx_region ?_
      refine hl_val rfl rfl (v := (.bool r1)) (hv_move rfl) ?_
      refine hl_val rfl rfl (v := (.bool r1)) (hv_move rfl) ?_
      rcases bool_or (r1) with hg8 | hg8
      · replace H := H.1 hg8
        refine hl_yes (wanted_y rfl rfl rfl hg8) rfl (HStep.of_val (v := (ptr t_b t_o)) (hv_move rfl) ?_)
        refine hl_yes (wanted_y rfl rfl rfl hg8) rfl (HStep.of_val (v := (ptr t_b t_o)) (hv_nil rfl) ?_)
        refine hl_yes (wanted_y rfl rfl rfl hg8) rfl (HStep.of_val (v := (ptr t_b (t_o + 2))) (hv_field TyShP.fld55_2 (b := t_b) (o := t_o) rfl) ?_)
        obtain ⟨x, x_n, x_c, hc9, H⟩ := H
        refine hl_yes (wanted_y rfl rfl rfl hg8) rfl (HStep.of_val (v := (.slice x x_n x_c)) (hv_load TyShP.agg35 rfl hc9) ?_)
        refine hl_yes (wanted_y rfl rfl rfl hg8) rfl (HStep.of_val (v := (.int .i64 r0)) (hv_move rfl) ?_)
        obtain ⟨x_b, x_o, hqe, hi10, hi11, Hq⟩ := H
        subst hqe
        have H := Hq; clear Hq
        refine hl_yes (wanted_y rfl rfl rfl hg8) rfl (HStep.of_val (v := (ptr x_b (x_o + (Int.toNat r0) * 4))) (hv_index TyShP.el35 rfl rfl hi10 hi11) ?_)
        refine hl_yes (wanted_y rfl rfl rfl hg8) rfl (HStep.of_val (v := (ptr x_b ((x_o + (Int.toNat r0) * 4) + 3))) (hv_field TyShP.fld31_3 (b := x_b) (o := x_o + (Int.toNat r0) * 4) rfl) ?_)
        obtain ⟨x_1, hc12, H⟩ := H
        refine hl_yes (wanted_y rfl rfl rfl hg8) rfl (HStep.of_val (v := (.int .u8 x_1)) (hv_load TyShP.agg5 rfl hc12) ?_)
        refine hl_yes (wanted_y rfl rfl rfl hg8) rfl (HStep.of_val (v := (.bool (decide (x_1 < 255)))) (hv_arith rfl rfl rfl) ?_)
        refine hl_val rfl rfl (v := (.bool (decide (x_1 < 255)))) (hv_pick_t rfl hg8 rfl) ?_
        refine hl_nil ?_
        refine seqQ_n ?_
        obtain rfl := H
        exact ⟨rfl, (has_cons rfl (has_cons rfl (has_cons rfl (has_cons rfl has_nil))))⟩
      · replace H := H.2 hg8
        refine hl_no (wanted_n rfl rfl rfl hg8) rfl ?_
        refine hl_no (wanted_n rfl rfl rfl hg8) rfl ?_
        refine hl_no (wanted_n rfl rfl rfl hg8) rfl ?_
        refine hl_no (wanted_n rfl rfl rfl hg8) rfl ?_
        refine hl_no (wanted_n rfl rfl rfl hg8) rfl ?_
        refine hl_no (wanted_n rfl rfl rfl hg8) rfl ?_
        refine hl_no (wanted_n rfl rfl rfl hg8) rfl ?_
        refine hl_no (wanted_n rfl rfl rfl hg8) rfl ?_
        refine hl_no (wanted_n rfl rfl rfl hg8) rfl ?_
        refine hl_val rfl rfl (v := (.bool false)) (hv_pick_f rfl hg8 rfl) ?_
        refine hl_nil ?_
        refine seqQ_n ?_
        obtain rfl := H
        exact ⟨rfl, (has_cons rfl (has_cons rfl (has_cons rfl (has_cons rfl has_nil))))⟩
    · have H := Hy7; clear Hx6 Hy7
      rintro ρ _ ⟨rfl, hH⟩
      refine hx_has _ hH ?_
      refine hx_cond (b := j) rfl (fun hb13 => ?_) (fun hb13 => ?_)
      · replace H := H.1 hb13
        refine hx_region ?_
        refine hl_val rfl rfl (v := (ptr t_b t_o)) (hv_move rfl) ?_
        refine hl_val rfl rfl (v := (ptr t_b t_o)) (hv_nil rfl) ?_
        refine hl_val rfl rfl (v := (ptr t_b (t_o + 2))) (hv_field TyShP.fld55_2 (b := t_b) (o := t_o) rfl) ?_
        obtain ⟨x_2, x_n_1, x_c_1, hc14, H⟩ := H
        refine hl_val rfl rfl (v := (.slice x_2 x_n_1 x_c_1)) (hv_load TyShP.agg35 rfl hc14) ?_
        refine hl_val rfl rfl (v := (.int .i64 r0)) (hv_move rfl) ?_
        obtain ⟨x_2_b, x_2_o, hqe, hi15, hi16, Hq⟩ := H
        subst hqe
        have H := Hq; clear Hq
        refine hl_val rfl rfl (v := (ptr x_2_b (x_2_o + (Int.toNat r0) * 4))) (hv_index TyShP.el35 rfl rfl hi15 hi16) ?_
        refine hl_val rfl rfl (v := (ptr x_2_b ((x_2_o + (Int.toNat r0) * 4) + 3))) (hv_field TyShP.fld31_3 (b := x_2_b) (o := x_2_o + (Int.toNat r0) * 4) rfl) ?_
        obtain ⟨x_3, hc17, H⟩ := H
        refine hl_val rfl rfl (v := (.int .u8 x_3)) (hv_load TyShP.agg5 rfl hc17) ?_
        refine hl_val rfl rfl (v := (.int .u8 (IntKind.u8.wrap (x_3 + 1)))) (hv_arith rfl rfl rfl) ?_
        refine hl_val rfl rfl (v := (ptr x_2_b (x_2_o + (Int.toNat r0) * 4))) (hv_index TyShP.el35 rfl rfl hi15 hi16) ?_
        refine hl_val rfl rfl (v := (ptr x_2_b ((x_2_o + (Int.toNat r0) * 4) + 3))) (hv_field TyShP.fld31_3 (b := x_2_b) (o := x_2_o + (Int.toNat r0) * 4) rfl) ?_
        obtain ⟨hw21, H⟩ := H
        refine hl_step rfl rfl (hn_store (v := (.int .u8 (IntKind.u8.wrap (x_3 + 1)))) rfl rfl TyShP.sz5 rfl hw21 ?_)
        intro h2 eh20
        replace H := H h2 eh20
        refine hl_nil ?_
        refine seqQ_n ?_
        exact ⟨⟨H, trivial⟩, (has_cons rfl has_nil)⟩
      · replace H := H.2 hb13
        refine hx_skip ?_
        refine seqQ_n ?_
        exact ⟨⟨H, trivial⟩, (has_cons rfl has_nil)⟩
  · rintro ρ h1 ⟨⟨HA5, -⟩, hH⟩
    have H := Hy3 h1 HA5; clear Hx2 Hy3
    refine hx_has _ hH ?_
    refine hx_seq ?_
    refine hx_region ?_
    refine hl_val rfl rfl (v := (.bool r1)) (hv_move rfl) ?_
    refine hl_val rfl rfl (v := (.bool r1)) (hv_assign rfl) ?_
    refine hl_nil ?_
    refine seqQ_n ?_
    refine hx_ret ?_
    exact endQ_ret _ (res_one Try.results40 (rv_tmp rfl)) H

end Go.Proofs.Ytebipjmcckkhcaa
