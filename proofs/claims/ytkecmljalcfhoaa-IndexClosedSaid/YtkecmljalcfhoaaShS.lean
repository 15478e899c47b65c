/-
Shallow forms, written by gen2.py (a program of ours) out of the print of the program.
-/
import Derived.Test.YtkecmljalcfhoaaTA
import Derived.Test.YtkecmljalcfhoaaProg
namespace Go.Proofs.Ytkecmljalcfhoaa
open Go
set_option maxRecDepth 100000
set_option maxHeartbeats 4000000

theorem TyShS.cb73 : CallB Try.prog 73 := fun _ _ => Try.call73 _ _

/-- cmp.Compare[uint64] -/
theorem f61_sh (x : Int) (y : Int) (h : Heap) (R : Value → Heap → Prop)
    (H : (((decide (x < y)) = true → (∀ (h2 : Heap), Ext h h2 → R (.int .i64 (-1)) h2)) ∧ ((decide (x < y)) = false → (((decide (x > y)) = true → (∀ (h2 : Heap), Ext h h2 → R (.int .i64 1) h2)) ∧ ((decide (x > y)) = false → (∀ (h2 : Heap), Ext h h2 → R (.int .i64 0) h2)))))) :
    HC Try.prog 61 #[(.int .u64 x), (.int .u64 y)] h R := by
  refine hc_of (args := [(.int .u64 x), (.int .u64 y)]) Try.func61 rfl Try.ntmps61 (Nat.le_of_ble_eq_true rfl) ?_
  refine hx_seq ?_
  refine hx_region ?_
  refine hl_val rfl rfl (v := (.int .i64 0)) (hv_assign rfl) ?_
  refine hl_nil ?_
  refine seqQ_n ?_
  refine hx_seq ?_
  refine hx_region ?_
  refine hl_val rfl rfl (v := (.int .u64 x)) (hv_move rfl) ?_
  refine hl_step rfl rfl (hs_call TyShS.cb73 (vs := [(.int .u64 x)]) rfl (HC.mono (isNaN_c x _) ?_))
  rintro _ h1 ⟨rfl, xx1⟩
  refine hl_val rfl rfl (v := (.bool false)) (hv_assign rfl) ?_
  refine hl_nil ?_
  refine seqQ_n ?_
  refine hx_seq ?_
  refine hx_region ?_
  refine hl_val rfl rfl (v := (.int .u64 y)) (hv_move rfl) ?_
  refine hl_step rfl rfl (hs_call TyShS.cb73 (vs := [(.int .u64 y)]) rfl (HC.mono (isNaN_c y _) ?_))
  rintro _ h2 ⟨rfl, xx2⟩
  have xv3 := Ext.trans xx1 xx2
  refine hl_val rfl rfl (v := (.bool false)) (hv_assign rfl) ?_
  refine hl_nil ?_
  refine seqQ_n ?_
  refine hx_seq ?_
  refine hx_seq ?_
  refine hx_region ?_
  refine hl_val rfl rfl (v := (.bool false)) (hv_move rfl) ?_
  refine hl_nil ?_
  refine seqQ_n ?_
  refine hx_cond (b := false) rfl (fun hb => by cases hb) (fun _ => ?_)
  refine hx_skip ?_
  refine seqQ_n ?_
  refine hx_seq ?_
  refine hx_seq ?_
  refine hx_region ?_
  refine hl_val rfl rfl (v := (.bool false)) (hv_move rfl) ?_
  refine hl_nil ?_
  refine seqQ_n ?_
  refine hx_cond (b := false) rfl (fun hb => by cases hb) (fun _ => ?_)
  refine hx_skip ?_
  refine seqQ_n ?_
  refine hx_seq ?_
  refine hx_seq ?_
  refine hx_region ?_
  refine hl_val rfl rfl (v := (.int .u64 x)) (hv_move rfl) ?_
  refine hl_val rfl rfl (v := (.int .u64 y)) (hv_move rfl) ?_
  refine hl_val rfl rfl (v := (.bool (decide (x < y)))) (hv_arith rfl rfl rfl) ?_
  refine hl_nil ?_
  refine seqQ_n ?_
  refine hx_cond (b := decide (x < y)) rfl (fun hb4 => ?_) (fun hb4 => ?_)
  · replace H := H.1 hb4
    refine hx_seq ?_
    refine hx_region ?_
    refine hl_val rfl rfl (v := (.int .i64 (-1))) (hv_assign rfl) ?_
    refine hl_nil ?_
    refine seqQ_n ?_
    refine hx_ret ?_
    refine seqQ_ret ?_
    replace H := H h2 xv3
    exact endQ_ret _ (res_one Try.results61 (rv_tmp rfl)) H
  · replace H := H.2 hb4
    refine hx_skip ?_
    refine seqQ_n ?_
    refine hx_seq ?_
    refine hx_seq ?_
    refine hx_region ?_
    refine hl_val rfl rfl (v := (.int .u64 x)) (hv_move rfl) ?_
    refine hl_val rfl rfl (v := (.int .u64 y)) (hv_move rfl) ?_
    refine hl_val rfl rfl (v := (.bool (decide (x > y)))) (hv_arith rfl rfl rfl) ?_
    refine hl_nil ?_
    refine seqQ_n ?_
    refine hx_cond (b := decide (x > y)) rfl (fun hb5 => ?_) (fun hb5 => ?_)
    · replace H := H.1 hb5
      refine hx_seq ?_
      refine hx_region ?_
      refine hl_val rfl rfl (v := (.int .i64 1)) (hv_assign rfl) ?_
      refine hl_nil ?_
      refine seqQ_n ?_
      refine hx_ret ?_
      refine seqQ_ret ?_
      replace H := H h2 xv3
      exact endQ_ret _ (res_one Try.results61 (rv_tmp rfl)) H
    · replace H := H.2 hb5
      refine hx_skip ?_
      refine seqQ_n ?_
      refine hx_seq ?_
      refine hx_region ?_
      refine hl_val rfl rfl (v := (.int .i64 0)) (hv_assign rfl) ?_
      refine hl_nil ?_
      refine seqQ_n ?_
      refine hx_ret ?_
      replace H := H h2 xv3
      exact endQ_ret _ (res_one Try.results61 (rv_tmp rfl)) H

end Go.Proofs.Ytkecmljalcfhoaa
