/-
Shallow forms, written by gen2.py (a program of ours) out of the print of the program.
-/
import Derived.Test.YtkecmljalcfhoaaPrv
import Derived.Test.YtkecmljalcfhoaaSrt
import Derived.Test.YtkecmljalcfhoaaRng
import Derived.Test.YtkecmljalcfhoaaMor
import Derived.Test.YtkecmljalcfhoaaProg
namespace Go.Proofs.Ytkecmljalcfhoaa
open Go
set_option maxRecDepth 100000
set_option maxHeartbeats 4000000


/-- cmp.isNaN[uint64] -/
theorem f73_sh (x : Int) (h : Heap) (R : Value → Heap → Prop)
    (H : R (.bool (x != x)) h) :
    HC Try.prog 73 #[(.int .u64 x)] h R := by
  refine hc_of (args := [(.int .u64 x)]) Try.func73 rfl Try.ntmps73 (Nat.le_of_ble_eq_true rfl) ?_
  refine hx_seq ?_
  refine hx_region ?_
  refine hl_val rfl rfl (v := (.bool false)) (hv_assign rfl) ?_
  refine hl_nil ?_
  refine seqQ_n ?_
  refine hx_seq ?_
  refine hx_region ?_
  refine hl_val rfl rfl (v := (.int .u64 x)) (hv_move rfl) ?_
  refine hl_val rfl rfl (v := (.int .u64 x)) (hv_move rfl) ?_
  refine hl_val rfl rfl (v := (.bool (x != x))) (hv_arith rfl rfl rfl) ?_
  refine hl_val rfl rfl (v := (.bool (x != x))) (hv_assign rfl) ?_
  refine hl_nil ?_
  refine seqQ_n ?_
  refine hx_ret ?_
  exact endQ_ret _ (res_one Try.results73 (rv_tmp rfl)) H

end Go.Proofs.Ytkecmljalcfhoaa
