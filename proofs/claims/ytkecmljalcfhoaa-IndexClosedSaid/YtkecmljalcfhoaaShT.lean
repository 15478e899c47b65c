/-
Shallow forms, written by gen2.py (a program of ours) out of the print of the program.
-/
import Derived.Test.YtkecmljalcfhoaaTB
import Derived.Test.YtkecmljalcfhoaaProg
namespace Go.Proofs.Ytkecmljalcfhoaa
open Go
set_option maxRecDepth 100000
set_option maxHeartbeats 4000000

theorem TyShT.agg29 : aggB Try.prog 29 = some false := by kernel_rfl
theorem TyShT.cb61 : CallB Try.prog 61 := fun _ _ => Try.call61 _ _
theorem TyShT.fld31_0 : fldB Try.prog 31 0 = some 0 := by kernel_rfl

/-- (*cellar/table.Table).All$1$1 -/
theorem f60_sh (a_Hash : Int) (a_At : Int) (a_Version : Int) (a_Hits : Int) (b_Hash : Int) (b_At : Int) (b_Version : Int) (b_Hits : Int) (h : Heap) (R : Value → Heap → Prop)
    (H : (∀ (h3 : Heap), Ext h h3 → R (.int .i64 (ucmp a_Hash b_Hash)) h3)) :
    HC Try.prog 60 #[(.agg #[(.int .u64 a_Hash), (.int .u64 a_At), (.int .u64 a_Version), (.int .u8 a_Hits)]), (.agg #[(.int .u64 b_Hash), (.int .u64 b_At), (.int .u64 b_Version), (.int .u8 b_Hits)])] h R := by
  refine hc_of (args := [(.agg #[(.int .u64 a_Hash), (.int .u64 a_At), (.int .u64 a_Version), (.int .u8 a_Hits)]), (.agg #[(.int .u64 b_Hash), (.int .u64 b_At), (.int .u64 b_Version), (.int .u8 b_Hits)])]) Try.func60 rfl Try.ntmps60 (Nat.le_of_ble_eq_true rfl) ?_
  refine hx_seq ?_
  refine hx_region ?_
  refine hl_step rfl rfl (hn_box (v := (.agg #[(.int .u64 a_Hash), (.int .u64 a_At), (.int .u64 a_Version), (.int .u8 a_Hits)])) rfl ?_)
  intro a h1 eb1 eh2
  have xx3 : Ext h h1 := by rw [eh2]; exact Ext.push _ _
  have lo5 : Array.size h ≤ a := Nat.le_of_eq (Eq.symm eb1)
  have hr4 : h1[a]? = some (.cells #[(.int .u64 a_Hash), (.int .u64 a_At), (.int .u64 a_Version), (.int .u8 a_Hits)] 31 (0, 0)) := by rw [eh2]; exact push_new eb1
  refine hl_step rfl rfl (hn_box (v := (.agg #[(.int .u64 b_Hash), (.int .u64 b_At), (.int .u64 b_Version), (.int .u8 b_Hits)])) rfl ?_)
  intro b h2 eb6 eh7
  have xx8 : Ext h1 h2 := by rw [eh7]; exact Ext.push _ _
  have ne11 := Nat.ne_of_lt (Nat.lt_of_lt_of_eq (row_lt hr4) (Eq.symm eb6))
  have lo10 : Array.size h ≤ b := Nat.le_trans (Ext.size xx3) (Nat.le_of_eq (Eq.symm eb6))
  have hr9 : h2[b]? = some (.cells #[(.int .u64 b_Hash), (.int .u64 b_At), (.int .u64 b_Version), (.int .u8 b_Hits)] 31 (0, 0)) := by rw [eh7]; exact push_new eb6
  replace hr4 := Ext.row xx8 hr4
  have xv12 := Ext.trans xx3 xx8
  refine hl_val rfl rfl (v := (.int .i64 0)) (hv_assign rfl) ?_
  refine hl_nil ?_
  refine seqQ_n ?_
  refine hx_seq ?_
  refine hx_region ?_
  refine hl_val rfl rfl (v := (ptr a 0)) (hv_field TyShT.fld31_0 (b := a) (o := 0) rfl) ?_
  refine hl_val rfl rfl (v := (.int .u64 a_Hash)) (hv_load TyShT.agg29 rfl (rowcell hr4 rfl)) ?_
  refine hl_val rfl rfl (v := (ptr b 0)) (hv_field TyShT.fld31_0 (b := b) (o := 0) rfl) ?_
  refine hl_val rfl rfl (v := (.int .u64 b_Hash)) (hv_load TyShT.agg29 rfl (rowcell hr9 rfl)) ?_
  refine hl_step rfl rfl (hs_call TyShT.cb61 (vs := [(.int .u64 a_Hash), (.int .u64 b_Hash)]) rfl (HC.mono (cmpU_c a_Hash b_Hash _) ?_))
  rintro _ h3 ⟨rfl, xx13⟩
  replace hr4 := Ext.row xx13 hr4
  replace hr9 := Ext.row xx13 hr9
  have xv14 := Ext.trans xv12 xx13
  refine hl_val rfl rfl (v := (.int .i64 (ucmp a_Hash b_Hash))) (hv_assign rfl) ?_
  refine hl_nil ?_
  refine seqQ_n ?_
  refine hx_ret ?_
  replace H := H h3 xv14
  exact endQ_ret _ (res_one Try.results60 (rv_tmp rfl)) H

end Go.Proofs.Ytkecmljalcfhoaa
