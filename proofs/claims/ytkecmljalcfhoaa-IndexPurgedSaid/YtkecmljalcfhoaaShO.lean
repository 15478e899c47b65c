/-
Shallow forms, written by gen2.py (a program of ours) out of the print of the program.
-/
import Derived.Test.YtkecmljalcfhoaaShJ
import Derived.Test.YtkecmljalcfhoaaPrv
import Derived.Test.YtkecmljalcfhoaaSrt
import Derived.Test.YtkecmljalcfhoaaRng
import Derived.Test.YtkecmljalcfhoaaMor
import Derived.Test.YtkecmljalcfhoaaProg
namespace Go.Proofs.Ytkecmljalcfhoaa
open Go
set_option maxRecDepth 100000
set_option maxHeartbeats 4000000

theorem TyShO.agg22 : aggB Try.prog 22 = some false := by kernel_rfl
theorem TyShO.agg24 : aggB Try.prog 24 = some true := by kernel_rfl
theorem TyShO.agg29 : aggB Try.prog 29 = some false := by kernel_rfl
theorem TyShO.agg3 : aggB Try.prog 3 = some false := by kernel_rfl
theorem TyShO.agg31 : aggB Try.prog 31 = some true := by kernel_rfl
theorem TyShO.agg33 : aggB Try.prog 33 = some true := by kernel_rfl
theorem TyShO.agg4 : aggB Try.prog 4 = some false := by kernel_rfl
theorem TyShO.agg47 : aggB Try.prog 47 = some false := by kernel_rfl
theorem TyShO.cb10 : CallB Try.prog 10 := fun _ _ => Try.call10 _ _
theorem TyShO.cb13 : CallB Try.prog 13 := fun _ _ => Try.call13 _ _
theorem TyShO.cb15 : CallB Try.prog 15 := fun _ _ => Try.call15 _ _
theorem TyShO.cb17 : CallB Try.prog 17 := fun _ _ => Try.call17 _ _
theorem TyShO.cb18 : CallB Try.prog 18 := fun _ _ => Try.call18 _ _
theorem TyShO.cb19 : CallB Try.prog 19 := fun _ _ => Try.call19 _ _
theorem TyShO.cb24 : CallB Try.prog 24 := fun _ _ => Try.call24 _ _
theorem TyShO.el22 : elB Try.prog 22 = some 8 := by kernel_rfl
theorem TyShO.el47 : elB Try.prog 47 = some 4 := by kernel_rfl
theorem TyShO.fld24_3 : fldB Try.prog 24 3 = some 3 := by kernel_rfl
theorem TyShO.fld31_0 : fldB Try.prog 31 0 = some 0 := by kernel_rfl
theorem TyShO.fld31_1 : fldB Try.prog 31 1 = some 1 := by kernel_rfl
theorem TyShO.fld33_0 : fldB Try.prog 33 0 = some 0 := by kernel_rfl
theorem TyShO.fld33_1 : fldB Try.prog 33 1 = some 1 := by kernel_rfl
theorem TyShO.fld33_3 : fldB Try.prog 33 3 = some 6 := by kernel_rfl
theorem TyShO.mixed : Try.prog.follows .mixedOrders = true := by kernel_rfl
theorem TyShO.se31 : seB Try.prog 31 = some [(29, 0), (29, 1), (29, 2), (5, 3)] := by kernel_rfl
theorem TyShO.sz24 : szB Try.prog 24 = some 4 := by kernel_rfl
theorem TyShO.sz3 : szB Try.prog 3 = some 1 := by kernel_rfl
theorem TyShO.sz31 : szB Try.prog 31 = some 4 := by kernel_rfl
theorem TyShO.sz33 : szB Try.prog 33 = some 8 := by kernel_rfl
theorem TyShO.sz4 : szB Try.prog 4 = some 1 := by kernel_rfl
theorem TyShO.sz47 : szB Try.prog 47 = some 1 := by kernel_rfl
theorem TyShO.u22 : Try.prog.underlying 22 = some (.slice 33) := by kernel_rfl
theorem TyShO.u29 : Try.prog.underlying 29 = some (.int .u64) := by kernel_rfl
theorem TyShO.u3 : Try.prog.underlying 3 = some (.int .i64) := by kernel_rfl
theorem TyShO.u47 : Try.prog.underlying 47 = some (.slice 31) := by kernel_rfl
theorem TyShO.up25 : Try.prog.underlying 25 = some (.pointer 61) := by kernel_rfl
theorem TyShO.up26 : Try.prog.underlying 26 = some (.pointer 80) := by kernel_rfl
theorem TyShO.z3 : zeroB Try.prog 3 (.int .i64 0) := by unfold zeroB; kernel_rfl
theorem TyShO.z31 : zeroB Try.prog 31 (.agg #[(.int .u64 0), (.int .u64 0), (.int .u64 0), (.int .u8 0)]) := by unfold zeroB; kernel_rfl
theorem TyShO.z33 : zeroB Try.prog 33 (.agg #[(.int .i64 0), (.int .u64 0), (.int .u64 0), (.int .u64 0), (.int .u8 0), (.int .u64 0), (.int .i64 0), (.int .i64 0)]) := by unfold zeroB; kernel_rfl
theorem TyShO.z4 : zeroB Try.prog 4 (.bool false) := by unfold zeroB; kernel_rfl
theorem TyShO.z47 : zeroB Try.prog 47 (.slice none 0 0) := by unfold zeroB; kernel_rfl

/-- cellar/cellarlaw12.played -/
theorem f15_sh (s_Stripes : Int) (s_Bits : Int) (s_Most : Int) (s_Do : Option Addr) (s_Do_n : Nat) (s_Do_c : Nat) (h : Heap) (R : Value → Heap → Prop)
    (H : (∀ (sv : Nat) (h1 : Heap), Array.size h ≤ sv → sv < Array.size h1 → Ext h h1 → HC Try.prog 10 #[(.agg #[(.int .i64 s_Stripes), (.int .i64 s_Bits), (.int .i64 s_Most), (.slice s_Do s_Do_n s_Do_c)])] h1 (fun vv h2 => Kp [sv] h1 h2 ∧ ∃ r0 r1 : Option Addr, ∃ r2 : Bool, vv = (.tuple #[(.pointer r0), (.pointer r1), (.bool r2)]) ∧ ((((!r2) || r1.isNone) = true → R (.tuple #[(.pointer none), (.bool r2)]) h2) ∧ (((!r2) || r1.isNone) = false → (∃ (I11 : Option Addr → Int → Heap → Prop) (mu12 : Option Addr → Int → Heap → Nat), I11 r0 0 h2 ∧ (∀ (x : Option Addr) (v : Int) (h3 : Heap), I11 x v h3 → (((decide (v < (s_Do_n : Int))) = true → (∃ s_Do_b s_Do_o : Nat, s_Do = some ⟨s_Do_b, s_Do_o, none⟩ ∧ (0 : Int) ≤ v ∧ v < (s_Do_n : Int) ∧ (∃ x_Kind x_Entry_Hash x_Entry_At x_Entry_Version x_Entry_Hits x_At x_N x_M : Int, hcell h3 s_Do_b (s_Do_o + (Int.toNat v) * 8) = some (.int .i64 x_Kind) ∧ hcell h3 s_Do_b ((s_Do_o + (Int.toNat v) * 8) + 1) = some (.int .u64 x_Entry_Hash) ∧ hcell h3 s_Do_b ((s_Do_o + (Int.toNat v) * 8) + 2) = some (.int .u64 x_Entry_At) ∧ hcell h3 s_Do_b ((s_Do_o + (Int.toNat v) * 8) + 3) = some (.int .u64 x_Entry_Version) ∧ hcell h3 s_Do_b ((s_Do_o + (Int.toNat v) * 8) + 4) = some (.int .u8 x_Entry_Hits) ∧ hcell h3 s_Do_b ((s_Do_o + (Int.toNat v) * 8) + 5) = some (.int .u64 x_At) ∧ hcell h3 s_Do_b ((s_Do_o + (Int.toNat v) * 8) + 6) = some (.int .i64 x_N) ∧ hcell h3 s_Do_b ((s_Do_o + (Int.toNat v) * 8) + 7) = some (.int .i64 x_M) ∧ (∀ (h5 : Heap), Ext h3 h5 → HC Try.prog 13 #[(.pointer x), (.pointer r1), (.agg #[(.int .i64 x_Kind), (.int .u64 x_Entry_Hash), (.int .u64 x_Entry_At), (.int .u64 x_Entry_Version), (.int .u8 x_Entry_Hits), (.int .u64 x_At), (.int .i64 x_N), (.int .i64 x_M)])] h5 (fun vv h6 => ∃ r : Bool, vv = (.bool r) ∧ (((!r) = true → R (.tuple #[(.pointer none), (.bool false)]) h6) ∧ ((!r) = false → (I11 x (IntKind.i64.wrap (v + 1)) h6 ∧ mu12 x (IntKind.i64.wrap (v + 1)) h6 < mu12 x v h3)))))))) ∧ ((decide (v < (s_Do_n : Int))) = false → R (.tuple #[(.pointer x), (.bool true)]) h3))))))))) :
    HC Try.prog 15 #[(.agg #[(.int .i64 s_Stripes), (.int .i64 s_Bits), (.int .i64 s_Most), (.slice s_Do s_Do_n s_Do_c)])] h R := by
  refine hc_of (args := [(.agg #[(.int .i64 s_Stripes), (.int .i64 s_Bits), (.int .i64 s_Most), (.slice s_Do s_Do_n s_Do_c)])]) Try.func15 rfl Try.ntmps15 (Nat.le_of_ble_eq_true rfl) ?_
  refine hx_seq ?_
  refine hx_region ?_
  refine hl_step rfl rfl (hn_box (v := (.agg #[(.int .i64 s_Stripes), (.int .i64 s_Bits), (.int .i64 s_Most), (.slice s_Do s_Do_n s_Do_c)])) rfl ?_)
  intro sv h1 eb1 eh2
  have xx3 : Ext h h1 := by rw [eh2]; exact Ext.push _ _
  have lo5 : Array.size h ≤ sv := Nat.le_of_eq (Eq.symm eb1)
  have hr4 : h1[sv]? = some (.cells #[(.int .i64 s_Stripes), (.int .i64 s_Bits), (.int .i64 s_Most), (.slice s_Do s_Do_n s_Do_c)] 24 (0, 0)) := by rw [eh2]; exact push_new eb1
  refine hl_val rfl rfl (v := (.pointer none)) (hv_assign rfl) ?_
  refine hl_val rfl rfl (v := (.bool false)) (hv_assign rfl) ?_
  refine hl_nil ?_
  refine seqQ_n ?_
  refine hx_seq ?_
  refine hx_region ?_
  refine hl_val rfl rfl (v := (.agg #[(.int .i64 s_Stripes), (.int .i64 s_Bits), (.int .i64 s_Most), (.slice s_Do s_Do_n s_Do_c)])) (hv_loads (vs := [(.int .i64 s_Stripes), (.int .i64 s_Bits), (.int .i64 s_Most), (.slice s_Do s_Do_n s_Do_c)]) TyShO.agg24 TyShO.sz24 rfl (hcells_cons (rowcell hr4 rfl) (hcells_cons (rowcell hr4 rfl) (hcells_cons (rowcell hr4 rfl) (hcells_cons (rowcell hr4 rfl) hcells_nil))))) ?_
  replace H := H sv h1 lo5 (row_lt hr4) xx3
  refine hl_step rfl rfl (hs_call TyShO.cb10 (vs := [(.agg #[(.int .i64 s_Stripes), (.int .i64 s_Bits), (.int .i64 s_Most), (.slice s_Do s_Do_n s_Do_c)])]) rfl (HC.mono H ?_))
  rintro _ h2 ⟨kp6, r0, r1, r2, rfl, H⟩
  replace hr4 := Kp.row kp6 (by simp) hr4
  refine hl_val rfl rfl (v := (.tuple #[(.pointer r0), (.pointer r1), (.bool r2)])) (hv_move rfl) ?_
  refine hl_val rfl rfl (v := (.pointer r0)) (hv_extract (vs := #[(.pointer r0), (.pointer r1), (.bool r2)]) rfl rfl) ?_
  refine hl_val rfl rfl (v := (.pointer r1)) (hv_extract (vs := #[(.pointer r0), (.pointer r1), (.bool r2)]) rfl rfl) ?_
  refine hl_val rfl rfl (v := (.bool r2)) (hv_extract (vs := #[(.pointer r0), (.pointer r1), (.bool r2)]) rfl rfl) ?_
  refine hl_val rfl rfl (v := (.pointer r0)) (hv_assign rfl) ?_
  refine hl_val rfl rfl (v := (.pointer r1)) (hv_assign rfl) ?_
  refine hl_val rfl rfl (v := (.bool r2)) (hv_assign rfl) ?_
  refine hl_nil ?_
  refine seqQ_n ?_
  refine hx_seq ?_
  refine hx_cut (fun ρ h' => h2 = h' ∧ Has ρ [(1, (ptr sv 0)), (2, (.pointer r0)), (3, (.bool r2)), (4, (.pointer r1)), (18, (.bool ((!r2) || r1.isNone)))]) ?_ ?_
  · refine hx_region ?_
    refine hl_val rfl rfl (v := (.bool r2)) (hv_move rfl) ?_
    refine hl_val rfl rfl (v := (.bool (!r2))) (hv_not (b := r2) rfl) ?_
    refine hl_val rfl rfl (v := (.bool (!r2))) (hv_move rfl) ?_
    rcases bool_or (!r2) with hg9 | hg9
    · refine hl_no (wanted_n rfl rfl rfl hg9) rfl ?_
      refine hl_no (wanted_n rfl rfl rfl hg9) rfl ?_
      refine hl_val rfl rfl (v := (.bool true)) (hv_pick_t rfl hg9 rfl) ?_
      refine hl_nil ?_
      refine seqQ_n ?_
      exact ⟨rfl, (has_cons rfl (has_cons rfl (has_cons rfl (has_cons rfl (has_cons (show ((.bool true) : Value) = (.bool ((!r2) || r1.isNone)) from (by first | rfl | (try rw [hg9]; all_goals first | rfl | (simp only [Bool.true_or, Bool.or_true, Bool.false_or, Bool.or_false, Bool.true_and, Bool.and_true, Bool.false_and, Bool.and_false, Bool.not_true, Bool.not_false, Bool.cond_true, Bool.cond_false]; done)) | simp [hg9])) has_nil)))))⟩
    · refine hl_yes (wanted_y rfl rfl rfl hg9) rfl (HStep.of_val (v := (.pointer r1)) (hv_move rfl) ?_)
      refine hl_yes (wanted_y rfl rfl rfl hg9) rfl (HStep.of_val (v := (.bool r1.isNone)) (hv_ptrNil TyShO.up26 rfl rfl) ?_)
      refine hl_val rfl rfl (v := (.bool r1.isNone)) (hv_pick_f rfl hg9 rfl) ?_
      refine hl_nil ?_
      refine seqQ_n ?_
      exact ⟨rfl, (has_cons rfl (has_cons rfl (has_cons rfl (has_cons rfl (has_cons (show ((.bool r1.isNone) : Value) = (.bool ((!r2) || r1.isNone)) from (by first | rfl | (try rw [hg9]; all_goals first | rfl | (simp only [Bool.true_or, Bool.or_true, Bool.false_or, Bool.or_false, Bool.true_and, Bool.and_true, Bool.false_and, Bool.and_false, Bool.not_true, Bool.not_false, Bool.cond_true, Bool.cond_false]; done)) | simp [hg9])) has_nil)))))⟩
  · rintro ρ _ ⟨rfl, hH⟩
    refine hx_has _ hH ?_
    refine hx_cond (b := ((!r2) || r1.isNone)) rfl (fun hb10 => ?_) (fun hb10 => ?_)
    · replace H := H.1 hb10
      refine hx_seq ?_
      refine hx_region ?_
      refine hl_val rfl rfl (v := (.bool r2)) (hv_move rfl) ?_
      refine hl_val rfl rfl (v := (.pointer none)) (hv_assign rfl) ?_
      refine hl_val rfl rfl (v := (.bool r2)) (hv_assign rfl) ?_
      refine hl_nil ?_
      refine seqQ_n ?_
      refine hx_ret ?_
      refine seqQ_ret ?_
      exact endQ_ret _ (res_two Try.results15 (rv_tmp rfl) (rv_tmp rfl)) H
    · replace H := H.2 hb10
      refine hx_skip ?_
      refine seqQ_n ?_
      refine hx_seq ?_
      refine hx_seq ?_
      refine hx_region ?_
      refine hl_val rfl rfl (v := (ptr sv 3)) (hv_field TyShO.fld24_3 (b := sv) (o := 0) rfl) ?_
      refine hl_val rfl rfl (v := (.slice s_Do s_Do_n s_Do_c)) (hv_load TyShO.agg22 rfl (rowcell hr4 rfl)) ?_
      refine hl_val rfl rfl (v := (.int .i64 (s_Do_n : Int))) (hv_len (n := s_Do_n) TyShO.u22 rfl) ?_
      refine hl_val rfl rfl (v := (.int .i64 0)) (hv_move rfl) ?_
      refine hl_nil ?_
      refine seqQ_n ?_
      refine hx_block ?_
      obtain ⟨I11, mu12, Ha13, Hr14⟩ := H
      refine hx_loopT (σ := Option Addr × Int) (fun s => [(2, (.pointer s.1)), (4, (.pointer r1)), (21, (.slice s_Do s_Do_n s_Do_c)), (22, (.int .i64 (s_Do_n : Int))), (23, (.int .i64 s.2))]) (fun s h' => I11 s.1 s.2 h' ∧ True) (fun s h' => mu12 s.1 s.2 h') (r0, 0) ⟨Ha13, trivial⟩ (has_cons rfl (has_cons rfl (has_cons rfl (has_cons rfl (has_cons rfl has_nil))))) ?_
      rintro ⟨x, v⟩ ρ h3 ⟨Hi15, -⟩
      have H := Hr14 x v h3 Hi15
      refine hx_seq ?_
      refine hx_region ?_
      refine hl_val rfl rfl (v := (.bool (decide (v < (s_Do_n : Int))))) (hv_arith rfl rfl rfl) ?_
      refine hl_nil ?_
      refine seqQ_n ?_
      refine hx_seq ?_
      refine hx_cond (b := decide (v < (s_Do_n : Int))) rfl (fun hb16 => ?_) (fun hb16 => ?_)
      · replace H := H.1 hb16
        refine hx_skip ?_
        refine seqQ_n ?_
        refine hx_seq ?_
        refine hx_block ?_
        refine hx_seq ?_
        refine hx_region ?_
        obtain ⟨s_Do_b, s_Do_o, hqe, hi17, hi18, Hq⟩ := H
        subst hqe
        have H := Hq; clear Hq
        refine hl_val rfl rfl (v := (ptr s_Do_b (s_Do_o + (Int.toNat v) * 8))) (hv_index TyShO.el22 rfl rfl hi17 hi18) ?_
        obtain ⟨x_Kind, x_Entry_Hash, x_Entry_At, x_Entry_Version, x_Entry_Hits, x_At, x_N, x_M, hc19, hc20, hc21, hc22, hc23, hc24, hc25, hc26, H⟩ := H
        refine hl_val rfl rfl (v := (.agg #[(.int .i64 x_Kind), (.int .u64 x_Entry_Hash), (.int .u64 x_Entry_At), (.int .u64 x_Entry_Version), (.int .u8 x_Entry_Hits), (.int .u64 x_At), (.int .i64 x_N), (.int .i64 x_M)])) (hv_loads (vs := [(.int .i64 x_Kind), (.int .u64 x_Entry_Hash), (.int .u64 x_Entry_At), (.int .u64 x_Entry_Version), (.int .u8 x_Entry_Hits), (.int .u64 x_At), (.int .i64 x_N), (.int .i64 x_M)]) TyShO.agg33 TyShO.sz33 rfl (hcells_cons hc19 (hcells_cons hc20 (hcells_cons hc21 (hcells_cons hc22 (hcells_cons hc23 (hcells_cons hc24 (hcells_cons hc25 (hcells_cons hc26 hcells_nil))))))))) ?_
        refine hl_step rfl rfl (hn_alloc TyShO.z33 ?_)
        intro o h4 eb27 eh28
        have xx29 : Ext h3 h4 := by rw [eh28]; exact Ext.push _ _
        have lo31 : Array.size h3 ≤ o := Nat.le_of_eq (Eq.symm eb27)
        have hr30 : h4[o]? = some (.cells #[(.int .i64 0), (.int .u64 0), (.int .u64 0), (.int .u64 0), (.int .u8 0), (.int .u64 0), (.int .i64 0), (.int .i64 0)] 33 (0, 0)) := by rw [eh28]; exact push_new eb27
        refine hl_step rfl rfl (hn_stores (vs := [(.int .i64 x_Kind), (.int .u64 x_Entry_Hash), (.int .u64 x_Entry_At), (.int .u64 x_Entry_Version), (.int .u8 x_Entry_Hits), (.int .u64 x_At), (.int .i64 x_N), (.int .i64 x_M)]) rfl rfl TyShO.sz33 rfl (HWs_row hr30 (by simp)) ?_)
        intro h5 eh32
        have hr30' : h5[o]? = some (.cells #[(.int .i64 x_Kind), (.int .u64 x_Entry_Hash), (.int .u64 x_Entry_At), (.int .u64 x_Entry_Version), (.int .u8 x_Entry_Hits), (.int .u64 x_At), (.int .i64 x_N), (.int .i64 x_M)] 33 (0, 0)) := row_hsets_eq eh32 hr30 rfl
        have xv33 := ext_hsets eh32 xx29 lo31
        refine hl_nil ?_
        refine seqQ_n ?_
        refine hx_seq ?_
        refine hx_region ?_
        refine hl_val rfl rfl (v := (.pointer x)) (hv_move rfl) ?_
        refine hl_val rfl rfl (v := (.pointer r1)) (hv_move rfl) ?_
        refine hl_val rfl rfl (v := (.agg #[(.int .i64 x_Kind), (.int .u64 x_Entry_Hash), (.int .u64 x_Entry_At), (.int .u64 x_Entry_Version), (.int .u8 x_Entry_Hits), (.int .u64 x_At), (.int .i64 x_N), (.int .i64 x_M)])) (hv_loads (vs := [(.int .i64 x_Kind), (.int .u64 x_Entry_Hash), (.int .u64 x_Entry_At), (.int .u64 x_Entry_Version), (.int .u8 x_Entry_Hits), (.int .u64 x_At), (.int .i64 x_N), (.int .i64 x_M)]) TyShO.agg33 TyShO.sz33 rfl (hcells_cons (rowcell hr30' rfl) (hcells_cons (rowcell hr30' rfl) (hcells_cons (rowcell hr30' rfl) (hcells_cons (rowcell hr30' rfl) (hcells_cons (rowcell hr30' rfl) (hcells_cons (rowcell hr30' rfl) (hcells_cons (rowcell hr30' rfl) (hcells_cons (rowcell hr30' rfl) hcells_nil))))))))) ?_
        replace H := H h5 xv33
        refine hl_step rfl rfl (hs_call TyShO.cb13 (vs := [(.pointer x), (.pointer r1), (.agg #[(.int .i64 x_Kind), (.int .u64 x_Entry_Hash), (.int .u64 x_Entry_At), (.int .u64 x_Entry_Version), (.int .u8 x_Entry_Hits), (.int .u64 x_At), (.int .i64 x_N), (.int .i64 x_M)])]) rfl (HC.mono H ?_))
        rintro _ h6 ⟨r, rfl, H⟩
        refine hl_val rfl rfl (v := (.bool (!r))) (hv_not (b := r) rfl) ?_
        refine hl_nil ?_
        refine seqQ_n ?_
        refine hx_cond (b := !r) rfl (fun hb34 => ?_) (fun hb34 => ?_)
        · replace H := H.1 hb34
          refine hx_seq ?_
          refine hx_region ?_
          refine hl_val rfl rfl (v := (.pointer none)) (hv_assign rfl) ?_
          refine hl_val rfl rfl (v := (.bool false)) (hv_assign rfl) ?_
          refine hl_nil ?_
          refine seqQ_n ?_
          refine hx_ret ?_
          refine blockQ_ret ?_
          refine seqQ_ret ?_
          refine seqQ_ret ?_
          refine blockQ_ret ?_
          refine seqQ_ret ?_
          exact endQ_ret _ (res_two Try.results15 (rv_tmp rfl) (rv_tmp rfl)) H
        · replace H := H.2 hb34
          refine hx_skip ?_
          refine blockQ_n ?_
          refine seqQ_n ?_
          refine hx_region ?_
          refine hl_val rfl rfl (v := (.int .i64 (IntKind.i64.wrap (v + 1)))) (hv_arith rfl rfl rfl) ?_
          refine hl_val rfl rfl (v := (.int .i64 (IntKind.i64.wrap (v + 1)))) (hv_move rfl) ?_
          refine hl_nil ?_
          refine seqQ_n ?_
          exact ⟨(x, IntKind.i64.wrap (v + 1)), ⟨⟨H.1, trivial⟩, H.2⟩, (has_cons rfl (has_cons rfl (has_cons rfl (has_cons rfl (has_cons rfl has_nil)))))⟩
      · replace H := H.2 hb16
        refine hx_exit ?_
        refine seqQ_exit ?_
        refine seqQ_exit ?_
        refine blockQ_here ?_
        refine seqQ_n ?_
        refine hx_seq ?_
        refine hx_region ?_
        refine hl_val rfl rfl (v := (.pointer x)) (hv_move rfl) ?_
        refine hl_val rfl rfl (v := (.pointer x)) (hv_assign rfl) ?_
        refine hl_val rfl rfl (v := (.bool true)) (hv_assign rfl) ?_
        refine hl_nil ?_
        refine seqQ_n ?_
        refine hx_ret ?_
        exact endQ_ret _ (res_two Try.results15 (rv_tmp rfl) (rv_tmp rfl)) H

/-- cellar/cellarlaw12.IndexPurged -/
theorem f7_sh (s_Stripes : Int) (s_Bits : Int) (s_Most : Int) (s_Do : Option Addr) (s_Do_n : Nat) (s_Do_c : Nat) (region : Int) (h : Heap) (R : Value → Heap → Prop)
    (H : (∀ sv h1, sv = Array.size h → h1 = Array.push h (.cells #[(.int .i64 s_Stripes), (.int .i64 s_Bits), (.int .i64 s_Most), (.slice s_Do s_Do_n s_Do_c)] 24) → (∀ region_1 h2, region_1 = Array.size h1 → h2 = Array.push h1 (.cells #[(.int .i64 region)] 3) → (∀ nb h3, nb = Array.size h2 → h3 = Array.push h2 (.cells #[(.bool false)] 4) → (∃ x_Stripes x_Bits x_Most : Int, ∃ x_Do : Option Addr, ∃ x_Do_n x_Do_c : Nat, hcell h3 sv 0 = some (.int .i64 x_Stripes) ∧ hcell h3 sv 1 = some (.int .i64 x_Bits) ∧ hcell h3 sv 2 = some (.int .i64 x_Most) ∧ hcell h3 sv 3 = some (.slice x_Do x_Do_n x_Do_c) ∧ HC Try.prog 15 #[(.agg #[(.int .i64 x_Stripes), (.int .i64 x_Bits), (.int .i64 x_Most), (.slice x_Do x_Do_n x_Do_c)])] h3 (fun vv h4 => ∃ r0 : Option Addr, ∃ r1 : Bool, vv = (.tuple #[(.pointer r0), (.bool r1)]) ∧ ((((!r1) || r0.isNone) = true → (HW h4 nb 0 ∧ ∀ h5, h5 = hset h4 nb 0 (.bool r1) → (∃ res : Bool, hcell h5 nb 0 = some (.bool res) ∧ (∀ h6, Shut' (Array.size h) h5 h6 → R (.bool res) h6)))) ∧ (((!r1) || r0.isNone) = false → (∃ j_1 : Bool, (∃ x : Int, hcell h4 region_1 0 = some (.int .i64 x) ∧ (((decide (x < 0)) = true → (j_1 = true)) ∧ ((decide (x < 0)) = false → (j_1 = (decide (x ≥ 65536)))))) ∧ ((j_1 = true → (HW h4 nb 0 ∧ ∀ h7, h7 = hset h4 nb 0 (.bool true) → (∃ res : Bool, hcell h7 nb 0 = some (.bool res) ∧ (∀ h8, Shut' (Array.size h) h7 h8 → R (.bool res) h8)))) ∧ (j_1 = false → (∀ left h9, left = Array.size h4 → h9 = Array.push h4 (.cells #[(.slice none 0 0)] 47) → (∀ gone h10, gone = Array.size h9 → h10 = Array.push h9 (.cells #[(.int .i64 0)] 3) → (HW h10 gone 0 ∧ ∀ h11, h11 = hset h10 gone 0 (.int .i64 0) → (∃ (I37 : Int → Heap → Prop) (mu38 : Int → Heap → Nat), I37 0 h11 ∧ (∀ (stripe : Int) (h12 : Heap), I37 stripe h12 → (∃ r : Int, HC Try.prog 17 #[(.pointer r0)] h12 (fun vv h' => vv = (.int .i64 r) ∧ h' = h12) ∧ (((decide (stripe < r)) = true → HC Try.prog 18 #[(.pointer r0), (.int .i64 stripe)] h12 (fun vv h13 => ∃ r_1 : Value, vv = r_1 ∧ (∀ (Lp44 : LoopState → Option Code → Heap → Prop) (l : Nat) (h14 : Heap) (y : Value), (∀ s p h h', Lp44 s p h → h'[l]? = h[l]? → Lp44 s p h') → l = Array.size h13 + 1 → Ext h13 h14 → Array.size h14 = Array.size h13 + 2 → Lp44 .ready none h14 → (∀ (it_Hash : Int) (it_At : Int) (it_Version : Int) (it_Hits : Int) (h15 : Heap) (K52 : Value → Heap → Prop), Lp44 .ready none h15 → (∀ e h18, e = Array.size h15 → h18 = Array.push h15 (.cells #[(.int .u64 0), (.int .u64 0), (.int .u64 0), (.int .u8 0)] 31) → (HWs h18 e 0 4 ∧ ∀ h19, h19 = hsets h18 e 0 [(.int .u64 it_Hash), (.int .u64 it_At), (.int .u64 it_Version), (.int .u8 it_Hits)] → (Lp44 .ready none h19 ∧ ∀ h20, Only l h19 h20 → Lp44 .busy none h20 → (∃ x_1 : Int, hcell h20 e 1 = some (.int .u64 x_1) ∧ (∃ x_2 : Int, hcell h20 region_1 0 = some (.int .i64 x_2) ∧ ((((Int.fdiv x_1 (2 ^ min (Int.toNat 48) 64)) == (IntKind.u64.wrap x_2)) = true → (∃ x_3 : Int, hcell h20 gone 0 = some (.int .i64 x_3) ∧ (HW h20 gone 0 ∧ ∀ h21, h21 = hset h20 gone 0 (.int .i64 (IntKind.i64.wrap (x_3 + 1))) → (Lp44 .busy none h21 ∧ ∀ h22, Only l h21 h22 → Lp44 .ready none h22 → K52 (.bool true) h22)))) ∧ (((Int.fdiv x_1 (2 ^ min (Int.toNat 48) 64)) == (IntKind.u64.wrap x_2)) = false → (∃ x_3 : Option Addr, ∃ x_n x_c : Nat, hcell h20 left 0 = some (.slice x_3 x_n x_c) ∧ (∃ x_Hash x_At x_Version x_Hits : Int, hcell h20 e 0 = some (.int .u64 x_Hash) ∧ hcell h20 e 1 = some (.int .u64 x_At) ∧ hcell h20 e 2 = some (.int .u64 x_Version) ∧ hcell h20 e 3 = some (.int .u8 x_Hits) ∧ (∀ nb_1 h23, nb_1 = Array.size h20 → h23 = Array.push h20 (.cells #[(.int .u64 x_Hash), (.int .u64 x_At), (.int .u64 x_Version), (.int .u8 x_Hits)] 31) → HAppend Try.prog 47 47 (.slice x_3 x_n x_c) (.slice (some ⟨nb_1, 0, none⟩) 1 1) h23 (fun vv h24 => ∃ ap : Option Addr, ∃ ap_n ap_c : Nat, vv = (.slice ap ap_n ap_c) ∧ (HW h24 left 0 ∧ ∀ h25, h25 = hset h24 left 0 (.slice ap ap_n ap_c) → (Lp44 .busy none h25 ∧ ∀ h26, Only l h25 h26 → Lp44 .ready none h26 → K52 (.bool true) h26))))))))))))) → HCV Try.prog y [(.agg #[(.int .u64 it_Hash), (.int .u64 it_At), (.int .u64 it_Version), (.int .u8 it_Hits)])] h15 K52) → HCF Try.prog r_1 [y] h14 (fun _ h16 => ∃ (st : LoopState) (pend : Option Code), Lp44 st pend h16 ∧ st ≠ .busy ∧ ∀ h17, Only l h16 h17 → Lp44 .exhausted pend h17 → ((pend = none ∧ (I37 (IntKind.i64.wrap (stripe + 1)) h17 ∧ mu38 (IntKind.i64.wrap (stripe + 1)) h17 < mu38 stripe h12))))))) ∧ ((decide (stripe < r)) = false → (∃ (I79 : Int → Int → Heap → Prop) (mu80 : Int → Int → Heap → Nat), I79 0 0 h12 ∧ (∀ (n : Int) (stripe_1 : Int) (h27 : Heap), I79 n stripe_1 h27 → (∃ r_1 : Int, HC Try.prog 17 #[(.pointer r0)] h27 (fun vv h' => vv = (.int .i64 r_1) ∧ h' = h27) ∧ (((decide (stripe_1 < r_1)) = true → (∃ x_1 : Int, hcell h27 region_1 0 = some (.int .i64 x_1) ∧ HC Try.prog 19 #[(.pointer r0), (.int .i64 stripe_1), (.int .i64 x_1)] h27 (fun vv h28 => ∃ r_2 : Int, vv = (.int .i64 r_2) ∧ (I79 (IntKind.i64.wrap (n + r_2)) (IntKind.i64.wrap (stripe_1 + 1)) h28 ∧ mu80 (IntKind.i64.wrap (n + r_2)) (IntKind.i64.wrap (stripe_1 + 1)) h28 < mu80 n stripe_1 h27)))) ∧ ((decide (stripe_1 < r_1)) = false → (∃ (I87 : Int → Heap → Prop) (mu88 : Int → Heap → Nat), I87 0 h27 ∧ (∀ (stripe_2 : Int) (h29 : Heap), I87 stripe_2 h29 → (∃ r_2 : Int, HC Try.prog 17 #[(.pointer r0)] h29 (fun vv h' => vv = (.int .i64 r_2) ∧ h' = h29) ∧ (((decide (stripe_2 < r_2)) = true → HC Try.prog 18 #[(.pointer r0), (.int .i64 stripe_2)] h29 (fun vv h30 => ∃ r_3 : Value, vv = r_3 ∧ (∀ (Lp94 : LoopState → Option Code → Heap → Prop) (l : Nat) (h31 : Heap) (y : Value), (∀ s p h h', Lp94 s p h → h'[l]? = h[l]? → Lp94 s p h') → l = Array.size h30 + 1 → Ext h30 h31 → Array.size h31 = Array.size h30 + 2 → Lp94 .ready none h31 → (∀ (it_Hash : Int) (it_At : Int) (it_Version : Int) (it_Hits : Int) (h32 : Heap) (K102 : Value → Heap → Prop), Lp94 .ready none h32 → (∀ e h35, e = Array.size h32 → h35 = Array.push h32 (.cells #[(.int .u64 0), (.int .u64 0), (.int .u64 0), (.int .u8 0)] 31) → (HWs h35 e 0 4 ∧ ∀ h36, h36 = hsets h35 e 0 [(.int .u64 it_Hash), (.int .u64 it_At), (.int .u64 it_Version), (.int .u8 it_Hits)] → (Lp94 .ready none h36 ∧ ∀ h37, Only l h36 h37 → Lp94 .busy none h37 → (∃ j_2 : Bool, (∃ x_1 : Option Addr, ∃ x_n x_c : Nat, hcell h37 left 0 = some (.slice x_1 x_n x_c) ∧ ((((x_n : Int) == 0) = true → (j_2 = true)) ∧ (((x_n : Int) == 0) = false → (∃ x_1_b x_1_o : Nat, x_1 = some ⟨x_1_b, x_1_o, none⟩ ∧ (0 : Int) ≤ 0 ∧ 0 < (x_n : Int) ∧ (∃ x_Hash x_At x_Version x_Hits : Int, hcell h37 x_1_b (x_1_o + (Int.toNat 0) * 4) = some (.int .u64 x_Hash) ∧ hcell h37 x_1_b ((x_1_o + (Int.toNat 0) * 4) + 1) = some (.int .u64 x_At) ∧ hcell h37 x_1_b ((x_1_o + (Int.toNat 0) * 4) + 2) = some (.int .u64 x_Version) ∧ hcell h37 x_1_b ((x_1_o + (Int.toNat 0) * 4) + 3) = some (.int .u8 x_Hits) ∧ (∃ x_Hash_1 x_At_1 x_Version_1 x_Hits_1 : Int, hcell h37 e 0 = some (.int .u64 x_Hash_1) ∧ hcell h37 e 1 = some (.int .u64 x_At_1) ∧ hcell h37 e 2 = some (.int .u64 x_Version_1) ∧ hcell h37 e 3 = some (.int .u8 x_Hits_1) ∧ (j_2 = (!((x_Hash == x_Hash_1 && (x_At == x_At_1 && (x_Version == x_Version_1 && (x_Hits == x_Hits_1 && true))))))))))))) ∧ ((j_2 = true → (HW h37 nb 0 ∧ ∀ h38, h38 = hset h37 nb 0 (.bool false) → (Lp94 .busy none h38 ∧ ∀ h39, Only l h38 h39 → Lp94 .done (some .ret) h39 → K102 (.bool false) h39))) ∧ (j_2 = false → (∃ x_2 : Option Addr, ∃ x_n_1 x_c_1 : Nat, hcell h37 left 0 = some (.slice x_2 x_n_1 x_c_1) ∧ (0 ≤ ((1 : Int) : Int) ∧ (1 : Int) ≤ (x_n_1 : Int) ∧ (x_n_1 : Int) ≤ (x_c_1 : Int) ∧ ∀ sl : Option Addr, sl = slA x_2 (Int.toNat 1) 4 x_c_1 → (HW h37 left 0 ∧ ∀ h40, h40 = hset h37 left 0 (.slice sl (Int.toNat (x_n_1 : Int) - Int.toNat 1) (x_c_1 - Int.toNat 1)) → (Lp94 .busy none h40 ∧ ∀ h41, Only l h40 h41 → Lp94 .ready none h41 → K102 (.bool true) h41)))))))))) → HCV Try.prog y [(.agg #[(.int .u64 it_Hash), (.int .u64 it_At), (.int .u64 it_Version), (.int .u8 it_Hits)])] h32 K102) → HCF Try.prog r_3 [y] h31 (fun _ h33 => ∃ (st : LoopState) (pend : Option Code), Lp94 st pend h33 ∧ st ≠ .busy ∧ ∀ h34, Only l h33 h34 → Lp94 .exhausted pend h34 → ((pend = none ∧ (I87 (IntKind.i64.wrap (stripe_2 + 1)) h34 ∧ mu88 (IntKind.i64.wrap (stripe_2 + 1)) h34 < mu88 stripe_2 h29)) ∨ (pend = some .ret ∧ (∃ res : Bool, hcell h34 nb 0 = some (.bool res) ∧ (∀ h42, Shut' (Array.size h) h34 h42 → R (.bool res) h42)))))))) ∧ ((decide (stripe_2 < r_2)) = false → (∃ A140 : Heap → Prop, (∃ x_1 : Int, hcell h29 gone 0 = some (.int .i64 x_1) ∧ (((n == x_1) = true → (∃ x_2 : Option Addr, ∃ x_n x_c : Nat, hcell h29 left 0 = some (.slice x_2 x_n x_c) ∧ (HW h29 nb 0 ∧ ∀ h44, h44 = hset h29 nb 0 (.bool ((x_n : Int) == 0)) → (A140 h44)))) ∧ ((n == x_1) = false → (HW h29 nb 0 ∧ ∀ h45, h45 = hset h29 nb 0 (.bool false) → (A140 h45))))) ∧ (∀ (h43 : Heap), A140 h43 → (∃ res : Bool, hcell h43 nb 0 = some (.bool res) ∧ (∀ h46, Shut' (Array.size h) h43 h46 → R (.bool res) h46))))))))))))))))))))))))))))))))) :
    HC Try.prog 7 #[(.agg #[(.int .i64 s_Stripes), (.int .i64 s_Bits), (.int .i64 s_Most), (.slice s_Do s_Do_n s_Do_c)]), (.int .i64 region)] h R := by
  refine hc_ofM (args := [(.agg #[(.int .i64 s_Stripes), (.int .i64 s_Bits), (.int .i64 s_Most), (.slice s_Do s_Do_n s_Do_c)]), (.int .i64 region)]) Try.func7 rfl Try.ntmps7 (Nat.le_of_ble_eq_true rfl) ?_
  refine hx_seq ?_
  refine hx_region ?_
  refine hl_step rfl rfl (hn_box (v := (.agg #[(.int .i64 s_Stripes), (.int .i64 s_Bits), (.int .i64 s_Most), (.slice s_Do s_Do_n s_Do_c)])) rfl ?_)
  intro sv h1 eb1 eh2
  replace H := H sv h1 eb1 eh2
  have xx3 : Ext h h1 := by rw [eh2]; exact Ext.push _ _
  refine hl_step rfl rfl (hn_box (v := (.int .i64 region)) rfl ?_)
  intro region_1 h2 eb4 eh5
  replace H := H region_1 h2 eb4 eh5
  have xx6 : Ext h1 h2 := by rw [eh5]; exact Ext.push _ _
  refine hl_step rfl rfl (hn_alloc TyShO.z4 ?_)
  intro nb h3 eb7 eh8
  replace H := H nb h3 eb7 eh8
  have xx9 : Ext h2 h3 := by rw [eh8]; exact Ext.push _ _
  refine hl_nil ?_
  refine seqQ_n ?_
  refine hx_seq ?_
  refine hx_region ?_
  obtain ⟨x_Stripes, x_Bits, x_Most, x_Do, x_Do_n, x_Do_c, hc10, hc11, hc12, hc13, H⟩ := H
  refine hl_val rfl rfl (v := (.agg #[(.int .i64 x_Stripes), (.int .i64 x_Bits), (.int .i64 x_Most), (.slice x_Do x_Do_n x_Do_c)])) (hv_loads (vs := [(.int .i64 x_Stripes), (.int .i64 x_Bits), (.int .i64 x_Most), (.slice x_Do x_Do_n x_Do_c)]) TyShO.agg24 TyShO.sz24 rfl (hcells_cons hc10 (hcells_cons hc11 (hcells_cons hc12 (hcells_cons hc13 hcells_nil))))) ?_
  refine hl_step rfl rfl (hs_call TyShO.cb15 (vs := [(.agg #[(.int .i64 x_Stripes), (.int .i64 x_Bits), (.int .i64 x_Most), (.slice x_Do x_Do_n x_Do_c)])]) rfl (HC.mono H ?_))
  rintro _ h4 ⟨r0, r1, rfl, H⟩
  refine hl_val rfl rfl (v := (.tuple #[(.pointer r0), (.bool r1)])) (hv_move rfl) ?_
  refine hl_val rfl rfl (v := (.pointer r0)) (hv_extract (vs := #[(.pointer r0), (.bool r1)]) rfl rfl) ?_
  refine hl_val rfl rfl (v := (.bool r1)) (hv_extract (vs := #[(.pointer r0), (.bool r1)]) rfl rfl) ?_
  refine hl_val rfl rfl (v := (.pointer r0)) (hv_assign rfl) ?_
  refine hl_val rfl rfl (v := (.bool r1)) (hv_assign rfl) ?_
  refine hl_nil ?_
  refine seqQ_n ?_
  refine hx_seq ?_
  refine hx_cut (fun ρ h' => h4 = h' ∧ Has ρ [(3, (ptr region_1 0)), (4, (ptr nb 0)), (5, (.pointer r0)), (6, (.bool r1)), (25, (.bool ((!r1) || r0.isNone)))]) ?_ ?_
  · refine hx_region ?_
    refine hl_val rfl rfl (v := (.bool r1)) (hv_move rfl) ?_
    refine hl_val rfl rfl (v := (.bool (!r1))) (hv_not (b := r1) rfl) ?_
    refine hl_val rfl rfl (v := (.bool (!r1))) (hv_move rfl) ?_
    rcases bool_or (!r1) with hg16 | hg16
    · refine hl_no (wanted_n rfl rfl rfl hg16) rfl ?_
      refine hl_no (wanted_n rfl rfl rfl hg16) rfl ?_
      refine hl_val rfl rfl (v := (.bool true)) (hv_pick_t rfl hg16 rfl) ?_
      refine hl_nil ?_
      refine seqQ_n ?_
      exact ⟨rfl, (has_cons rfl (has_cons rfl (has_cons rfl (has_cons rfl (has_cons (show ((.bool true) : Value) = (.bool ((!r1) || r0.isNone)) from (by first | rfl | (try rw [hg16]; all_goals first | rfl | (simp only [Bool.true_or, Bool.or_true, Bool.false_or, Bool.or_false, Bool.true_and, Bool.and_true, Bool.false_and, Bool.and_false, Bool.not_true, Bool.not_false, Bool.cond_true, Bool.cond_false]; done)) | simp [hg16])) has_nil)))))⟩
    · refine hl_yes (wanted_y rfl rfl rfl hg16) rfl (HStep.of_val (v := (.pointer r0)) (hv_move rfl) ?_)
      refine hl_yes (wanted_y rfl rfl rfl hg16) rfl (HStep.of_val (v := (.bool r0.isNone)) (hv_ptrNil TyShO.up25 rfl rfl) ?_)
      refine hl_val rfl rfl (v := (.bool r0.isNone)) (hv_pick_f rfl hg16 rfl) ?_
      refine hl_nil ?_
      refine seqQ_n ?_
      exact ⟨rfl, (has_cons rfl (has_cons rfl (has_cons rfl (has_cons rfl (has_cons (show ((.bool r0.isNone) : Value) = (.bool ((!r1) || r0.isNone)) from (by first | rfl | (try rw [hg16]; all_goals first | rfl | (simp only [Bool.true_or, Bool.or_true, Bool.false_or, Bool.or_false, Bool.true_and, Bool.and_true, Bool.false_and, Bool.and_false, Bool.not_true, Bool.not_false, Bool.cond_true, Bool.cond_false]; done)) | simp [hg16])) has_nil)))))⟩
  · rintro ρ _ ⟨rfl, hH⟩
    refine hx_has _ hH ?_
    refine hx_cond (b := ((!r1) || r0.isNone)) rfl (fun hb17 => ?_) (fun hb17 => ?_)
    · replace H := H.1 hb17
      refine hx_seq ?_
      refine hx_region ?_
      refine hl_val rfl rfl (v := (.bool r1)) (hv_move rfl) ?_
      obtain ⟨hw19, H⟩ := H
      refine hl_step rfl rfl (hn_store (v := (.bool r1)) rfl rfl TyShO.sz4 rfl hw19 ?_)
      intro h5 eh18
      replace H := H h5 eh18
      refine hl_nil ?_
      refine seqQ_n ?_
      refine hx_ret ?_
      refine seqQ_ret ?_
      obtain ⟨res, hc20, H⟩ := H
      exact endQM_ret _ (fun h' hs => ⟨res_one Try.results7 (rv_cell1 TyShO.agg4 rfl (shut_cell hs hc20)), H h' hs⟩)
    · replace H := H.2 hb17
      refine hx_skip ?_
      refine seqQ_n ?_
      refine hx_seq ?_
      obtain ⟨j_1, Hx21, Hy22⟩ := H
      refine hx_cut (fun ρ h' => h4 = h' ∧ Has ρ [(3, (ptr region_1 0)), (4, (ptr nb 0)), (5, (.pointer r0)), (32, (.bool j_1))]) ?_ ?_
      · have H := Hx21; clear Hx21 Hy22
        refine hx_region ?_
        obtain ⟨x, hc23, H⟩ := H
        refine hl_val rfl rfl (v := (.int .i64 x)) (hv_load TyShO.agg3 rfl hc23) ?_
        refine hl_val rfl rfl (v := (.bool (decide (x < 0)))) (hv_arith rfl rfl rfl) ?_
        refine hl_val rfl rfl (v := (.bool (decide (x < 0)))) (hv_move rfl) ?_
        rcases bool_or (decide (x < 0)) with hg24 | hg24
        · replace H := H.1 hg24
          refine hl_no (wanted_n rfl rfl rfl hg24) rfl ?_
          refine hl_no (wanted_n rfl rfl rfl hg24) rfl ?_
          refine hl_val rfl rfl (v := (.bool true)) (hv_pick_t rfl hg24 rfl) ?_
          refine hl_nil ?_
          refine seqQ_n ?_
          obtain rfl := H
          exact ⟨rfl, (has_cons rfl (has_cons rfl (has_cons rfl (has_cons rfl has_nil))))⟩
        · replace H := H.2 hg24
          refine hl_yes (wanted_y rfl rfl rfl hg24) rfl (HStep.of_val (v := (.int .i64 x)) (hv_load TyShO.agg3 rfl hc23) ?_)
          refine hl_yes (wanted_y rfl rfl rfl hg24) rfl (HStep.of_val (v := (.bool (decide (x ≥ 65536)))) (hv_arith rfl rfl rfl) ?_)
          refine hl_val rfl rfl (v := (.bool (decide (x ≥ 65536)))) (hv_pick_f rfl hg24 rfl) ?_
          refine hl_nil ?_
          refine seqQ_n ?_
          obtain rfl := H
          exact ⟨rfl, (has_cons rfl (has_cons rfl (has_cons rfl (has_cons rfl has_nil))))⟩
      · have H := Hy22; clear Hx21 Hy22
        rintro ρ _ ⟨rfl, hH⟩
        refine hx_has _ hH ?_
        refine hx_cond (b := j_1) rfl (fun hb25 => ?_) (fun hb25 => ?_)
        · replace H := H.1 hb25
          refine hx_seq ?_
          refine hx_region ?_
          obtain ⟨hw27, H⟩ := H
          refine hl_step rfl rfl (hn_store (v := (.bool true)) rfl rfl TyShO.sz4 rfl hw27 ?_)
          intro h7 eh26
          replace H := H h7 eh26
          refine hl_nil ?_
          refine seqQ_n ?_
          refine hx_ret ?_
          refine seqQ_ret ?_
          obtain ⟨res, hc28, H⟩ := H
          exact endQM_ret _ (fun h' hs => ⟨res_one Try.results7 (rv_cell1 TyShO.agg4 rfl (shut_cell hs hc28)), H h' hs⟩)
        · replace H := H.2 hb25
          refine hx_skip ?_
          refine seqQ_n ?_
          refine hx_seq ?_
          refine hx_region ?_
          refine hl_step rfl rfl (hn_alloc TyShO.z47 ?_)
          intro left h9 eb29 eh30
          replace H := H left h9 eb29 eh30
          have xx31 : Ext h4 h9 := by rw [eh30]; exact Ext.push _ _
          refine hl_nil ?_
          refine seqQ_n ?_
          refine hx_seq ?_
          refine hx_region ?_
          refine hl_step rfl rfl (hn_alloc TyShO.z3 ?_)
          intro gone h10 eb32 eh33
          replace H := H gone h10 eb32 eh33
          have xx34 : Ext h9 h10 := by rw [eh33]; exact Ext.push _ _
          obtain ⟨hw36, H⟩ := H
          refine hl_step rfl rfl (hn_store (v := (.int .i64 0)) rfl rfl TyShO.sz3 rfl hw36 ?_)
          intro h11 eh35
          replace H := H h11 eh35
          refine hl_nil ?_
          refine seqQ_n ?_
          refine hx_seq ?_
          refine hx_seq ?_
          refine hx_region ?_
          refine hl_val rfl rfl (v := (.int .i64 0)) (hv_assign rfl) ?_
          refine hl_nil ?_
          refine seqQ_n ?_
          refine hx_block ?_
          obtain ⟨I37, mu38, Ha39, Hr40⟩ := H
          refine hx_loopT (σ := Int) (fun s => [(3, (ptr region_1 0)), (4, (ptr nb 0)), (5, (.pointer r0)), (7, (ptr left 0)), (8, (ptr gone 0)), (9, (.int .i64 s))]) (fun s h' => I37 s h' ∧ True) (fun s h' => mu38 s h') 0 ⟨Ha39, trivial⟩ (has_cons rfl (has_cons rfl (has_cons rfl (has_cons rfl (has_cons rfl (has_cons rfl has_nil)))))) ?_
          rintro stripe ρ h12 ⟨Hi41, -⟩
          have H := Hr40 stripe h12 Hi41
          refine hx_seq ?_
          refine hx_seq ?_
          refine hx_region ?_
          refine hl_val rfl rfl (v := (.int .i64 stripe)) (hv_move rfl) ?_
          refine hl_val rfl rfl (v := (.pointer r0)) (hv_move rfl) ?_
          obtain ⟨r, hr42, H⟩ := H
          refine hl_val rfl rfl (v := (.int .i64 r)) (hv_call TyShO.cb17 (vs := [(.pointer r0)]) rfl hr42) ?_
          refine hl_val rfl rfl (v := (.bool (decide (stripe < r)))) (hv_arith rfl rfl rfl) ?_
          refine hl_nil ?_
          refine seqQ_n ?_
          refine hx_cond (b := decide (stripe < r)) rfl (fun hb43 => ?_) (fun hb43 => ?_)
          · replace H := H.1 hb43
            refine hx_skip ?_
            refine seqQ_n ?_
            refine hx_seq ?_
            refine hx_block ?_
            refine hx_seq ?_
            refine hx_region ?_
            refine hl_val rfl rfl (v := (.pointer r0)) (hv_move rfl) ?_
            refine hl_val rfl rfl (v := (.int .i64 stripe)) (hv_move rfl) ?_
            refine hl_step rfl rfl (hs_call TyShO.cb18 (vs := [(.pointer r0), (.int .i64 stripe)]) rfl (HC.mono H ?_))
            rintro r_1 h13 ⟨_, rfl, H⟩
            refine hl_nil ?_
            refine seqQ_n ?_
            refine hx_block ?_
            refine hx_range rfl rfl rfl (fun h14 l le45 lx46 lz47 La48 => ?_)
            refine HCF.mono (H (fun st p h => LoopAt h l _ _ _ _ _ st p) l h14 _ (fun s p h h' k e => k.same e) le45 lx46 lz47 La48 ?_) ?_
            · intro it_Hash it_At it_Version it_Hits h15 K52 Lb49 H
              refine hcv_yield Lb49 rfl rfl ?_
              refine hx_region ?_
              refine hl_step rfl rfl (hn_alloc TyShO.z31 ?_)
              intro e h18 eb55 eh56
              replace H := H e h18 eb55 eh56
              have xx57 : Ext h15 h18 := by rw [eh56]; exact Ext.push _ _
              obtain ⟨hw59, H⟩ := H
              refine hl_step rfl rfl (hn_stores (vs := [(.int .u64 it_Hash), (.int .u64 it_At), (.int .u64 it_Version), (.int .u8 it_Hits)]) rfl rfl TyShO.sz31 rfl hw59 ?_)
              intro h19 eh58
              replace H := H h19 eh58
              refine hl_nil ?_
              obtain ⟨Lf62, H⟩ := H
              refine ⟨rfl, Lf62, ?_⟩
              intro h20 lo60 Le61
              replace H := H h20 lo60 Le61
              refine hx_block ?_
              refine hx_seq ?_
              refine hx_region ?_
              refine hl_val rfl rfl (v := (ptr e 1)) (hv_field TyShO.fld31_1 (b := e) (o := 0) rfl) ?_
              obtain ⟨x_1, hc63, H⟩ := H
              refine hl_val rfl rfl (v := (.int .u64 x_1)) (hv_load TyShO.agg29 rfl hc63) ?_
              refine hl_val rfl rfl (v := (.int .u64 (Int.fdiv x_1 (2 ^ min (Int.toNat 48) 64)))) (hv_shift rfl rfl (by decide) rfl) ?_
              obtain ⟨x_2, hc64, H⟩ := H
              refine hl_val rfl rfl (v := (.int .i64 x_2)) (hv_load TyShO.agg3 rfl hc64) ?_
              refine hl_val rfl rfl (v := (.int .u64 (IntKind.u64.wrap x_2))) (hv_convInt TyShO.u3 TyShO.u29 rfl) ?_
              refine hl_val rfl rfl (v := (.bool ((Int.fdiv x_1 (2 ^ min (Int.toNat 48) 64)) == (IntKind.u64.wrap x_2)))) (hv_arith rfl rfl rfl) ?_
              refine hl_nil ?_
              refine seqQ_n ?_
              refine hx_cond (b := (Int.fdiv x_1 (2 ^ min (Int.toNat 48) 64)) == (IntKind.u64.wrap x_2)) rfl (fun hb65 => ?_) (fun hb65 => ?_)
              · replace H := H.1 hb65
                refine hx_region ?_
                obtain ⟨x_3, hc66, H⟩ := H
                refine hl_val rfl rfl (v := (.int .i64 x_3)) (hv_load TyShO.agg3 rfl hc66) ?_
                refine hl_val rfl rfl (v := (.int .i64 (IntKind.i64.wrap (x_3 + 1)))) (hv_arith rfl rfl rfl) ?_
                obtain ⟨hw68, H⟩ := H
                refine hl_step rfl rfl (hn_store (v := (.int .i64 (IntKind.i64.wrap (x_3 + 1)))) rfl rfl TyShO.sz3 rfl hw68 ?_)
                intro h21 eh67
                replace H := H h21 eh67
                refine hl_nil ?_
                refine blockQ_n ?_
                exact H
              · replace H := H.2 hb65
                refine hx_region ?_
                obtain ⟨x_3, x_n, x_c, hc69, H⟩ := H
                refine hl_val rfl rfl (v := (.slice x_3 x_n x_c)) (hv_load TyShO.agg47 rfl hc69) ?_
                obtain ⟨x_Hash, x_At, x_Version, x_Hits, hc70, hc71, hc72, hc73, H⟩ := H
                refine hl_val rfl rfl (v := (.agg #[(.int .u64 x_Hash), (.int .u64 x_At), (.int .u64 x_Version), (.int .u8 x_Hits)])) (hv_loads (vs := [(.int .u64 x_Hash), (.int .u64 x_At), (.int .u64 x_Version), (.int .u8 x_Hits)]) TyShO.agg31 TyShO.sz31 rfl (hcells_cons hc70 (hcells_cons hc71 (hcells_cons hc72 (hcells_cons hc73 hcells_nil))))) ?_
                refine hl_step rfl rfl (hn_buildSlice (n := 1) (vs := [(0, (.agg #[(.int .u64 x_Hash), (.int .u64 x_At), (.int .u64 x_Version), (.int .u8 x_Hits)]))]) (cs := #[(.int .u64 x_Hash), (.int .u64 x_At), (.int .u64 x_Version), (.int .u8 x_Hits)]) TyShO.u47 TyShO.sz31 TyShO.z31 rfl rfl (by kernel_rfl) ?_)
                intro nb_1 h23 eb74 eh75
                replace H := H nb_1 h23 eb74 eh75
                have xx76 : Ext h20 h23 := by rw [eh75]; exact Ext.push _ _
                refine hl_step rfl rfl (hs_append rfl rfl (HAppend.mono H ?_))
                rintro _ h24 ⟨ap, ap_n, ap_c, rfl, H⟩
                obtain ⟨hw78, H⟩ := H
                refine hl_step rfl rfl (hn_store (v := (.slice ap ap_n ap_c)) rfl rfl TyShO.sz47 rfl hw78 ?_)
                intro h25 eh77
                replace H := H h25 eh77
                refine hl_nil ?_
                refine blockQ_n ?_
                exact H
            · rintro _ h16 ⟨st, pend, Lc50, hst54, H⟩
              refine ⟨st, pend, Lc50, hst54, ?_⟩
              intro h17 lo53 Ld51
              replace H := H h17 lo53 Ld51
              obtain ⟨rfl, H⟩ := H
              refine jumpQ_n ?_
              refine blockQ_n ?_
              refine blockQ_n ?_
              refine seqQ_n ?_
              refine hx_region ?_
              refine hl_val rfl rfl (v := (.int .i64 stripe)) (hv_move rfl) ?_
              refine hl_val rfl rfl (v := (.int .i64 (IntKind.i64.wrap (stripe + 1)))) (hv_arith rfl rfl rfl) ?_
              refine hl_val rfl rfl (v := (.int .i64 (IntKind.i64.wrap (stripe + 1)))) (hv_assign rfl) ?_
              refine hl_nil ?_
              refine seqQ_n ?_
              exact ⟨IntKind.i64.wrap (stripe + 1), ⟨⟨H.1, trivial⟩, H.2⟩, (has_cons rfl (has_cons rfl (has_cons rfl (has_cons rfl (has_cons rfl (has_cons rfl has_nil))))))⟩
          · replace H := H.2 hb43
            refine hx_exit ?_
            refine seqQ_exit ?_
            refine seqQ_exit ?_
            refine blockQ_here ?_
            refine seqQ_n ?_
            refine hx_seq ?_
            refine hx_region ?_
            refine hl_val rfl rfl (v := (.int .i64 0)) (hv_assign rfl) ?_
            refine hl_nil ?_
            refine seqQ_n ?_
            refine hx_seq ?_
            refine hx_seq ?_
            refine hx_region ?_
            refine hl_val rfl rfl (v := (.int .i64 0)) (hv_assign rfl) ?_
            refine hl_nil ?_
            refine seqQ_n ?_
            refine hx_block ?_
            obtain ⟨I79, mu80, Ha81, Hr82⟩ := H
            refine hx_loopT (σ := Int × Int) (fun s => [(3, (ptr region_1 0)), (4, (ptr nb 0)), (5, (.pointer r0)), (7, (ptr left 0)), (8, (ptr gone 0)), (11, (.int .i64 s.1)), (12, (.int .i64 s.2))]) (fun s h' => I79 s.1 s.2 h' ∧ True) (fun s h' => mu80 s.1 s.2 h') (0, 0) ⟨Ha81, trivial⟩ (has_cons rfl (has_cons rfl (has_cons rfl (has_cons rfl (has_cons rfl (has_cons rfl (has_cons rfl has_nil))))))) ?_
            rintro ⟨n, stripe_1⟩ ρ h27 ⟨Hi83, -⟩
            have H := Hr82 n stripe_1 h27 Hi83
            refine hx_seq ?_
            refine hx_seq ?_
            refine hx_region ?_
            refine hl_val rfl rfl (v := (.int .i64 stripe_1)) (hv_move rfl) ?_
            refine hl_val rfl rfl (v := (.pointer r0)) (hv_move rfl) ?_
            obtain ⟨r_1, hr84, H⟩ := H
            refine hl_val rfl rfl (v := (.int .i64 r_1)) (hv_call TyShO.cb17 (vs := [(.pointer r0)]) rfl hr84) ?_
            refine hl_val rfl rfl (v := (.bool (decide (stripe_1 < r_1)))) (hv_arith rfl rfl rfl) ?_
            refine hl_nil ?_
            refine seqQ_n ?_
            refine hx_cond (b := decide (stripe_1 < r_1)) rfl (fun hb85 => ?_) (fun hb85 => ?_)
            · replace H := H.1 hb85
              refine hx_skip ?_
              refine seqQ_n ?_
              refine hx_seq ?_
              refine hx_block ?_
              refine hx_region ?_
              refine hl_val rfl rfl (v := (.int .i64 n)) (hv_move rfl) ?_
              refine hl_val rfl rfl (v := (.pointer r0)) (hv_move rfl) ?_
              refine hl_val rfl rfl (v := (.int .i64 stripe_1)) (hv_move rfl) ?_
              obtain ⟨x_1, hc86, H⟩ := H
              refine hl_val rfl rfl (v := (.int .i64 x_1)) (hv_load TyShO.agg3 rfl hc86) ?_
              refine hl_step rfl rfl (hs_call TyShO.cb19 (vs := [(.pointer r0), (.int .i64 stripe_1), (.int .i64 x_1)]) rfl (HC.mono H ?_))
              rintro _ h28 ⟨r_2, rfl, H⟩
              refine hl_val rfl rfl (v := (.int .i64 (IntKind.i64.wrap (n + r_2)))) (hv_arith rfl rfl rfl) ?_
              refine hl_val rfl rfl (v := (.int .i64 (IntKind.i64.wrap (n + r_2)))) (hv_assign rfl) ?_
              refine hl_nil ?_
              refine blockQ_n ?_
              refine seqQ_n ?_
              refine hx_region ?_
              refine hl_val rfl rfl (v := (.int .i64 stripe_1)) (hv_move rfl) ?_
              refine hl_val rfl rfl (v := (.int .i64 (IntKind.i64.wrap (stripe_1 + 1)))) (hv_arith rfl rfl rfl) ?_
              refine hl_val rfl rfl (v := (.int .i64 (IntKind.i64.wrap (stripe_1 + 1)))) (hv_assign rfl) ?_
              refine hl_nil ?_
              refine seqQ_n ?_
              exact ⟨(IntKind.i64.wrap (n + r_2), IntKind.i64.wrap (stripe_1 + 1)), ⟨⟨H.1, trivial⟩, H.2⟩, (has_cons rfl (has_cons rfl (has_cons rfl (has_cons rfl (has_cons rfl (has_cons rfl (has_cons rfl has_nil)))))))⟩
            · replace H := H.2 hb85
              refine hx_exit ?_
              refine seqQ_exit ?_
              refine seqQ_exit ?_
              refine blockQ_here ?_
              refine seqQ_n ?_
              refine hx_seq ?_
              refine hx_seq ?_
              refine hx_region ?_
              refine hl_val rfl rfl (v := (.int .i64 0)) (hv_assign rfl) ?_
              refine hl_nil ?_
              refine seqQ_n ?_
              refine hx_block ?_
              obtain ⟨I87, mu88, Ha89, Hr90⟩ := H
              refine hx_loopT (σ := Int) (fun s => [(4, (ptr nb 0)), (5, (.pointer r0)), (7, (ptr left 0)), (8, (ptr gone 0)), (11, (.int .i64 n)), (13, (.int .i64 s))]) (fun s h' => I87 s h' ∧ True) (fun s h' => mu88 s h') 0 ⟨Ha89, trivial⟩ (has_cons rfl (has_cons rfl (has_cons rfl (has_cons rfl (has_cons rfl (has_cons rfl has_nil)))))) ?_
              rintro stripe_2 ρ h29 ⟨Hi91, -⟩
              have H := Hr90 stripe_2 h29 Hi91
              refine hx_seq ?_
              refine hx_seq ?_
              refine hx_region ?_
              refine hl_val rfl rfl (v := (.int .i64 stripe_2)) (hv_move rfl) ?_
              refine hl_val rfl rfl (v := (.pointer r0)) (hv_move rfl) ?_
              obtain ⟨r_2, hr92, H⟩ := H
              refine hl_val rfl rfl (v := (.int .i64 r_2)) (hv_call TyShO.cb17 (vs := [(.pointer r0)]) rfl hr92) ?_
              refine hl_val rfl rfl (v := (.bool (decide (stripe_2 < r_2)))) (hv_arith rfl rfl rfl) ?_
              refine hl_nil ?_
              refine seqQ_n ?_
              refine hx_cond (b := decide (stripe_2 < r_2)) rfl (fun hb93 => ?_) (fun hb93 => ?_)
              · replace H := H.1 hb93
                refine hx_skip ?_
                refine seqQ_n ?_
                refine hx_seq ?_
                refine hx_block ?_
                refine hx_seq ?_
                refine hx_region ?_
                refine hl_val rfl rfl (v := (.pointer r0)) (hv_move rfl) ?_
                refine hl_val rfl rfl (v := (.int .i64 stripe_2)) (hv_move rfl) ?_
                refine hl_step rfl rfl (hs_call TyShO.cb18 (vs := [(.pointer r0), (.int .i64 stripe_2)]) rfl (HC.mono H ?_))
                rintro r_3 h30 ⟨_, rfl, H⟩
                refine hl_nil ?_
                refine seqQ_n ?_
                refine hx_block ?_
                refine hx_range rfl rfl rfl (fun h31 l le95 lx96 lz97 La98 => ?_)
                refine HCF.mono (H (fun st p h => LoopAt h l _ _ _ _ _ st p) l h31 _ (fun s p h h' k e => k.same e) le95 lx96 lz97 La98 ?_) ?_
                · intro it_Hash it_At it_Version it_Hits h32 K102 Lb99 H
                  refine hcv_yield Lb99 rfl rfl ?_
                  refine hx_region ?_
                  refine hl_step rfl rfl (hn_alloc TyShO.z31 ?_)
                  intro e h35 eb105 eh106
                  replace H := H e h35 eb105 eh106
                  have xx107 : Ext h32 h35 := by rw [eh106]; exact Ext.push _ _
                  obtain ⟨hw109, H⟩ := H
                  refine hl_step rfl rfl (hn_stores (vs := [(.int .u64 it_Hash), (.int .u64 it_At), (.int .u64 it_Version), (.int .u8 it_Hits)]) rfl rfl TyShO.sz31 rfl hw109 ?_)
                  intro h36 eh108
                  replace H := H h36 eh108
                  refine hl_nil ?_
                  obtain ⟨Lf112, H⟩ := H
                  refine ⟨rfl, Lf112, ?_⟩
                  intro h37 lo110 Le111
                  replace H := H h37 lo110 Le111
                  refine hx_block ?_
                  refine hx_seq ?_
                  obtain ⟨j_2, Hx113, Hy114⟩ := H
                  refine hx_cut (fun ρ h' => h37 = h' ∧ Has ρ [(4, (ptr nb 0)), (7, (ptr left 0)), (86, (.bool j_2))]) ?_ ?_
                  · have H := Hx113; clear Hx113 Hy114
                    refine hx_draw TyShO.mixed [.read, .pure, .pure, .pure, .read, .pure, .read, .read, .pure, .pure] [0, 1, 2, 3, 4, 5, 6, 7, 8, 9] (by kernel_rfl) ?_
                    obtain ⟨x_1, x_n, x_c, hc115, H⟩ := H
                    refine hp_read (i := 0) rfl (wanted_0 rfl) rfl (.slice x_1 x_n x_c) (fun _ he => hv_load TyShO.agg47 rfl (Ext.cell he hc115)) ?_
                    refine hp_pure (i := 1) rfl (wanted_0 rfl) rfl (.int .i64 (x_n : Int)) (fun _ => hv_len (n := x_n) TyShO.u47 rfl) ?_
                    refine hp_pure (i := 2) rfl (wanted_0 rfl) rfl (.bool ((x_n : Int) == 0)) (fun _ => hv_arith rfl rfl rfl) ?_
                    refine hp_pure (i := 3) rfl (wanted_0 rfl) rfl (.bool ((x_n : Int) == 0)) (fun _ => hv_move rfl) ?_
                    rcases bool_or ((x_n : Int) == 0) with hg116 | hg116
                    · replace H := H.1 hg116
                      refine hp_no (i := 4) rfl (wanted_n rfl rfl rfl hg116) ?_
                      refine hp_no (i := 5) rfl (wanted_n rfl rfl rfl hg116) ?_
                      refine hp_no (i := 6) rfl (wanted_n rfl rfl rfl hg116) ?_
                      refine hp_no (i := 7) rfl (wanted_n rfl rfl rfl hg116) ?_
                      refine hp_no (i := 8) rfl (wanted_n rfl rfl rfl hg116) ?_
                      refine hp_pure (i := 9) rfl (wanted_0 rfl) rfl (.bool true) (fun _ => hv_pick_t rfl hg116 rfl) ?_
                      refine hp_nil ?_
                      refine seqQ_n ?_
                      obtain rfl := H
                      exact ⟨rfl, (has_cons rfl (has_cons rfl (has_cons rfl has_nil)))⟩
                    · replace H := H.2 hg116
                      refine hp_read (i := 4) rfl (wanted_y rfl rfl rfl hg116) rfl (.slice x_1 x_n x_c) (fun _ he => hv_load TyShO.agg47 rfl (Ext.cell he hc115)) ?_
                      obtain ⟨x_1_b, x_1_o, hqe, hi117, hi118, Hq⟩ := H
                      subst hqe
                      have H := Hq; clear Hq
                      refine hp_pure (i := 5) rfl (wanted_y rfl rfl rfl hg116) rfl (ptr x_1_b (x_1_o + (Int.toNat 0) * 4)) (fun _ => hv_index TyShO.el47 rfl rfl hi117 hi118) ?_
                      obtain ⟨x_Hash, x_At, x_Version, x_Hits, hc119, hc120, hc121, hc122, H⟩ := H
                      refine hp_read (i := 6) rfl (wanted_y rfl rfl rfl hg116) rfl (.agg #[(.int .u64 x_Hash), (.int .u64 x_At), (.int .u64 x_Version), (.int .u8 x_Hits)]) (fun _ he => hv_loads (vs := [(.int .u64 x_Hash), (.int .u64 x_At), (.int .u64 x_Version), (.int .u8 x_Hits)]) TyShO.agg31 TyShO.sz31 rfl (hcells_cons (Ext.cell he hc119) (hcells_cons (Ext.cell he hc120) (hcells_cons (Ext.cell he hc121) (hcells_cons (Ext.cell he hc122) hcells_nil))))) ?_
                      obtain ⟨x_Hash_1, x_At_1, x_Version_1, x_Hits_1, hc123, hc124, hc125, hc126, H⟩ := H
                      refine hp_read (i := 7) rfl (wanted_y rfl rfl rfl hg116) rfl (.agg #[(.int .u64 x_Hash_1), (.int .u64 x_At_1), (.int .u64 x_Version_1), (.int .u8 x_Hits_1)]) (fun _ he => hv_loads (vs := [(.int .u64 x_Hash_1), (.int .u64 x_At_1), (.int .u64 x_Version_1), (.int .u8 x_Hits_1)]) TyShO.agg31 TyShO.sz31 rfl (hcells_cons (Ext.cell he hc123) (hcells_cons (Ext.cell he hc124) (hcells_cons (Ext.cell he hc125) (hcells_cons (Ext.cell he hc126) hcells_nil))))) ?_
                      refine hp_pure (i := 8) rfl (wanted_y rfl rfl rfl hg116) rfl (.bool (!((x_Hash == x_Hash_1 && (x_At == x_At_1 && (x_Version == x_Version_1 && (x_Hits == x_Hits_1 && true))))))) (fun _ => hv_structEq (xs := [(.int .u64 x_Hash), (.int .u64 x_At), (.int .u64 x_Version), (.int .u8 x_Hits)]) (ys := [(.int .u64 x_Hash_1), (.int .u64 x_At_1), (.int .u64 x_Version_1), (.int .u8 x_Hits_1)]) (b := (x_Hash == x_Hash_1 && (x_At == x_At_1 && (x_Version == x_Version_1 && (x_Hits == x_Hits_1 && true))))) TyShO.se31 rfl rfl (by kernel_rfl) rfl) ?_
                      refine hp_pure (i := 9) rfl (wanted_0 rfl) rfl (.bool (!((x_Hash == x_Hash_1 && (x_At == x_At_1 && (x_Version == x_Version_1 && (x_Hits == x_Hits_1 && true))))))) (fun _ => hv_pick_f rfl hg116 rfl) ?_
                      refine hp_nil ?_
                      refine seqQ_n ?_
                      obtain rfl := H
                      exact ⟨rfl, (has_cons rfl (has_cons rfl (has_cons rfl has_nil)))⟩
                  · have H := Hy114; clear Hx113 Hy114
                    rintro ρ _ ⟨rfl, hH⟩
                    refine hx_has _ hH ?_
                    refine hx_cond (b := j_2) rfl (fun hb127 => ?_) (fun hb127 => ?_)
                    · replace H := H.1 hb127
                      refine hx_seq ?_
                      refine hx_region ?_
                      obtain ⟨hw129, H⟩ := H
                      refine hl_step rfl rfl (hn_store (v := (.bool false)) rfl rfl TyShO.sz4 rfl hw129 ?_)
                      intro h38 eh128
                      replace H := H h38 eh128
                      refine hl_nil ?_
                      refine seqQ_n ?_
                      refine hx_ret ?_
                      refine seqQ_ret ?_
                      refine blockQ_ret ?_
                      exact H
                    · replace H := H.2 hb127
                      refine hx_skip ?_
                      refine seqQ_n ?_
                      refine hx_region ?_
                      obtain ⟨x_2, x_n_1, x_c_1, hc130, H⟩ := H
                      refine hl_val rfl rfl (v := (.slice x_2 x_n_1 x_c_1)) (hv_load TyShO.agg47 rfl hc130) ?_
                      obtain ⟨hs131, hs132, hs133, H⟩ := H
                      obtain ⟨sl, hq134⟩ : ∃ q, q = slA x_2 (Int.toNat 1) 4 x_c_1 := ⟨_, rfl⟩
                      replace H := H sl hq134
                      refine hl_val rfl rfl (v := (.slice sl (Int.toNat (x_n_1 : Int) - Int.toNat 1) (x_c_1 - Int.toNat 1))) (hv_slice (l := 1) (r := (x_n_1 : Int)) TyShO.u47 TyShO.sz31 rfl (sl_some rfl) sh_none hs131 hs132 hs133 hq134) ?_
                      obtain ⟨hw136, H⟩ := H
                      refine hl_step rfl rfl (hn_store (v := (.slice sl (Int.toNat (x_n_1 : Int) - Int.toNat 1) (x_c_1 - Int.toNat 1))) rfl rfl TyShO.sz47 rfl hw136 ?_)
                      intro h40 eh135
                      replace H := H h40 eh135
                      refine hl_nil ?_
                      refine blockQ_n ?_
                      exact H
                · rintro _ h33 ⟨st, pend, Lc100, hst104, H⟩
                  refine ⟨st, pend, Lc100, hst104, ?_⟩
                  intro h34 lo103 Ld101
                  replace H := H h34 lo103 Ld101
                  rcases H with ⟨rfl, H⟩ | ⟨rfl, H⟩
                  · refine jumpQ_n ?_
                    refine blockQ_n ?_
                    refine blockQ_n ?_
                    refine seqQ_n ?_
                    refine hx_region ?_
                    refine hl_val rfl rfl (v := (.int .i64 stripe_2)) (hv_move rfl) ?_
                    refine hl_val rfl rfl (v := (.int .i64 (IntKind.i64.wrap (stripe_2 + 1)))) (hv_arith rfl rfl rfl) ?_
                    refine hl_val rfl rfl (v := (.int .i64 (IntKind.i64.wrap (stripe_2 + 1)))) (hv_assign rfl) ?_
                    refine hl_nil ?_
                    refine seqQ_n ?_
                    exact ⟨IntKind.i64.wrap (stripe_2 + 1), ⟨⟨H.1, trivial⟩, H.2⟩, (has_cons rfl (has_cons rfl (has_cons rfl (has_cons rfl (has_cons rfl (has_cons rfl has_nil))))))⟩
                  · refine jumpQ_ret ?_
                    refine blockQ_ret ?_
                    refine blockQ_ret ?_
                    refine seqQ_ret ?_
                    refine seqQ_ret ?_
                    refine blockQ_ret ?_
                    refine seqQ_ret ?_
                    obtain ⟨res, hc137, H⟩ := H
                    exact endQM_ret _ (fun h' hs => ⟨res_one Try.results7 (rv_cell1 TyShO.agg4 rfl (shut_cell hs hc137)), H h' hs⟩)
              · replace H := H.2 hb93
                refine hx_exit ?_
                refine seqQ_exit ?_
                refine seqQ_exit ?_
                refine blockQ_here ?_
                refine seqQ_n ?_
                obtain ⟨A140, Hx138, Hy139⟩ := H
                refine hx_cut (fun ρ h' => (A140 h' ∧ True) ∧ Has ρ [(4, (ptr nb 0))]) ?_ ?_
                · have H := Hx138; clear Hx138 Hy139
                  refine hx_region ?_
                  refine hl_val rfl rfl (v := (.int .i64 n)) (hv_move rfl) ?_
                  obtain ⟨x_1, hc142, H⟩ := H
                  refine hl_val rfl rfl (v := (.int .i64 x_1)) (hv_load TyShO.agg3 rfl hc142) ?_
                  refine hl_val rfl rfl (v := (.bool (n == x_1))) (hv_arith rfl rfl rfl) ?_
                  refine hl_val rfl rfl (v := (.bool (n == x_1))) (hv_move rfl) ?_
                  rcases bool_or (n == x_1) with hg143 | hg143
                  · replace H := H.1 hg143
                    obtain ⟨x_2, x_n, x_c, hc144, H⟩ := H
                    refine hl_yes (wanted_y rfl rfl rfl hg143) rfl (HStep.of_val (v := (.slice x_2 x_n x_c)) (hv_load TyShO.agg47 rfl hc144) ?_)
                    refine hl_yes (wanted_y rfl rfl rfl hg143) rfl (HStep.of_val (v := (.int .i64 (x_n : Int))) (hv_len (n := x_n) TyShO.u47 rfl) ?_)
                    refine hl_yes (wanted_y rfl rfl rfl hg143) rfl (HStep.of_val (v := (.bool ((x_n : Int) == 0))) (hv_arith rfl rfl rfl) ?_)
                    refine hl_val rfl rfl (v := (.bool ((x_n : Int) == 0))) (hv_pick_t rfl hg143 rfl) ?_
                    obtain ⟨hw146, H⟩ := H
                    refine hl_step rfl rfl (hn_store (v := (.bool ((x_n : Int) == 0))) rfl rfl TyShO.sz4 rfl hw146 ?_)
                    intro h44 eh145
                    replace H := H h44 eh145
                    refine hl_nil ?_
                    refine seqQ_n ?_
                    exact ⟨⟨H, trivial⟩, (has_cons rfl has_nil)⟩
                  · replace H := H.2 hg143
                    refine hl_no (wanted_n rfl rfl rfl hg143) rfl ?_
                    refine hl_no (wanted_n rfl rfl rfl hg143) rfl ?_
                    refine hl_no (wanted_n rfl rfl rfl hg143) rfl ?_
                    refine hl_val rfl rfl (v := (.bool false)) (hv_pick_f rfl hg143 rfl) ?_
                    obtain ⟨hw148, H⟩ := H
                    refine hl_step rfl rfl (hn_store (v := (.bool false)) rfl rfl TyShO.sz4 rfl hw148 ?_)
                    intro h45 eh147
                    replace H := H h45 eh147
                    refine hl_nil ?_
                    refine seqQ_n ?_
                    exact ⟨⟨H, trivial⟩, (has_cons rfl has_nil)⟩
                · rintro ρ h43 ⟨⟨HA141, -⟩, hH⟩
                  have H := Hy139 h43 HA141; clear Hx138 Hy139
                  refine hx_has _ hH ?_
                  refine hx_ret ?_
                  obtain ⟨res, hc149, H⟩ := H
                  exact endQM_ret _ (fun h' hs => ⟨res_one Try.results7 (rv_cell1 TyShO.agg4 rfl (shut_cell hs hc149)), H h' hs⟩)

/-- cellar/cellarlaw12.stripeOf -/
theorem f16_sh (x_b : Nat) (x_o : Nat) (o_Kind : Int) (o_Entry_Hash : Int) (o_Entry_At : Int) (o_Entry_Version : Int) (o_Entry_Hits : Int) (o_At : Int) (o_N : Int) (o_M : Int) (h : Heap) (R : Value → Heap → Prop)
    (H : (((o_Kind == 6) = true → (∀ (h1 : Heap), Ext h h1 → R (.int .i64 o_N) h1)) ∧ ((o_Kind == 6) = false → (∀ (h1 : Heap), Ext h h1 → (∃ r : Int, HC Try.prog 24 #[(ptr x_b x_o), (.int .u64 o_Entry_Hash)] h1 (fun vv h' => vv = (.int .i64 r) ∧ h' = h1) ∧ R (.int .i64 r) h1))))) :
    HC Try.prog 16 #[(ptr x_b x_o), (.agg #[(.int .i64 o_Kind), (.int .u64 o_Entry_Hash), (.int .u64 o_Entry_At), (.int .u64 o_Entry_Version), (.int .u8 o_Entry_Hits), (.int .u64 o_At), (.int .i64 o_N), (.int .i64 o_M)])] h R := by
  refine hc_of (args := [(ptr x_b x_o), (.agg #[(.int .i64 o_Kind), (.int .u64 o_Entry_Hash), (.int .u64 o_Entry_At), (.int .u64 o_Entry_Version), (.int .u8 o_Entry_Hits), (.int .u64 o_At), (.int .i64 o_N), (.int .i64 o_M)])]) Try.func16 rfl Try.ntmps16 (Nat.le_of_ble_eq_true rfl) ?_
  refine hx_seq ?_
  refine hx_region ?_
  refine hl_step rfl rfl (hn_box (v := (.agg #[(.int .i64 o_Kind), (.int .u64 o_Entry_Hash), (.int .u64 o_Entry_At), (.int .u64 o_Entry_Version), (.int .u8 o_Entry_Hits), (.int .u64 o_At), (.int .i64 o_N), (.int .i64 o_M)])) rfl ?_)
  intro o h1 eb1 eh2
  have xx3 : Ext h h1 := by rw [eh2]; exact Ext.push _ _
  have lo5 : Array.size h ≤ o := Nat.le_of_eq (Eq.symm eb1)
  have hr4 : h1[o]? = some (.cells #[(.int .i64 o_Kind), (.int .u64 o_Entry_Hash), (.int .u64 o_Entry_At), (.int .u64 o_Entry_Version), (.int .u8 o_Entry_Hits), (.int .u64 o_At), (.int .i64 o_N), (.int .i64 o_M)] 33 (0, 0)) := by rw [eh2]; exact push_new eb1
  refine hl_val rfl rfl (v := (.int .i64 0)) (hv_assign rfl) ?_
  refine hl_nil ?_
  refine seqQ_n ?_
  refine hx_seq ?_
  refine hx_seq ?_
  refine hx_region ?_
  refine hl_val rfl rfl (v := (ptr o 0)) (hv_field TyShO.fld33_0 (b := o) (o := 0) rfl) ?_
  refine hl_val rfl rfl (v := (.int .i64 o_Kind)) (hv_load TyShO.agg3 rfl (rowcell hr4 rfl)) ?_
  refine hl_val rfl rfl (v := (.bool (o_Kind == 6))) (hv_arith rfl rfl rfl) ?_
  refine hl_nil ?_
  refine seqQ_n ?_
  refine hx_cond (b := o_Kind == 6) rfl (fun hb6 => ?_) (fun hb6 => ?_)
  · replace H := H.1 hb6
    refine hx_seq ?_
    refine hx_region ?_
    refine hl_val rfl rfl (v := (ptr o 6)) (hv_field TyShO.fld33_3 (b := o) (o := 0) rfl) ?_
    refine hl_val rfl rfl (v := (.int .i64 o_N)) (hv_load TyShO.agg3 rfl (rowcell hr4 rfl)) ?_
    refine hl_val rfl rfl (v := (.int .i64 o_N)) (hv_assign rfl) ?_
    refine hl_nil ?_
    refine seqQ_n ?_
    refine hx_ret ?_
    refine seqQ_ret ?_
    replace H := H h1 xx3
    exact endQ_ret _ (res_one Try.results16 (rv_tmp rfl)) H
  · replace H := H.2 hb6
    refine hx_skip ?_
    refine seqQ_n ?_
    refine hx_seq ?_
    refine hx_region ?_
    refine hl_val rfl rfl (v := (ptr x_b x_o)) (hv_move rfl) ?_
    refine hl_val rfl rfl (v := (ptr o 1)) (hv_field TyShO.fld33_1 (b := o) (o := 0) rfl) ?_
    refine hl_val rfl rfl (v := (ptr o 1)) (hv_field TyShO.fld31_0 (b := o) (o := 1) rfl) ?_
    refine hl_val rfl rfl (v := (.int .u64 o_Entry_Hash)) (hv_load TyShO.agg29 rfl (rowcell hr4 rfl)) ?_
    replace H := H h1 xx3
    obtain ⟨r, hr7, H⟩ := H
    refine hl_val rfl rfl (v := (.int .i64 r)) (hv_call TyShO.cb24 (vs := [(ptr x_b x_o), (.int .u64 o_Entry_Hash)]) rfl hr7) ?_
    refine hl_val rfl rfl (v := (.int .i64 r)) (hv_assign rfl) ?_
    refine hl_nil ?_
    refine seqQ_n ?_
    refine hx_ret ?_
    exact endQ_ret _ (res_one Try.results16 (rv_tmp rfl)) H

end Go.Proofs.Ytkecmljalcfhoaa
