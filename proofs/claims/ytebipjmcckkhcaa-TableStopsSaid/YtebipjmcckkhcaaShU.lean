/-
Shallow forms, written by gen2.py (a program of ours) out of the print of the program.
-/
import Derived.Test.YtebipjmcckkhcaaShP
import Derived.Test.YtebipjmcckkhcaaPrv
import Derived.Test.YtebipjmcckkhcaaSrt
import Derived.Test.YtebipjmcckkhcaaRng
import Derived.Test.YtebipjmcckkhcaaMor
import Derived.Test.YtebipjmcckkhcaaProg
namespace Go.Proofs.Ytebipjmcckkhcaa
open Go
set_option maxRecDepth 100000
set_option maxHeartbeats 4000000

theorem TyShU.agg29 : aggB Try.prog 29 = some false := by kernel_rfl
theorem TyShU.agg3 : aggB Try.prog 3 = some false := by kernel_rfl
theorem TyShU.agg31 : aggB Try.prog 31 = some true := by kernel_rfl
theorem TyShU.agg33 : aggB Try.prog 33 = some true := by kernel_rfl
theorem TyShU.agg35 : aggB Try.prog 35 = some false := by kernel_rfl
theorem TyShU.cb10 : CallB Try.prog 10 := fun _ _ => Try.call10 _ _
theorem TyShU.cb11 : CallB Try.prog 11 := fun _ _ => Try.call11 _ _
theorem TyShU.cb13 : CallB Try.prog 13 := fun _ _ => Try.call13 _ _
theorem TyShU.cb14 : CallB Try.prog 14 := fun _ _ => Try.call14 _ _
theorem TyShU.cb16 : CallB Try.prog 16 := fun _ _ => Try.call16 _ _
theorem TyShU.cb18 : CallB Try.prog 18 := fun _ _ => Try.call18 _ _
theorem TyShU.cb19 : CallB Try.prog 19 := fun _ _ => Try.call19 _ _
theorem TyShU.cb20 : CallB Try.prog 20 := fun _ _ => Try.call20 _ _
theorem TyShU.cb21 : CallB Try.prog 21 := fun _ _ => Try.call21 _ _
theorem TyShU.cb22 : CallB Try.prog 22 := fun _ _ => Try.call22 _ _
theorem TyShU.cb24 : CallB Try.prog 24 := fun _ _ => Try.call24 _ _
theorem TyShU.cb25 : CallB Try.prog 25 := fun _ _ => Try.call25 _ _
theorem TyShU.cb26 : CallB Try.prog 26 := fun _ _ => Try.call26 _ _
theorem TyShU.cb27 : CallB Try.prog 27 := fun _ _ => Try.call27 _ _
theorem TyShU.cb9 : CallB Try.prog 9 := fun _ _ => Try.call9 _ _
theorem TyShU.el22 : elB Try.prog 22 = some 5 := by kernel_rfl
theorem TyShU.el35 : elB Try.prog 35 = some 4 := by kernel_rfl
theorem TyShU.fld31_0 : fldB Try.prog 31 0 = some 0 := by kernel_rfl
theorem TyShU.fld33_0 : fldB Try.prog 33 0 = some 0 := by kernel_rfl
theorem TyShU.fld55_2 : fldB Try.prog 55 2 = some 2 := by kernel_rfl
theorem TyShU.mixed : Try.prog.follows .mixedOrders = true := by kernel_rfl
theorem TyShU.sz31 : szB Try.prog 31 = some 4 := by kernel_rfl
theorem TyShU.sz33 : szB Try.prog 33 = some 5 := by kernel_rfl
theorem TyShU.u22 : Try.prog.underlying 22 = some (.slice 33) := by kernel_rfl
theorem TyShU.u35 : Try.prog.underlying 35 = some (.slice 31) := by kernel_rfl
theorem TyShU.u4 : Try.prog.underlying 4 = some (.bool) := by kernel_rfl
theorem TyShU.up24 : Try.prog.underlying 24 = some (.pointer 60) := by kernel_rfl
theorem TyShU.up47 : Try.prog.underlying 47 = some (.pointer 55) := by kernel_rfl
theorem TyShU.z31 : zeroB Try.prog 31 (.agg #[(.int .u64 0), (.int .u64 0), (.int .u64 0), (.int .u8 0)]) := by unfold zeroB; kernel_rfl

/-- cellar/cellarlaw11.TableOneWay -/
theorem f5_sh (bits : Int) (l : Option Addr) (l_n : Nat) (l_c : Nat) (turn : Int) (h : Heap) (R : Value → Heap → Prop)
    (H : HC Try.prog 9 #[] h (fun vv h1 => ∃ r : Bool, vv = (.bool r) ∧ (((!r) = true → R (.bool false) h1) ∧ ((!r) = false → HC Try.prog 10 #[(.int .i64 bits), (.int .i64 bits)] h1 (fun vv h2 => ∃ r0 : Option Addr, ∃ r1 : Int, vv = (.tuple #[(.pointer r0), (.int .i64 r1)]) ∧ (((r1 != 0) = true → R (.bool r0.isNone) h2) ∧ ((r1 != 0) = false → (∃ (I3 : Int → Heap → Prop) (mu4 : Int → Heap → Nat), I3 0 h2 ∧ (∀ (i : Int) (h3 : Heap), I3 i h3 → (((decide (i < (l_n : Int))) = true → (∃ l_b l_o : Nat, l = some ⟨l_b, l_o, none⟩ ∧ (0 : Int) ≤ i ∧ i < (l_n : Int) ∧ (∃ x_Kind x_Entry_Hash x_Entry_At x_Entry_Version x_Entry_Hits : Int, hcell h3 l_b (l_o + (Int.toNat i) * 5) = some (.int .i64 x_Kind) ∧ hcell h3 l_b ((l_o + (Int.toNat i) * 5) + 1) = some (.int .u64 x_Entry_Hash) ∧ hcell h3 l_b ((l_o + (Int.toNat i) * 5) + 2) = some (.int .u64 x_Entry_At) ∧ hcell h3 l_b ((l_o + (Int.toNat i) * 5) + 3) = some (.int .u64 x_Entry_Version) ∧ hcell h3 l_b ((l_o + (Int.toNat i) * 5) + 4) = some (.int .u8 x_Entry_Hits) ∧ HC Try.prog 11 #[(.pointer r0), (.agg #[(.int .i64 x_Kind), (.int .u64 x_Entry_Hash), (.int .u64 x_Entry_At), (.int .u64 x_Entry_Version), (.int .u8 x_Entry_Hits)])] h3 (fun vv h4 => vv = (.tuple #[]) ∧ (I3 (IntKind.i64.wrap (i + 1)) h4 ∧ mu4 (IntKind.i64.wrap (i + 1)) h4 < mu4 i h3))))) ∧ ((decide (i < (l_n : Int))) = false → HC Try.prog 18 #[(.pointer r0)] h3 (fun vv h5 => ∃ r_1 : Option Addr, ∃ r_n r_c : Nat, vv = (.slice r_1 r_n r_c) ∧ HC Try.prog 10 #[(.int .i64 bits), (.int .i64 bits)] h5 (fun vv h6 => ∃ r0_1 : Option Addr, ∃ r1_1 : Int, vv = (.tuple #[(.pointer r0_1), (.int .i64 r1_1)]) ∧ (∃ A18 : Bool → Heap → Prop, (((r1_1 != 0) = true → (A18 true h6)) ∧ ((r1_1 != 0) = false → ((r0_1.isNone = true → (A18 true h6)) ∧ (r0_1.isNone = false → HC Try.prog 19 #[(.pointer r0)] h6 (fun vv h8 => ∃ r_2 : Int, vv = (.int .i64 r_2) ∧ (A18 ((r_n : Int) != r_2) h8)))))) ∧ (∀ (j : Bool) (h7 : Heap), A18 j h7 → ((j = true → R (.bool false) h7) ∧ (j = false → (∃ fromv : Int, (((decide ((r_n : Int) > 0)) = true → ((r_n : Int) ≠ 0 ∧ (((decide ((Int.tmod turn (r_n : Int)) < 0)) = true → (fromv = (IntKind.i64.wrap ((Int.tmod turn (r_n : Int)) + (r_n : Int))))) ∧ ((decide ((Int.tmod turn (r_n : Int)) < 0)) = false → (fromv = (Int.tmod turn (r_n : Int))))))) ∧ ((decide ((r_n : Int) > 0)) = false → (fromv = 0))) ∧ (∃ (I28 : Int → Heap → Prop) (mu29 : Int → Heap → Nat), I28 0 h7 ∧ (∀ (i_1 : Int) (h9 : Heap), I28 i_1 h9 → (((decide (i_1 < (r_n : Int))) = true → ((r_n : Int) ≠ 0 ∧ (∃ k : Int, ((((Int.tmod turn 2) == 0) = true → ((r_n : Int) ≠ 0 ∧ (k = (Int.tmod (IntKind.i64.wrap ((IntKind.i64.wrap (fromv + (r_n : Int))) - i_1)) (r_n : Int))))) ∧ (((Int.tmod turn 2) == 0) = false → (k = (Int.tmod (IntKind.i64.wrap (fromv + i_1)) (r_n : Int))))) ∧ (∃ r_1_b r_1_o : Nat, r_1 = some ⟨r_1_b, r_1_o, none⟩ ∧ (0 : Int) ≤ k ∧ k < (r_n : Int) ∧ (∃ x_Hash x_At x_Version x_Hits : Int, hcell h9 r_1_b (r_1_o + (Int.toNat k) * 4) = some (.int .u64 x_Hash) ∧ hcell h9 r_1_b ((r_1_o + (Int.toNat k) * 4) + 1) = some (.int .u64 x_At) ∧ hcell h9 r_1_b ((r_1_o + (Int.toNat k) * 4) + 2) = some (.int .u64 x_Version) ∧ hcell h9 r_1_b ((r_1_o + (Int.toNat k) * 4) + 3) = some (.int .u8 x_Hits) ∧ HC Try.prog 14 #[(.pointer r0_1), (.agg #[(.int .u64 x_Hash), (.int .u64 x_At), (.int .u64 x_Version), (.int .u8 x_Hits)])] h9 (fun vv h10 => ∃ r0_Hash r0_At r0_Version r0_Hits : Int, ∃ r1_2 : Bool, ∃ r2 : Int, vv = (.tuple #[(.agg #[(.int .u64 r0_Hash), (.int .u64 r0_At), (.int .u64 r0_Version), (.int .u8 r0_Hits)]), (.bool r1_2), (.int .i64 r2)]) ∧ (((r1_2 || (r2 != 0)) = true → (∀ (h12 : Heap), Ext h10 h12 → R (.bool false) h12)) ∧ ((r1_2 || (r2 != 0)) = false → (∀ (h12 : Heap), Ext h10 h12 → (I28 (IntKind.i64.wrap (i_1 + 1)) h12 ∧ mu29 (IntKind.i64.wrap (i_1 + 1)) h12 < mu29 i_1 h9)))))))))) ∧ ((decide (i_1 < (r_n : Int))) = false → HC Try.prog 13 #[(.pointer r0_1)] h9 (fun vv h13 => ∃ r_3 : Option Addr, ∃ r_n_1 r_c_1 : Nat, vv = (.slice r_3 r_n_1 r_c_1) ∧ HC Try.prog 13 #[(.pointer r0)] h13 (fun vv h14 => ∃ r_4 : Option Addr, ∃ r_n_2 r_c_2 : Nat, vv = (.slice r_4 r_n_2 r_c_2) ∧ (∃ r_5 : Bool, HC Try.prog 20 #[(.slice r_3 r_n_1 r_c_1), (.slice r_4 r_n_2 r_c_2)] h14 (fun vv h' => vv = (.bool r_5) ∧ h' = h14) ∧ R (.bool r_5) h14))))))))))))))))))))))))) :
    HC Try.prog 5 #[(.int .i64 bits), (.slice l l_n l_c), (.int .i64 turn)] h R := by
  refine hc_of (args := [(.int .i64 bits), (.slice l l_n l_c), (.int .i64 turn)]) Try.func5 rfl Try.ntmps5 (Nat.le_of_ble_eq_true rfl) ?_
  refine hx_seq ?_
  refine hx_region ?_
  refine hl_val rfl rfl (v := (.bool false)) (hv_assign rfl) ?_
  refine hl_nil ?_
  refine seqQ_n ?_
  refine hx_seq ?_
  refine hx_seq ?_
  refine hx_region ?_
  refine hl_step rfl rfl (hs_call TyShU.cb9 (vs := []) rfl (HC.mono H ?_))
  rintro _ h1 ⟨r, rfl, H⟩
  refine hl_val rfl rfl (v := (.bool (!r))) (hv_not (b := r) rfl) ?_
  refine hl_nil ?_
  refine seqQ_n ?_
  refine hx_cond (b := !r) rfl (fun hb1 => ?_) (fun hb1 => ?_)
  · replace H := H.1 hb1
    refine hx_seq ?_
    refine hx_region ?_
    refine hl_val rfl rfl (v := (.bool false)) (hv_assign rfl) ?_
    refine hl_nil ?_
    refine seqQ_n ?_
    refine hx_ret ?_
    refine seqQ_ret ?_
    exact endQ_ret _ (res_one Try.results5 (rv_tmp rfl)) H
  · replace H := H.2 hb1
    refine hx_skip ?_
    refine seqQ_n ?_
    refine hx_seq ?_
    refine hx_region ?_
    refine hl_val rfl rfl (v := (.int .i64 bits)) (hv_move rfl) ?_
    refine hl_val rfl rfl (v := (.int .i64 bits)) (hv_move rfl) ?_
    refine hl_step rfl rfl (hs_call TyShU.cb10 (vs := [(.int .i64 bits), (.int .i64 bits)]) rfl (HC.mono H ?_))
    rintro _ h2 ⟨r0, r1, rfl, H⟩
    refine hl_val rfl rfl (v := (.tuple #[(.pointer r0), (.int .i64 r1)])) (hv_move rfl) ?_
    refine hl_val rfl rfl (v := (.pointer r0)) (hv_extract (vs := #[(.pointer r0), (.int .i64 r1)]) rfl rfl) ?_
    refine hl_val rfl rfl (v := (.int .i64 r1)) (hv_extract (vs := #[(.pointer r0), (.int .i64 r1)]) rfl rfl) ?_
    refine hl_val rfl rfl (v := (.pointer r0)) (hv_assign rfl) ?_
    refine hl_val rfl rfl (v := (.int .i64 r1)) (hv_assign rfl) ?_
    refine hl_nil ?_
    refine seqQ_n ?_
    refine hx_seq ?_
    refine hx_seq ?_
    refine hx_region ?_
    refine hl_val rfl rfl (v := (.int .i64 r1)) (hv_move rfl) ?_
    refine hl_val rfl rfl (v := (.bool (r1 != 0))) (hv_arith rfl rfl rfl) ?_
    refine hl_nil ?_
    refine seqQ_n ?_
    refine hx_cond (b := r1 != 0) rfl (fun hb2 => ?_) (fun hb2 => ?_)
    · replace H := H.1 hb2
      refine hx_seq ?_
      refine hx_region ?_
      refine hl_val rfl rfl (v := (.pointer r0)) (hv_move rfl) ?_
      refine hl_val rfl rfl (v := (.bool r0.isNone)) (hv_ptrNil TyShU.up24 rfl rfl) ?_
      refine hl_val rfl rfl (v := (.bool r0.isNone)) (hv_assign rfl) ?_
      refine hl_nil ?_
      refine seqQ_n ?_
      refine hx_ret ?_
      refine seqQ_ret ?_
      exact endQ_ret _ (res_one Try.results5 (rv_tmp rfl)) H
    · replace H := H.2 hb2
      refine hx_skip ?_
      refine seqQ_n ?_
      refine hx_seq ?_
      refine hx_seq ?_
      refine hx_region ?_
      refine hl_val rfl rfl (v := (.int .i64 0)) (hv_assign rfl) ?_
      refine hl_nil ?_
      refine seqQ_n ?_
      refine hx_block ?_
      obtain ⟨I3, mu4, Ha5, Hr6⟩ := H
      refine hx_loopT (σ := Int) (fun s => [(0, (.int .i64 bits)), (1, (.slice l l_n l_c)), (2, (.int .i64 turn)), (7, (.pointer r0)), (9, (.int .i64 s))]) (fun s h' => I3 s h' ∧ True) (fun s h' => mu4 s h') 0 ⟨Ha5, trivial⟩ (has_cons rfl (has_cons rfl (has_cons rfl (has_cons rfl (has_cons rfl has_nil))))) ?_
      rintro i ρ h3 ⟨Hi7, -⟩
      have H := Hr6 i h3 Hi7
      refine hx_seq ?_
      refine hx_seq ?_
      refine hx_region ?_
      refine hl_val rfl rfl (v := (.int .i64 i)) (hv_move rfl) ?_
      refine hl_val rfl rfl (v := (.slice l l_n l_c)) (hv_move rfl) ?_
      refine hl_val rfl rfl (v := (.int .i64 (l_n : Int))) (hv_len (n := l_n) TyShU.u22 rfl) ?_
      refine hl_val rfl rfl (v := (.bool (decide (i < (l_n : Int))))) (hv_arith rfl rfl rfl) ?_
      refine hl_nil ?_
      refine seqQ_n ?_
      refine hx_cond (b := decide (i < (l_n : Int))) rfl (fun hb8 => ?_) (fun hb8 => ?_)
      · replace H := H.1 hb8
        refine hx_skip ?_
        refine seqQ_n ?_
        refine hx_seq ?_
        refine hx_block ?_
        refine hx_region ?_
        refine hl_val rfl rfl (v := (.pointer r0)) (hv_move rfl) ?_
        refine hl_val rfl rfl (v := (.slice l l_n l_c)) (hv_move rfl) ?_
        refine hl_val rfl rfl (v := (.int .i64 i)) (hv_move rfl) ?_
        obtain ⟨l_b, l_o, hqe, hi9, hi10, Hq⟩ := H
        subst hqe
        have H := Hq; clear Hq
        refine hl_val rfl rfl (v := (ptr l_b (l_o + (Int.toNat i) * 5))) (hv_index TyShU.el22 rfl rfl hi9 hi10) ?_
        obtain ⟨x_Kind, x_Entry_Hash, x_Entry_At, x_Entry_Version, x_Entry_Hits, hc11, hc12, hc13, hc14, hc15, H⟩ := H
        refine hl_val rfl rfl (v := (.agg #[(.int .i64 x_Kind), (.int .u64 x_Entry_Hash), (.int .u64 x_Entry_At), (.int .u64 x_Entry_Version), (.int .u8 x_Entry_Hits)])) (hv_loads (vs := [(.int .i64 x_Kind), (.int .u64 x_Entry_Hash), (.int .u64 x_Entry_At), (.int .u64 x_Entry_Version), (.int .u8 x_Entry_Hits)]) TyShU.agg33 TyShU.sz33 rfl (hcells_cons hc11 (hcells_cons hc12 (hcells_cons hc13 (hcells_cons hc14 (hcells_cons hc15 hcells_nil)))))) ?_
        refine hl_step rfl rfl (hs_call TyShU.cb11 (vs := [(.pointer r0), (.agg #[(.int .i64 x_Kind), (.int .u64 x_Entry_Hash), (.int .u64 x_Entry_At), (.int .u64 x_Entry_Version), (.int .u8 x_Entry_Hits)])]) rfl (HC.mono H ?_))
        rintro _ h4 ⟨rfl, H⟩
        refine hl_nil ?_
        refine blockQ_n ?_
        refine seqQ_n ?_
        refine hx_region ?_
        refine hl_val rfl rfl (v := (.int .i64 i)) (hv_move rfl) ?_
        refine hl_val rfl rfl (v := (.int .i64 (IntKind.i64.wrap (i + 1)))) (hv_arith rfl rfl rfl) ?_
        refine hl_val rfl rfl (v := (.int .i64 (IntKind.i64.wrap (i + 1)))) (hv_assign rfl) ?_
        refine hl_nil ?_
        refine seqQ_n ?_
        exact ⟨IntKind.i64.wrap (i + 1), ⟨⟨H.1, trivial⟩, H.2⟩, (has_cons rfl (has_cons rfl (has_cons rfl (has_cons rfl (has_cons rfl has_nil)))))⟩
      · replace H := H.2 hb8
        refine hx_exit ?_
        refine seqQ_exit ?_
        refine seqQ_exit ?_
        refine blockQ_here ?_
        refine seqQ_n ?_
        refine hx_seq ?_
        refine hx_region ?_
        refine hl_val rfl rfl (v := (.pointer r0)) (hv_move rfl) ?_
        refine hl_step rfl rfl (hs_call TyShU.cb18 (vs := [(.pointer r0)]) rfl (HC.mono H ?_))
        rintro _ h5 ⟨r_1, r_n, r_c, rfl, H⟩
        refine hl_val rfl rfl (v := (.slice r_1 r_n r_c)) (hv_assign rfl) ?_
        refine hl_nil ?_
        refine seqQ_n ?_
        refine hx_seq ?_
        refine hx_region ?_
        refine hl_val rfl rfl (v := (.int .i64 bits)) (hv_move rfl) ?_
        refine hl_val rfl rfl (v := (.int .i64 bits)) (hv_move rfl) ?_
        refine hl_step rfl rfl (hs_call TyShU.cb10 (vs := [(.int .i64 bits), (.int .i64 bits)]) rfl (HC.mono H ?_))
        rintro _ h6 ⟨r0_1, r1_1, rfl, H⟩
        refine hl_val rfl rfl (v := (.tuple #[(.pointer r0_1), (.int .i64 r1_1)])) (hv_move rfl) ?_
        refine hl_val rfl rfl (v := (.pointer r0_1)) (hv_extract (vs := #[(.pointer r0_1), (.int .i64 r1_1)]) rfl rfl) ?_
        refine hl_val rfl rfl (v := (.int .i64 r1_1)) (hv_extract (vs := #[(.pointer r0_1), (.int .i64 r1_1)]) rfl rfl) ?_
        refine hl_val rfl rfl (v := (.pointer r0_1)) (hv_assign rfl) ?_
        refine hl_val rfl rfl (v := (.int .i64 r1_1)) (hv_assign rfl) ?_
        refine hl_nil ?_
        refine seqQ_n ?_
        refine hx_seq ?_
        obtain ⟨A18, Hx16, Hy17⟩ := H
        refine hx_cut (fun ρ h' => ∃ j : Bool, (A18 j h' ∧ True) ∧ Has ρ [(2, (.int .i64 turn)), (7, (.pointer r0)), (10, (.slice r_1 r_n r_c)), (11, (.pointer r0_1)), (63, (.bool j))]) ?_ ?_
        · have H := Hx16; clear Hx16 Hy17
          refine hx_region ?_
          refine hl_val rfl rfl (v := (.int .i64 r1_1)) (hv_move rfl) ?_
          refine hl_val rfl rfl (v := (.bool (r1_1 != 0))) (hv_arith rfl rfl rfl) ?_
          refine hl_val rfl rfl (v := (.bool (r1_1 != 0))) (hv_move rfl) ?_
          rcases bool_or (r1_1 != 0) with hg20 | hg20
          · replace H := H.1 hg20
            refine hl_no (wanted_n rfl rfl rfl hg20) rfl ?_
            refine hl_no (wanted_n rfl rfl rfl hg20) rfl ?_
            refine hl_val rfl rfl (v := (.bool true)) (hv_pick_t rfl hg20 rfl) ?_
            refine hl_val rfl rfl (v := (.bool true)) (hv_move rfl) ?_
            refine hl_no (wanted_n rfl rfl (c := true) rfl rfl) rfl ?_
            refine hl_no (wanted_n rfl rfl (c := true) rfl rfl) rfl ?_
            refine hl_no (wanted_n rfl rfl (c := true) rfl rfl) rfl ?_
            refine hl_no (wanted_n rfl rfl (c := true) rfl rfl) rfl ?_
            refine hl_no (wanted_n rfl rfl (c := true) rfl rfl) rfl ?_
            refine hl_val rfl rfl (v := (.bool true)) (hv_pick (t := true) rfl rfl) ?_
            refine hl_nil ?_
            refine seqQ_n ?_
            exact ⟨_, ⟨H, trivial⟩, (has_cons rfl (has_cons rfl (has_cons rfl (has_cons rfl (has_cons rfl has_nil)))))⟩
          · replace H := H.2 hg20
            refine hl_yes (wanted_y rfl rfl rfl hg20) rfl (HStep.of_val (v := (.pointer r0_1)) (hv_move rfl) ?_)
            refine hl_yes (wanted_y rfl rfl rfl hg20) rfl (HStep.of_val (v := (.bool r0_1.isNone)) (hv_ptrNil TyShU.up24 rfl rfl) ?_)
            refine hl_val rfl rfl (v := (.bool r0_1.isNone)) (hv_pick_f rfl hg20 rfl) ?_
            refine hl_val rfl rfl (v := (.bool r0_1.isNone)) (hv_move rfl) ?_
            rcases bool_or (r0_1.isNone) with hg21 | hg21
            · replace H := H.1 hg21
              refine hl_no (wanted_n rfl rfl rfl hg21) rfl ?_
              refine hl_no (wanted_n rfl rfl rfl hg21) rfl ?_
              refine hl_no (wanted_n rfl rfl rfl hg21) rfl ?_
              refine hl_no (wanted_n rfl rfl rfl hg21) rfl ?_
              refine hl_no (wanted_n rfl rfl rfl hg21) rfl ?_
              refine hl_val rfl rfl (v := (.bool true)) (hv_pick_t rfl hg21 rfl) ?_
              refine hl_nil ?_
              refine seqQ_n ?_
              exact ⟨_, ⟨H, trivial⟩, (has_cons rfl (has_cons rfl (has_cons rfl (has_cons rfl (has_cons rfl has_nil)))))⟩
            · replace H := H.2 hg21
              refine hl_yes (wanted_y rfl rfl rfl hg21) rfl (HStep.of_val (v := (.slice r_1 r_n r_c)) (hv_move rfl) ?_)
              refine hl_yes (wanted_y rfl rfl rfl hg21) rfl (HStep.of_val (v := (.int .i64 (r_n : Int))) (hv_len (n := r_n) TyShU.u35 rfl) ?_)
              refine hl_yes (wanted_y rfl rfl rfl hg21) rfl (HStep.of_val (v := (.pointer r0)) (hv_move rfl) ?_)
              refine hl_yes (wanted_y rfl rfl rfl hg21) rfl (hs_call TyShU.cb19 (vs := [(.pointer r0)]) rfl (HC.mono H ?_))
              rintro _ h8 ⟨r_2, rfl, H⟩
              refine hl_yes (wanted_y rfl rfl rfl hg21) rfl (HStep.of_val (v := (.bool ((r_n : Int) != r_2))) (hv_arith rfl rfl rfl) ?_)
              refine hl_val rfl rfl (v := (.bool ((r_n : Int) != r_2))) (hv_pick_f rfl hg21 rfl) ?_
              refine hl_nil ?_
              refine seqQ_n ?_
              exact ⟨_, ⟨H, trivial⟩, (has_cons rfl (has_cons rfl (has_cons rfl (has_cons rfl (has_cons rfl has_nil)))))⟩
        · rintro ρ h7 ⟨j, ⟨HA19, -⟩, hH⟩
          have H := Hy17 j h7 HA19; clear Hx16 Hy17
          refine hx_has _ hH ?_
          refine hx_cond (b := j) rfl (fun hb22 => ?_) (fun hb22 => ?_)
          · replace H := H.1 hb22
            refine hx_seq ?_
            refine hx_region ?_
            refine hl_val rfl rfl (v := (.bool false)) (hv_assign rfl) ?_
            refine hl_nil ?_
            refine seqQ_n ?_
            refine hx_ret ?_
            refine seqQ_ret ?_
            exact endQ_ret _ (res_one Try.results5 (rv_tmp rfl)) H
          · replace H := H.2 hb22
            refine hx_skip ?_
            refine seqQ_n ?_
            refine hx_seq ?_
            refine hx_region ?_
            refine hl_val rfl rfl (v := (.slice r_1 r_n r_c)) (hv_move rfl) ?_
            refine hl_val rfl rfl (v := (.int .i64 (r_n : Int))) (hv_len (n := r_n) TyShU.u35 rfl) ?_
            refine hl_val rfl rfl (v := (.int .i64 (r_n : Int))) (hv_assign rfl) ?_
            refine hl_nil ?_
            refine seqQ_n ?_
            refine hx_seq ?_
            refine hx_region ?_
            refine hl_val rfl rfl (v := (.int .i64 0)) (hv_assign rfl) ?_
            refine hl_nil ?_
            refine seqQ_n ?_
            obtain ⟨fromv, Hx23, Hy24⟩ := H
            refine hx_cut (fun ρ h' => h7 = h' ∧ Has ρ [(2, (.int .i64 turn)), (7, (.pointer r0)), (10, (.slice r_1 r_n r_c)), (11, (.pointer r0_1)), (12, (.int .i64 (r_n : Int))), (13, (.int .i64 fromv))]) ?_ ?_
            · have H := Hx23; clear Hx23 Hy24
              refine hx_seq ?_
              refine hx_region ?_
              refine hl_val rfl rfl (v := (.int .i64 (r_n : Int))) (hv_move rfl) ?_
              refine hl_val rfl rfl (v := (.bool (decide ((r_n : Int) > 0)))) (hv_arith rfl rfl rfl) ?_
              refine hl_nil ?_
              refine seqQ_n ?_
              refine hx_cond (b := decide ((r_n : Int) > 0)) rfl (fun hb25 => ?_) (fun hb25 => ?_)
              · replace H := H.1 hb25
                refine hx_seq ?_
                refine hx_region ?_
                refine hl_val rfl rfl (v := (.int .i64 turn)) (hv_move rfl) ?_
                refine hl_val rfl rfl (v := (.int .i64 (r_n : Int))) (hv_move rfl) ?_
                obtain ⟨hz27, H⟩ := H
                refine hl_val rfl rfl (v := (.int .i64 (Int.tmod turn (r_n : Int)))) (hv_rem rfl rfl hz27) ?_
                refine hl_val rfl rfl (v := (.int .i64 (Int.tmod turn (r_n : Int)))) (hv_assign rfl) ?_
                refine hl_nil ?_
                refine seqQ_n ?_
                refine hx_seq ?_
                refine hx_region ?_
                refine hl_val rfl rfl (v := (.int .i64 (Int.tmod turn (r_n : Int)))) (hv_move rfl) ?_
                refine hl_val rfl rfl (v := (.bool (decide ((Int.tmod turn (r_n : Int)) < 0)))) (hv_arith rfl rfl rfl) ?_
                refine hl_nil ?_
                refine seqQ_n ?_
                refine hx_cond (b := decide ((Int.tmod turn (r_n : Int)) < 0)) rfl (fun hb26 => ?_) (fun hb26 => ?_)
                · replace H := H.1 hb26
                  refine hx_region ?_
                  refine hl_val rfl rfl (v := (.int .i64 (Int.tmod turn (r_n : Int)))) (hv_move rfl) ?_
                  refine hl_val rfl rfl (v := (.int .i64 (r_n : Int))) (hv_move rfl) ?_
                  refine hl_val rfl rfl (v := (.int .i64 (IntKind.i64.wrap ((Int.tmod turn (r_n : Int)) + (r_n : Int))))) (hv_arith rfl rfl rfl) ?_
                  refine hl_val rfl rfl (v := (.int .i64 (IntKind.i64.wrap ((Int.tmod turn (r_n : Int)) + (r_n : Int))))) (hv_assign rfl) ?_
                  refine hl_nil ?_
                  refine seqQ_n ?_
                  obtain rfl := H
                  exact ⟨rfl, (has_cons rfl (has_cons rfl (has_cons rfl (has_cons rfl (has_cons rfl (has_cons rfl has_nil))))))⟩
                · replace H := H.2 hb26
                  refine hx_skip ?_
                  refine seqQ_n ?_
                  obtain rfl := H
                  exact ⟨rfl, (has_cons rfl (has_cons rfl (has_cons rfl (has_cons rfl (has_cons rfl (has_cons rfl has_nil))))))⟩
              · replace H := H.2 hb25
                refine hx_skip ?_
                refine seqQ_n ?_
                obtain rfl := H
                exact ⟨rfl, (has_cons rfl (has_cons rfl (has_cons rfl (has_cons rfl (has_cons rfl (has_cons rfl has_nil))))))⟩
            · have H := Hy24; clear Hx23 Hy24
              rintro ρ _ ⟨rfl, hH⟩
              refine hx_has _ hH ?_
              refine hx_seq ?_
              refine hx_seq ?_
              refine hx_region ?_
              refine hl_val rfl rfl (v := (.int .i64 0)) (hv_assign rfl) ?_
              refine hl_nil ?_
              refine seqQ_n ?_
              refine hx_block ?_
              obtain ⟨I28, mu29, Ha30, Hr31⟩ := H
              refine hx_loopT (σ := Int) (fun s => [(2, (.int .i64 turn)), (7, (.pointer r0)), (10, (.slice r_1 r_n r_c)), (11, (.pointer r0_1)), (12, (.int .i64 (r_n : Int))), (13, (.int .i64 fromv)), (14, (.int .i64 s))]) (fun s h' => I28 s h' ∧ True) (fun s h' => mu29 s h') 0 ⟨Ha30, trivial⟩ (has_cons rfl (has_cons rfl (has_cons rfl (has_cons rfl (has_cons rfl (has_cons rfl (has_cons rfl has_nil))))))) ?_
              rintro i_1 ρ h9 ⟨Hi32, -⟩
              have H := Hr31 i_1 h9 Hi32
              refine hx_seq ?_
              refine hx_seq ?_
              refine hx_region ?_
              refine hl_val rfl rfl (v := (.int .i64 i_1)) (hv_move rfl) ?_
              refine hl_val rfl rfl (v := (.int .i64 (r_n : Int))) (hv_move rfl) ?_
              refine hl_val rfl rfl (v := (.bool (decide (i_1 < (r_n : Int))))) (hv_arith rfl rfl rfl) ?_
              refine hl_nil ?_
              refine seqQ_n ?_
              refine hx_cond (b := decide (i_1 < (r_n : Int))) rfl (fun hb33 => ?_) (fun hb33 => ?_)
              · replace H := H.1 hb33
                refine hx_skip ?_
                refine seqQ_n ?_
                refine hx_seq ?_
                refine hx_block ?_
                refine hx_seq ?_
                refine hx_region ?_
                refine hl_val rfl rfl (v := (.int .i64 fromv)) (hv_move rfl) ?_
                refine hl_val rfl rfl (v := (.int .i64 i_1)) (hv_move rfl) ?_
                refine hl_val rfl rfl (v := (.int .i64 (IntKind.i64.wrap (fromv + i_1)))) (hv_arith rfl rfl rfl) ?_
                refine hl_val rfl rfl (v := (.int .i64 (r_n : Int))) (hv_move rfl) ?_
                obtain ⟨hz55, H⟩ := H
                refine hl_val rfl rfl (v := (.int .i64 (Int.tmod (IntKind.i64.wrap (fromv + i_1)) (r_n : Int)))) (hv_rem rfl rfl hz55) ?_
                refine hl_val rfl rfl (v := (.int .i64 (Int.tmod (IntKind.i64.wrap (fromv + i_1)) (r_n : Int)))) (hv_assign rfl) ?_
                refine hl_nil ?_
                refine seqQ_n ?_
                obtain ⟨k, Hx34, Hy35⟩ := H
                refine hx_cut (fun ρ h' => h9 = h' ∧ Has ρ [(2, (.int .i64 turn)), (7, (.pointer r0)), (10, (.slice r_1 r_n r_c)), (11, (.pointer r0_1)), (12, (.int .i64 (r_n : Int))), (13, (.int .i64 fromv)), (14, (.int .i64 i_1)), (15, (.int .i64 k))]) ?_ ?_
                · have H := Hx34; clear Hx34 Hy35
                  refine hx_seq ?_
                  refine hx_region ?_
                  refine hl_val rfl rfl (v := (.int .i64 turn)) (hv_move rfl) ?_
                  refine hl_val rfl rfl (v := (.int .i64 (Int.tmod turn 2))) (hv_rem rfl rfl (by decide)) ?_
                  refine hl_val rfl rfl (v := (.bool ((Int.tmod turn 2) == 0))) (hv_arith rfl rfl rfl) ?_
                  refine hl_nil ?_
                  refine seqQ_n ?_
                  refine hx_cond (b := (Int.tmod turn 2) == 0) rfl (fun hb36 => ?_) (fun hb36 => ?_)
                  · replace H := H.1 hb36
                    refine hx_region ?_
                    refine hl_val rfl rfl (v := (.int .i64 fromv)) (hv_move rfl) ?_
                    refine hl_val rfl rfl (v := (.int .i64 (r_n : Int))) (hv_move rfl) ?_
                    refine hl_val rfl rfl (v := (.int .i64 (IntKind.i64.wrap (fromv + (r_n : Int))))) (hv_arith rfl rfl rfl) ?_
                    refine hl_val rfl rfl (v := (.int .i64 i_1)) (hv_move rfl) ?_
                    refine hl_val rfl rfl (v := (.int .i64 (IntKind.i64.wrap ((IntKind.i64.wrap (fromv + (r_n : Int))) - i_1)))) (hv_arith rfl rfl rfl) ?_
                    refine hl_val rfl rfl (v := (.int .i64 (r_n : Int))) (hv_move rfl) ?_
                    obtain ⟨hz37, H⟩ := H
                    refine hl_val rfl rfl (v := (.int .i64 (Int.tmod (IntKind.i64.wrap ((IntKind.i64.wrap (fromv + (r_n : Int))) - i_1)) (r_n : Int)))) (hv_rem rfl rfl hz37) ?_
                    refine hl_val rfl rfl (v := (.int .i64 (Int.tmod (IntKind.i64.wrap ((IntKind.i64.wrap (fromv + (r_n : Int))) - i_1)) (r_n : Int)))) (hv_assign rfl) ?_
                    refine hl_nil ?_
                    refine seqQ_n ?_
                    obtain rfl := H
                    exact ⟨rfl, (has_cons rfl (has_cons rfl (has_cons rfl (has_cons rfl (has_cons rfl (has_cons rfl (has_cons rfl (has_cons rfl has_nil))))))))⟩
                  · replace H := H.2 hb36
                    refine hx_skip ?_
                    refine seqQ_n ?_
                    obtain rfl := H
                    exact ⟨rfl, (has_cons rfl (has_cons rfl (has_cons rfl (has_cons rfl (has_cons rfl (has_cons rfl (has_cons rfl (has_cons rfl has_nil))))))))⟩
                · have H := Hy35; clear Hx34 Hy35
                  rintro ρ _ ⟨rfl, hH⟩
                  refine hx_has _ hH ?_
                  refine hx_seq ?_
                  refine hx_region ?_
                  refine hl_val rfl rfl (v := (.pointer r0_1)) (hv_move rfl) ?_
                  refine hl_val rfl rfl (v := (.slice r_1 r_n r_c)) (hv_move rfl) ?_
                  refine hl_val rfl rfl (v := (.int .i64 k)) (hv_move rfl) ?_
                  obtain ⟨r_1_b, r_1_o, hqe, hi38, hi39, Hq⟩ := H
                  subst hqe
                  have H := Hq; clear Hq
                  refine hl_val rfl rfl (v := (ptr r_1_b (r_1_o + (Int.toNat k) * 4))) (hv_index TyShU.el35 rfl rfl hi38 hi39) ?_
                  obtain ⟨x_Hash, x_At, x_Version, x_Hits, hc40, hc41, hc42, hc43, H⟩ := H
                  refine hl_val rfl rfl (v := (.agg #[(.int .u64 x_Hash), (.int .u64 x_At), (.int .u64 x_Version), (.int .u8 x_Hits)])) (hv_loads (vs := [(.int .u64 x_Hash), (.int .u64 x_At), (.int .u64 x_Version), (.int .u8 x_Hits)]) TyShU.agg31 TyShU.sz31 rfl (hcells_cons hc40 (hcells_cons hc41 (hcells_cons hc42 (hcells_cons hc43 hcells_nil))))) ?_
                  refine hl_step rfl rfl (hs_call TyShU.cb14 (vs := [(.pointer r0_1), (.agg #[(.int .u64 x_Hash), (.int .u64 x_At), (.int .u64 x_Version), (.int .u8 x_Hits)])]) rfl (HC.mono H ?_))
                  rintro _ h10 ⟨r0_Hash, r0_At, r0_Version, r0_Hits, r1_2, r2, rfl, H⟩
                  refine hl_val rfl rfl (v := (.tuple #[(.agg #[(.int .u64 r0_Hash), (.int .u64 r0_At), (.int .u64 r0_Version), (.int .u8 r0_Hits)]), (.bool r1_2), (.int .i64 r2)])) (hv_move rfl) ?_
                  refine hl_val rfl rfl (v := (.agg #[(.int .u64 r0_Hash), (.int .u64 r0_At), (.int .u64 r0_Version), (.int .u8 r0_Hits)])) (hv_extract (vs := #[(.agg #[(.int .u64 r0_Hash), (.int .u64 r0_At), (.int .u64 r0_Version), (.int .u8 r0_Hits)]), (.bool r1_2), (.int .i64 r2)]) rfl rfl) ?_
                  refine hl_val rfl rfl (v := (.bool r1_2)) (hv_extract (vs := #[(.agg #[(.int .u64 r0_Hash), (.int .u64 r0_At), (.int .u64 r0_Version), (.int .u8 r0_Hits)]), (.bool r1_2), (.int .i64 r2)]) rfl rfl) ?_
                  refine hl_val rfl rfl (v := (.int .i64 r2)) (hv_extract (vs := #[(.agg #[(.int .u64 r0_Hash), (.int .u64 r0_At), (.int .u64 r0_Version), (.int .u8 r0_Hits)]), (.bool r1_2), (.int .i64 r2)]) rfl rfl) ?_
                  refine hl_step rfl rfl (hn_alloc TyShU.z31 ?_)
                  intro x h11 eb44 eh45
                  have xx46 : Ext h10 h11 := by rw [eh45]; exact Ext.push _ _
                  have lo48 : Array.size h10 ≤ x := Nat.le_of_eq (Eq.symm eb44)
                  have hr47 : h11[x]? = some (.cells #[(.int .u64 0), (.int .u64 0), (.int .u64 0), (.int .u8 0)] 31 (0, 0)) := by rw [eh45]; exact push_new eb44
                  refine hl_step rfl rfl (hn_stores (vs := [(.int .u64 r0_Hash), (.int .u64 r0_At), (.int .u64 r0_Version), (.int .u8 r0_Hits)]) rfl rfl TyShU.sz31 rfl (HWs_row hr47 (by simp)) ?_)
                  intro h12 eh49
                  have hr47' : h12[x]? = some (.cells #[(.int .u64 r0_Hash), (.int .u64 r0_At), (.int .u64 r0_Version), (.int .u8 r0_Hits)] 31 (0, 0)) := row_hsets_eq eh49 hr47 rfl
                  have xv50 := ext_hsets eh49 xx46 lo48
                  refine hl_val rfl rfl (v := (.bool r1_2)) (hv_assign rfl) ?_
                  refine hl_val rfl rfl (v := (.int .i64 r2)) (hv_assign rfl) ?_
                  refine hl_nil ?_
                  refine seqQ_n ?_
                  refine hx_cut (fun ρ h' => h12 = h' ∧ Has ρ [(2, (.int .i64 turn)), (7, (.pointer r0)), (10, (.slice (some ⟨r_1_b, r_1_o, none⟩) r_n r_c)), (11, (.pointer r0_1)), (12, (.int .i64 (r_n : Int))), (13, (.int .i64 fromv)), (14, (.int .i64 i_1)), (110, (.bool (r1_2 || (r2 != 0))))]) ?_ ?_
                  · refine hx_region ?_
                    refine hl_val rfl rfl (v := (.bool r1_2)) (hv_move rfl) ?_
                    refine hl_val rfl rfl (v := (.bool r1_2)) (hv_move rfl) ?_
                    rcases bool_or (r1_2) with hg53 | hg53
                    · refine hl_no (wanted_n rfl rfl rfl hg53) rfl ?_
                      refine hl_no (wanted_n rfl rfl rfl hg53) rfl ?_
                      refine hl_val rfl rfl (v := (.bool true)) (hv_pick_t rfl hg53 rfl) ?_
                      refine hl_nil ?_
                      refine seqQ_n ?_
                      exact ⟨rfl, (has_cons rfl (has_cons rfl (has_cons rfl (has_cons rfl (has_cons rfl (has_cons rfl (has_cons rfl (has_cons (show ((.bool true) : Value) = (.bool (r1_2 || (r2 != 0))) from (by first | rfl | (try rw [hg53]; all_goals first | rfl | (simp only [Bool.true_or, Bool.or_true, Bool.false_or, Bool.or_false, Bool.true_and, Bool.and_true, Bool.false_and, Bool.and_false, Bool.not_true, Bool.not_false, Bool.cond_true, Bool.cond_false]; done)) | simp [hg53])) has_nil))))))))⟩
                    · refine hl_yes (wanted_y rfl rfl rfl hg53) rfl (HStep.of_val (v := (.int .i64 r2)) (hv_move rfl) ?_)
                      refine hl_yes (wanted_y rfl rfl rfl hg53) rfl (HStep.of_val (v := (.bool (r2 != 0))) (hv_arith rfl rfl rfl) ?_)
                      refine hl_val rfl rfl (v := (.bool (r2 != 0))) (hv_pick_f rfl hg53 rfl) ?_
                      refine hl_nil ?_
                      refine seqQ_n ?_
                      exact ⟨rfl, (has_cons rfl (has_cons rfl (has_cons rfl (has_cons rfl (has_cons rfl (has_cons rfl (has_cons rfl (has_cons (show ((.bool (r2 != 0)) : Value) = (.bool (r1_2 || (r2 != 0))) from (by first | rfl | (try rw [hg53]; all_goals first | rfl | (simp only [Bool.true_or, Bool.or_true, Bool.false_or, Bool.or_false, Bool.true_and, Bool.and_true, Bool.false_and, Bool.and_false, Bool.not_true, Bool.not_false, Bool.cond_true, Bool.cond_false]; done)) | simp [hg53])) has_nil))))))))⟩
                  · rintro ρ _ ⟨rfl, hH⟩
                    refine hx_has _ hH ?_
                    refine hx_cond (b := (r1_2 || (r2 != 0))) rfl (fun hb54 => ?_) (fun hb54 => ?_)
                    · replace H := H.1 hb54
                      refine hx_seq ?_
                      refine hx_region ?_
                      refine hl_val rfl rfl (v := (.bool false)) (hv_assign rfl) ?_
                      refine hl_nil ?_
                      refine seqQ_n ?_
                      refine hx_ret ?_
                      refine blockQ_ret ?_
                      refine seqQ_ret ?_
                      refine seqQ_ret ?_
                      refine blockQ_ret ?_
                      refine seqQ_ret ?_
                      replace H := H h12 xv50
                      exact endQ_ret _ (res_one Try.results5 (rv_tmp rfl)) H
                    · replace H := H.2 hb54
                      refine hx_skip ?_
                      refine blockQ_n ?_
                      refine seqQ_n ?_
                      refine hx_region ?_
                      refine hl_val rfl rfl (v := (.int .i64 i_1)) (hv_move rfl) ?_
                      refine hl_val rfl rfl (v := (.int .i64 (IntKind.i64.wrap (i_1 + 1)))) (hv_arith rfl rfl rfl) ?_
                      refine hl_val rfl rfl (v := (.int .i64 (IntKind.i64.wrap (i_1 + 1)))) (hv_assign rfl) ?_
                      refine hl_nil ?_
                      replace H := H h12 xv50
                      refine seqQ_n ?_
                      exact ⟨IntKind.i64.wrap (i_1 + 1), ⟨⟨H.1, trivial⟩, H.2⟩, (has_cons rfl (has_cons rfl (has_cons rfl (has_cons rfl (has_cons rfl (has_cons rfl (has_cons rfl has_nil)))))))⟩
              · replace H := H.2 hb33
                refine hx_exit ?_
                refine seqQ_exit ?_
                refine seqQ_exit ?_
                refine blockQ_here ?_
                refine seqQ_n ?_
                refine hx_seq ?_
                refine hx_region ?_
                refine hl_val rfl rfl (v := (.pointer r0_1)) (hv_move rfl) ?_
                refine hl_step rfl rfl (hs_call TyShU.cb13 (vs := [(.pointer r0_1)]) rfl (HC.mono H ?_))
                rintro _ h13 ⟨r_3, r_n_1, r_c_1, rfl, H⟩
                refine hl_val rfl rfl (v := (.pointer r0)) (hv_move rfl) ?_
                refine hl_step rfl rfl (hs_call TyShU.cb13 (vs := [(.pointer r0)]) rfl (HC.mono H ?_))
                rintro _ h14 ⟨r_4, r_n_2, r_c_2, rfl, H⟩
                obtain ⟨r_5, hr56, H⟩ := H
                refine hl_val rfl rfl (v := (.bool r_5)) (hv_call TyShU.cb20 (vs := [(.slice r_3 r_n_1 r_c_1), (.slice r_4 r_n_2 r_c_2)]) rfl hr56) ?_
                refine hl_val rfl rfl (v := (.bool r_5)) (hv_assign rfl) ?_
                refine hl_nil ?_
                refine seqQ_n ?_
                refine hx_ret ?_
                exact endQ_ret _ (res_one Try.results5 (rv_tmp rfl)) H

/-- cellar/cellarlaw11.TablePlays -/
theorem f7_sh (bits : Int) (most : Int) (l : Option Addr) (l_n : Nat) (l_c : Nat) (h : Heap) (R : Value → Heap → Prop)
    (H : HC Try.prog 9 #[] h (fun vv h1 => ∃ r : Bool, vv = (.bool r) ∧ (((!r) = true → R (.bool false) h1) ∧ ((!r) = false → HC Try.prog 10 #[(.int .i64 bits), (.int .i64 most)] h1 (fun vv h2 => ∃ r0 : Option Addr, ∃ r1 : Int, vv = (.tuple #[(.pointer r0), (.int .i64 r1)]) ∧ HC Try.prog 21 #[(.int .i64 bits), (.int .i64 most)] h2 (fun vv h3 => ∃ r0_1 : Option Addr, ∃ r1_1 : Int, vv = (.tuple #[(.pointer r0_1), (.int .i64 r1_1)]) ∧ ((((r1 != r1_1) || (r0.isNone != r0_1.isNone)) = true → R (.bool false) h3) ∧ (((r1 != r1_1) || (r0.isNone != r0_1.isNone)) = false → ((r0_1.isNone = true → R (.bool true) h3) ∧ (r0_1.isNone = false → (∃ (I7 : Option Addr → Int → Heap → Prop) (mu8 : Option Addr → Int → Heap → Nat), I7 r0 0 h3 ∧ (∀ (t : Option Addr) (i : Int) (h4 : Heap), I7 t i h4 → (((decide (i < (l_n : Int))) = true → (∃ A15 : Option Addr → Heap → Prop, (∃ l_b l_o : Nat, l = some ⟨l_b, l_o, none⟩ ∧ (0 : Int) ≤ i ∧ i < (l_n : Int) ∧ (∃ x : Int, hcell h4 l_b (l_o + (Int.toNat i) * 5) = some (.int .i64 x) ∧ (((x == 8) = true → HC Try.prog 24 #[(.pointer t)] h4 (fun vv h6 => ∃ r_1 : Option Addr, vv = (.pointer r_1) ∧ ((r_1.isNone = true → R (.bool false) h6) ∧ (r_1.isNone = false → (∃ (I22 : Int → Heap → Prop) (mu23 : Int → Heap → Nat), I22 0 h6 ∧ (∀ (k : Int) (h7 : Heap), I22 k h7 → (∃ r0_1_b r0_1_o : Nat, r0_1 = some ⟨r0_1_b, r0_1_o, none⟩ ∧ (∃ x_1 : Option Addr, ∃ x_n x_c : Nat, hcell h7 r0_1_b (r0_1_o + 2) = some (.slice x_1 x_n x_c) ∧ (((decide (k < (x_n : Int))) = true → (∃ x_1_b x_1_o : Nat, x_1 = some ⟨x_1_b, x_1_o, none⟩ ∧ (0 : Int) ≤ k ∧ k < (x_n : Int) ∧ (∃ x_2 : Int, hcell h7 x_1_b (x_1_o + (Int.toNat k) * 4) = some (.int .u64 x_2) ∧ HC Try.prog 16 #[(.pointer t), (.int .u64 x_2)] h7 (fun vv h8 => ∃ r0_Hash r0_At r0_Version r0_Hits : Int, ∃ r1_2 : Bool, vv = (.tuple #[(.agg #[(.int .u64 r0_Hash), (.int .u64 r0_At), (.int .u64 r0_Version), (.int .u8 r0_Hits)]), (.bool r1_2)]) ∧ (I22 (IntKind.i64.wrap (k + 1)) h8 ∧ mu23 (IntKind.i64.wrap (k + 1)) h8 < mu23 k h7))))) ∧ ((decide (k < (x_n : Int))) = false → (A15 r_1 h7))))))))))) ∧ ((x == 8) = false → (∃ x_Kind x_Entry_Hash x_Entry_At x_Entry_Version x_Entry_Hits : Int, hcell h4 l_b (l_o + (Int.toNat i) * 5) = some (.int .i64 x_Kind) ∧ hcell h4 l_b ((l_o + (Int.toNat i) * 5) + 1) = some (.int .u64 x_Entry_Hash) ∧ hcell h4 l_b ((l_o + (Int.toNat i) * 5) + 2) = some (.int .u64 x_Entry_At) ∧ hcell h4 l_b ((l_o + (Int.toNat i) * 5) + 3) = some (.int .u64 x_Entry_Version) ∧ hcell h4 l_b ((l_o + (Int.toNat i) * 5) + 4) = some (.int .u8 x_Entry_Hits) ∧ HC Try.prog 22 #[(.pointer t), (.pointer r0_1), (.agg #[(.int .i64 x_Kind), (.int .u64 x_Entry_Hash), (.int .u64 x_Entry_At), (.int .u64 x_Entry_Version), (.int .u8 x_Entry_Hits)])] h4 (fun vv h9 => ∃ r_1 : Bool, vv = (.bool r_1) ∧ (((!r_1) = true → R (.bool false) h9) ∧ ((!r_1) = false → (A15 t h9))))))))) ∧ (∀ (t_1 : Option Addr) (h5 : Heap), A15 t_1 h5 → (I7 t_1 (IntKind.i64.wrap (i + 1)) h5 ∧ mu8 t_1 (IntKind.i64.wrap (i + 1)) h5 < mu8 t i h4)))) ∧ ((decide (i < (l_n : Int))) = false → (∃ A42 : Bool → Heap → Prop, (∃ T44 : Heap → Heap → Prop, Fit T44 ∧ HC Try.prog 13 #[(.pointer t)] h4 (fun vv h11 => T44 h4 h11 ∧ ∃ r_1 : Option Addr, ∃ r_n r_c : Nat, vv = (.slice r_1 r_n r_c) ∧ HC Try.prog 25 #[(.pointer r0_1)] h11 (fun vv h12 => T44 h11 h12 ∧ ∃ r_2 : Option Addr, ∃ r_n_1 r_c_1 : Nat, vv = (.slice r_2 r_n_1 r_c_1) ∧ (∃ r_3 : Bool, (∀ h17, T44 h12 h17 → HC Try.prog 20 #[(.slice r_1 r_n r_c), (.slice r_2 r_n_1 r_c_1)] h17 (fun vv h' => vv = (.bool r_3) ∧ h' = h17)) ∧ ((r_3 = true → (∃ r0_1_b r0_1_o : Nat, r0_1 = some ⟨r0_1_b, r0_1_o, none⟩ ∧ (∃ x : Option Addr, ∃ x_n x_c : Nat, (∀ hx, T44 h12 hx → hcell hx r0_1_b (r0_1_o + 2) = some (.slice x x_n x_c)) ∧ HC Try.prog 18 #[(.pointer t)] h12 (fun vv h13 => T44 h12 h13 ∧ ∃ r_4 : Option Addr, ∃ r_n_2 r_c_2 : Nat, vv = (.slice r_4 r_n_2 r_c_2) ∧ (∃ r_5 : Bool, (∀ h16, T44 h13 h16 → HC Try.prog 20 #[(.slice r_4 r_n_2 r_c_2), (.slice x x_n x_c)] h16 (fun vv h' => vv = (.bool r_5) ∧ h' = h16)) ∧ ((r_5 = true → HC Try.prog 26 #[(.pointer t)] h13 (fun vv h14 => ∃ r_6 : Int, vv = (.int .i64 r_6) ∧ HC Try.prog 27 #[(ptr r0_1_b r0_1_o)] h14 (fun vv h15 => ∃ r_7 : Int, vv = (.int .i64 r_7) ∧ (A42 (r_6 == r_7) h15)))) ∧ (r_5 = false → (A42 false h13)))))))) ∧ (r_3 = false → (A42 false h12))))))) ∧ (∀ (j_1 : Bool) (h10 : Heap), A42 j_1 h10 → R (.bool j_1) h10)))))))))))))))) :
    HC Try.prog 7 #[(.int .i64 bits), (.int .i64 most), (.slice l l_n l_c)] h R := by
  refine hc_of (args := [(.int .i64 bits), (.int .i64 most), (.slice l l_n l_c)]) Try.func7 rfl Try.ntmps7 (Nat.le_of_ble_eq_true rfl) ?_
  refine hx_seq ?_
  refine hx_region ?_
  refine hl_val rfl rfl (v := (.bool false)) (hv_assign rfl) ?_
  refine hl_nil ?_
  refine seqQ_n ?_
  refine hx_seq ?_
  refine hx_seq ?_
  refine hx_region ?_
  refine hl_step rfl rfl (hs_call TyShU.cb9 (vs := []) rfl (HC.mono H ?_))
  rintro _ h1 ⟨r, rfl, H⟩
  refine hl_val rfl rfl (v := (.bool (!r))) (hv_not (b := r) rfl) ?_
  refine hl_nil ?_
  refine seqQ_n ?_
  refine hx_cond (b := !r) rfl (fun hb1 => ?_) (fun hb1 => ?_)
  · replace H := H.1 hb1
    refine hx_seq ?_
    refine hx_region ?_
    refine hl_val rfl rfl (v := (.bool false)) (hv_assign rfl) ?_
    refine hl_nil ?_
    refine seqQ_n ?_
    refine hx_ret ?_
    refine seqQ_ret ?_
    exact endQ_ret _ (res_one Try.results7 (rv_tmp rfl)) H
  · replace H := H.2 hb1
    refine hx_skip ?_
    refine seqQ_n ?_
    refine hx_seq ?_
    refine hx_region ?_
    refine hl_val rfl rfl (v := (.int .i64 bits)) (hv_move rfl) ?_
    refine hl_val rfl rfl (v := (.int .i64 most)) (hv_move rfl) ?_
    refine hl_step rfl rfl (hs_call TyShU.cb10 (vs := [(.int .i64 bits), (.int .i64 most)]) rfl (HC.mono H ?_))
    rintro _ h2 ⟨r0, r1, rfl, H⟩
    refine hl_val rfl rfl (v := (.tuple #[(.pointer r0), (.int .i64 r1)])) (hv_move rfl) ?_
    refine hl_val rfl rfl (v := (.pointer r0)) (hv_extract (vs := #[(.pointer r0), (.int .i64 r1)]) rfl rfl) ?_
    refine hl_val rfl rfl (v := (.int .i64 r1)) (hv_extract (vs := #[(.pointer r0), (.int .i64 r1)]) rfl rfl) ?_
    refine hl_val rfl rfl (v := (.pointer r0)) (hv_assign rfl) ?_
    refine hl_val rfl rfl (v := (.int .i64 r1)) (hv_assign rfl) ?_
    refine hl_nil ?_
    refine seqQ_n ?_
    refine hx_seq ?_
    refine hx_region ?_
    refine hl_val rfl rfl (v := (.int .i64 bits)) (hv_move rfl) ?_
    refine hl_val rfl rfl (v := (.int .i64 most)) (hv_move rfl) ?_
    refine hl_step rfl rfl (hs_call TyShU.cb21 (vs := [(.int .i64 bits), (.int .i64 most)]) rfl (HC.mono H ?_))
    rintro _ h3 ⟨r0_1, r1_1, rfl, H⟩
    refine hl_val rfl rfl (v := (.tuple #[(.pointer r0_1), (.int .i64 r1_1)])) (hv_move rfl) ?_
    refine hl_val rfl rfl (v := (.pointer r0_1)) (hv_extract (vs := #[(.pointer r0_1), (.int .i64 r1_1)]) rfl rfl) ?_
    refine hl_val rfl rfl (v := (.int .i64 r1_1)) (hv_extract (vs := #[(.pointer r0_1), (.int .i64 r1_1)]) rfl rfl) ?_
    refine hl_val rfl rfl (v := (.pointer r0_1)) (hv_assign rfl) ?_
    refine hl_val rfl rfl (v := (.int .i64 r1_1)) (hv_assign rfl) ?_
    refine hl_nil ?_
    refine seqQ_n ?_
    refine hx_seq ?_
    refine hx_cut (fun ρ h' => h3 = h' ∧ Has ρ [(2, (.slice l l_n l_c)), (7, (.pointer r0)), (9, (.pointer r0_1)), (37, (.bool ((r1 != r1_1) || (r0.isNone != r0_1.isNone))))]) ?_ ?_
    · refine hx_region ?_
      refine hl_val rfl rfl (v := (.int .i64 r1)) (hv_move rfl) ?_
      refine hl_val rfl rfl (v := (.int .i64 r1_1)) (hv_move rfl) ?_
      refine hl_val rfl rfl (v := (.bool (r1 != r1_1))) (hv_arith rfl rfl rfl) ?_
      refine hl_val rfl rfl (v := (.bool (r1 != r1_1))) (hv_move rfl) ?_
      rcases bool_or (r1 != r1_1) with hg4 | hg4
      · refine hl_no (wanted_n rfl rfl rfl hg4) rfl ?_
        refine hl_no (wanted_n rfl rfl rfl hg4) rfl ?_
        refine hl_no (wanted_n rfl rfl rfl hg4) rfl ?_
        refine hl_no (wanted_n rfl rfl rfl hg4) rfl ?_
        refine hl_no (wanted_n rfl rfl rfl hg4) rfl ?_
        refine hl_val rfl rfl (v := (.bool true)) (hv_pick_t rfl hg4 rfl) ?_
        refine hl_nil ?_
        refine seqQ_n ?_
        exact ⟨rfl, (has_cons rfl (has_cons rfl (has_cons rfl (has_cons (show ((.bool true) : Value) = (.bool ((r1 != r1_1) || (r0.isNone != r0_1.isNone))) from (by first | rfl | (try rw [hg4]; all_goals first | rfl | (simp only [Bool.true_or, Bool.or_true, Bool.false_or, Bool.or_false, Bool.true_and, Bool.and_true, Bool.false_and, Bool.and_false, Bool.not_true, Bool.not_false, Bool.cond_true, Bool.cond_false]; done)) | simp [hg4])) has_nil))))⟩
      · refine hl_yes (wanted_y rfl rfl rfl hg4) rfl (HStep.of_val (v := (.pointer r0)) (hv_move rfl) ?_)
        refine hl_yes (wanted_y rfl rfl rfl hg4) rfl (HStep.of_val (v := (.bool r0.isNone)) (hv_ptrNil TyShU.up24 rfl rfl) ?_)
        refine hl_yes (wanted_y rfl rfl rfl hg4) rfl (HStep.of_val (v := (.pointer r0_1)) (hv_move rfl) ?_)
        refine hl_yes (wanted_y rfl rfl rfl hg4) rfl (HStep.of_val (v := (.bool r0_1.isNone)) (hv_ptrNil TyShU.up47 rfl rfl) ?_)
        refine hl_yes (wanted_y rfl rfl rfl hg4) rfl (HStep.of_val (v := (.bool (r0.isNone != r0_1.isNone))) (hv_eqBool TyShU.u4 rfl rfl rfl) ?_)
        refine hl_val rfl rfl (v := (.bool (r0.isNone != r0_1.isNone))) (hv_pick_f rfl hg4 rfl) ?_
        refine hl_nil ?_
        refine seqQ_n ?_
        exact ⟨rfl, (has_cons rfl (has_cons rfl (has_cons rfl (has_cons (show ((.bool (r0.isNone != r0_1.isNone)) : Value) = (.bool ((r1 != r1_1) || (r0.isNone != r0_1.isNone))) from (by first | rfl | (try rw [hg4]; all_goals first | rfl | (simp only [Bool.true_or, Bool.or_true, Bool.false_or, Bool.or_false, Bool.true_and, Bool.and_true, Bool.false_and, Bool.and_false, Bool.not_true, Bool.not_false, Bool.cond_true, Bool.cond_false]; done)) | simp [hg4])) has_nil))))⟩
    · rintro ρ _ ⟨rfl, hH⟩
      refine hx_has _ hH ?_
      refine hx_cond (b := ((r1 != r1_1) || (r0.isNone != r0_1.isNone))) rfl (fun hb5 => ?_) (fun hb5 => ?_)
      · replace H := H.1 hb5
        refine hx_seq ?_
        refine hx_region ?_
        refine hl_val rfl rfl (v := (.bool false)) (hv_assign rfl) ?_
        refine hl_nil ?_
        refine seqQ_n ?_
        refine hx_ret ?_
        refine seqQ_ret ?_
        exact endQ_ret _ (res_one Try.results7 (rv_tmp rfl)) H
      · replace H := H.2 hb5
        refine hx_skip ?_
        refine seqQ_n ?_
        refine hx_seq ?_
        refine hx_seq ?_
        refine hx_region ?_
        refine hl_val rfl rfl (v := (.pointer r0_1)) (hv_move rfl) ?_
        refine hl_val rfl rfl (v := (.bool r0_1.isNone)) (hv_ptrNil TyShU.up47 rfl rfl) ?_
        refine hl_nil ?_
        refine seqQ_n ?_
        refine hx_cond (b := r0_1.isNone) rfl (fun hb6 => ?_) (fun hb6 => ?_)
        · replace H := H.1 hb6
          refine hx_seq ?_
          refine hx_region ?_
          refine hl_val rfl rfl (v := (.bool true)) (hv_assign rfl) ?_
          refine hl_nil ?_
          refine seqQ_n ?_
          refine hx_ret ?_
          refine seqQ_ret ?_
          exact endQ_ret _ (res_one Try.results7 (rv_tmp rfl)) H
        · replace H := H.2 hb6
          refine hx_skip ?_
          refine seqQ_n ?_
          refine hx_seq ?_
          refine hx_seq ?_
          refine hx_region ?_
          refine hl_val rfl rfl (v := (.int .i64 0)) (hv_assign rfl) ?_
          refine hl_nil ?_
          refine seqQ_n ?_
          refine hx_block ?_
          obtain ⟨I7, mu8, Ha9, Hr10⟩ := H
          refine hx_loopT (σ := Option Addr × Int) (fun s => [(2, (.slice l l_n l_c)), (7, (.pointer s.1)), (9, (.pointer r0_1)), (11, (.int .i64 s.2))]) (fun s h' => I7 s.1 s.2 h' ∧ True) (fun s h' => mu8 s.1 s.2 h') (r0, 0) ⟨Ha9, trivial⟩ (has_cons rfl (has_cons rfl (has_cons rfl (has_cons rfl has_nil)))) ?_
          rintro ⟨t, i⟩ ρ h4 ⟨Hi11, -⟩
          have H := Hr10 t i h4 Hi11
          refine hx_seq ?_
          refine hx_seq ?_
          refine hx_region ?_
          refine hl_val rfl rfl (v := (.int .i64 i)) (hv_move rfl) ?_
          refine hl_val rfl rfl (v := (.slice l l_n l_c)) (hv_move rfl) ?_
          refine hl_val rfl rfl (v := (.int .i64 (l_n : Int))) (hv_len (n := l_n) TyShU.u22 rfl) ?_
          refine hl_val rfl rfl (v := (.bool (decide (i < (l_n : Int))))) (hv_arith rfl rfl rfl) ?_
          refine hl_nil ?_
          refine seqQ_n ?_
          refine hx_cond (b := decide (i < (l_n : Int))) rfl (fun hb12 => ?_) (fun hb12 => ?_)
          · replace H := H.1 hb12
            refine hx_skip ?_
            refine seqQ_n ?_
            obtain ⟨A15, Hx13, Hy14⟩ := H
            refine hx_cut (fun ρ h' => ∃ t_1 : Option Addr, (A15 t_1 h' ∧ True) ∧ Has ρ [(2, (.slice l l_n l_c)), (7, (.pointer t_1)), (9, (.pointer r0_1)), (11, (.int .i64 i))]) ?_ ?_
            · have H := Hx13; clear Hx13 Hy14
              refine hx_block ?_
              refine hx_seq ?_
              refine hx_seq ?_
              refine hx_region ?_
              refine hl_val rfl rfl (v := (.slice l l_n l_c)) (hv_move rfl) ?_
              refine hl_val rfl rfl (v := (.int .i64 i)) (hv_move rfl) ?_
              obtain ⟨l_b, l_o, hqe, hi17, hi18, Hq⟩ := H
              subst hqe
              have H := Hq; clear Hq
              refine hl_val rfl rfl (v := (ptr l_b (l_o + (Int.toNat i) * 5))) (hv_index TyShU.el22 rfl rfl hi17 hi18) ?_
              refine hl_val rfl rfl (v := (ptr l_b (l_o + (Int.toNat i) * 5))) (hv_field TyShU.fld33_0 (b := l_b) (o := l_o + (Int.toNat i) * 5) rfl) ?_
              obtain ⟨x, hc19, H⟩ := H
              refine hl_val rfl rfl (v := (.int .i64 x)) (hv_load TyShU.agg3 rfl hc19) ?_
              refine hl_val rfl rfl (v := (.bool (x == 8))) (hv_arith rfl rfl rfl) ?_
              refine hl_nil ?_
              refine seqQ_n ?_
              refine hx_cond (b := x == 8) rfl (fun hb20 => ?_) (fun hb20 => ?_)
              · replace H := H.1 hb20
                refine hx_seq ?_
                refine hx_region ?_
                refine hl_val rfl rfl (v := (.pointer t)) (hv_move rfl) ?_
                refine hl_step rfl rfl (hs_call TyShU.cb24 (vs := [(.pointer t)]) rfl (HC.mono H ?_))
                rintro _ h6 ⟨r_1, rfl, H⟩
                refine hl_val rfl rfl (v := (.pointer r_1)) (hv_assign rfl) ?_
                refine hl_nil ?_
                refine seqQ_n ?_
                refine hx_seq ?_
                refine hx_seq ?_
                refine hx_region ?_
                refine hl_val rfl rfl (v := (.pointer r_1)) (hv_move rfl) ?_
                refine hl_val rfl rfl (v := (.bool r_1.isNone)) (hv_ptrNil TyShU.up24 rfl rfl) ?_
                refine hl_nil ?_
                refine seqQ_n ?_
                refine hx_cond (b := r_1.isNone) rfl (fun hb21 => ?_) (fun hb21 => ?_)
                · replace H := H.1 hb21
                  refine hx_seq ?_
                  refine hx_region ?_
                  refine hl_val rfl rfl (v := (.bool false)) (hv_assign rfl) ?_
                  refine hl_nil ?_
                  refine seqQ_n ?_
                  refine hx_ret ?_
                  refine seqQ_ret ?_
                  refine seqQ_ret ?_
                  refine blockQ_ret ?_
                  refine seqQ_ret ?_
                  refine seqQ_ret ?_
                  refine blockQ_ret ?_
                  refine seqQ_ret ?_
                  exact endQ_ret _ (res_one Try.results7 (rv_tmp rfl)) H
                · replace H := H.2 hb21
                  refine hx_skip ?_
                  refine seqQ_n ?_
                  refine hx_seq ?_
                  refine hx_seq ?_
                  refine hx_region ?_
                  refine hl_val rfl rfl (v := (.int .i64 0)) (hv_assign rfl) ?_
                  refine hl_nil ?_
                  refine seqQ_n ?_
                  refine hx_block ?_
                  obtain ⟨I22, mu23, Ha24, Hr25⟩ := H
                  refine hx_loopT (σ := Int) (fun s => [(2, (.slice (some ⟨l_b, l_o, none⟩) l_n l_c)), (7, (.pointer t)), (9, (.pointer r0_1)), (11, (.int .i64 i)), (12, (.pointer r_1)), (13, (.int .i64 s))]) (fun s h' => I22 s h' ∧ True) (fun s h' => mu23 s h') 0 ⟨Ha24, trivial⟩ (has_cons rfl (has_cons rfl (has_cons rfl (has_cons rfl (has_cons rfl (has_cons rfl has_nil)))))) ?_
                  rintro k ρ h7 ⟨Hi26, -⟩
                  have H := Hr25 k h7 Hi26
                  refine hx_seq ?_
                  refine hx_seq ?_
                  refine hx_region ?_
                  refine hl_val rfl rfl (v := (.int .i64 k)) (hv_move rfl) ?_
                  refine hl_val rfl rfl (v := (.pointer r0_1)) (hv_move rfl) ?_
                  obtain ⟨r0_1_b, r0_1_o, hqe, Hq⟩ := H
                  subst hqe
                  have H := Hq; clear Hq
                  refine hl_val rfl rfl (v := (ptr r0_1_b r0_1_o)) (hv_nil rfl) ?_
                  refine hl_val rfl rfl (v := (ptr r0_1_b (r0_1_o + 2))) (hv_field TyShU.fld55_2 (b := r0_1_b) (o := r0_1_o) rfl) ?_
                  obtain ⟨x_1, x_n, x_c, hc27, H⟩ := H
                  refine hl_val rfl rfl (v := (.slice x_1 x_n x_c)) (hv_load TyShU.agg35 rfl hc27) ?_
                  refine hl_val rfl rfl (v := (.int .i64 (x_n : Int))) (hv_len (n := x_n) TyShU.u35 rfl) ?_
                  refine hl_val rfl rfl (v := (.bool (decide (k < (x_n : Int))))) (hv_arith rfl rfl rfl) ?_
                  refine hl_nil ?_
                  refine seqQ_n ?_
                  refine hx_cond (b := decide (k < (x_n : Int))) rfl (fun hb28 => ?_) (fun hb28 => ?_)
                  · replace H := H.1 hb28
                    refine hx_skip ?_
                    refine seqQ_n ?_
                    refine hx_seq ?_
                    refine hx_block ?_
                    refine hx_region ?_
                    refine hl_val rfl rfl (v := (.pointer t)) (hv_move rfl) ?_
                    refine hl_val rfl rfl (v := (ptr r0_1_b r0_1_o)) (hv_move rfl) ?_
                    refine hl_val rfl rfl (v := (ptr r0_1_b r0_1_o)) (hv_nil rfl) ?_
                    refine hl_val rfl rfl (v := (ptr r0_1_b (r0_1_o + 2))) (hv_field TyShU.fld55_2 (b := r0_1_b) (o := r0_1_o) rfl) ?_
                    refine hl_val rfl rfl (v := (.slice x_1 x_n x_c)) (hv_load TyShU.agg35 rfl hc27) ?_
                    refine hl_val rfl rfl (v := (.int .i64 k)) (hv_move rfl) ?_
                    obtain ⟨x_1_b, x_1_o, hqe, hi29, hi30, Hq⟩ := H
                    subst hqe
                    have H := Hq; clear Hq
                    refine hl_val rfl rfl (v := (ptr x_1_b (x_1_o + (Int.toNat k) * 4))) (hv_index TyShU.el35 rfl rfl hi29 hi30) ?_
                    refine hl_val rfl rfl (v := (ptr x_1_b (x_1_o + (Int.toNat k) * 4))) (hv_field TyShU.fld31_0 (b := x_1_b) (o := x_1_o + (Int.toNat k) * 4) rfl) ?_
                    obtain ⟨x_2, hc31, H⟩ := H
                    refine hl_val rfl rfl (v := (.int .u64 x_2)) (hv_load TyShU.agg29 rfl hc31) ?_
                    refine hl_step rfl rfl (hs_call TyShU.cb16 (vs := [(.pointer t), (.int .u64 x_2)]) rfl (HC.mono H ?_))
                    rintro _ h8 ⟨r0_Hash, r0_At, r0_Version, r0_Hits, r1_2, rfl, H⟩
                    refine hl_nil ?_
                    refine blockQ_n ?_
                    refine seqQ_n ?_
                    refine hx_region ?_
                    refine hl_val rfl rfl (v := (.int .i64 k)) (hv_move rfl) ?_
                    refine hl_val rfl rfl (v := (.int .i64 (IntKind.i64.wrap (k + 1)))) (hv_arith rfl rfl rfl) ?_
                    refine hl_val rfl rfl (v := (.int .i64 (IntKind.i64.wrap (k + 1)))) (hv_assign rfl) ?_
                    refine hl_nil ?_
                    refine seqQ_n ?_
                    exact ⟨IntKind.i64.wrap (k + 1), ⟨⟨H.1, trivial⟩, H.2⟩, (has_cons rfl (has_cons rfl (has_cons rfl (has_cons rfl (has_cons rfl (has_cons rfl has_nil))))))⟩
                  · replace H := H.2 hb28
                    refine hx_exit ?_
                    refine seqQ_exit ?_
                    refine seqQ_exit ?_
                    refine blockQ_here ?_
                    refine seqQ_n ?_
                    refine hx_seq ?_
                    refine hx_region ?_
                    refine hl_val rfl rfl (v := (.pointer r_1)) (hv_move rfl) ?_
                    refine hl_val rfl rfl (v := (.pointer r_1)) (hv_assign rfl) ?_
                    refine hl_nil ?_
                    refine seqQ_n ?_
                    refine hx_exit ?_
                    refine seqQ_exit ?_
                    refine blockQ_here ?_
                    refine seqQ_n ?_
                    exact ⟨_, ⟨H, trivial⟩, (has_cons rfl (has_cons rfl (has_cons rfl (has_cons rfl has_nil))))⟩
              · replace H := H.2 hb20
                refine hx_skip ?_
                refine seqQ_n ?_
                refine hx_seq ?_
                refine hx_region ?_
                refine hl_val rfl rfl (v := (.pointer t)) (hv_move rfl) ?_
                refine hl_val rfl rfl (v := (.pointer r0_1)) (hv_move rfl) ?_
                refine hl_val rfl rfl (v := (.slice (some ⟨l_b, l_o, none⟩) l_n l_c)) (hv_move rfl) ?_
                refine hl_val rfl rfl (v := (.int .i64 i)) (hv_move rfl) ?_
                refine hl_val rfl rfl (v := (ptr l_b (l_o + (Int.toNat i) * 5))) (hv_index TyShU.el22 rfl rfl hi17 hi18) ?_
                obtain ⟨x_Kind, x_Entry_Hash, x_Entry_At, x_Entry_Version, x_Entry_Hits, hc34, hc35, hc36, hc37, hc38, H⟩ := H
                refine hl_val rfl rfl (v := (.agg #[(.int .i64 x_Kind), (.int .u64 x_Entry_Hash), (.int .u64 x_Entry_At), (.int .u64 x_Entry_Version), (.int .u8 x_Entry_Hits)])) (hv_loads (vs := [(.int .i64 x_Kind), (.int .u64 x_Entry_Hash), (.int .u64 x_Entry_At), (.int .u64 x_Entry_Version), (.int .u8 x_Entry_Hits)]) TyShU.agg33 TyShU.sz33 rfl (hcells_cons hc34 (hcells_cons hc35 (hcells_cons hc36 (hcells_cons hc37 (hcells_cons hc38 hcells_nil)))))) ?_
                refine hl_step rfl rfl (hs_call TyShU.cb22 (vs := [(.pointer t), (.pointer r0_1), (.agg #[(.int .i64 x_Kind), (.int .u64 x_Entry_Hash), (.int .u64 x_Entry_At), (.int .u64 x_Entry_Version), (.int .u8 x_Entry_Hits)])]) rfl (HC.mono H ?_))
                rintro _ h9 ⟨r_1, rfl, H⟩
                refine hl_val rfl rfl (v := (.bool (!r_1))) (hv_not (b := r_1) rfl) ?_
                refine hl_nil ?_
                refine seqQ_n ?_
                refine hx_cond (b := !r_1) rfl (fun hb39 => ?_) (fun hb39 => ?_)
                · replace H := H.1 hb39
                  refine hx_seq ?_
                  refine hx_region ?_
                  refine hl_val rfl rfl (v := (.bool false)) (hv_assign rfl) ?_
                  refine hl_nil ?_
                  refine seqQ_n ?_
                  refine hx_ret ?_
                  refine blockQ_ret ?_
                  refine seqQ_ret ?_
                  refine seqQ_ret ?_
                  refine blockQ_ret ?_
                  refine seqQ_ret ?_
                  exact endQ_ret _ (res_one Try.results7 (rv_tmp rfl)) H
                · replace H := H.2 hb39
                  refine hx_skip ?_
                  refine blockQ_n ?_
                  refine seqQ_n ?_
                  exact ⟨_, ⟨H, trivial⟩, (has_cons rfl (has_cons rfl (has_cons rfl (has_cons rfl has_nil))))⟩
            · rintro ρ h5 ⟨t_1, ⟨HA16, -⟩, hH⟩
              have H := Hy14 t_1 h5 HA16; clear Hx13 Hy14
              refine hx_has _ hH ?_
              refine hx_region ?_
              refine hl_val rfl rfl (v := (.int .i64 i)) (hv_move rfl) ?_
              refine hl_val rfl rfl (v := (.int .i64 (IntKind.i64.wrap (i + 1)))) (hv_arith rfl rfl rfl) ?_
              refine hl_val rfl rfl (v := (.int .i64 (IntKind.i64.wrap (i + 1)))) (hv_assign rfl) ?_
              refine hl_nil ?_
              refine seqQ_n ?_
              exact ⟨(t_1, IntKind.i64.wrap (i + 1)), ⟨⟨H.1, trivial⟩, H.2⟩, (has_cons rfl (has_cons rfl (has_cons rfl (has_cons rfl has_nil))))⟩
          · replace H := H.2 hb12
            refine hx_exit ?_
            refine seqQ_exit ?_
            refine seqQ_exit ?_
            refine blockQ_here ?_
            refine seqQ_n ?_
            obtain ⟨A42, Hx40, Hy41⟩ := H
            refine hx_cut (fun ρ h' => ∃ j_1 : Bool, (A42 j_1 h' ∧ True) ∧ Has ρ [(6, (.bool j_1))]) ?_ ?_
            · have H := Hx40; clear Hx40 Hy41
              obtain ⟨T44, hT45, H⟩ := H
              refine hx_drawT TyShU.mixed T44 hT45 [.pure, .tame, .pure, .tame, .stay, .pure, .pure, .tame, .pure, .pure, .pure, .stay, .stay, .pure, .pure, .pure, .wild, .pure, .wild, .pure, .pure, .pure] [0, 2, 1, 3, 4, 5, 6, 8, 9, 10, 11, 7, 12, 13, 14, 15, 17, 16, 18, 19, 20, 21] (by kernel_rfl) ?_
              refine hp_pure (i := 0) rfl (wanted_0 rfl) rfl (.pointer t) (fun _ => hv_move rfl) ?_
              refine hp_pure (i := 2) rfl (wanted_0 rfl) rfl (.pointer r0_1) (fun _ => hv_move rfl) ?_
              refine hp_tame (i := 1) rfl (wanted_0 rfl) rfl (hs_call TyShU.cb13 (vs := [(.pointer t)]) rfl (HC.mono H ?_))
              rintro _ h11 ⟨ht46, r_1, r_n, r_c, rfl, H⟩
              refine ⟨ht46, ?_⟩
              refine hp_tame (i := 3) rfl (wanted_0 rfl) rfl (hs_call TyShU.cb25 (vs := [(.pointer r0_1)]) rfl (HC.mono H ?_))
              rintro _ h12 ⟨ht47, r_2, r_n_1, r_c_1, rfl, H⟩
              refine ⟨ht47, ?_⟩
              obtain ⟨r_3, hr48, H⟩ := H
              refine hp_stay (i := 4) rfl (wanted_0 rfl) rfl (.bool r_3) (fun _ he => hv_call TyShU.cb20 (vs := [(.slice r_1 r_n r_c), (.slice r_2 r_n_1 r_c_1)]) rfl (hr48 _ he)) ?_
              refine hp_pure (i := 5) rfl (wanted_0 rfl) rfl (.bool r_3) (fun _ => hv_move rfl) ?_
              rcases bool_or (r_3) with hg49 | hg49
              · replace H := H.1 hg49
                refine hp_pure (i := 6) rfl (wanted_y rfl rfl rfl hg49) rfl (.pointer t) (fun _ => hv_move rfl) ?_
                refine hp_pure (i := 8) rfl (wanted_y rfl rfl rfl hg49) rfl (.pointer r0_1) (fun _ => hv_move rfl) ?_
                obtain ⟨r0_1_b, r0_1_o, hqe, Hq⟩ := H
                subst hqe
                have H := Hq; clear Hq
                refine hp_pure (i := 9) rfl (wanted_y rfl rfl rfl hg49) rfl (ptr r0_1_b r0_1_o) (fun _ => hv_nil rfl) ?_
                refine hp_pure (i := 10) rfl (wanted_y rfl rfl rfl hg49) rfl (ptr r0_1_b (r0_1_o + 2)) (fun _ => hv_field TyShU.fld55_2 (b := r0_1_b) (o := r0_1_o) rfl) ?_
                obtain ⟨x, x_n, x_c, hc50, H⟩ := H
                refine hp_stay (i := 11) rfl (wanted_y rfl rfl rfl hg49) rfl (.slice x x_n x_c) (fun _ he => hv_load TyShU.agg35 rfl (hc50 _ he)) ?_
                refine hp_tame (i := 7) rfl (wanted_y rfl rfl rfl hg49) rfl (hs_call TyShU.cb18 (vs := [(.pointer t)]) rfl (HC.mono H ?_))
                rintro _ h13 ⟨ht51, r_4, r_n_2, r_c_2, rfl, H⟩
                refine ⟨ht51, ?_⟩
                obtain ⟨r_5, hr52, H⟩ := H
                refine hp_stay (i := 12) rfl (wanted_y rfl rfl rfl hg49) rfl (.bool r_5) (fun _ he => hv_call TyShU.cb20 (vs := [(.slice r_4 r_n_2 r_c_2), (.slice x x_n x_c)]) rfl (hr52 _ he)) ?_
                refine hp_pure (i := 13) rfl (wanted_0 rfl) rfl (.bool r_5) (fun _ => hv_pick_t rfl hg49 rfl) ?_
                refine hp_pure (i := 14) rfl (wanted_0 rfl) rfl (.bool r_5) (fun _ => hv_move rfl) ?_
                rcases bool_or (r_5) with hg53 | hg53
                · replace H := H.1 hg53
                  refine hp_pure (i := 15) rfl (wanted_y rfl rfl rfl hg53) rfl (.pointer t) (fun _ => hv_move rfl) ?_
                  refine hp_pure (i := 17) rfl (wanted_y rfl rfl rfl hg53) rfl (ptr r0_1_b r0_1_o) (fun _ => hv_move rfl) ?_
                  refine hp_wild (i := 16) rfl (wanted_y rfl rfl rfl hg53) rfl (hs_call TyShU.cb26 (vs := [(.pointer t)]) rfl (HC.mono H ?_))
                  rintro _ h14 ⟨r_6, rfl, H⟩
                  refine hp_wild (i := 18) rfl (wanted_y rfl rfl rfl hg53) rfl (hs_call TyShU.cb27 (vs := [(ptr r0_1_b r0_1_o)]) rfl (HC.mono H ?_))
                  rintro _ h15 ⟨r_7, rfl, H⟩
                  refine hp_pure (i := 19) rfl (wanted_y rfl rfl rfl hg53) rfl (.bool (r_6 == r_7)) (fun _ => hv_arith rfl rfl rfl) ?_
                  refine hp_pure (i := 20) rfl (wanted_0 rfl) rfl (.bool (r_6 == r_7)) (fun _ => hv_pick_t rfl hg53 rfl) ?_
                  refine hp_pure (i := 21) rfl (wanted_0 rfl) rfl (.bool (r_6 == r_7)) (fun _ => hv_assign rfl) ?_
                  refine hp_nil ?_
                  refine seqQ_n ?_
                  exact ⟨_, ⟨H, trivial⟩, (has_cons rfl has_nil)⟩
                · replace H := H.2 hg53
                  refine hp_no (i := 15) rfl (wanted_n rfl rfl rfl hg53) ?_
                  refine hp_no (i := 17) rfl (wanted_n rfl rfl rfl hg53) ?_
                  refine hp_no (i := 16) rfl (wanted_n rfl rfl rfl hg53) ?_
                  refine hp_no (i := 18) rfl (wanted_n rfl rfl rfl hg53) ?_
                  refine hp_no (i := 19) rfl (wanted_n rfl rfl rfl hg53) ?_
                  refine hp_pure (i := 20) rfl (wanted_0 rfl) rfl (.bool false) (fun _ => hv_pick_f rfl hg53 rfl) ?_
                  refine hp_pure (i := 21) rfl (wanted_0 rfl) rfl (.bool false) (fun _ => hv_assign rfl) ?_
                  refine hp_nil ?_
                  refine seqQ_n ?_
                  exact ⟨_, ⟨H, trivial⟩, (has_cons rfl has_nil)⟩
              · replace H := H.2 hg49
                refine hp_no (i := 6) rfl (wanted_n rfl rfl rfl hg49) ?_
                refine hp_no (i := 8) rfl (wanted_n rfl rfl rfl hg49) ?_
                refine hp_no (i := 9) rfl (wanted_n rfl rfl rfl hg49) ?_
                refine hp_no (i := 10) rfl (wanted_n rfl rfl rfl hg49) ?_
                refine hp_no (i := 11) rfl (wanted_n rfl rfl rfl hg49) ?_
                refine hp_no (i := 7) rfl (wanted_n rfl rfl rfl hg49) ?_
                refine hp_no (i := 12) rfl (wanted_n rfl rfl rfl hg49) ?_
                refine hp_pure (i := 13) rfl (wanted_0 rfl) rfl (.bool false) (fun _ => hv_pick_f rfl hg49 rfl) ?_
                refine hp_pure (i := 14) rfl (wanted_0 rfl) rfl (.bool false) (fun _ => hv_move rfl) ?_
                refine hp_no (i := 15) rfl (wanted_n rfl rfl (c := false) rfl rfl) ?_
                refine hp_no (i := 17) rfl (wanted_n rfl rfl (c := false) rfl rfl) ?_
                refine hp_no (i := 16) rfl (wanted_n rfl rfl (c := false) rfl rfl) ?_
                refine hp_no (i := 18) rfl (wanted_n rfl rfl (c := false) rfl rfl) ?_
                refine hp_no (i := 19) rfl (wanted_n rfl rfl (c := false) rfl rfl) ?_
                refine hp_pure (i := 20) rfl (wanted_0 rfl) rfl (.bool false) (fun _ => hv_pick (t := false) rfl rfl) ?_
                refine hp_pure (i := 21) rfl (wanted_0 rfl) rfl (.bool false) (fun _ => hv_assign rfl) ?_
                refine hp_nil ?_
                refine seqQ_n ?_
                exact ⟨_, ⟨H, trivial⟩, (has_cons rfl has_nil)⟩
            · rintro ρ h10 ⟨j_1, ⟨HA43, -⟩, hH⟩
              have H := Hy41 j_1 h10 HA43; clear Hx40 Hy41
              refine hx_has _ hH ?_
              refine hx_ret ?_
              exact endQ_ret _ (res_one Try.results7 (rv_tmp rfl)) H

end Go.Proofs.Ytebipjmcckkhcaa
