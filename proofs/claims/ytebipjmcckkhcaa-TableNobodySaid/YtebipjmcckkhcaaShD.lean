/-
Shallow forms, written by gen.py (a program of this session) out of the print of the program.
-/
import Derived.Test.YtebipjmcckkhcaaMor
import Derived.Test.YtebipjmcckkhcaaProg
namespace Go.Proofs.Ytebipjmcckkhcaa
open Go
set_option maxRecDepth 100000
set_option maxHeartbeats 4000000

theorem Ty.agg29 : aggB Try.prog 29 = some false := by kernel_rfl
theorem Ty.agg3 : aggB Try.prog 3 = some false := by kernel_rfl
theorem Ty.agg31 : aggB Try.prog 31 = some true := by kernel_rfl
theorem Ty.agg5 : aggB Try.prog 5 = some false := by kernel_rfl
theorem Ty.cb10 : CallB Try.prog 10 := fun _ _ => Try.call10 _ _
theorem Ty.cb14 : CallB Try.prog 14 := fun _ _ => Try.call14 _ _
theorem Ty.cb15 : CallB Try.prog 15 := fun _ _ => Try.call15 _ _
theorem Ty.cb16 : CallB Try.prog 16 := fun _ _ => Try.call16 _ _
theorem Ty.cb17 : CallB Try.prog 17 := fun _ _ => Try.call17 _ _
theorem Ty.cb9 : CallB Try.prog 9 := fun _ _ => Try.call9 _ _
theorem Ty.el22 : elB Try.prog 22 = some 5 := by kernel_rfl
theorem Ty.fld31_0 : fldB Try.prog 31 0 = some 0 := by kernel_rfl
theorem Ty.fld31_1 : fldB Try.prog 31 1 = some 1 := by kernel_rfl
theorem Ty.fld31_3 : fldB Try.prog 31 3 = some 3 := by kernel_rfl
theorem Ty.fld33_0 : fldB Try.prog 33 0 = some 0 := by kernel_rfl
theorem Ty.fld33_1 : fldB Try.prog 33 1 = some 1 := by kernel_rfl
theorem Ty.mixed : Try.prog.follows .mixedOrders = true := by kernel_rfl
theorem Ty.se31 : seB Try.prog 31 = some [(29, 0), (29, 1), (29, 2), (5, 3)] := by kernel_rfl
theorem Ty.sz31 : szB Try.prog 31 = some 4 := by kernel_rfl
theorem Ty.sz5 : szB Try.prog 5 = some 1 := by kernel_rfl
theorem Ty.u22 : Try.prog.underlying 22 = some (.slice 33) := by kernel_rfl
theorem Ty.u4 : Try.prog.underlying 4 = some (.bool) := by kernel_rfl
theorem Ty.up24 : Try.prog.underlying 24 = some (.pointer 60) := by kernel_rfl
theorem Ty.z31 : zeroB Try.prog 31 (.agg #[(.int .u64 0), (.int .u64 0), (.int .u64 0), (.int .u8 0)]) := by unfold zeroB; kernel_rfl

/-- cellar/cellarlaw11.TableMaps -/
theorem f4_sh (bits : Int) (most : Int) (l : Option Addr) (l_n : Nat) (l_c : Nat) (h : Heap) (R : Value → Heap → Prop)
    (H : HC Try.prog 9 #[] h (fun vv h1 => ∃ r : Bool, vv = (.bool r) ∧ (((!r) = true → R (.bool false) h1) ∧ ((!r) = false → HC Try.prog 10 #[(.int .i64 bits), (.int .i64 most)] h1 (fun vv h2 => ∃ r0 : Option Addr, ∃ r1 : Int, vv = (.tuple #[(.pointer r0), (.int .i64 r1)]) ∧ (((r1 != 0) = true → R (.bool r0.isNone) h2) ∧ ((r1 != 0) = false → (∃ (I1 : Int → Heap → Prop) (mu2 : Int → Heap → Nat), I1 0 h2 ∧ (∀ (i : Int) (h3 : Heap), I1 i h3 → (((decide (i < (l_n : Int))) = true → (∃ A6 : Heap → Prop, (∃ l_b l_o : Nat, l = some ⟨l_b, l_o, none⟩ ∧ (0 : Int) ≤ i ∧ i < (l_n : Int) ∧ (∃ x : Int, hcell h3 l_b ((l_o + (Int.toNat i) * 5) + 1) = some (.int .u64 x) ∧ ((0 : Int) ≤ i ∧ i < (l_n : Int) ∧ (∃ x_1 : Int, hcell h3 l_b (l_o + (Int.toNat i) * 5) = some (.int .i64 x_1) ∧ (((x_1 == 1) = true → ((0 : Int) ≤ i ∧ i < (l_n : Int) ∧ (∃ x_Hash x_At x_Version x_Hits : Int, hcell h3 l_b ((l_o + (Int.toNat i) * 5) + 1) = some (.int .u64 x_Hash) ∧ hcell h3 l_b (((l_o + (Int.toNat i) * 5) + 1) + 1) = some (.int .u64 x_At) ∧ hcell h3 l_b (((l_o + (Int.toNat i) * 5) + 1) + 2) = some (.int .u64 x_Version) ∧ hcell h3 l_b (((l_o + (Int.toNat i) * 5) + 1) + 3) = some (.int .u8 x_Hits) ∧ HC Try.prog 14 #[(.pointer r0), (.agg #[(.int .u64 x_Hash), (.int .u64 x_At), (.int .u64 x_Version), (.int .u8 x_Hits)])] h3 (fun vv h5 => ∃ r0_Hash r0_At r0_Version r0_Hits : Int, ∃ r1_1 : Bool, ∃ r2 : Int, vv = (.tuple #[(.agg #[(.int .u64 r0_Hash), (.int .u64 r0_At), (.int .u64 r0_Version), (.int .u8 r0_Hits)]), (.bool r1_1), (.int .i64 r2)]) ∧ (∀ old h6, old = Array.size h5 → h6 = Array.push h5 (.cells #[(.int .u64 0), (.int .u64 0), (.int .u64 0), (.int .u8 0)] 31) → (HWs h6 old 0 4 ∧ ∀ h7, h7 = hsets h6 old 0 [(.int .u64 r0_Hash), (.int .u64 r0_At), (.int .u64 r0_Version), (.int .u8 r0_Hits)] → HC Try.prog 15 #[(.pointer r0), (.int .u64 x)] h7 (fun vv h8 => ∃ r0_Hash_1 r0_At_1 r0_Version_1 r0_Hits_1 : Int, ∃ r1_2 : Bool, vv = (.tuple #[(.agg #[(.int .u64 r0_Hash_1), (.int .u64 r0_At_1), (.int .u64 r0_Version_1), (.int .u8 r0_Hits_1)]), (.bool r1_2)]) ∧ (∀ x_2 h9, x_2 = Array.size h8 → h9 = Array.push h8 (.cells #[(.int .u64 0), (.int .u64 0), (.int .u64 0), (.int .u8 0)] 31) → (HWs h9 x_2 0 4 ∧ ∀ h10, h10 = hsets h9 x_2 0 [(.int .u64 r0_Hash_1), (.int .u64 r0_At_1), (.int .u64 r0_Version_1), (.int .u8 r0_Hits_1)] → (∃ j : Bool, (((r2 == 0) = true → (((!r1_2) = true → (j = true)) ∧ ((!r1_2) = false → (∃ x_Hash_1 x_At_1 x_Version_1 x_Hits_1 : Int, hcell h10 x_2 0 = some (.int .u64 x_Hash_1) ∧ hcell h10 x_2 1 = some (.int .u64 x_At_1) ∧ hcell h10 x_2 2 = some (.int .u64 x_Version_1) ∧ hcell h10 x_2 3 = some (.int .u8 x_Hits_1) ∧ ((0 : Int) ≤ i ∧ i < (l_n : Int) ∧ (∃ x_Hash_2 x_At_2 x_Version_2 x_Hits_2 : Int, hcell h10 l_b ((l_o + (Int.toNat i) * 5) + 1) = some (.int .u64 x_Hash_2) ∧ hcell h10 l_b (((l_o + (Int.toNat i) * 5) + 1) + 1) = some (.int .u64 x_At_2) ∧ hcell h10 l_b (((l_o + (Int.toNat i) * 5) + 1) + 2) = some (.int .u64 x_Version_2) ∧ hcell h10 l_b (((l_o + (Int.toNat i) * 5) + 1) + 3) = some (.int .u8 x_Hits_2) ∧ (((!((x_Hash_1 == x_Hash_2 && (x_At_1 == x_At_2 && (x_Version_1 == x_Version_2 && (x_Hits_1 == x_Hits_2 && true)))))) = true → (j = true)) ∧ ((!((x_Hash_1 == x_Hash_2 && (x_At_1 == x_At_2 && (x_Version_1 == x_Version_2 && (x_Hits_1 == x_Hits_2 && true)))))) = false → ((r1_1 = true → (∃ x_3 : Int, hcell h10 old 0 = some (.int .u64 x_3) ∧ (((x_3 != x) = true → (j = true)) ∧ ((x_3 != x) = false → (((r2 != 0) = true → (j = true)) ∧ ((r2 != 0) = false → (j = false))))))) ∧ (r1_1 = false → (((r2 != 0) = true → ((0 : Int) ≤ i ∧ i < (l_n : Int) ∧ (∃ x_3 : Int, hcell h10 l_b (((l_o + (Int.toNat i) * 5) + 1) + 1) = some (.int .u64 x_3) ∧ (((x_3 != 0) = true → (j = r1_2)) ∧ ((x_3 != 0) = false → (j = false)))))) ∧ ((r2 != 0) = false → (j = false))))))))))))) ∧ ((r2 == 0) = false → (((r2 != 0) = true → ((r1_1 = true → (j = true)) ∧ (r1_1 = false → ((0 : Int) ≤ i ∧ i < (l_n : Int) ∧ (∃ x_3 : Int, hcell h10 l_b (((l_o + (Int.toNat i) * 5) + 1) + 1) = some (.int .u64 x_3) ∧ (((x_3 != 0) = true → (j = r1_2)) ∧ ((x_3 != 0) = false → (j = false)))))))) ∧ ((r2 != 0) = false → (j = false))))) ∧ ((j = true → R (.bool false) h10) ∧ (j = false → (A6 h10))))))))))))) ∧ ((x_1 == 1) = false → (((x_1 == 3) = true → HC Try.prog 16 #[(.pointer r0), (.int .u64 x)] h3 (fun vv h11 => ∃ r0_Hash r0_At r0_Version r0_Hits : Int, ∃ r1_1 : Bool, vv = (.tuple #[(.agg #[(.int .u64 r0_Hash), (.int .u64 r0_At), (.int .u64 r0_Version), (.int .u8 r0_Hits)]), (.bool r1_1)]) ∧ HC Try.prog 15 #[(.pointer r0), (.int .u64 x)] h11 (fun vv h12 => ∃ r0_Hash_1 r0_At_1 r0_Version_1 r0_Hits_1 : Int, ∃ r1_2 : Bool, vv = (.tuple #[(.agg #[(.int .u64 r0_Hash_1), (.int .u64 r0_At_1), (.int .u64 r0_Version_1), (.int .u8 r0_Hits_1)]), (.bool r1_2)]) ∧ (∀ x_2 h13, x_2 = Array.size h12 → h13 = Array.push h12 (.cells #[(.int .u64 0), (.int .u64 0), (.int .u64 0), (.int .u8 0)] 31) → (HWs h13 x_2 0 4 ∧ ∀ h14, h14 = hsets h13 x_2 0 [(.int .u64 r0_Hash_1), (.int .u64 r0_At_1), (.int .u64 r0_Version_1), (.int .u8 r0_Hits_1)] → ((r1_2 = true → R (.bool false) h14) ∧ (r1_2 = false → (A6 h14)))))))) ∧ ((x_1 == 3) = false → HC Try.prog 15 #[(.pointer r0), (.int .u64 x)] h3 (fun vv h15 => ∃ r0_Hash r0_At r0_Version r0_Hits : Int, ∃ r1_1 : Bool, vv = (.tuple #[(.agg #[(.int .u64 r0_Hash), (.int .u64 r0_At), (.int .u64 r0_Version), (.int .u8 r0_Hits)]), (.bool r1_1)]) ∧ (∀ x_2 h16, x_2 = Array.size h15 → h16 = Array.push h15 (.cells #[(.int .u64 0), (.int .u64 0), (.int .u64 0), (.int .u8 0)] 31) → (HWs h16 x_2 0 4 ∧ ∀ h17, h17 = hsets h16 x_2 0 [(.int .u64 r0_Hash), (.int .u64 r0_At), (.int .u64 r0_Version), (.int .u8 r0_Hits)] → (∃ j : Bool, ((r1_1 = true → (∃ x_3 : Int, hcell h17 x_2 0 = some (.int .u64 x_3) ∧ (((x_3 != x) = true → (j = true)) ∧ ((x_3 != x) = false → (∃ x_4 : Int, hcell h17 x_2 1 = some (.int .u64 x_4) ∧ (j = (x_4 == 0))))))) ∧ (r1_1 = false → (j = false))) ∧ ((j = true → R (.bool false) h17) ∧ (j = false → HC Try.prog 17 #[(.pointer r0), (.int .u64 x)] h17 (fun vv h18 => ∃ r_1 : Bool, vv = (.bool r_1) ∧ (((r_1 != r1_1) = true → R (.bool false) h18) ∧ ((r_1 != r1_1) = false → HC Try.prog 15 #[(.pointer r0), (.int .u64 x)] h18 (fun vv h19 => ∃ r0_Hash_1 r0_At_1 r0_Version_1 r0_Hits_1 : Int, ∃ r1_2 : Bool, vv = (.tuple #[(.agg #[(.int .u64 r0_Hash_1), (.int .u64 r0_At_1), (.int .u64 r0_Version_1), (.int .u8 r0_Hits_1)]), (.bool r1_2)]) ∧ (∀ y h20, y = Array.size h19 → h20 = Array.push h19 (.cells #[(.int .u64 0), (.int .u64 0), (.int .u64 0), (.int .u8 0)] 31) → (HWs h20 y 0 4 ∧ ∀ h21, h21 = hsets h20 y 0 [(.int .u64 r0_Hash_1), (.int .u64 r0_At_1), (.int .u64 r0_Version_1), (.int .u8 r0_Hits_1)] → (∃ A73 : Heap → Prop, (∃ j_1 : Bool, ((r1_1 = true → (∃ x_5 : Int, hcell h21 x_2 3 = some (.int .u8 x_5) ∧ (j_1 = (decide (x_5 < 255))))) ∧ (r1_1 = false → (j_1 = false))) ∧ ((j_1 = true → (∃ x_6 : Int, hcell h21 x_2 3 = some (.int .u8 x_6) ∧ (HW h21 x_2 3 ∧ ∀ h23, h23 = hset h21 x_2 3 (.int .u8 (IntKind.u8.wrap (x_6 + 1))) → (A73 h23)))) ∧ (j_1 = false → (A73 h21)))) ∧ (∀ (h22 : Heap), A73 h22 → (∃ x_Hash x_At x_Version x_Hits : Int, hcell h22 y 0 = some (.int .u64 x_Hash) ∧ hcell h22 y 1 = some (.int .u64 x_At) ∧ hcell h22 y 2 = some (.int .u64 x_Version) ∧ hcell h22 y 3 = some (.int .u8 x_Hits) ∧ (∃ x_Hash_1 x_At_1 x_Version_1 x_Hits_1 : Int, hcell h22 x_2 0 = some (.int .u64 x_Hash_1) ∧ hcell h22 x_2 1 = some (.int .u64 x_At_1) ∧ hcell h22 x_2 2 = some (.int .u64 x_Version_1) ∧ hcell h22 x_2 3 = some (.int .u8 x_Hits_1) ∧ (((!((x_Hash == x_Hash_1 && (x_At == x_At_1 && (x_Version == x_Version_1 && (x_Hits == x_Hits_1 && true)))))) = true → R (.bool false) h22) ∧ ((!((x_Hash == x_Hash_1 && (x_At == x_At_1 && (x_Version == x_Version_1 && (x_Hits == x_Hits_1 && true)))))) = false → (A6 h22))))))))))))))))))))))))))) ∧ (∀ (h4 : Heap), A6 h4 → (I1 (IntKind.i64.wrap (i + 1)) h4 ∧ mu2 (IntKind.i64.wrap (i + 1)) h4 < mu2 i h3)))) ∧ ((decide (i < (l_n : Int))) = false → R (.bool true) h3))))))))))) :
    HC Try.prog 4 #[(.int .i64 bits), (.int .i64 most), (.slice l l_n l_c)] h R := by
  refine hc_of (args := [(.int .i64 bits), (.int .i64 most), (.slice l l_n l_c)]) Try.func4 rfl Try.ntmps4 (Nat.le_of_ble_eq_true rfl) ?_
  refine hx_seq ?_
  refine hx_region ?_
  refine hl_val rfl rfl (v := (.bool false)) (hv_assign rfl) ?_
  refine hl_nil ?_
  refine seqQ_n ?_
  refine hx_seq ?_
  refine hx_seq ?_
  refine hx_region ?_
  refine hl_step rfl rfl (hs_call Ty.cb9 (vs := []) rfl (HC.mono H ?_))
  rintro _ h1 ⟨r, rfl, H⟩
  refine hl_val rfl rfl (v := (.bool (!r))) (hv_not (b := r) rfl) ?_
  refine hl_nil ?_
  refine seqQ_n ?_
  refine hx_cond (b := !r) rfl (fun hb107 => ?_) (fun hb107 => ?_)
  · replace H := H.1 hb107
    refine hx_seq ?_
    refine hx_region ?_
    refine hl_val rfl rfl (v := (.bool false)) (hv_assign rfl) ?_
    refine hl_nil ?_
    refine seqQ_n ?_
    refine hx_ret ?_
    refine seqQ_ret ?_
    exact endQ_ret _ (res_one Try.results4 (rv_tmp rfl)) H
  · replace H := H.2 hb107
    refine hx_skip ?_
    refine seqQ_n ?_
    refine hx_seq ?_
    refine hx_region ?_
    refine hl_val rfl rfl (v := (.int .i64 bits)) (hv_move rfl) ?_
    refine hl_val rfl rfl (v := (.int .i64 most)) (hv_move rfl) ?_
    refine hl_step rfl rfl (hs_call Ty.cb10 (vs := [(.int .i64 bits), (.int .i64 most)]) rfl (HC.mono H ?_))
    rintro _ h2 ⟨r0, r1, rfl, H⟩
    refine hl_val rfl rfl (v := (.tuple #[(.pointer r0), (.int .i64 r1)])) (hv_move rfl) ?_
    refine hl_val rfl rfl (v := (.pointer r0)) (hv_extract (vs := #[(.pointer r0), (.int .i64 r1)]) rfl rfl) ?_
    refine hl_val rfl rfl (v := (.int .i64 r1)) (hv_extract (vs := #[(.pointer r0), (.int .i64 r1)]) rfl rfl) ?_
    refine hl_val rfl rfl (v := (.pointer r0)) (hv_assign rfl) ?_
    refine hl_val rfl rfl (v := (.int .i64 r1)) (hv_assign rfl) ?_
    refine hl_nil ?_
    refine seqQ_n ?_
    refine hx_seq ?_
    refine hx_seq ?_
    refine hx_region ?_
    refine hl_val rfl rfl (v := (.int .i64 r1)) (hv_move rfl) ?_
    refine hl_val rfl rfl (v := (.bool (r1 != 0))) (hv_arith rfl rfl rfl) ?_
    refine hl_nil ?_
    refine seqQ_n ?_
    refine hx_cond (b := r1 != 0) rfl (fun hb106 => ?_) (fun hb106 => ?_)
    · replace H := H.1 hb106
      refine hx_seq ?_
      refine hx_region ?_
      refine hl_val rfl rfl (v := (.pointer r0)) (hv_move rfl) ?_
      refine hl_val rfl rfl (v := (.bool r0.isNone)) (hv_ptrNil Ty.up24 rfl rfl) ?_
      refine hl_val rfl rfl (v := (.bool r0.isNone)) (hv_assign rfl) ?_
      refine hl_nil ?_
      refine seqQ_n ?_
      refine hx_ret ?_
      refine seqQ_ret ?_
      exact endQ_ret _ (res_one Try.results4 (rv_tmp rfl)) H
    · replace H := H.2 hb106
      refine hx_skip ?_
      refine seqQ_n ?_
      refine hx_seq ?_
      refine hx_seq ?_
      refine hx_region ?_
      refine hl_val rfl rfl (v := (.int .i64 0)) (hv_assign rfl) ?_
      refine hl_nil ?_
      refine seqQ_n ?_
      refine hx_block ?_
      obtain ⟨I1, mu2, Ha3, Hr4⟩ := H
      refine hx_loopT (σ := Int) (fun s => [(2, (.slice l l_n l_c)), (7, (.pointer r0)), (9, (.int .i64 s))]) (fun s h' => I1 s h') (fun s h' => mu2 s h') 0 Ha3 (has_cons rfl (has_cons rfl (has_cons rfl has_nil))) ?_
      rintro i ρ h3 Hi5
      have H := Hr4 i h3 Hi5
      refine hx_seq ?_
      refine hx_seq ?_
      refine hx_region ?_
      refine hl_val rfl rfl (v := (.int .i64 i)) (hv_move rfl) ?_
      refine hl_val rfl rfl (v := (.slice l l_n l_c)) (hv_move rfl) ?_
      refine hl_val rfl rfl (v := (.int .i64 (l_n : Int))) (hv_len (n := l_n) Ty.u22 rfl) ?_
      refine hl_val rfl rfl (v := (.bool (decide (i < (l_n : Int))))) (hv_arith rfl rfl rfl) ?_
      refine hl_nil ?_
      refine seqQ_n ?_
      refine hx_cond (b := decide (i < (l_n : Int))) rfl (fun hb105 => ?_) (fun hb105 => ?_)
      · replace H := H.1 hb105
        refine hx_skip ?_
        refine seqQ_n ?_
        obtain ⟨A6, Hx102, Hy103⟩ := H
        refine hx_cut (fun ρ h' => A6 h' ∧ Has ρ [(2, (.slice l l_n l_c)), (7, (.pointer r0)), (9, (.int .i64 i))]) ?_ ?_
        · have H := Hx102; clear Hx102 Hy103
          refine hx_block ?_
          refine hx_seq ?_
          refine hx_region ?_
          refine hl_val rfl rfl (v := (.slice l l_n l_c)) (hv_move rfl) ?_
          refine hl_val rfl rfl (v := (.int .i64 i)) (hv_move rfl) ?_
          obtain ⟨l_b, l_o, hqe, hi7, hi8, Hq⟩ := H
          subst hqe
          have H := Hq; clear Hq
          refine hl_val rfl rfl (v := (ptr l_b (l_o + (Int.toNat i) * 5))) (hv_index Ty.el22 rfl rfl hi7 hi8) ?_
          refine hl_val rfl rfl (v := (ptr l_b ((l_o + (Int.toNat i) * 5) + 1))) (hv_field Ty.fld33_1 (b := l_b) (o := l_o + (Int.toNat i) * 5) rfl) ?_
          refine hl_val rfl rfl (v := (ptr l_b ((l_o + (Int.toNat i) * 5) + 1))) (hv_field Ty.fld31_0 (b := l_b) (o := (l_o + (Int.toNat i) * 5) + 1) rfl) ?_
          obtain ⟨x, hc101, H⟩ := H
          refine hl_val rfl rfl (v := (.int .u64 x)) (hv_load Ty.agg29 rfl hc101) ?_
          refine hl_val rfl rfl (v := (.int .u64 x)) (hv_assign rfl) ?_
          refine hl_nil ?_
          refine seqQ_n ?_
          refine hx_seq ?_
          refine hx_region ?_
          refine hl_val rfl rfl (v := (.slice (some ⟨l_b, l_o, none⟩) l_n l_c)) (hv_move rfl) ?_
          refine hl_val rfl rfl (v := (.int .i64 i)) (hv_move rfl) ?_
          obtain ⟨hi9, hi10, H⟩ := H
          refine hl_val rfl rfl (v := (ptr l_b (l_o + (Int.toNat i) * 5))) (hv_index Ty.el22 rfl rfl hi9 hi10) ?_
          refine hl_val rfl rfl (v := (ptr l_b (l_o + (Int.toNat i) * 5))) (hv_field Ty.fld33_0 (b := l_b) (o := l_o + (Int.toNat i) * 5) rfl) ?_
          obtain ⟨x_1, hc100, H⟩ := H
          refine hl_val rfl rfl (v := (.int .i64 x_1)) (hv_load Ty.agg3 rfl hc100) ?_
          refine hl_nil ?_
          refine seqQ_n ?_
          refine hx_block ?_
          refine hx_seq ?_
          refine hx_region ?_
          refine hl_val rfl rfl (v := (.bool (x_1 == 1))) (hv_arith rfl rfl rfl) ?_
          refine hl_val rfl rfl (v := (.bool (x_1 == 1))) (hv_assign rfl) ?_
          refine hl_nil ?_
          refine seqQ_n ?_
          refine hx_cond (b := x_1 == 1) rfl (fun hb99 => ?_) (fun hb99 => ?_)
          · replace H := H.1 hb99
            refine hx_seq ?_
            refine hx_region ?_
            refine hl_val rfl rfl (v := (.pointer r0)) (hv_move rfl) ?_
            refine hl_val rfl rfl (v := (.slice (some ⟨l_b, l_o, none⟩) l_n l_c)) (hv_move rfl) ?_
            refine hl_val rfl rfl (v := (.int .i64 i)) (hv_move rfl) ?_
            obtain ⟨hi11, hi12, H⟩ := H
            refine hl_val rfl rfl (v := (ptr l_b (l_o + (Int.toNat i) * 5))) (hv_index Ty.el22 rfl rfl hi11 hi12) ?_
            refine hl_val rfl rfl (v := (ptr l_b ((l_o + (Int.toNat i) * 5) + 1))) (hv_field Ty.fld33_1 (b := l_b) (o := l_o + (Int.toNat i) * 5) rfl) ?_
            obtain ⟨x_Hash, x_At, x_Version, x_Hits, hc52, hc53, hc54, hc55, H⟩ := H
            refine hl_val rfl rfl (v := (.agg #[(.int .u64 x_Hash), (.int .u64 x_At), (.int .u64 x_Version), (.int .u8 x_Hits)])) (hv_loads (vs := [(.int .u64 x_Hash), (.int .u64 x_At), (.int .u64 x_Version), (.int .u8 x_Hits)]) Ty.agg31 Ty.sz31 rfl (hcells_cons hc52 (hcells_cons hc53 (hcells_cons hc54 (hcells_cons hc55 hcells_nil))))) ?_
            refine hl_step rfl rfl (hs_call Ty.cb14 (vs := [(.pointer r0), (.agg #[(.int .u64 x_Hash), (.int .u64 x_At), (.int .u64 x_Version), (.int .u8 x_Hits)])]) rfl (HC.mono H ?_))
            rintro _ h5 ⟨r0_Hash, r0_At, r0_Version, r0_Hits, r1_1, r2, rfl, H⟩
            refine hl_val rfl rfl (v := (.tuple #[(.agg #[(.int .u64 r0_Hash), (.int .u64 r0_At), (.int .u64 r0_Version), (.int .u8 r0_Hits)]), (.bool r1_1), (.int .i64 r2)])) (hv_move rfl) ?_
            refine hl_val rfl rfl (v := (.agg #[(.int .u64 r0_Hash), (.int .u64 r0_At), (.int .u64 r0_Version), (.int .u8 r0_Hits)])) (hv_extract (vs := #[(.agg #[(.int .u64 r0_Hash), (.int .u64 r0_At), (.int .u64 r0_Version), (.int .u8 r0_Hits)]), (.bool r1_1), (.int .i64 r2)]) rfl rfl) ?_
            refine hl_val rfl rfl (v := (.bool r1_1)) (hv_extract (vs := #[(.agg #[(.int .u64 r0_Hash), (.int .u64 r0_At), (.int .u64 r0_Version), (.int .u8 r0_Hits)]), (.bool r1_1), (.int .i64 r2)]) rfl rfl) ?_
            refine hl_val rfl rfl (v := (.int .i64 r2)) (hv_extract (vs := #[(.agg #[(.int .u64 r0_Hash), (.int .u64 r0_At), (.int .u64 r0_Version), (.int .u8 r0_Hits)]), (.bool r1_1), (.int .i64 r2)]) rfl rfl) ?_
            refine hl_step rfl rfl (hn_alloc Ty.z31 ?_)
            intro old h6 eb13 eh14
            replace H := H old h6 eb13 eh14
            obtain ⟨hw15, H⟩ := H
            refine hl_step rfl rfl (hn_stores (vs := [(.int .u64 r0_Hash), (.int .u64 r0_At), (.int .u64 r0_Version), (.int .u8 r0_Hits)]) rfl rfl Ty.sz31 rfl hw15 ?_)
            intro h7 eh16
            replace H := H h7 eh16
            refine hl_val rfl rfl (v := (.bool r1_1)) (hv_assign rfl) ?_
            refine hl_val rfl rfl (v := (.int .i64 r2)) (hv_assign rfl) ?_
            refine hl_nil ?_
            refine seqQ_n ?_
            refine hx_seq ?_
            refine hx_region ?_
            refine hl_val rfl rfl (v := (.pointer r0)) (hv_move rfl) ?_
            refine hl_val rfl rfl (v := (.int .u64 x)) (hv_move rfl) ?_
            refine hl_step rfl rfl (hs_call Ty.cb15 (vs := [(.pointer r0), (.int .u64 x)]) rfl (HC.mono H ?_))
            rintro _ h8 ⟨r0_Hash_1, r0_At_1, r0_Version_1, r0_Hits_1, r1_2, rfl, H⟩
            refine hl_val rfl rfl (v := (.tuple #[(.agg #[(.int .u64 r0_Hash_1), (.int .u64 r0_At_1), (.int .u64 r0_Version_1), (.int .u8 r0_Hits_1)]), (.bool r1_2)])) (hv_move rfl) ?_
            refine hl_val rfl rfl (v := (.agg #[(.int .u64 r0_Hash_1), (.int .u64 r0_At_1), (.int .u64 r0_Version_1), (.int .u8 r0_Hits_1)])) (hv_extract (vs := #[(.agg #[(.int .u64 r0_Hash_1), (.int .u64 r0_At_1), (.int .u64 r0_Version_1), (.int .u8 r0_Hits_1)]), (.bool r1_2)]) rfl rfl) ?_
            refine hl_val rfl rfl (v := (.bool r1_2)) (hv_extract (vs := #[(.agg #[(.int .u64 r0_Hash_1), (.int .u64 r0_At_1), (.int .u64 r0_Version_1), (.int .u8 r0_Hits_1)]), (.bool r1_2)]) rfl rfl) ?_
            refine hl_step rfl rfl (hn_alloc Ty.z31 ?_)
            intro x_2 h9 eb17 eh18
            replace H := H x_2 h9 eb17 eh18
            obtain ⟨hw19, H⟩ := H
            refine hl_step rfl rfl (hn_stores (vs := [(.int .u64 r0_Hash_1), (.int .u64 r0_At_1), (.int .u64 r0_Version_1), (.int .u8 r0_Hits_1)]) rfl rfl Ty.sz31 rfl hw19 ?_)
            intro h10 eh20
            replace H := H h10 eh20
            refine hl_val rfl rfl (v := (.bool r1_2)) (hv_assign rfl) ?_
            refine hl_nil ?_
            refine seqQ_n ?_
            obtain ⟨j, Hx50, Hy51⟩ := H
            refine hx_cut (fun ρ h' => h10 = h' ∧ Has ρ [(2, (.slice (some ⟨l_b, l_o, none⟩) l_n l_c)), (7, (.pointer r0)), (9, (.int .i64 i)), (154, (.bool j))]) ?_ ?_
            · have H := Hx50; clear Hx50 Hy51
              refine hx_draw Ty.mixed [.pure, .pure, .pure, .pure, .pure, .pure, .read, .pure, .pure, .pure, .pure, .read, .pure, .pure, .pure, .pure, .pure, .pure, .read, .pure, .pure, .pure, .pure, .pure, .pure, .pure, .pure, .pure, .pure, .pure, .pure, .pure, .pure, .pure, .pure, .read, .pure, .pure, .pure, .pure, .pure, .pure, .pure] [0, 1, 2, 3, 4, 5, 6, 7, 8, 9, 10, 11, 12, 13, 14, 15, 16, 17, 18, 19, 20, 21, 22, 23, 24, 25, 26, 27, 28, 29, 30, 31, 32, 33, 34, 35, 36, 37, 38, 39, 40, 41, 42] (by kernel_rfl) ?_
              refine hp_pure (i := 0) rfl (wanted_0 rfl) rfl (.int .i64 r2) (fun _ => hv_move rfl) ?_
              refine hp_pure (i := 1) rfl (wanted_0 rfl) rfl (.bool (r2 == 0)) (fun _ => hv_arith rfl rfl rfl) ?_
              refine hp_pure (i := 2) rfl (wanted_0 rfl) rfl (.bool (r2 == 0)) (fun _ => hv_move rfl) ?_
              rcases bool_or (r2 == 0) with hg21 | hg21
              · replace H := H.1 hg21
                refine hp_pure (i := 3) rfl (wanted_y rfl rfl rfl hg21) rfl (.bool r1_2) (fun _ => hv_move rfl) ?_
                refine hp_pure (i := 4) rfl (wanted_y rfl rfl rfl hg21) rfl (.bool (!r1_2)) (fun _ => hv_not (b := r1_2) rfl) ?_
                refine hp_pure (i := 5) rfl (wanted_y rfl rfl rfl hg21) rfl (.bool (!r1_2)) (fun _ => hv_move rfl) ?_
                rcases bool_or (!r1_2) with hg22 | hg22
                · replace H := H.1 hg22
                  refine hp_no (i := 6) rfl (wanted_n rfl rfl rfl hg22) ?_
                  refine hp_no (i := 7) rfl (wanted_n rfl rfl rfl hg22) ?_
                  refine hp_no (i := 8) rfl (wanted_n rfl rfl rfl hg22) ?_
                  refine hp_no (i := 9) rfl (wanted_n rfl rfl rfl hg22) ?_
                  refine hp_no (i := 10) rfl (wanted_n rfl rfl rfl hg22) ?_
                  refine hp_no (i := 11) rfl (wanted_n rfl rfl rfl hg22) ?_
                  refine hp_no (i := 12) rfl (wanted_n rfl rfl rfl hg22) ?_
                  refine hp_pure (i := 13) rfl (wanted_y rfl rfl rfl hg21) rfl (.bool true) (fun _ => hv_pick_t rfl hg22 rfl) ?_
                  refine hp_pure (i := 14) rfl (wanted_y rfl rfl rfl hg21) rfl (.bool true) (fun _ => hv_move rfl) ?_
                  refine hp_no (i := 15) rfl (wanted_n rfl rfl (c := true) rfl rfl) ?_
                  refine hp_no (i := 16) rfl (wanted_n rfl rfl (c := true) rfl rfl) ?_
                  refine hp_no (i := 17) rfl (wanted_u rfl rfl rfl) ?_
                  refine hp_no (i := 18) rfl (wanted_u rfl rfl rfl) ?_
                  refine hp_no (i := 19) rfl (wanted_u rfl rfl rfl) ?_
                  refine hp_no (i := 20) rfl (wanted_u rfl rfl rfl) ?_
                  refine hp_no (i := 21) rfl (wanted_n rfl rfl (c := true) rfl rfl) ?_
                  refine hp_pure (i := 22) rfl (wanted_y rfl rfl rfl hg21) rfl (.bool true) (fun _ => hv_pick (t := true) rfl rfl) ?_
                  refine hp_pure (i := 23) rfl (wanted_0 rfl) rfl (.bool true) (fun _ => hv_pick_t rfl hg21 rfl) ?_
                  refine hp_pure (i := 24) rfl (wanted_0 rfl) rfl (.bool true) (fun _ => hv_move rfl) ?_
                  refine hp_no (i := 25) rfl (wanted_n rfl rfl (c := true) rfl rfl) ?_
                  refine hp_no (i := 26) rfl (wanted_n rfl rfl (c := true) rfl rfl) ?_
                  refine hp_no (i := 27) rfl (wanted_n rfl rfl (c := true) rfl rfl) ?_
                  refine hp_no (i := 28) rfl (wanted_u rfl rfl rfl) ?_
                  refine hp_no (i := 29) rfl (wanted_u rfl rfl rfl) ?_
                  refine hp_no (i := 30) rfl (wanted_u rfl rfl rfl) ?_
                  refine hp_no (i := 31) rfl (wanted_u rfl rfl rfl) ?_
                  refine hp_no (i := 32) rfl (wanted_u rfl rfl rfl) ?_
                  refine hp_no (i := 33) rfl (wanted_u rfl rfl rfl) ?_
                  refine hp_no (i := 34) rfl (wanted_u rfl rfl rfl) ?_
                  refine hp_no (i := 35) rfl (wanted_u rfl rfl rfl) ?_
                  refine hp_no (i := 36) rfl (wanted_u rfl rfl rfl) ?_
                  refine hp_no (i := 37) rfl (wanted_u rfl rfl rfl) ?_
                  refine hp_no (i := 38) rfl (wanted_u rfl rfl rfl) ?_
                  refine hp_no (i := 39) rfl (wanted_u rfl rfl rfl) ?_
                  refine hp_no (i := 40) rfl (wanted_u rfl rfl rfl) ?_
                  refine hp_no (i := 41) rfl (wanted_n rfl rfl (c := true) rfl rfl) ?_
                  refine hp_pure (i := 42) rfl (wanted_0 rfl) rfl (.bool true) (fun _ => hv_pick (t := true) rfl rfl) ?_
                  refine hp_nil ?_
                  refine seqQ_n ?_
                  obtain rfl := H
                  exact ⟨rfl, (has_cons rfl (has_cons rfl (has_cons rfl (has_cons rfl has_nil))))⟩
                · replace H := H.2 hg22
                  obtain ⟨x_Hash_1, x_At_1, x_Version_1, x_Hits_1, hc39, hc40, hc41, hc42, H⟩ := H
                  refine hp_read (i := 6) rfl (wanted_y rfl rfl rfl hg22) rfl (.agg #[(.int .u64 x_Hash_1), (.int .u64 x_At_1), (.int .u64 x_Version_1), (.int .u8 x_Hits_1)]) (fun _ he => hv_loads (vs := [(.int .u64 x_Hash_1), (.int .u64 x_At_1), (.int .u64 x_Version_1), (.int .u8 x_Hits_1)]) Ty.agg31 Ty.sz31 rfl (hcells_cons (he.cell hc39) (hcells_cons (he.cell hc40) (hcells_cons (he.cell hc41) (hcells_cons (he.cell hc42) hcells_nil))))) ?_
                  refine hp_pure (i := 7) rfl (wanted_y rfl rfl rfl hg22) rfl (.slice (some ⟨l_b, l_o, none⟩) l_n l_c) (fun _ => hv_move rfl) ?_
                  refine hp_pure (i := 8) rfl (wanted_y rfl rfl rfl hg22) rfl (.int .i64 i) (fun _ => hv_move rfl) ?_
                  obtain ⟨hi23, hi24, H⟩ := H
                  refine hp_pure (i := 9) rfl (wanted_y rfl rfl rfl hg22) rfl (ptr l_b (l_o + (Int.toNat i) * 5)) (fun _ => hv_index Ty.el22 rfl rfl hi23 hi24) ?_
                  refine hp_pure (i := 10) rfl (wanted_y rfl rfl rfl hg22) rfl (ptr l_b ((l_o + (Int.toNat i) * 5) + 1)) (fun _ => hv_field Ty.fld33_1 (b := l_b) (o := l_o + (Int.toNat i) * 5) rfl) ?_
                  obtain ⟨x_Hash_2, x_At_2, x_Version_2, x_Hits_2, hc35, hc36, hc37, hc38, H⟩ := H
                  refine hp_read (i := 11) rfl (wanted_y rfl rfl rfl hg22) rfl (.agg #[(.int .u64 x_Hash_2), (.int .u64 x_At_2), (.int .u64 x_Version_2), (.int .u8 x_Hits_2)]) (fun _ he => hv_loads (vs := [(.int .u64 x_Hash_2), (.int .u64 x_At_2), (.int .u64 x_Version_2), (.int .u8 x_Hits_2)]) Ty.agg31 Ty.sz31 rfl (hcells_cons (he.cell hc35) (hcells_cons (he.cell hc36) (hcells_cons (he.cell hc37) (hcells_cons (he.cell hc38) hcells_nil))))) ?_
                  refine hp_pure (i := 12) rfl (wanted_y rfl rfl rfl hg22) rfl (.bool (!((x_Hash_1 == x_Hash_2 && (x_At_1 == x_At_2 && (x_Version_1 == x_Version_2 && (x_Hits_1 == x_Hits_2 && true))))))) (fun _ => hv_structEq (xs := [(.int .u64 x_Hash_1), (.int .u64 x_At_1), (.int .u64 x_Version_1), (.int .u8 x_Hits_1)]) (ys := [(.int .u64 x_Hash_2), (.int .u64 x_At_2), (.int .u64 x_Version_2), (.int .u8 x_Hits_2)]) (b := (x_Hash_1 == x_Hash_2 && (x_At_1 == x_At_2 && (x_Version_1 == x_Version_2 && (x_Hits_1 == x_Hits_2 && true))))) Ty.se31 rfl rfl (by kernel_rfl) rfl) ?_
                  refine hp_pure (i := 13) rfl (wanted_y rfl rfl rfl hg21) rfl (.bool (!((x_Hash_1 == x_Hash_2 && (x_At_1 == x_At_2 && (x_Version_1 == x_Version_2 && (x_Hits_1 == x_Hits_2 && true))))))) (fun _ => hv_pick_f rfl hg22 rfl) ?_
                  refine hp_pure (i := 14) rfl (wanted_y rfl rfl rfl hg21) rfl (.bool (!((x_Hash_1 == x_Hash_2 && (x_At_1 == x_At_2 && (x_Version_1 == x_Version_2 && (x_Hits_1 == x_Hits_2 && true))))))) (fun _ => hv_move rfl) ?_
                  rcases bool_or (!((x_Hash_1 == x_Hash_2 && (x_At_1 == x_At_2 && (x_Version_1 == x_Version_2 && (x_Hits_1 == x_Hits_2 && true)))))) with hg25 | hg25
                  · replace H := H.1 hg25
                    refine hp_no (i := 15) rfl (wanted_n rfl rfl rfl hg25) ?_
                    refine hp_no (i := 16) rfl (wanted_n rfl rfl rfl hg25) ?_
                    refine hp_no (i := 17) rfl (wanted_u rfl rfl rfl) ?_
                    refine hp_no (i := 18) rfl (wanted_u rfl rfl rfl) ?_
                    refine hp_no (i := 19) rfl (wanted_u rfl rfl rfl) ?_
                    refine hp_no (i := 20) rfl (wanted_u rfl rfl rfl) ?_
                    refine hp_no (i := 21) rfl (wanted_n rfl rfl rfl hg25) ?_
                    refine hp_pure (i := 22) rfl (wanted_y rfl rfl rfl hg21) rfl (.bool true) (fun _ => hv_pick_t rfl hg25 rfl) ?_
                    refine hp_pure (i := 23) rfl (wanted_0 rfl) rfl (.bool true) (fun _ => hv_pick_t rfl hg21 rfl) ?_
                    refine hp_pure (i := 24) rfl (wanted_0 rfl) rfl (.bool true) (fun _ => hv_move rfl) ?_
                    refine hp_no (i := 25) rfl (wanted_n rfl rfl (c := true) rfl rfl) ?_
                    refine hp_no (i := 26) rfl (wanted_n rfl rfl (c := true) rfl rfl) ?_
                    refine hp_no (i := 27) rfl (wanted_n rfl rfl (c := true) rfl rfl) ?_
                    refine hp_no (i := 28) rfl (wanted_u rfl rfl rfl) ?_
                    refine hp_no (i := 29) rfl (wanted_u rfl rfl rfl) ?_
                    refine hp_no (i := 30) rfl (wanted_u rfl rfl rfl) ?_
                    refine hp_no (i := 31) rfl (wanted_u rfl rfl rfl) ?_
                    refine hp_no (i := 32) rfl (wanted_u rfl rfl rfl) ?_
                    refine hp_no (i := 33) rfl (wanted_u rfl rfl rfl) ?_
                    refine hp_no (i := 34) rfl (wanted_u rfl rfl rfl) ?_
                    refine hp_no (i := 35) rfl (wanted_u rfl rfl rfl) ?_
                    refine hp_no (i := 36) rfl (wanted_u rfl rfl rfl) ?_
                    refine hp_no (i := 37) rfl (wanted_u rfl rfl rfl) ?_
                    refine hp_no (i := 38) rfl (wanted_u rfl rfl rfl) ?_
                    refine hp_no (i := 39) rfl (wanted_u rfl rfl rfl) ?_
                    refine hp_no (i := 40) rfl (wanted_u rfl rfl rfl) ?_
                    refine hp_no (i := 41) rfl (wanted_n rfl rfl (c := true) rfl rfl) ?_
                    refine hp_pure (i := 42) rfl (wanted_0 rfl) rfl (.bool true) (fun _ => hv_pick (t := true) rfl rfl) ?_
                    refine hp_nil ?_
                    refine seqQ_n ?_
                    obtain rfl := H
                    exact ⟨rfl, (has_cons rfl (has_cons rfl (has_cons rfl (has_cons rfl has_nil))))⟩
                  · replace H := H.2 hg25
                    refine hp_pure (i := 15) rfl (wanted_y rfl rfl rfl hg25) rfl (.bool r1_1) (fun _ => hv_move rfl) ?_
                    refine hp_pure (i := 16) rfl (wanted_y rfl rfl rfl hg25) rfl (.bool r1_1) (fun _ => hv_move rfl) ?_
                    rcases bool_or (r1_1) with hg26 | hg26
                    · replace H := H.1 hg26
                      refine hp_pure (i := 17) rfl (wanted_y rfl rfl rfl hg26) rfl (ptr old 0) (fun _ => hv_field Ty.fld31_0 (b := old) (o := 0) rfl) ?_
                      obtain ⟨x_3, hc29, H⟩ := H
                      refine hp_read (i := 18) rfl (wanted_y rfl rfl rfl hg26) rfl (.int .u64 x_3) (fun _ he => hv_load Ty.agg29 rfl (he.cell hc29)) ?_
                      refine hp_pure (i := 19) rfl (wanted_y rfl rfl rfl hg26) rfl (.int .u64 x) (fun _ => hv_move rfl) ?_
                      refine hp_pure (i := 20) rfl (wanted_y rfl rfl rfl hg26) rfl (.bool (x_3 != x)) (fun _ => hv_arith rfl rfl rfl) ?_
                      refine hp_pure (i := 21) rfl (wanted_y rfl rfl rfl hg25) rfl (.bool (x_3 != x)) (fun _ => hv_pick_t rfl hg26 rfl) ?_
                      refine hp_pure (i := 22) rfl (wanted_y rfl rfl rfl hg21) rfl (.bool (x_3 != x)) (fun _ => hv_pick_f rfl hg25 rfl) ?_
                      refine hp_pure (i := 23) rfl (wanted_0 rfl) rfl (.bool (x_3 != x)) (fun _ => hv_pick_t rfl hg21 rfl) ?_
                      refine hp_pure (i := 24) rfl (wanted_0 rfl) rfl (.bool (x_3 != x)) (fun _ => hv_move rfl) ?_
                      rcases bool_or (x_3 != x) with hg27 | hg27
                      · replace H := H.1 hg27
                        refine hp_no (i := 25) rfl (wanted_n rfl rfl rfl hg27) ?_
                        refine hp_no (i := 26) rfl (wanted_n rfl rfl rfl hg27) ?_
                        refine hp_no (i := 27) rfl (wanted_n rfl rfl rfl hg27) ?_
                        refine hp_no (i := 28) rfl (wanted_u rfl rfl rfl) ?_
                        refine hp_no (i := 29) rfl (wanted_u rfl rfl rfl) ?_
                        refine hp_no (i := 30) rfl (wanted_u rfl rfl rfl) ?_
                        refine hp_no (i := 31) rfl (wanted_u rfl rfl rfl) ?_
                        refine hp_no (i := 32) rfl (wanted_u rfl rfl rfl) ?_
                        refine hp_no (i := 33) rfl (wanted_u rfl rfl rfl) ?_
                        refine hp_no (i := 34) rfl (wanted_u rfl rfl rfl) ?_
                        refine hp_no (i := 35) rfl (wanted_u rfl rfl rfl) ?_
                        refine hp_no (i := 36) rfl (wanted_u rfl rfl rfl) ?_
                        refine hp_no (i := 37) rfl (wanted_u rfl rfl rfl) ?_
                        refine hp_no (i := 38) rfl (wanted_u rfl rfl rfl) ?_
                        refine hp_no (i := 39) rfl (wanted_u rfl rfl rfl) ?_
                        refine hp_no (i := 40) rfl (wanted_u rfl rfl rfl) ?_
                        refine hp_no (i := 41) rfl (wanted_n rfl rfl rfl hg27) ?_
                        refine hp_pure (i := 42) rfl (wanted_0 rfl) rfl (.bool true) (fun _ => hv_pick_t rfl hg27 rfl) ?_
                        refine hp_nil ?_
                        refine seqQ_n ?_
                        obtain rfl := H
                        exact ⟨rfl, (has_cons rfl (has_cons rfl (has_cons rfl (has_cons rfl has_nil))))⟩
                      · replace H := H.2 hg27
                        refine hp_pure (i := 25) rfl (wanted_y rfl rfl rfl hg27) rfl (.int .i64 r2) (fun _ => hv_move rfl) ?_
                        refine hp_pure (i := 26) rfl (wanted_y rfl rfl rfl hg27) rfl (.bool (r2 != 0)) (fun _ => hv_arith rfl rfl rfl) ?_
                        refine hp_pure (i := 27) rfl (wanted_y rfl rfl rfl hg27) rfl (.bool (r2 != 0)) (fun _ => hv_move rfl) ?_
                        rcases bool_or (r2 != 0) with hg28 | hg28
                        · replace H := H.1 hg28
                          refine hp_pure (i := 28) rfl (wanted_y rfl rfl rfl hg28) rfl (.bool r1_1) (fun _ => hv_move rfl) ?_
                          refine hp_pure (i := 29) rfl (wanted_y rfl rfl rfl hg28) rfl (.bool r1_1) (fun _ => hv_move rfl) ?_
                          refine hp_no (i := 30) rfl (wanted_n rfl rfl rfl hg26) ?_
                          refine hp_no (i := 31) rfl (wanted_n rfl rfl rfl hg26) ?_
                          refine hp_no (i := 32) rfl (wanted_n rfl rfl rfl hg26) ?_
                          refine hp_no (i := 33) rfl (wanted_n rfl rfl rfl hg26) ?_
                          refine hp_no (i := 34) rfl (wanted_n rfl rfl rfl hg26) ?_
                          refine hp_no (i := 35) rfl (wanted_n rfl rfl rfl hg26) ?_
                          refine hp_no (i := 36) rfl (wanted_n rfl rfl rfl hg26) ?_
                          refine hp_no (i := 37) rfl (wanted_n rfl rfl rfl hg26) ?_
                          refine hp_no (i := 38) rfl (wanted_u rfl rfl rfl) ?_
                          refine hp_no (i := 39) rfl (wanted_n rfl rfl rfl hg26) ?_
                          refine hp_pure (i := 40) rfl (wanted_y rfl rfl rfl hg28) rfl (.bool true) (fun _ => hv_pick_t rfl hg26 rfl) ?_
                          refine hp_pure (i := 41) rfl (wanted_y rfl rfl rfl hg27) rfl (.bool true) (fun _ => hv_pick_t rfl hg28 rfl) ?_
                          refine hp_pure (i := 42) rfl (wanted_0 rfl) rfl (.bool true) (fun _ => hv_pick_f rfl hg27 rfl) ?_
                          refine hp_nil ?_
                          refine seqQ_n ?_
                          obtain rfl := H
                          exact ⟨rfl, (has_cons rfl (has_cons rfl (has_cons rfl (has_cons rfl has_nil))))⟩
                        · replace H := H.2 hg28
                          refine hp_no (i := 28) rfl (wanted_n rfl rfl rfl hg28) ?_
                          refine hp_no (i := 29) rfl (wanted_n rfl rfl rfl hg28) ?_
                          refine hp_no (i := 30) rfl (wanted_u rfl rfl rfl) ?_
                          refine hp_no (i := 31) rfl (wanted_u rfl rfl rfl) ?_
                          refine hp_no (i := 32) rfl (wanted_u rfl rfl rfl) ?_
                          refine hp_no (i := 33) rfl (wanted_u rfl rfl rfl) ?_
                          refine hp_no (i := 34) rfl (wanted_u rfl rfl rfl) ?_
                          refine hp_no (i := 35) rfl (wanted_u rfl rfl rfl) ?_
                          refine hp_no (i := 36) rfl (wanted_u rfl rfl rfl) ?_
                          refine hp_no (i := 37) rfl (wanted_u rfl rfl rfl) ?_
                          refine hp_no (i := 38) rfl (wanted_u rfl rfl rfl) ?_
                          refine hp_no (i := 39) rfl (wanted_u rfl rfl rfl) ?_
                          refine hp_no (i := 40) rfl (wanted_n rfl rfl rfl hg28) ?_
                          refine hp_pure (i := 41) rfl (wanted_y rfl rfl rfl hg27) rfl (.bool false) (fun _ => hv_pick_f rfl hg28 rfl) ?_
                          refine hp_pure (i := 42) rfl (wanted_0 rfl) rfl (.bool false) (fun _ => hv_pick_f rfl hg27 rfl) ?_
                          refine hp_nil ?_
                          refine seqQ_n ?_
                          obtain rfl := H
                          exact ⟨rfl, (has_cons rfl (has_cons rfl (has_cons rfl (has_cons rfl has_nil))))⟩
                    · replace H := H.2 hg26
                      refine hp_no (i := 17) rfl (wanted_n rfl rfl rfl hg26) ?_
                      refine hp_no (i := 18) rfl (wanted_n rfl rfl rfl hg26) ?_
                      refine hp_no (i := 19) rfl (wanted_n rfl rfl rfl hg26) ?_
                      refine hp_no (i := 20) rfl (wanted_n rfl rfl rfl hg26) ?_
                      refine hp_pure (i := 21) rfl (wanted_y rfl rfl rfl hg25) rfl (.bool false) (fun _ => hv_pick_f rfl hg26 rfl) ?_
                      refine hp_pure (i := 22) rfl (wanted_y rfl rfl rfl hg21) rfl (.bool false) (fun _ => hv_pick_f rfl hg25 rfl) ?_
                      refine hp_pure (i := 23) rfl (wanted_0 rfl) rfl (.bool false) (fun _ => hv_pick_t rfl hg21 rfl) ?_
                      refine hp_pure (i := 24) rfl (wanted_0 rfl) rfl (.bool false) (fun _ => hv_move rfl) ?_
                      refine hp_pure (i := 25) rfl (wanted_y rfl rfl (c := false) rfl rfl) rfl (.int .i64 r2) (fun _ => hv_move rfl) ?_
                      refine hp_pure (i := 26) rfl (wanted_y rfl rfl (c := false) rfl rfl) rfl (.bool (r2 != 0)) (fun _ => hv_arith rfl rfl rfl) ?_
                      refine hp_pure (i := 27) rfl (wanted_y rfl rfl (c := false) rfl rfl) rfl (.bool (r2 != 0)) (fun _ => hv_move rfl) ?_
                      rcases bool_or (r2 != 0) with hg30 | hg30
                      · replace H := H.1 hg30
                        refine hp_pure (i := 28) rfl (wanted_y rfl rfl rfl hg30) rfl (.bool r1_1) (fun _ => hv_move rfl) ?_
                        refine hp_pure (i := 29) rfl (wanted_y rfl rfl rfl hg30) rfl (.bool r1_1) (fun _ => hv_move rfl) ?_
                        refine hp_pure (i := 30) rfl (wanted_y rfl rfl rfl hg26) rfl (.slice (some ⟨l_b, l_o, none⟩) l_n l_c) (fun _ => hv_move rfl) ?_
                        refine hp_pure (i := 31) rfl (wanted_y rfl rfl rfl hg26) rfl (.int .i64 i) (fun _ => hv_move rfl) ?_
                        obtain ⟨hi31, hi32, H⟩ := H
                        refine hp_pure (i := 32) rfl (wanted_y rfl rfl rfl hg26) rfl (ptr l_b (l_o + (Int.toNat i) * 5)) (fun _ => hv_index Ty.el22 rfl rfl hi31 hi32) ?_
                        refine hp_pure (i := 33) rfl (wanted_y rfl rfl rfl hg26) rfl (ptr l_b ((l_o + (Int.toNat i) * 5) + 1)) (fun _ => hv_field Ty.fld33_1 (b := l_b) (o := l_o + (Int.toNat i) * 5) rfl) ?_
                        refine hp_pure (i := 34) rfl (wanted_y rfl rfl rfl hg26) rfl (ptr l_b (((l_o + (Int.toNat i) * 5) + 1) + 1)) (fun _ => hv_field Ty.fld31_1 (b := l_b) (o := (l_o + (Int.toNat i) * 5) + 1) rfl) ?_
                        obtain ⟨x_3, hc34, H⟩ := H
                        refine hp_read (i := 35) rfl (wanted_y rfl rfl rfl hg26) rfl (.int .u64 x_3) (fun _ he => hv_load Ty.agg29 rfl (he.cell hc34)) ?_
                        refine hp_pure (i := 36) rfl (wanted_y rfl rfl rfl hg26) rfl (.bool (x_3 != 0)) (fun _ => hv_arith rfl rfl rfl) ?_
                        refine hp_pure (i := 37) rfl (wanted_y rfl rfl rfl hg26) rfl (.bool (x_3 != 0)) (fun _ => hv_move rfl) ?_
                        rcases bool_or (x_3 != 0) with hg33 | hg33
                        · replace H := H.1 hg33
                          refine hp_pure (i := 38) rfl (wanted_y rfl rfl rfl hg33) rfl (.bool r1_2) (fun _ => hv_move rfl) ?_
                          refine hp_pure (i := 39) rfl (wanted_y rfl rfl rfl hg26) rfl (.bool r1_2) (fun _ => hv_pick_t rfl hg33 rfl) ?_
                          refine hp_pure (i := 40) rfl (wanted_y rfl rfl rfl hg30) rfl (.bool r1_2) (fun _ => hv_pick_f rfl hg26 rfl) ?_
                          refine hp_pure (i := 41) rfl (wanted_y rfl rfl (c := false) rfl rfl) rfl (.bool r1_2) (fun _ => hv_pick_t rfl hg30 rfl) ?_
                          refine hp_pure (i := 42) rfl (wanted_0 rfl) rfl (.bool r1_2) (fun _ => hv_pick (t := false) rfl rfl) ?_
                          refine hp_nil ?_
                          refine seqQ_n ?_
                          obtain rfl := H
                          exact ⟨rfl, (has_cons rfl (has_cons rfl (has_cons rfl (has_cons rfl has_nil))))⟩
                        · replace H := H.2 hg33
                          refine hp_no (i := 38) rfl (wanted_n rfl rfl rfl hg33) ?_
                          refine hp_pure (i := 39) rfl (wanted_y rfl rfl rfl hg26) rfl (.bool false) (fun _ => hv_pick_f rfl hg33 rfl) ?_
                          refine hp_pure (i := 40) rfl (wanted_y rfl rfl rfl hg30) rfl (.bool false) (fun _ => hv_pick_f rfl hg26 rfl) ?_
                          refine hp_pure (i := 41) rfl (wanted_y rfl rfl (c := false) rfl rfl) rfl (.bool false) (fun _ => hv_pick_t rfl hg30 rfl) ?_
                          refine hp_pure (i := 42) rfl (wanted_0 rfl) rfl (.bool false) (fun _ => hv_pick (t := false) rfl rfl) ?_
                          refine hp_nil ?_
                          refine seqQ_n ?_
                          obtain rfl := H
                          exact ⟨rfl, (has_cons rfl (has_cons rfl (has_cons rfl (has_cons rfl has_nil))))⟩
                      · replace H := H.2 hg30
                        refine hp_no (i := 28) rfl (wanted_n rfl rfl rfl hg30) ?_
                        refine hp_no (i := 29) rfl (wanted_n rfl rfl rfl hg30) ?_
                        refine hp_no (i := 30) rfl (wanted_u rfl rfl rfl) ?_
                        refine hp_no (i := 31) rfl (wanted_u rfl rfl rfl) ?_
                        refine hp_no (i := 32) rfl (wanted_u rfl rfl rfl) ?_
                        refine hp_no (i := 33) rfl (wanted_u rfl rfl rfl) ?_
                        refine hp_no (i := 34) rfl (wanted_u rfl rfl rfl) ?_
                        refine hp_no (i := 35) rfl (wanted_u rfl rfl rfl) ?_
                        refine hp_no (i := 36) rfl (wanted_u rfl rfl rfl) ?_
                        refine hp_no (i := 37) rfl (wanted_u rfl rfl rfl) ?_
                        refine hp_no (i := 38) rfl (wanted_u rfl rfl rfl) ?_
                        refine hp_no (i := 39) rfl (wanted_u rfl rfl rfl) ?_
                        refine hp_no (i := 40) rfl (wanted_n rfl rfl rfl hg30) ?_
                        refine hp_pure (i := 41) rfl (wanted_y rfl rfl (c := false) rfl rfl) rfl (.bool false) (fun _ => hv_pick_f rfl hg30 rfl) ?_
                        refine hp_pure (i := 42) rfl (wanted_0 rfl) rfl (.bool false) (fun _ => hv_pick (t := false) rfl rfl) ?_
                        refine hp_nil ?_
                        refine seqQ_n ?_
                        obtain rfl := H
                        exact ⟨rfl, (has_cons rfl (has_cons rfl (has_cons rfl (has_cons rfl has_nil))))⟩
              · replace H := H.2 hg21
                refine hp_no (i := 3) rfl (wanted_n rfl rfl rfl hg21) ?_
                refine hp_no (i := 4) rfl (wanted_n rfl rfl rfl hg21) ?_
                refine hp_no (i := 5) rfl (wanted_n rfl rfl rfl hg21) ?_
                refine hp_no (i := 6) rfl (wanted_u rfl rfl rfl) ?_
                refine hp_no (i := 7) rfl (wanted_u rfl rfl rfl) ?_
                refine hp_no (i := 8) rfl (wanted_u rfl rfl rfl) ?_
                refine hp_no (i := 9) rfl (wanted_u rfl rfl rfl) ?_
                refine hp_no (i := 10) rfl (wanted_u rfl rfl rfl) ?_
                refine hp_no (i := 11) rfl (wanted_u rfl rfl rfl) ?_
                refine hp_no (i := 12) rfl (wanted_u rfl rfl rfl) ?_
                refine hp_no (i := 13) rfl (wanted_n rfl rfl rfl hg21) ?_
                refine hp_no (i := 14) rfl (wanted_n rfl rfl rfl hg21) ?_
                refine hp_no (i := 15) rfl (wanted_u rfl rfl rfl) ?_
                refine hp_no (i := 16) rfl (wanted_u rfl rfl rfl) ?_
                refine hp_no (i := 17) rfl (wanted_u rfl rfl rfl) ?_
                refine hp_no (i := 18) rfl (wanted_u rfl rfl rfl) ?_
                refine hp_no (i := 19) rfl (wanted_u rfl rfl rfl) ?_
                refine hp_no (i := 20) rfl (wanted_u rfl rfl rfl) ?_
                refine hp_no (i := 21) rfl (wanted_u rfl rfl rfl) ?_
                refine hp_no (i := 22) rfl (wanted_n rfl rfl rfl hg21) ?_
                refine hp_pure (i := 23) rfl (wanted_0 rfl) rfl (.bool false) (fun _ => hv_pick_f rfl hg21 rfl) ?_
                refine hp_pure (i := 24) rfl (wanted_0 rfl) rfl (.bool false) (fun _ => hv_move rfl) ?_
                refine hp_pure (i := 25) rfl (wanted_y rfl rfl (c := false) rfl rfl) rfl (.int .i64 r2) (fun _ => hv_move rfl) ?_
                refine hp_pure (i := 26) rfl (wanted_y rfl rfl (c := false) rfl rfl) rfl (.bool (r2 != 0)) (fun _ => hv_arith rfl rfl rfl) ?_
                refine hp_pure (i := 27) rfl (wanted_y rfl rfl (c := false) rfl rfl) rfl (.bool (r2 != 0)) (fun _ => hv_move rfl) ?_
                rcases bool_or (r2 != 0) with hg43 | hg43
                · replace H := H.1 hg43
                  refine hp_pure (i := 28) rfl (wanted_y rfl rfl rfl hg43) rfl (.bool r1_1) (fun _ => hv_move rfl) ?_
                  refine hp_pure (i := 29) rfl (wanted_y rfl rfl rfl hg43) rfl (.bool r1_1) (fun _ => hv_move rfl) ?_
                  rcases bool_or (r1_1) with hg44 | hg44
                  · replace H := H.1 hg44
                    refine hp_no (i := 30) rfl (wanted_n rfl rfl rfl hg44) ?_
                    refine hp_no (i := 31) rfl (wanted_n rfl rfl rfl hg44) ?_
                    refine hp_no (i := 32) rfl (wanted_n rfl rfl rfl hg44) ?_
                    refine hp_no (i := 33) rfl (wanted_n rfl rfl rfl hg44) ?_
                    refine hp_no (i := 34) rfl (wanted_n rfl rfl rfl hg44) ?_
                    refine hp_no (i := 35) rfl (wanted_n rfl rfl rfl hg44) ?_
                    refine hp_no (i := 36) rfl (wanted_n rfl rfl rfl hg44) ?_
                    refine hp_no (i := 37) rfl (wanted_n rfl rfl rfl hg44) ?_
                    refine hp_no (i := 38) rfl (wanted_u rfl rfl rfl) ?_
                    refine hp_no (i := 39) rfl (wanted_n rfl rfl rfl hg44) ?_
                    refine hp_pure (i := 40) rfl (wanted_y rfl rfl rfl hg43) rfl (.bool true) (fun _ => hv_pick_t rfl hg44 rfl) ?_
                    refine hp_pure (i := 41) rfl (wanted_y rfl rfl (c := false) rfl rfl) rfl (.bool true) (fun _ => hv_pick_t rfl hg43 rfl) ?_
                    refine hp_pure (i := 42) rfl (wanted_0 rfl) rfl (.bool true) (fun _ => hv_pick (t := false) rfl rfl) ?_
                    refine hp_nil ?_
                    refine seqQ_n ?_
                    obtain rfl := H
                    exact ⟨rfl, (has_cons rfl (has_cons rfl (has_cons rfl (has_cons rfl has_nil))))⟩
                  · replace H := H.2 hg44
                    refine hp_pure (i := 30) rfl (wanted_y rfl rfl rfl hg44) rfl (.slice (some ⟨l_b, l_o, none⟩) l_n l_c) (fun _ => hv_move rfl) ?_
                    refine hp_pure (i := 31) rfl (wanted_y rfl rfl rfl hg44) rfl (.int .i64 i) (fun _ => hv_move rfl) ?_
                    obtain ⟨hi45, hi46, H⟩ := H
                    refine hp_pure (i := 32) rfl (wanted_y rfl rfl rfl hg44) rfl (ptr l_b (l_o + (Int.toNat i) * 5)) (fun _ => hv_index Ty.el22 rfl rfl hi45 hi46) ?_
                    refine hp_pure (i := 33) rfl (wanted_y rfl rfl rfl hg44) rfl (ptr l_b ((l_o + (Int.toNat i) * 5) + 1)) (fun _ => hv_field Ty.fld33_1 (b := l_b) (o := l_o + (Int.toNat i) * 5) rfl) ?_
                    refine hp_pure (i := 34) rfl (wanted_y rfl rfl rfl hg44) rfl (ptr l_b (((l_o + (Int.toNat i) * 5) + 1) + 1)) (fun _ => hv_field Ty.fld31_1 (b := l_b) (o := (l_o + (Int.toNat i) * 5) + 1) rfl) ?_
                    obtain ⟨x_3, hc48, H⟩ := H
                    refine hp_read (i := 35) rfl (wanted_y rfl rfl rfl hg44) rfl (.int .u64 x_3) (fun _ he => hv_load Ty.agg29 rfl (he.cell hc48)) ?_
                    refine hp_pure (i := 36) rfl (wanted_y rfl rfl rfl hg44) rfl (.bool (x_3 != 0)) (fun _ => hv_arith rfl rfl rfl) ?_
                    refine hp_pure (i := 37) rfl (wanted_y rfl rfl rfl hg44) rfl (.bool (x_3 != 0)) (fun _ => hv_move rfl) ?_
                    rcases bool_or (x_3 != 0) with hg47 | hg47
                    · replace H := H.1 hg47
                      refine hp_pure (i := 38) rfl (wanted_y rfl rfl rfl hg47) rfl (.bool r1_2) (fun _ => hv_move rfl) ?_
                      refine hp_pure (i := 39) rfl (wanted_y rfl rfl rfl hg44) rfl (.bool r1_2) (fun _ => hv_pick_t rfl hg47 rfl) ?_
                      refine hp_pure (i := 40) rfl (wanted_y rfl rfl rfl hg43) rfl (.bool r1_2) (fun _ => hv_pick_f rfl hg44 rfl) ?_
                      refine hp_pure (i := 41) rfl (wanted_y rfl rfl (c := false) rfl rfl) rfl (.bool r1_2) (fun _ => hv_pick_t rfl hg43 rfl) ?_
                      refine hp_pure (i := 42) rfl (wanted_0 rfl) rfl (.bool r1_2) (fun _ => hv_pick (t := false) rfl rfl) ?_
                      refine hp_nil ?_
                      refine seqQ_n ?_
                      obtain rfl := H
                      exact ⟨rfl, (has_cons rfl (has_cons rfl (has_cons rfl (has_cons rfl has_nil))))⟩
                    · replace H := H.2 hg47
                      refine hp_no (i := 38) rfl (wanted_n rfl rfl rfl hg47) ?_
                      refine hp_pure (i := 39) rfl (wanted_y rfl rfl rfl hg44) rfl (.bool false) (fun _ => hv_pick_f rfl hg47 rfl) ?_
                      refine hp_pure (i := 40) rfl (wanted_y rfl rfl rfl hg43) rfl (.bool false) (fun _ => hv_pick_f rfl hg44 rfl) ?_
                      refine hp_pure (i := 41) rfl (wanted_y rfl rfl (c := false) rfl rfl) rfl (.bool false) (fun _ => hv_pick_t rfl hg43 rfl) ?_
                      refine hp_pure (i := 42) rfl (wanted_0 rfl) rfl (.bool false) (fun _ => hv_pick (t := false) rfl rfl) ?_
                      refine hp_nil ?_
                      refine seqQ_n ?_
                      obtain rfl := H
                      exact ⟨rfl, (has_cons rfl (has_cons rfl (has_cons rfl (has_cons rfl has_nil))))⟩
                · replace H := H.2 hg43
                  refine hp_no (i := 28) rfl (wanted_n rfl rfl rfl hg43) ?_
                  refine hp_no (i := 29) rfl (wanted_n rfl rfl rfl hg43) ?_
                  refine hp_no (i := 30) rfl (wanted_u rfl rfl rfl) ?_
                  refine hp_no (i := 31) rfl (wanted_u rfl rfl rfl) ?_
                  refine hp_no (i := 32) rfl (wanted_u rfl rfl rfl) ?_
                  refine hp_no (i := 33) rfl (wanted_u rfl rfl rfl) ?_
                  refine hp_no (i := 34) rfl (wanted_u rfl rfl rfl) ?_
                  refine hp_no (i := 35) rfl (wanted_u rfl rfl rfl) ?_
                  refine hp_no (i := 36) rfl (wanted_u rfl rfl rfl) ?_
                  refine hp_no (i := 37) rfl (wanted_u rfl rfl rfl) ?_
                  refine hp_no (i := 38) rfl (wanted_u rfl rfl rfl) ?_
                  refine hp_no (i := 39) rfl (wanted_u rfl rfl rfl) ?_
                  refine hp_no (i := 40) rfl (wanted_n rfl rfl rfl hg43) ?_
                  refine hp_pure (i := 41) rfl (wanted_y rfl rfl (c := false) rfl rfl) rfl (.bool false) (fun _ => hv_pick_f rfl hg43 rfl) ?_
                  refine hp_pure (i := 42) rfl (wanted_0 rfl) rfl (.bool false) (fun _ => hv_pick (t := false) rfl rfl) ?_
                  refine hp_nil ?_
                  refine seqQ_n ?_
                  obtain rfl := H
                  exact ⟨rfl, (has_cons rfl (has_cons rfl (has_cons rfl (has_cons rfl has_nil))))⟩
            · have H := Hy51; clear Hx50 Hy51
              rintro ρ _ ⟨rfl, hH⟩
              refine hx_has _ hH ?_
              refine hx_cond (b := j) rfl (fun hb49 => ?_) (fun hb49 => ?_)
              · replace H := H.1 hb49
                refine hx_seq ?_
                refine hx_region ?_
                refine hl_val rfl rfl (v := (.bool false)) (hv_assign rfl) ?_
                refine hl_nil ?_
                refine seqQ_n ?_
                refine hx_ret ?_
                refine blockQ_ret ?_
                refine blockQ_ret ?_
                refine seqQ_ret ?_
                refine seqQ_ret ?_
                refine blockQ_ret ?_
                refine seqQ_ret ?_
                exact endQ_ret _ (res_one Try.results4 (rv_tmp rfl)) H
              · replace H := H.2 hb49
                refine hx_skip ?_
                refine blockQ_n ?_
                refine blockQ_n ?_
                refine seqQ_n ?_
                exact ⟨H, (has_cons rfl (has_cons rfl (has_cons rfl has_nil)))⟩
          · replace H := H.2 hb99
            refine hx_seq ?_
            refine hx_region ?_
            refine hl_val rfl rfl (v := (.bool (x_1 == 3))) (hv_arith rfl rfl rfl) ?_
            refine hl_val rfl rfl (v := (.bool (x_1 == 3))) (hv_assign rfl) ?_
            refine hl_nil ?_
            refine seqQ_n ?_
            refine hx_cond (b := x_1 == 3) rfl (fun hb98 => ?_) (fun hb98 => ?_)
            · replace H := H.1 hb98
              refine hx_seq ?_
              refine hx_region ?_
              refine hl_val rfl rfl (v := (.pointer r0)) (hv_move rfl) ?_
              refine hl_val rfl rfl (v := (.int .u64 x)) (hv_move rfl) ?_
              refine hl_step rfl rfl (hs_call Ty.cb16 (vs := [(.pointer r0), (.int .u64 x)]) rfl (HC.mono H ?_))
              rintro _ h11 ⟨r0_Hash, r0_At, r0_Version, r0_Hits, r1_1, rfl, H⟩
              refine hl_nil ?_
              refine seqQ_n ?_
              refine hx_seq ?_
              refine hx_region ?_
              refine hl_val rfl rfl (v := (.pointer r0)) (hv_move rfl) ?_
              refine hl_val rfl rfl (v := (.int .u64 x)) (hv_move rfl) ?_
              refine hl_step rfl rfl (hs_call Ty.cb15 (vs := [(.pointer r0), (.int .u64 x)]) rfl (HC.mono H ?_))
              rintro _ h12 ⟨r0_Hash_1, r0_At_1, r0_Version_1, r0_Hits_1, r1_2, rfl, H⟩
              refine hl_val rfl rfl (v := (.tuple #[(.agg #[(.int .u64 r0_Hash_1), (.int .u64 r0_At_1), (.int .u64 r0_Version_1), (.int .u8 r0_Hits_1)]), (.bool r1_2)])) (hv_move rfl) ?_
              refine hl_val rfl rfl (v := (.agg #[(.int .u64 r0_Hash_1), (.int .u64 r0_At_1), (.int .u64 r0_Version_1), (.int .u8 r0_Hits_1)])) (hv_extract (vs := #[(.agg #[(.int .u64 r0_Hash_1), (.int .u64 r0_At_1), (.int .u64 r0_Version_1), (.int .u8 r0_Hits_1)]), (.bool r1_2)]) rfl rfl) ?_
              refine hl_val rfl rfl (v := (.bool r1_2)) (hv_extract (vs := #[(.agg #[(.int .u64 r0_Hash_1), (.int .u64 r0_At_1), (.int .u64 r0_Version_1), (.int .u8 r0_Hits_1)]), (.bool r1_2)]) rfl rfl) ?_
              refine hl_step rfl rfl (hn_alloc Ty.z31 ?_)
              intro x_2 h13 eb56 eh57
              replace H := H x_2 h13 eb56 eh57
              obtain ⟨hw58, H⟩ := H
              refine hl_step rfl rfl (hn_stores (vs := [(.int .u64 r0_Hash_1), (.int .u64 r0_At_1), (.int .u64 r0_Version_1), (.int .u8 r0_Hits_1)]) rfl rfl Ty.sz31 rfl hw58 ?_)
              intro h14 eh59
              replace H := H h14 eh59
              refine hl_val rfl rfl (v := (.bool r1_2)) (hv_assign rfl) ?_
              refine hl_nil ?_
              refine seqQ_n ?_
              refine hx_seq ?_
              refine hx_region ?_
              refine hl_val rfl rfl (v := (.bool r1_2)) (hv_move rfl) ?_
              refine hl_nil ?_
              refine seqQ_n ?_
              refine hx_cond (b := r1_2) rfl (fun hb60 => ?_) (fun hb60 => ?_)
              · replace H := H.1 hb60
                refine hx_seq ?_
                refine hx_region ?_
                refine hl_val rfl rfl (v := (.bool false)) (hv_assign rfl) ?_
                refine hl_nil ?_
                refine seqQ_n ?_
                refine hx_ret ?_
                refine blockQ_ret ?_
                refine blockQ_ret ?_
                refine seqQ_ret ?_
                refine seqQ_ret ?_
                refine blockQ_ret ?_
                refine seqQ_ret ?_
                exact endQ_ret _ (res_one Try.results4 (rv_tmp rfl)) H
              · replace H := H.2 hb60
                refine hx_skip ?_
                refine blockQ_n ?_
                refine blockQ_n ?_
                refine seqQ_n ?_
                exact ⟨H, (has_cons rfl (has_cons rfl (has_cons rfl has_nil)))⟩
            · replace H := H.2 hb98
              refine hx_seq ?_
              refine hx_region ?_
              refine hl_val rfl rfl (v := (.pointer r0)) (hv_move rfl) ?_
              refine hl_val rfl rfl (v := (.int .u64 x)) (hv_move rfl) ?_
              refine hl_step rfl rfl (hs_call Ty.cb15 (vs := [(.pointer r0), (.int .u64 x)]) rfl (HC.mono H ?_))
              rintro _ h15 ⟨r0_Hash, r0_At, r0_Version, r0_Hits, r1_1, rfl, H⟩
              refine hl_val rfl rfl (v := (.tuple #[(.agg #[(.int .u64 r0_Hash), (.int .u64 r0_At), (.int .u64 r0_Version), (.int .u8 r0_Hits)]), (.bool r1_1)])) (hv_move rfl) ?_
              refine hl_val rfl rfl (v := (.agg #[(.int .u64 r0_Hash), (.int .u64 r0_At), (.int .u64 r0_Version), (.int .u8 r0_Hits)])) (hv_extract (vs := #[(.agg #[(.int .u64 r0_Hash), (.int .u64 r0_At), (.int .u64 r0_Version), (.int .u8 r0_Hits)]), (.bool r1_1)]) rfl rfl) ?_
              refine hl_val rfl rfl (v := (.bool r1_1)) (hv_extract (vs := #[(.agg #[(.int .u64 r0_Hash), (.int .u64 r0_At), (.int .u64 r0_Version), (.int .u8 r0_Hits)]), (.bool r1_1)]) rfl rfl) ?_
              refine hl_step rfl rfl (hn_alloc Ty.z31 ?_)
              intro x_2 h16 eb61 eh62
              replace H := H x_2 h16 eb61 eh62
              obtain ⟨hw63, H⟩ := H
              refine hl_step rfl rfl (hn_stores (vs := [(.int .u64 r0_Hash), (.int .u64 r0_At), (.int .u64 r0_Version), (.int .u8 r0_Hits)]) rfl rfl Ty.sz31 rfl hw63 ?_)
              intro h17 eh64
              replace H := H h17 eh64
              refine hl_val rfl rfl (v := (.bool r1_1)) (hv_assign rfl) ?_
              refine hl_nil ?_
              refine seqQ_n ?_
              refine hx_seq ?_
              obtain ⟨j, Hx96, Hy97⟩ := H
              refine hx_cut (fun ρ h' => h17 = h' ∧ Has ρ [(2, (.slice (some ⟨l_b, l_o, none⟩) l_n l_c)), (7, (.pointer r0)), (9, (.int .i64 i)), (10, (.int .u64 x)), (18, (ptr x_2 0)), (19, (.bool r1_1)), (68, (.bool j))]) ?_ ?_
              · have H := Hx96; clear Hx96 Hy97
                refine hx_region ?_
                refine hl_val rfl rfl (v := (.bool r1_1)) (hv_move rfl) ?_
                refine hl_val rfl rfl (v := (.bool r1_1)) (hv_move rfl) ?_
                rcases bool_or (r1_1) with hg65 | hg65
                · replace H := H.1 hg65
                  refine hl_yes (wanted_y rfl rfl rfl hg65) rfl (HStep.of_val (v := (ptr x_2 0)) (hv_field Ty.fld31_0 (b := x_2) (o := 0) rfl) ?_)
                  obtain ⟨x_3, hc68, H⟩ := H
                  refine hl_yes (wanted_y rfl rfl rfl hg65) rfl (HStep.of_val (v := (.int .u64 x_3)) (hv_load Ty.agg29 rfl hc68) ?_)
                  refine hl_yes (wanted_y rfl rfl rfl hg65) rfl (HStep.of_val (v := (.int .u64 x)) (hv_move rfl) ?_)
                  refine hl_yes (wanted_y rfl rfl rfl hg65) rfl (HStep.of_val (v := (.bool (x_3 != x))) (hv_arith rfl rfl rfl) ?_)
                  refine hl_yes (wanted_y rfl rfl rfl hg65) rfl (HStep.of_val (v := (.bool (x_3 != x))) (hv_move rfl) ?_)
                  rcases bool_or (x_3 != x) with hg66 | hg66
                  · replace H := H.1 hg66
                    refine hl_no (wanted_n rfl rfl rfl hg66) rfl ?_
                    refine hl_no (wanted_n rfl rfl rfl hg66) rfl ?_
                    refine hl_no (wanted_n rfl rfl rfl hg66) rfl ?_
                    refine hl_yes (wanted_y rfl rfl rfl hg65) rfl (HStep.of_val (v := (.bool true)) (hv_pick_t rfl hg66 rfl) ?_)
                    refine hl_val rfl rfl (v := (.bool true)) (hv_pick_t rfl hg65 rfl) ?_
                    refine hl_nil ?_
                    refine seqQ_n ?_
                    obtain rfl := H
                    exact ⟨rfl, (has_cons rfl (has_cons rfl (has_cons rfl (has_cons rfl (has_cons rfl (has_cons rfl (has_cons rfl has_nil)))))))⟩
                  · replace H := H.2 hg66
                    refine hl_yes (wanted_y rfl rfl rfl hg66) rfl (HStep.of_val (v := (ptr x_2 1)) (hv_field Ty.fld31_1 (b := x_2) (o := 0) rfl) ?_)
                    obtain ⟨x_4, hc67, H⟩ := H
                    refine hl_yes (wanted_y rfl rfl rfl hg66) rfl (HStep.of_val (v := (.int .u64 x_4)) (hv_load Ty.agg29 rfl hc67) ?_)
                    refine hl_yes (wanted_y rfl rfl rfl hg66) rfl (HStep.of_val (v := (.bool (x_4 == 0))) (hv_arith rfl rfl rfl) ?_)
                    refine hl_yes (wanted_y rfl rfl rfl hg65) rfl (HStep.of_val (v := (.bool (x_4 == 0))) (hv_pick_f rfl hg66 rfl) ?_)
                    refine hl_val rfl rfl (v := (.bool (x_4 == 0))) (hv_pick_t rfl hg65 rfl) ?_
                    refine hl_nil ?_
                    refine seqQ_n ?_
                    obtain rfl := H
                    exact ⟨rfl, (has_cons rfl (has_cons rfl (has_cons rfl (has_cons rfl (has_cons rfl (has_cons rfl (has_cons rfl has_nil)))))))⟩
                · replace H := H.2 hg65
                  refine hl_no (wanted_n rfl rfl rfl hg65) rfl ?_
                  refine hl_no (wanted_n rfl rfl rfl hg65) rfl ?_
                  refine hl_no (wanted_n rfl rfl rfl hg65) rfl ?_
                  refine hl_no (wanted_n rfl rfl rfl hg65) rfl ?_
                  refine hl_no (wanted_n rfl rfl rfl hg65) rfl ?_
                  refine hl_no (wanted_u rfl rfl rfl) rfl ?_
                  refine hl_no (wanted_u rfl rfl rfl) rfl ?_
                  refine hl_no (wanted_u rfl rfl rfl) rfl ?_
                  refine hl_no (wanted_n rfl rfl rfl hg65) rfl ?_
                  refine hl_val rfl rfl (v := (.bool false)) (hv_pick_f rfl hg65 rfl) ?_
                  refine hl_nil ?_
                  refine seqQ_n ?_
                  obtain rfl := H
                  exact ⟨rfl, (has_cons rfl (has_cons rfl (has_cons rfl (has_cons rfl (has_cons rfl (has_cons rfl (has_cons rfl has_nil)))))))⟩
              · have H := Hy97; clear Hx96 Hy97
                rintro ρ _ ⟨rfl, hH⟩
                refine hx_has _ hH ?_
                refine hx_cond (b := j) rfl (fun hb95 => ?_) (fun hb95 => ?_)
                · replace H := H.1 hb95
                  refine hx_seq ?_
                  refine hx_region ?_
                  refine hl_val rfl rfl (v := (.bool false)) (hv_assign rfl) ?_
                  refine hl_nil ?_
                  refine seqQ_n ?_
                  refine hx_ret ?_
                  refine seqQ_ret ?_
                  refine blockQ_ret ?_
                  refine blockQ_ret ?_
                  refine seqQ_ret ?_
                  refine seqQ_ret ?_
                  refine blockQ_ret ?_
                  refine seqQ_ret ?_
                  exact endQ_ret _ (res_one Try.results4 (rv_tmp rfl)) H
                · replace H := H.2 hb95
                  refine hx_skip ?_
                  refine seqQ_n ?_
                  refine hx_seq ?_
                  refine hx_seq ?_
                  refine hx_region ?_
                  refine hl_val rfl rfl (v := (.pointer r0)) (hv_move rfl) ?_
                  refine hl_val rfl rfl (v := (.int .u64 x)) (hv_move rfl) ?_
                  refine hl_step rfl rfl (hs_call Ty.cb17 (vs := [(.pointer r0), (.int .u64 x)]) rfl (HC.mono H ?_))
                  rintro _ h18 ⟨r_1, rfl, H⟩
                  refine hl_val rfl rfl (v := (.bool r1_1)) (hv_move rfl) ?_
                  refine hl_val rfl rfl (v := (.bool (r_1 != r1_1))) (hv_eqBool Ty.u4 rfl rfl rfl) ?_
                  refine hl_nil ?_
                  refine seqQ_n ?_
                  refine hx_cond (b := r_1 != r1_1) rfl (fun hb94 => ?_) (fun hb94 => ?_)
                  · replace H := H.1 hb94
                    refine hx_seq ?_
                    refine hx_region ?_
                    refine hl_val rfl rfl (v := (.bool false)) (hv_assign rfl) ?_
                    refine hl_nil ?_
                    refine seqQ_n ?_
                    refine hx_ret ?_
                    refine seqQ_ret ?_
                    refine blockQ_ret ?_
                    refine blockQ_ret ?_
                    refine seqQ_ret ?_
                    refine seqQ_ret ?_
                    refine blockQ_ret ?_
                    refine seqQ_ret ?_
                    exact endQ_ret _ (res_one Try.results4 (rv_tmp rfl)) H
                  · replace H := H.2 hb94
                    refine hx_skip ?_
                    refine seqQ_n ?_
                    refine hx_seq ?_
                    refine hx_region ?_
                    refine hl_val rfl rfl (v := (.pointer r0)) (hv_move rfl) ?_
                    refine hl_val rfl rfl (v := (.int .u64 x)) (hv_move rfl) ?_
                    refine hl_step rfl rfl (hs_call Ty.cb15 (vs := [(.pointer r0), (.int .u64 x)]) rfl (HC.mono H ?_))
                    rintro _ h19 ⟨r0_Hash_1, r0_At_1, r0_Version_1, r0_Hits_1, r1_2, rfl, H⟩
                    refine hl_val rfl rfl (v := (.tuple #[(.agg #[(.int .u64 r0_Hash_1), (.int .u64 r0_At_1), (.int .u64 r0_Version_1), (.int .u8 r0_Hits_1)]), (.bool r1_2)])) (hv_move rfl) ?_
                    refine hl_val rfl rfl (v := (.agg #[(.int .u64 r0_Hash_1), (.int .u64 r0_At_1), (.int .u64 r0_Version_1), (.int .u8 r0_Hits_1)])) (hv_extract (vs := #[(.agg #[(.int .u64 r0_Hash_1), (.int .u64 r0_At_1), (.int .u64 r0_Version_1), (.int .u8 r0_Hits_1)]), (.bool r1_2)]) rfl rfl) ?_
                    refine hl_val rfl rfl (v := (.bool r1_2)) (hv_extract (vs := #[(.agg #[(.int .u64 r0_Hash_1), (.int .u64 r0_At_1), (.int .u64 r0_Version_1), (.int .u8 r0_Hits_1)]), (.bool r1_2)]) rfl rfl) ?_
                    refine hl_step rfl rfl (hn_alloc Ty.z31 ?_)
                    intro y h20 eb69 eh70
                    replace H := H y h20 eb69 eh70
                    obtain ⟨hw71, H⟩ := H
                    refine hl_step rfl rfl (hn_stores (vs := [(.int .u64 r0_Hash_1), (.int .u64 r0_At_1), (.int .u64 r0_Version_1), (.int .u8 r0_Hits_1)]) rfl rfl Ty.sz31 rfl hw71 ?_)
                    intro h21 eh72
                    replace H := H h21 eh72
                    refine hl_val rfl rfl (v := (.bool r1_2)) (hv_assign rfl) ?_
                    refine hl_nil ?_
                    refine seqQ_n ?_
                    obtain ⟨A73, Hx91, Hy92⟩ := H
                    refine hx_cut (fun ρ h' => A73 h' ∧ Has ρ [(2, (.slice (some ⟨l_b, l_o, none⟩) l_n l_c)), (7, (.pointer r0)), (9, (.int .i64 i)), (18, (ptr x_2 0)), (20, (ptr y 0))]) ?_ ?_
                    · have H := Hx91; clear Hx91 Hy92
                      obtain ⟨j_1, Hx80, Hy81⟩ := H
                      refine hx_cut (fun ρ h' => h21 = h' ∧ Has ρ [(2, (.slice (some ⟨l_b, l_o, none⟩) l_n l_c)), (7, (.pointer r0)), (9, (.int .i64 i)), (18, (ptr x_2 0)), (20, (ptr y 0)), (85, (.bool j_1))]) ?_ ?_
                      · have H := Hx80; clear Hx80 Hy81
                        refine hx_region ?_
                        refine hl_val rfl rfl (v := (.bool r1_1)) (hv_move rfl) ?_
                        refine hl_val rfl rfl (v := (.bool r1_1)) (hv_move rfl) ?_
                        rcases bool_or (r1_1) with hg74 | hg74
                        · replace H := H.1 hg74
                          refine hl_yes (wanted_y rfl rfl rfl hg74) rfl (HStep.of_val (v := (ptr x_2 3)) (hv_field Ty.fld31_3 (b := x_2) (o := 0) rfl) ?_)
                          obtain ⟨x_5, hc75, H⟩ := H
                          refine hl_yes (wanted_y rfl rfl rfl hg74) rfl (HStep.of_val (v := (.int .u8 x_5)) (hv_load Ty.agg5 rfl hc75) ?_)
                          refine hl_yes (wanted_y rfl rfl rfl hg74) rfl (HStep.of_val (v := (.bool (decide (x_5 < 255)))) (hv_arith rfl rfl rfl) ?_)
                          refine hl_val rfl rfl (v := (.bool (decide (x_5 < 255)))) (hv_pick_t rfl hg74 rfl) ?_
                          refine hl_nil ?_
                          refine seqQ_n ?_
                          obtain rfl := H
                          exact ⟨rfl, (has_cons rfl (has_cons rfl (has_cons rfl (has_cons rfl (has_cons rfl (has_cons rfl has_nil))))))⟩
                        · replace H := H.2 hg74
                          refine hl_no (wanted_n rfl rfl rfl hg74) rfl ?_
                          refine hl_no (wanted_n rfl rfl rfl hg74) rfl ?_
                          refine hl_no (wanted_n rfl rfl rfl hg74) rfl ?_
                          refine hl_val rfl rfl (v := (.bool false)) (hv_pick_f rfl hg74 rfl) ?_
                          refine hl_nil ?_
                          refine seqQ_n ?_
                          obtain rfl := H
                          exact ⟨rfl, (has_cons rfl (has_cons rfl (has_cons rfl (has_cons rfl (has_cons rfl (has_cons rfl has_nil))))))⟩
                      · have H := Hy81; clear Hx80 Hy81
                        rintro ρ _ ⟨rfl, hH⟩
                        refine hx_has _ hH ?_
                        refine hx_cond (b := j_1) rfl (fun hb79 => ?_) (fun hb79 => ?_)
                        · replace H := H.1 hb79
                          refine hx_region ?_
                          refine hl_val rfl rfl (v := (ptr x_2 3)) (hv_field Ty.fld31_3 (b := x_2) (o := 0) rfl) ?_
                          obtain ⟨x_6, hc78, H⟩ := H
                          refine hl_val rfl rfl (v := (.int .u8 x_6)) (hv_load Ty.agg5 rfl hc78) ?_
                          refine hl_val rfl rfl (v := (.int .u8 (IntKind.u8.wrap (x_6 + 1)))) (hv_arith rfl rfl rfl) ?_
                          refine hl_val rfl rfl (v := (ptr x_2 3)) (hv_field Ty.fld31_3 (b := x_2) (o := 0) rfl) ?_
                          obtain ⟨hw76, H⟩ := H
                          refine hl_step rfl rfl (hn_store (v := (.int .u8 (IntKind.u8.wrap (x_6 + 1)))) rfl rfl Ty.sz5 rfl hw76 ?_)
                          intro h23 eh77
                          replace H := H h23 eh77
                          refine hl_nil ?_
                          refine seqQ_n ?_
                          exact ⟨H, (has_cons rfl (has_cons rfl (has_cons rfl (has_cons rfl (has_cons rfl has_nil)))))⟩
                        · replace H := H.2 hb79
                          refine hx_skip ?_
                          refine seqQ_n ?_
                          exact ⟨H, (has_cons rfl (has_cons rfl (has_cons rfl (has_cons rfl (has_cons rfl has_nil)))))⟩
                    · rintro ρ h22 ⟨HA93, hH⟩
                      have H := Hy92 h22 HA93; clear Hx91 Hy92
                      refine hx_has _ hH ?_
                      refine hx_seq ?_
                      refine hx_region ?_
                      obtain ⟨x_Hash, x_At, x_Version, x_Hits, hc87, hc88, hc89, hc90, H⟩ := H
                      refine hl_val rfl rfl (v := (.agg #[(.int .u64 x_Hash), (.int .u64 x_At), (.int .u64 x_Version), (.int .u8 x_Hits)])) (hv_loads (vs := [(.int .u64 x_Hash), (.int .u64 x_At), (.int .u64 x_Version), (.int .u8 x_Hits)]) Ty.agg31 Ty.sz31 rfl (hcells_cons hc87 (hcells_cons hc88 (hcells_cons hc89 (hcells_cons hc90 hcells_nil))))) ?_
                      obtain ⟨x_Hash_1, x_At_1, x_Version_1, x_Hits_1, hc83, hc84, hc85, hc86, H⟩ := H
                      refine hl_val rfl rfl (v := (.agg #[(.int .u64 x_Hash_1), (.int .u64 x_At_1), (.int .u64 x_Version_1), (.int .u8 x_Hits_1)])) (hv_loads (vs := [(.int .u64 x_Hash_1), (.int .u64 x_At_1), (.int .u64 x_Version_1), (.int .u8 x_Hits_1)]) Ty.agg31 Ty.sz31 rfl (hcells_cons hc83 (hcells_cons hc84 (hcells_cons hc85 (hcells_cons hc86 hcells_nil))))) ?_
                      refine hl_val rfl rfl (v := (.bool (!((x_Hash == x_Hash_1 && (x_At == x_At_1 && (x_Version == x_Version_1 && (x_Hits == x_Hits_1 && true)))))))) (hv_structEq (xs := [(.int .u64 x_Hash), (.int .u64 x_At), (.int .u64 x_Version), (.int .u8 x_Hits)]) (ys := [(.int .u64 x_Hash_1), (.int .u64 x_At_1), (.int .u64 x_Version_1), (.int .u8 x_Hits_1)]) (b := (x_Hash == x_Hash_1 && (x_At == x_At_1 && (x_Version == x_Version_1 && (x_Hits == x_Hits_1 && true))))) Ty.se31 rfl rfl (by kernel_rfl) rfl) ?_
                      refine hl_nil ?_
                      refine seqQ_n ?_
                      refine hx_cond (b := !((x_Hash == x_Hash_1 && (x_At == x_At_1 && (x_Version == x_Version_1 && (x_Hits == x_Hits_1 && true)))))) rfl (fun hb82 => ?_) (fun hb82 => ?_)
                      · replace H := H.1 hb82
                        refine hx_seq ?_
                        refine hx_region ?_
                        refine hl_val rfl rfl (v := (.bool false)) (hv_assign rfl) ?_
                        refine hl_nil ?_
                        refine seqQ_n ?_
                        refine hx_ret ?_
                        refine blockQ_ret ?_
                        refine blockQ_ret ?_
                        refine seqQ_ret ?_
                        refine seqQ_ret ?_
                        refine blockQ_ret ?_
                        refine seqQ_ret ?_
                        exact endQ_ret _ (res_one Try.results4 (rv_tmp rfl)) H
                      · replace H := H.2 hb82
                        refine hx_skip ?_
                        refine blockQ_n ?_
                        refine blockQ_n ?_
                        refine seqQ_n ?_
                        exact ⟨H, (has_cons rfl (has_cons rfl (has_cons rfl has_nil)))⟩
        · rintro ρ h4 ⟨HA104, hH⟩
          have H := Hy103 h4 HA104; clear Hx102 Hy103
          refine hx_has _ hH ?_
          refine hx_region ?_
          refine hl_val rfl rfl (v := (.int .i64 i)) (hv_move rfl) ?_
          refine hl_val rfl rfl (v := (.int .i64 (IntKind.i64.wrap (i + 1)))) (hv_arith rfl rfl rfl) ?_
          refine hl_val rfl rfl (v := (.int .i64 (IntKind.i64.wrap (i + 1)))) (hv_assign rfl) ?_
          refine hl_nil ?_
          refine seqQ_n ?_
          exact ⟨IntKind.i64.wrap (i + 1), H, (has_cons rfl (has_cons rfl (has_cons rfl has_nil)))⟩
      · replace H := H.2 hb105
        refine hx_exit ?_
        refine seqQ_exit ?_
        refine seqQ_exit ?_
        refine blockQ_here ?_
        refine seqQ_n ?_
        refine hx_seq ?_
        refine hx_region ?_
        refine hl_val rfl rfl (v := (.bool true)) (hv_assign rfl) ?_
        refine hl_nil ?_
        refine seqQ_n ?_
        refine hx_ret ?_
        exact endQ_ret _ (res_one Try.results4 (rv_tmp rfl)) H

end Go.Proofs.Ytebipjmcckkhcaa
