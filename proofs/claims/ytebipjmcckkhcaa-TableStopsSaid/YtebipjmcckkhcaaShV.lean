/-
Shallow forms, written by gen2.py (a program of ours) out of the print of the program.
-/
import Derived.Test.YtebipjmcckkhcaaShP
import Derived.Test.YtebipjmcckkhcaaPrv
import Derived.Test.YtebipjmcckkhcaaSrt
import Derived.Test.YtebipjmcckkhcaaRng
import Derived.Test.YtebipjmcckkhcaaMor
import Derived.Test.YtebipjmcckkhcaaProg
namespace Go.Proofs.Ytebipjmcckkhcaa
open Go
set_option maxRecDepth 100000
set_option maxHeartbeats 4000000

theorem TyShV.agg3 : aggB Try.prog 3 = some false := by kernel_rfl
theorem TyShV.agg31 : aggB Try.prog 31 = some true := by kernel_rfl
theorem TyShV.agg33 : aggB Try.prog 33 = some true := by kernel_rfl
theorem TyShV.agg35 : aggB Try.prog 35 = some false := by kernel_rfl
theorem TyShV.agg47 : aggB Try.prog 47 = some false := by kernel_rfl
theorem TyShV.cb10 : CallB Try.prog 10 := fun _ _ => Try.call10 _ _
theorem TyShV.cb20 : CallB Try.prog 20 := fun _ _ => Try.call20 _ _
theorem TyShV.cb21 : CallB Try.prog 21 := fun _ _ => Try.call21 _ _
theorem TyShV.cb22 : CallB Try.prog 22 := fun _ _ => Try.call22 _ _
theorem TyShV.cb23 : CallB Try.prog 23 := fun _ _ => Try.call23 _ _
theorem TyShV.cb9 : CallB Try.prog 9 := fun _ _ => Try.call9 _ _
theorem TyShV.el22 : elB Try.prog 22 = some 5 := by kernel_rfl
theorem TyShV.el35 : elB Try.prog 35 = some 4 := by kernel_rfl
theorem TyShV.fld33_0 : fldB Try.prog 33 0 = some 0 := by kernel_rfl
theorem TyShV.fld55_2 : fldB Try.prog 55 2 = some 2 := by kernel_rfl
theorem TyShV.mixed : Try.prog.follows .mixedOrders = true := by kernel_rfl
theorem TyShV.pl33 : plB Try.prog 33 = some [(0, 1), (1, 4)] := by kernel_rfl
theorem TyShV.se31 : seB Try.prog 31 = some [(29, 0), (29, 1), (29, 2), (5, 3)] := by kernel_rfl
theorem TyShV.sz3 : szB Try.prog 3 = some 1 := by kernel_rfl
theorem TyShV.sz31 : szB Try.prog 31 = some 4 := by kernel_rfl
theorem TyShV.sz33 : szB Try.prog 33 = some 5 := by kernel_rfl
theorem TyShV.sz35 : szB Try.prog 35 = some 1 := by kernel_rfl
theorem TyShV.sz47 : szB Try.prog 47 = some 1 := by kernel_rfl
theorem TyShV.u22 : Try.prog.underlying 22 = some (.slice 33) := by kernel_rfl
theorem TyShV.u35 : Try.prog.underlying 35 = some (.slice 31) := by kernel_rfl
theorem TyShV.up24 : Try.prog.underlying 24 = some (.pointer 60) := by kernel_rfl
theorem TyShV.up47 : Try.prog.underlying 47 = some (.pointer 55) := by kernel_rfl
theorem TyShV.z3 : zeroB Try.prog 3 (.int .i64 0) := by unfold zeroB; kernel_rfl
theorem TyShV.z31 : zeroB Try.prog 31 (.agg #[(.int .u64 0), (.int .u64 0), (.int .u64 0), (.int .u8 0)]) := by unfold zeroB; kernel_rfl
theorem TyShV.z33 : zeroB Try.prog 33 (.agg #[(.int .i64 0), (.int .u64 0), (.int .u64 0), (.int .u64 0), (.int .u8 0)]) := by unfold zeroB; kernel_rfl
theorem TyShV.z35 : zeroB Try.prog 35 (.slice none 0 0) := by unfold zeroB; kernel_rfl
theorem TyShV.z47 : zeroB Try.prog 47 (.pointer none) := by unfold zeroB; kernel_rfl

/-- cellar/cellarlaw11.TableStops -/
theorem f6_sh (bits : Int) (l : Option Addr) (l_n : Nat) (l_c : Nat) (most : Int) (more_Hash : Int) (more_At : Int) (more_Version : Int) (more_Hits : Int) (h : Heap) (R : Value → Heap → Prop)
    (H : (∀ most_1 h1, most_1 = Array.size h → h1 = Array.push h (.cells #[(.int .i64 most)] 3) → (∀ more h2, more = Array.size h1 → h2 = Array.push h1 (.cells #[(.int .u64 more_Hash), (.int .u64 more_At), (.int .u64 more_Version), (.int .u8 more_Hits)] 31) → HC Try.prog 9 #[] h2 (fun vv h3 => ∃ r : Bool, vv = (.bool r) ∧ (((!r) = true → (∀ h4, Shut' (Array.size h) h3 h4 → R (.bool false) h4)) ∧ ((!r) = false → HC Try.prog 10 #[(.int .i64 bits), (.int .i64 16)] h3 (fun vv h5 => ∃ r0 : Option Addr, ∃ r1 : Int, vv = (.tuple #[(.pointer r0), (.int .i64 r1)]) ∧ HC Try.prog 21 #[(.int .i64 bits), (.int .i64 16)] h5 (fun vv h6 => ∃ r0_1 : Option Addr, ∃ r1_1 : Int, vv = (.tuple #[(.pointer r0_1), (.int .i64 r1_1)]) ∧ (∀ x h7, x = Array.size h6 → h7 = Array.push h6 (.cells #[(.pointer none)] 47) → (HW h7 x 0 ∧ ∀ h8, h8 = hset h7 x 0 (.pointer r0_1) → (∃ j : Bool, (((r1 != r1_1) = true → (j = true)) ∧ ((r1 != r1_1) = false → (∃ x_1 : Option Addr, hcell h8 x 0 = some (.pointer x_1) ∧ (j = x_1.isNone)))) ∧ ((j = true → (∀ h9, Shut' (Array.size h) h8 h9 → R (.bool ((r1 == r1_1) && r0.isNone)) h9)) ∧ (j = false → (∃ (I21 : Bool → Int → Heap → Prop) (mu22 : Bool → Int → Heap → Nat), I21 false 0 h8 ∧ (∀ (v : Bool) (i : Int) (h10 : Heap), I21 v i h10 → (((decide (i < (l_n : Int))) = true → (∃ A29 : Bool → Heap → Prop, (∃ l_b l_o : Nat, l = some ⟨l_b, l_o, none⟩ ∧ (0 : Int) ≤ i ∧ i < (l_n : Int) ∧ (∃ x_2 : Int, hcell h10 l_b (l_o + (Int.toNat i) * 5) = some (.int .i64 x_2) ∧ (((x_2 != 8) = true → (∃ x_3 : Option Addr, hcell h10 x 0 = some (.pointer x_3) ∧ (∃ x_Kind x_Entry_Hash x_Entry_At x_Entry_Version x_Entry_Hits : Int, hcell h10 l_b (l_o + (Int.toNat i) * 5) = some (.int .i64 x_Kind) ∧ hcell h10 l_b ((l_o + (Int.toNat i) * 5) + 1) = some (.int .u64 x_Entry_Hash) ∧ hcell h10 l_b ((l_o + (Int.toNat i) * 5) + 2) = some (.int .u64 x_Entry_At) ∧ hcell h10 l_b ((l_o + (Int.toNat i) * 5) + 3) = some (.int .u64 x_Entry_Version) ∧ hcell h10 l_b ((l_o + (Int.toNat i) * 5) + 4) = some (.int .u8 x_Entry_Hits) ∧ HC Try.prog 22 #[(.pointer r0), (.pointer x_3), (.agg #[(.int .i64 x_Kind), (.int .u64 x_Entry_Hash), (.int .u64 x_Entry_At), (.int .u64 x_Entry_Version), (.int .u8 x_Entry_Hits)])] h10 (fun vv h12 => ∃ r_1 : Bool, vv = (.bool r_1) ∧ (A29 (!r_1) h12))))) ∧ ((x_2 != 8) = false → (A29 false h10))))) ∧ (∀ (j_1 : Bool) (h11 : Heap), A29 j_1 h11 → ((j_1 = true → (∀ h13, Shut' (Array.size h) h11 h13 → R (.bool false) h13)) ∧ (j_1 = false → (I21 v (IntKind.i64.wrap (i + 1)) h11 ∧ mu22 v (IntKind.i64.wrap (i + 1)) h11 < mu22 v i h10)))))) ∧ ((decide (i < (l_n : Int))) = false → HC Try.prog 23 #[(.pointer r0)] h10 (fun vv h14 => ∃ r_1 : Value, vv = r_1 ∧ (∀ n h15, n = Array.size h14 → h15 = Array.push h14 (.cells #[(.int .i64 0)] 3) → (HW h15 n 0 ∧ ∀ h16, h16 = hset h15 n 0 (.int .i64 0) → (∃ A51 : Heap → Prop, (∀ (Lp53 : LoopState → Option Code → Heap → Prop) (l_1 : Nat) (h18 : Heap) (y : Value), (∀ s p h h', Lp53 s p h → h'[l_1]? = h[l_1]? → Lp53 s p h') → l_1 = Array.size h16 + 1 → Ext h16 h18 → Array.size h18 = Array.size h16 + 2 → Lp53 .ready none h18 → (∀ (it_Hash : Int) (it_At : Int) (it_Version : Int) (it_Hits : Int) (h19 : Heap) (K61 : Value → Heap → Prop), Lp53 .ready none h19 → (∀ e h22, e = Array.size h19 → h22 = Array.push h19 (.cells #[(.int .u64 0), (.int .u64 0), (.int .u64 0), (.int .u8 0)] 31) → (HWs h22 e 0 4 ∧ ∀ h23, h23 = hsets h22 e 0 [(.int .u64 it_Hash), (.int .u64 it_At), (.int .u64 it_Version), (.int .u8 it_Hits)] → (Lp53 .ready none h23 ∧ ∀ h24, Only l_1 h23 h24 → Lp53 .busy none h24 → (∃ j_1 : Bool, (∃ x_2 : Int, hcell h24 n 0 = some (.int .i64 x_2) ∧ (∃ x_3 : Int, hcell h24 most_1 0 = some (.int .i64 x_3) ∧ (((decide (x_2 ≥ x_3)) = true → (j_1 = true)) ∧ ((decide (x_2 ≥ x_3)) = false → (∃ x_4 : Option Addr, hcell h24 x 0 = some (.pointer x_4) ∧ (∃ x_4_b x_4_o : Nat, x_4 = some ⟨x_4_b, x_4_o, none⟩ ∧ (∃ x_5 : Option Addr, ∃ x_n x_c : Nat, hcell h24 x_4_b (x_4_o + 2) = some (.slice x_5 x_n x_c) ∧ (((decide (x_2 ≥ (x_n : Int))) = true → (j_1 = true)) ∧ ((decide (x_2 ≥ (x_n : Int))) = false → (∃ x_Hash x_At x_Version x_Hits : Int, hcell h24 e 0 = some (.int .u64 x_Hash) ∧ hcell h24 e 1 = some (.int .u64 x_At) ∧ hcell h24 e 2 = some (.int .u64 x_Version) ∧ hcell h24 e 3 = some (.int .u8 x_Hits) ∧ (∃ x_5_b x_5_o : Nat, x_5 = some ⟨x_5_b, x_5_o, none⟩ ∧ (0 : Int) ≤ x_2 ∧ x_2 < (x_n : Int) ∧ (∃ x_Hash_1 x_At_1 x_Version_1 x_Hits_1 : Int, hcell h24 x_5_b (x_5_o + (Int.toNat x_2) * 4) = some (.int .u64 x_Hash_1) ∧ hcell h24 x_5_b ((x_5_o + (Int.toNat x_2) * 4) + 1) = some (.int .u64 x_At_1) ∧ hcell h24 x_5_b ((x_5_o + (Int.toNat x_2) * 4) + 2) = some (.int .u64 x_Version_1) ∧ hcell h24 x_5_b ((x_5_o + (Int.toNat x_2) * 4) + 3) = some (.int .u8 x_Hits_1) ∧ (j_1 = (!((x_Hash == x_Hash_1 && (x_At == x_At_1 && (x_Version == x_Version_1 && (x_Hits == x_Hits_1 && true))))))))))))))))))) ∧ ((j_1 = true → (Lp53 .busy none h24 ∧ ∀ h25, Only l_1 h24 h25 → Lp53 .done (some (.exit 2)) h25 → K61 (.bool false) h25)) ∧ (j_1 = false → (∃ x_6 : Int, hcell h24 n 0 = some (.int .i64 x_6) ∧ (HW h24 n 0 ∧ ∀ h26, h26 = hset h24 n 0 (.int .i64 (IntKind.i64.wrap (x_6 + 1))) → (Lp53 .busy none h26 ∧ ∀ h27, Only l_1 h26 h27 → Lp53 .ready none h27 → K61 (.bool true) h27))))))))) → HCV Try.prog y [(.agg #[(.int .u64 it_Hash), (.int .u64 it_At), (.int .u64 it_Version), (.int .u8 it_Hits)])] h19 K61) → HCF Try.prog r_1 [y] h18 (fun _ h20 => ∃ (st : LoopState) (pend : Option Code), Lp53 st pend h20 ∧ st ≠ .busy ∧ ∀ h21, Only l_1 h20 h21 → Lp53 .exhausted pend h21 → ((pend = none ∧ (A51 h21)) ∨ (pend = some (.exit 2) ∧ (A51 h21))))) ∧ (∀ (h17 : Heap), A51 h17 → (∃ A96 : Bool → Heap → Prop, (∃ x_7 : Int, hcell h17 n 0 = some (.int .i64 x_7) ∧ (∃ x_8 : Int, hcell h17 most_1 0 = some (.int .i64 x_8) ∧ (((decide (x_7 < x_8)) = true → (∃ x_9 : Option Addr, hcell h17 x 0 = some (.pointer x_9) ∧ (∃ x_9_b x_9_o : Nat, x_9 = some ⟨x_9_b, x_9_o, none⟩ ∧ (∃ x_10 : Option Addr, ∃ x_n_1 x_c_1 : Nat, hcell h17 x_9_b (x_9_o + 2) = some (.slice x_10 x_n_1 x_c_1) ∧ (((decide (x_7 < (x_n_1 : Int))) = true → (A96 true h17)) ∧ ((decide (x_7 < (x_n_1 : Int))) = false → (∃ x_Hash_2 x_At_2 x_Version_2 x_Hits_2 : Int, hcell h17 more 0 = some (.int .u64 x_Hash_2) ∧ hcell h17 more 1 = some (.int .u64 x_At_2) ∧ hcell h17 more 2 = some (.int .u64 x_Version_2) ∧ hcell h17 more 3 = some (.int .u8 x_Hits_2) ∧ HC Try.prog 22 #[(.pointer r0), (ptr x_9_b x_9_o), (.agg #[(.int .i64 1), (.int .u64 x_Hash_2), (.int .u64 x_At_2), (.int .u64 x_Version_2), (.int .u8 x_Hits_2)])] h17 (fun vv h29 => ∃ r_2 : Bool, vv = (.bool r_2) ∧ (A96 (!r_2) h29))))))))) ∧ ((decide (x_7 < x_8)) = false → (∃ x_9 : Option Addr, hcell h17 x 0 = some (.pointer x_9) ∧ (∃ x_Hash_2 x_At_2 x_Version_2 x_Hits_2 : Int, hcell h17 more 0 = some (.int .u64 x_Hash_2) ∧ hcell h17 more 1 = some (.int .u64 x_At_2) ∧ hcell h17 more 2 = some (.int .u64 x_Version_2) ∧ hcell h17 more 3 = some (.int .u8 x_Hits_2) ∧ HC Try.prog 22 #[(.pointer r0), (.pointer x_9), (.agg #[(.int .i64 1), (.int .u64 x_Hash_2), (.int .u64 x_At_2), (.int .u64 x_Version_2), (.int .u8 x_Hits_2)])] h17 (fun vv h30 => ∃ r_2 : Bool, vv = (.bool r_2) ∧ (A96 (!r_2) h30)))))))) ∧ (∀ (j_2 : Bool) (h28 : Heap), A96 j_2 h28 → ((j_2 = true → (∀ h31, Shut' (Array.size h) h28 h31 → R (.bool false) h31)) ∧ (j_2 = false → (∀ again h32, again = Array.size h28 → h32 = Array.push h28 (.cells #[(.slice none 0 0)] 35) → (∀ (Lp117 : LoopState → Option Code → Heap → Prop) (l_2 : Nat) (h33 : Heap) (y_1 : Value), (∀ s p h h', Lp117 s p h → h'[l_2]? = h[l_2]? → Lp117 s p h') → l_2 = Array.size h32 + 1 → Ext h32 h33 → Array.size h33 = Array.size h32 + 2 → Lp117 .ready none h33 → (∀ (it_Hash_1 : Int) (it_At_1 : Int) (it_Version_1 : Int) (it_Hits_1 : Int) (h34 : Heap) (K125 : Value → Heap → Prop), Lp117 .ready none h34 → (∀ e_1 h37, e_1 = Array.size h34 → h37 = Array.push h34 (.cells #[(.int .u64 0), (.int .u64 0), (.int .u64 0), (.int .u8 0)] 31) → (HWs h37 e_1 0 4 ∧ ∀ h38, h38 = hsets h37 e_1 0 [(.int .u64 it_Hash_1), (.int .u64 it_At_1), (.int .u64 it_Version_1), (.int .u8 it_Hits_1)] → (Lp117 .ready none h38 ∧ ∀ h39, Only l_2 h38 h39 → Lp117 .busy none h39 → (∃ x_11 : Option Addr, ∃ x_n_2 x_c_2 : Nat, hcell h39 again 0 = some (.slice x_11 x_n_2 x_c_2) ∧ (∃ x_Hash_3 x_At_3 x_Version_3 x_Hits_3 : Int, hcell h39 e_1 0 = some (.int .u64 x_Hash_3) ∧ hcell h39 e_1 1 = some (.int .u64 x_At_3) ∧ hcell h39 e_1 2 = some (.int .u64 x_Version_3) ∧ hcell h39 e_1 3 = some (.int .u8 x_Hits_3) ∧ (∀ nb h40, nb = Array.size h39 → h40 = Array.push h39 (.cells #[(.int .u64 x_Hash_3), (.int .u64 x_At_3), (.int .u64 x_Version_3), (.int .u8 x_Hits_3)] 31) → HAppend Try.prog 35 35 (.slice x_11 x_n_2 x_c_2) (.slice (some ⟨nb, 0, none⟩) 1 1) h40 (fun vv h41 => ∃ ap : Option Addr, ∃ ap_n ap_c : Nat, vv = (.slice ap ap_n ap_c) ∧ (HW h41 again 0 ∧ ∀ h42, h42 = hset h41 again 0 (.slice ap ap_n ap_c) → (Lp117 .busy none h42 ∧ ∀ h43, Only l_2 h42 h43 → Lp117 .ready none h43 → K125 (.bool true) h43))))))))) → HCV Try.prog y_1 [(.agg #[(.int .u64 it_Hash_1), (.int .u64 it_At_1), (.int .u64 it_Version_1), (.int .u8 it_Hits_1)])] h34 K125) → HCF Try.prog r_1 [y_1] h33 (fun _ h35 => ∃ (st : LoopState) (pend : Option Code), Lp117 st pend h35 ∧ st ≠ .busy ∧ ∀ h36, Only l_2 h35 h36 → Lp117 .exhausted pend h36 → ((pend = none ∧ (∃ x_12 : Option Addr, ∃ x_n_3 x_c_3 : Nat, hcell h36 again 0 = some (.slice x_12 x_n_3 x_c_3) ∧ (∃ x_13 : Option Addr, hcell h36 x 0 = some (.pointer x_13) ∧ (∃ x_13_b x_13_o : Nat, x_13 = some ⟨x_13_b, x_13_o, none⟩ ∧ (∃ x_14 : Option Addr, ∃ x_n_4 x_c_4 : Nat, hcell h36 x_13_b (x_13_o + 2) = some (.slice x_14 x_n_4 x_c_4) ∧ (∃ r_3 : Bool, (∀ h45, Ext h36 h45 → HC Try.prog 20 #[(.slice x_12 x_n_3 x_c_3), (.slice x_14 x_n_4 x_c_4)] h45 (fun vv h' => vv = (.bool r_3) ∧ h' = h45)) ∧ (∀ h44, Shut' (Array.size h) h36 h44 → R (.bool r_3) h44))))))))))))))))))))))))))))))))))))) :
    HC Try.prog 6 #[(.int .i64 bits), (.slice l l_n l_c), (.int .i64 most), (.agg #[(.int .u64 more_Hash), (.int .u64 more_At), (.int .u64 more_Version), (.int .u8 more_Hits)])] h R := by
  refine hc_ofM (args := [(.int .i64 bits), (.slice l l_n l_c), (.int .i64 most), (.agg #[(.int .u64 more_Hash), (.int .u64 more_At), (.int .u64 more_Version), (.int .u8 more_Hits)])]) Try.func6 rfl Try.ntmps6 (Nat.le_of_ble_eq_true rfl) ?_
  refine hx_seq ?_
  refine hx_region ?_
  refine hl_step rfl rfl (hn_box (v := (.int .i64 most)) rfl ?_)
  intro most_1 h1 eb1 eh2
  replace H := H most_1 h1 eb1 eh2
  have xx3 : Ext h h1 := by rw [eh2]; exact Ext.push _ _
  refine hl_step rfl rfl (hn_box (v := (.agg #[(.int .u64 more_Hash), (.int .u64 more_At), (.int .u64 more_Version), (.int .u8 more_Hits)])) rfl ?_)
  intro more h2 eb4 eh5
  replace H := H more h2 eb4 eh5
  have xx6 : Ext h1 h2 := by rw [eh5]; exact Ext.push _ _
  refine hl_val rfl rfl (v := (.bool false)) (hv_assign rfl) ?_
  refine hl_nil ?_
  refine seqQ_n ?_
  refine hx_seq ?_
  refine hx_seq ?_
  refine hx_region ?_
  refine hl_step rfl rfl (hs_call TyShV.cb9 (vs := []) rfl (HC.mono H ?_))
  rintro _ h3 ⟨r, rfl, H⟩
  refine hl_val rfl rfl (v := (.bool (!r))) (hv_not (b := r) rfl) ?_
  refine hl_nil ?_
  refine seqQ_n ?_
  refine hx_cond (b := !r) rfl (fun hb7 => ?_) (fun hb7 => ?_)
  · replace H := H.1 hb7
    refine hx_seq ?_
    refine hx_region ?_
    refine hl_val rfl rfl (v := (.bool false)) (hv_assign rfl) ?_
    refine hl_nil ?_
    refine seqQ_n ?_
    refine hx_ret ?_
    refine seqQ_ret ?_
    exact endQM_ret _ (fun h' hs => ⟨res_one Try.results6 (rv_tmp rfl), H h' hs⟩)
  · replace H := H.2 hb7
    refine hx_skip ?_
    refine seqQ_n ?_
    refine hx_seq ?_
    refine hx_region ?_
    refine hl_val rfl rfl (v := (.int .i64 bits)) (hv_move rfl) ?_
    refine hl_step rfl rfl (hs_call TyShV.cb10 (vs := [(.int .i64 bits), (.int .i64 16)]) rfl (HC.mono H ?_))
    rintro _ h5 ⟨r0, r1, rfl, H⟩
    refine hl_val rfl rfl (v := (.tuple #[(.pointer r0), (.int .i64 r1)])) (hv_move rfl) ?_
    refine hl_val rfl rfl (v := (.pointer r0)) (hv_extract (vs := #[(.pointer r0), (.int .i64 r1)]) rfl rfl) ?_
    refine hl_val rfl rfl (v := (.int .i64 r1)) (hv_extract (vs := #[(.pointer r0), (.int .i64 r1)]) rfl rfl) ?_
    refine hl_val rfl rfl (v := (.pointer r0)) (hv_assign rfl) ?_
    refine hl_val rfl rfl (v := (.int .i64 r1)) (hv_assign rfl) ?_
    refine hl_nil ?_
    refine seqQ_n ?_
    refine hx_seq ?_
    refine hx_region ?_
    refine hl_val rfl rfl (v := (.int .i64 bits)) (hv_move rfl) ?_
    refine hl_step rfl rfl (hs_call TyShV.cb21 (vs := [(.int .i64 bits), (.int .i64 16)]) rfl (HC.mono H ?_))
    rintro _ h6 ⟨r0_1, r1_1, rfl, H⟩
    refine hl_val rfl rfl (v := (.tuple #[(.pointer r0_1), (.int .i64 r1_1)])) (hv_move rfl) ?_
    refine hl_val rfl rfl (v := (.pointer r0_1)) (hv_extract (vs := #[(.pointer r0_1), (.int .i64 r1_1)]) rfl rfl) ?_
    refine hl_val rfl rfl (v := (.int .i64 r1_1)) (hv_extract (vs := #[(.pointer r0_1), (.int .i64 r1_1)]) rfl rfl) ?_
    refine hl_step rfl rfl (hn_alloc TyShV.z47 ?_)
    intro x h7 eb8 eh9
    replace H := H x h7 eb8 eh9
    have xx10 : Ext h6 h7 := by rw [eh9]; exact Ext.push _ _
    obtain ⟨hw12, H⟩ := H
    refine hl_step rfl rfl (hn_store (v := (.pointer r0_1)) rfl rfl TyShV.sz47 rfl hw12 ?_)
    intro h8 eh11
    replace H := H h8 eh11
    refine hl_val rfl rfl (v := (.int .i64 r1_1)) (hv_assign rfl) ?_
    refine hl_nil ?_
    refine seqQ_n ?_
    refine hx_seq ?_
    obtain ⟨j, Hx13, Hy14⟩ := H
    refine hx_cut (fun ρ h' => h8 = h' ∧ Has ρ [(1, (.slice l l_n l_c)), (6, (ptr most_1 0)), (7, (ptr more 0)), (8, (.bool false)), (9, (.pointer r0)), (10, (.int .i64 r1)), (11, (ptr x 0)), (12, (.int .i64 r1_1)), (37, (.bool j))]) ?_ ?_
    · have H := Hx13; clear Hx13 Hy14
      refine hx_region ?_
      refine hl_val rfl rfl (v := (.int .i64 r1)) (hv_move rfl) ?_
      refine hl_val rfl rfl (v := (.int .i64 r1_1)) (hv_move rfl) ?_
      refine hl_val rfl rfl (v := (.bool (r1 != r1_1))) (hv_arith rfl rfl rfl) ?_
      refine hl_val rfl rfl (v := (.bool (r1 != r1_1))) (hv_move rfl) ?_
      rcases bool_or (r1 != r1_1) with hg15 | hg15
      · replace H := H.1 hg15
        refine hl_no (wanted_n rfl rfl rfl hg15) rfl ?_
        refine hl_no (wanted_n rfl rfl rfl hg15) rfl ?_
        refine hl_val rfl rfl (v := (.bool true)) (hv_pick_t rfl hg15 rfl) ?_
        refine hl_nil ?_
        refine seqQ_n ?_
        obtain rfl := H
        exact ⟨rfl, (has_cons rfl (has_cons rfl (has_cons rfl (has_cons rfl (has_cons rfl (has_cons rfl (has_cons rfl (has_cons rfl (has_cons rfl has_nil)))))))))⟩
      · replace H := H.2 hg15
        obtain ⟨x_1, hc16, H⟩ := H
        refine hl_yes (wanted_y rfl rfl rfl hg15) rfl (HStep.of_val (v := (.pointer x_1)) (hv_load TyShV.agg47 rfl hc16) ?_)
        refine hl_yes (wanted_y rfl rfl rfl hg15) rfl (HStep.of_val (v := (.bool x_1.isNone)) (hv_ptrNil TyShV.up47 rfl rfl) ?_)
        refine hl_val rfl rfl (v := (.bool x_1.isNone)) (hv_pick_f rfl hg15 rfl) ?_
        refine hl_nil ?_
        refine seqQ_n ?_
        obtain rfl := H
        exact ⟨rfl, (has_cons rfl (has_cons rfl (has_cons rfl (has_cons rfl (has_cons rfl (has_cons rfl (has_cons rfl (has_cons rfl (has_cons rfl has_nil)))))))))⟩
    · have H := Hy14; clear Hx13 Hy14
      rintro ρ _ ⟨rfl, hH⟩
      refine hx_has _ hH ?_
      refine hx_cond (b := j) rfl (fun hb17 => ?_) (fun hb17 => ?_)
      · replace H := H.1 hb17
        refine hx_cut (fun ρ h' => h8 = h' ∧ Has ρ [(8, (.bool ((r1 == r1_1) && r0.isNone)))]) ?_ ?_
        · refine hx_region ?_
          refine hl_val rfl rfl (v := (.int .i64 r1)) (hv_move rfl) ?_
          refine hl_val rfl rfl (v := (.int .i64 r1_1)) (hv_move rfl) ?_
          refine hl_val rfl rfl (v := (.bool (r1 == r1_1))) (hv_arith rfl rfl rfl) ?_
          refine hl_val rfl rfl (v := (.bool (r1 == r1_1))) (hv_move rfl) ?_
          rcases bool_or (r1 == r1_1) with hg20 | hg20
          · refine hl_yes (wanted_y rfl rfl rfl hg20) rfl (HStep.of_val (v := (.pointer r0)) (hv_move rfl) ?_)
            refine hl_yes (wanted_y rfl rfl rfl hg20) rfl (HStep.of_val (v := (.bool r0.isNone)) (hv_ptrNil TyShV.up24 rfl rfl) ?_)
            refine hl_val rfl rfl (v := (.bool r0.isNone)) (hv_pick_t rfl hg20 rfl) ?_
            refine hl_val rfl rfl (v := (.bool r0.isNone)) (hv_assign rfl) ?_
            refine hl_nil ?_
            refine seqQ_n ?_
            exact ⟨rfl, (has_cons (show ((.bool r0.isNone) : Value) = (.bool ((r1 == r1_1) && r0.isNone)) from (by first | rfl | (try rw [hg20]; all_goals first | rfl | (simp only [Bool.true_or, Bool.or_true, Bool.false_or, Bool.or_false, Bool.true_and, Bool.and_true, Bool.false_and, Bool.and_false, Bool.not_true, Bool.not_false, Bool.cond_true, Bool.cond_false]; done)) | simp [hg20])) has_nil)⟩
          · refine hl_no (wanted_n rfl rfl rfl hg20) rfl ?_
            refine hl_no (wanted_n rfl rfl rfl hg20) rfl ?_
            refine hl_val rfl rfl (v := (.bool false)) (hv_pick_f rfl hg20 rfl) ?_
            refine hl_val rfl rfl (v := (.bool false)) (hv_assign rfl) ?_
            refine hl_nil ?_
            refine seqQ_n ?_
            exact ⟨rfl, (has_cons (show ((.bool false) : Value) = (.bool ((r1 == r1_1) && r0.isNone)) from (by first | rfl | (try rw [hg20]; all_goals first | rfl | (simp only [Bool.true_or, Bool.or_true, Bool.false_or, Bool.or_false, Bool.true_and, Bool.and_true, Bool.false_and, Bool.and_false, Bool.not_true, Bool.not_false, Bool.cond_true, Bool.cond_false]; done)) | simp [hg20])) has_nil)⟩
        · rintro ρ _ ⟨rfl, hH⟩
          refine hx_has _ hH ?_
          refine hx_ret ?_
          refine seqQ_ret ?_
          exact endQM_ret _ (fun h' hs => ⟨res_one Try.results6 (rv_tmp rfl), H h' hs⟩)
      · replace H := H.2 hb17
        refine hx_skip ?_
        refine seqQ_n ?_
        refine hx_seq ?_
        refine hx_seq ?_
        refine hx_region ?_
        refine hl_val rfl rfl (v := (.int .i64 0)) (hv_assign rfl) ?_
        refine hl_nil ?_
        refine seqQ_n ?_
        refine hx_block ?_
        obtain ⟨I21, mu22, Ha23, Hr24⟩ := H
        refine hx_loopT (σ := Bool × Int) (fun s => [(1, (.slice l l_n l_c)), (6, (ptr most_1 0)), (7, (ptr more 0)), (8, (.bool s.1)), (9, (.pointer r0)), (11, (ptr x 0)), (13, (.int .i64 s.2))]) (fun s h' => I21 s.1 s.2 h' ∧ True) (fun s h' => mu22 s.1 s.2 h') (false, 0) ⟨Ha23, trivial⟩ (has_cons rfl (has_cons rfl (has_cons rfl (has_cons rfl (has_cons rfl (has_cons rfl (has_cons rfl has_nil))))))) ?_
        rintro ⟨v, i⟩ ρ h10 ⟨Hi25, -⟩
        have H := Hr24 v i h10 Hi25
        refine hx_seq ?_
        refine hx_seq ?_
        refine hx_region ?_
        refine hl_val rfl rfl (v := (.int .i64 i)) (hv_move rfl) ?_
        refine hl_val rfl rfl (v := (.slice l l_n l_c)) (hv_move rfl) ?_
        refine hl_val rfl rfl (v := (.int .i64 (l_n : Int))) (hv_len (n := l_n) TyShV.u22 rfl) ?_
        refine hl_val rfl rfl (v := (.bool (decide (i < (l_n : Int))))) (hv_arith rfl rfl rfl) ?_
        refine hl_nil ?_
        refine seqQ_n ?_
        refine hx_cond (b := decide (i < (l_n : Int))) rfl (fun hb26 => ?_) (fun hb26 => ?_)
        · replace H := H.1 hb26
          refine hx_skip ?_
          refine seqQ_n ?_
          refine hx_seq ?_
          refine hx_block ?_
          obtain ⟨A29, Hx27, Hy28⟩ := H
          refine hx_cut (fun ρ h' => ∃ j_1 : Bool, (A29 j_1 h' ∧ True) ∧ Has ρ [(1, (.slice l l_n l_c)), (6, (ptr most_1 0)), (7, (ptr more 0)), (8, (.bool v)), (9, (.pointer r0)), (11, (ptr x 0)), (13, (.int .i64 i)), (66, (.bool j_1))]) ?_ ?_
          · have H := Hx27; clear Hx27 Hy28
            refine hx_draw TyShV.mixed [.pure, .pure, .pure, .pure, .read, .pure, .pure, .pure, .read, .pure, .pure, .pure, .read, .wild, .pure, .pure] [0, 1, 2, 3, 4, 5, 6, 7, 8, 9, 10, 11, 12, 13, 14, 15] (by kernel_rfl) ?_
            refine hp_pure (i := 0) rfl (wanted_0 rfl) rfl (.slice l l_n l_c) (fun _ => hv_move rfl) ?_
            refine hp_pure (i := 1) rfl (wanted_0 rfl) rfl (.int .i64 i) (fun _ => hv_move rfl) ?_
            obtain ⟨l_b, l_o, hqe, hi31, hi32, Hq⟩ := H
            subst hqe
            have H := Hq; clear Hq
            refine hp_pure (i := 2) rfl (wanted_0 rfl) rfl (ptr l_b (l_o + (Int.toNat i) * 5)) (fun _ => hv_index TyShV.el22 rfl rfl hi31 hi32) ?_
            refine hp_pure (i := 3) rfl (wanted_0 rfl) rfl (ptr l_b (l_o + (Int.toNat i) * 5)) (fun _ => hv_field TyShV.fld33_0 (b := l_b) (o := l_o + (Int.toNat i) * 5) rfl) ?_
            obtain ⟨x_2, hc33, H⟩ := H
            refine hp_read (i := 4) rfl (wanted_0 rfl) rfl (.int .i64 x_2) (fun _ he => hv_load TyShV.agg3 rfl (Ext.cell he hc33)) ?_
            refine hp_pure (i := 5) rfl (wanted_0 rfl) rfl (.bool (x_2 != 8)) (fun _ => hv_arith rfl rfl rfl) ?_
            refine hp_pure (i := 6) rfl (wanted_0 rfl) rfl (.bool (x_2 != 8)) (fun _ => hv_move rfl) ?_
            rcases bool_or (x_2 != 8) with hg34 | hg34
            · replace H := H.1 hg34
              refine hp_pure (i := 7) rfl (wanted_y rfl rfl rfl hg34) rfl (.pointer r0) (fun _ => hv_move rfl) ?_
              obtain ⟨x_3, hc35, H⟩ := H
              refine hp_read (i := 8) rfl (wanted_y rfl rfl rfl hg34) rfl (.pointer x_3) (fun _ he => hv_load TyShV.agg47 rfl (Ext.cell he hc35)) ?_
              refine hp_pure (i := 9) rfl (wanted_y rfl rfl rfl hg34) rfl (.slice (some ⟨l_b, l_o, none⟩) l_n l_c) (fun _ => hv_move rfl) ?_
              refine hp_pure (i := 10) rfl (wanted_y rfl rfl rfl hg34) rfl (.int .i64 i) (fun _ => hv_move rfl) ?_
              refine hp_pure (i := 11) rfl (wanted_y rfl rfl rfl hg34) rfl (ptr l_b (l_o + (Int.toNat i) * 5)) (fun _ => hv_index TyShV.el22 rfl rfl hi31 hi32) ?_
              obtain ⟨x_Kind, x_Entry_Hash, x_Entry_At, x_Entry_Version, x_Entry_Hits, hc38, hc39, hc40, hc41, hc42, H⟩ := H
              refine hp_read (i := 12) rfl (wanted_y rfl rfl rfl hg34) rfl (.agg #[(.int .i64 x_Kind), (.int .u64 x_Entry_Hash), (.int .u64 x_Entry_At), (.int .u64 x_Entry_Version), (.int .u8 x_Entry_Hits)]) (fun _ he => hv_loads (vs := [(.int .i64 x_Kind), (.int .u64 x_Entry_Hash), (.int .u64 x_Entry_At), (.int .u64 x_Entry_Version), (.int .u8 x_Entry_Hits)]) TyShV.agg33 TyShV.sz33 rfl (hcells_cons (Ext.cell he hc38) (hcells_cons (Ext.cell he hc39) (hcells_cons (Ext.cell he hc40) (hcells_cons (Ext.cell he hc41) (hcells_cons (Ext.cell he hc42) hcells_nil)))))) ?_
              refine hp_wild (i := 13) rfl (wanted_y rfl rfl rfl hg34) rfl (hs_call TyShV.cb22 (vs := [(.pointer r0), (.pointer x_3), (.agg #[(.int .i64 x_Kind), (.int .u64 x_Entry_Hash), (.int .u64 x_Entry_At), (.int .u64 x_Entry_Version), (.int .u8 x_Entry_Hits)])]) rfl (HC.mono H ?_))
              rintro _ h12 ⟨r_1, rfl, H⟩
              refine hp_pure (i := 14) rfl (wanted_y rfl rfl rfl hg34) rfl (.bool (!r_1)) (fun _ => hv_not (b := r_1) rfl) ?_
              refine hp_pure (i := 15) rfl (wanted_0 rfl) rfl (.bool (!r_1)) (fun _ => hv_pick_t rfl hg34 rfl) ?_
              refine hp_nil ?_
              refine seqQ_n ?_
              exact ⟨_, ⟨H, trivial⟩, (has_cons rfl (has_cons rfl (has_cons rfl (has_cons rfl (has_cons rfl (has_cons rfl (has_cons rfl (has_cons rfl has_nil))))))))⟩
            · replace H := H.2 hg34
              refine hp_no (i := 7) rfl (wanted_n rfl rfl rfl hg34) ?_
              refine hp_no (i := 8) rfl (wanted_n rfl rfl rfl hg34) ?_
              refine hp_no (i := 9) rfl (wanted_n rfl rfl rfl hg34) ?_
              refine hp_no (i := 10) rfl (wanted_n rfl rfl rfl hg34) ?_
              refine hp_no (i := 11) rfl (wanted_n rfl rfl rfl hg34) ?_
              refine hp_no (i := 12) rfl (wanted_n rfl rfl rfl hg34) ?_
              refine hp_no (i := 13) rfl (wanted_n rfl rfl rfl hg34) ?_
              refine hp_no (i := 14) rfl (wanted_n rfl rfl rfl hg34) ?_
              refine hp_pure (i := 15) rfl (wanted_0 rfl) rfl (.bool false) (fun _ => hv_pick_f rfl hg34 rfl) ?_
              refine hp_nil ?_
              refine seqQ_n ?_
              exact ⟨_, ⟨H, trivial⟩, (has_cons rfl (has_cons rfl (has_cons rfl (has_cons rfl (has_cons rfl (has_cons rfl (has_cons rfl (has_cons rfl has_nil))))))))⟩
          · rintro ρ h11 ⟨j_1, ⟨HA30, -⟩, hH⟩
            have H := Hy28 j_1 h11 HA30; clear Hx27 Hy28
            refine hx_has _ hH ?_
            refine hx_cond (b := j_1) rfl (fun hb43 => ?_) (fun hb43 => ?_)
            · replace H := H.1 hb43
              refine hx_seq ?_
              refine hx_region ?_
              refine hl_val rfl rfl (v := (.bool false)) (hv_assign rfl) ?_
              refine hl_nil ?_
              refine seqQ_n ?_
              refine hx_ret ?_
              refine blockQ_ret ?_
              refine seqQ_ret ?_
              refine seqQ_ret ?_
              refine blockQ_ret ?_
              refine seqQ_ret ?_
              exact endQM_ret _ (fun h' hs => ⟨res_one Try.results6 (rv_tmp rfl), H h' hs⟩)
            · replace H := H.2 hb43
              refine hx_skip ?_
              refine blockQ_n ?_
              refine seqQ_n ?_
              refine hx_region ?_
              refine hl_val rfl rfl (v := (.int .i64 i)) (hv_move rfl) ?_
              refine hl_val rfl rfl (v := (.int .i64 (IntKind.i64.wrap (i + 1)))) (hv_arith rfl rfl rfl) ?_
              refine hl_val rfl rfl (v := (.int .i64 (IntKind.i64.wrap (i + 1)))) (hv_assign rfl) ?_
              refine hl_nil ?_
              refine seqQ_n ?_
              exact ⟨(v, IntKind.i64.wrap (i + 1)), ⟨⟨H.1, trivial⟩, H.2⟩, (has_cons rfl (has_cons rfl (has_cons rfl (has_cons rfl (has_cons rfl (has_cons rfl (has_cons rfl has_nil)))))))⟩
        · replace H := H.2 hb26
          refine hx_exit ?_
          refine seqQ_exit ?_
          refine seqQ_exit ?_
          refine blockQ_here ?_
          refine seqQ_n ?_
          refine hx_seq ?_
          refine hx_region ?_
          refine hl_val rfl rfl (v := (.pointer r0)) (hv_move rfl) ?_
          refine hl_step rfl rfl (hs_call TyShV.cb23 (vs := [(.pointer r0)]) rfl (HC.mono H ?_))
          rintro r_1 h14 ⟨_, rfl, H⟩
          refine hl_val rfl rfl (v := r_1) (hv_assign rfl) ?_
          refine hl_nil ?_
          refine seqQ_n ?_
          refine hx_seq ?_
          refine hx_region ?_
          refine hl_step rfl rfl (hn_alloc TyShV.z3 ?_)
          intro n h15 eb44 eh45
          replace H := H n h15 eb44 eh45
          have xx46 : Ext h14 h15 := by rw [eh45]; exact Ext.push _ _
          obtain ⟨hw48, H⟩ := H
          refine hl_step rfl rfl (hn_store (v := (.int .i64 0)) rfl rfl TyShV.sz3 rfl hw48 ?_)
          intro h16 eh47
          replace H := H h16 eh47
          refine hl_nil ?_
          refine seqQ_n ?_
          obtain ⟨A51, Hx49, Hy50⟩ := H
          refine hx_cut (fun ρ h' => (A51 h' ∧ True) ∧ Has ρ [(6, (ptr most_1 0)), (7, (ptr more 0)), (8, (.bool v)), (9, (.pointer r0)), (11, (ptr x 0)), (14, r_1), (15, (ptr n 0))]) ?_ ?_
          · have H := Hx49; clear Hx49 Hy50
            refine hx_seq ?_
            refine hx_region ?_
            refine hl_val rfl rfl (v := r_1) (hv_move rfl) ?_
            refine hl_nil ?_
            refine seqQ_n ?_
            refine hx_block ?_
            refine hx_range rfl rfl rfl (fun h18 l_1 le54 lx55 lz56 La57 => ?_)
            refine HCF.mono (H (fun st p h => LoopAt h l_1 _ _ _ _ _ st p) l_1 h18 _ (fun s p h h' k e => k.same e) le54 lx55 lz56 La57 ?_) ?_
            · intro it_Hash it_At it_Version it_Hits h19 K61 Lb58 H
              refine hcv_yield Lb58 rfl rfl ?_
              refine hx_region ?_
              refine hl_step rfl rfl (hn_alloc TyShV.z31 ?_)
              intro e h22 eb64 eh65
              replace H := H e h22 eb64 eh65
              have xx66 : Ext h19 h22 := by rw [eh65]; exact Ext.push _ _
              obtain ⟨hw68, H⟩ := H
              refine hl_step rfl rfl (hn_stores (vs := [(.int .u64 it_Hash), (.int .u64 it_At), (.int .u64 it_Version), (.int .u8 it_Hits)]) rfl rfl TyShV.sz31 rfl hw68 ?_)
              intro h23 eh67
              replace H := H h23 eh67
              refine hl_nil ?_
              obtain ⟨Lf71, H⟩ := H
              refine ⟨rfl, Lf71, ?_⟩
              intro h24 lo69 Le70
              replace H := H h24 lo69 Le70
              refine hx_block ?_
              refine hx_seq ?_
              obtain ⟨j_1, Hx72, Hy73⟩ := H
              refine hx_cut (fun ρ h' => h24 = h' ∧ Has ρ [(15, (ptr n 0)), (93, (.bool j_1))]) ?_ ?_
              · have H := Hx72; clear Hx72 Hy73
                refine hx_draw TyShV.mixed [.read, .read, .pure, .pure, .read, .read, .pure, .pure, .read, .pure, .pure, .pure, .pure, .read, .read, .pure, .pure, .read, .read, .pure, .read, .pure, .pure] [0, 1, 2, 3, 4, 5, 6, 7, 8, 9, 10, 11, 12, 13, 14, 15, 16, 17, 18, 19, 20, 21, 22] (by kernel_rfl) ?_
                obtain ⟨x_2, hc74, H⟩ := H
                refine hp_read (i := 0) rfl (wanted_0 rfl) rfl (.int .i64 x_2) (fun _ he => hv_load TyShV.agg3 rfl (Ext.cell he hc74)) ?_
                obtain ⟨x_3, hc75, H⟩ := H
                refine hp_read (i := 1) rfl (wanted_0 rfl) rfl (.int .i64 x_3) (fun _ he => hv_load TyShV.agg3 rfl (Ext.cell he hc75)) ?_
                refine hp_pure (i := 2) rfl (wanted_0 rfl) rfl (.bool (decide (x_2 ≥ x_3))) (fun _ => hv_arith rfl rfl rfl) ?_
                refine hp_pure (i := 3) rfl (wanted_0 rfl) rfl (.bool (decide (x_2 ≥ x_3))) (fun _ => hv_move rfl) ?_
                rcases bool_or (decide (x_2 ≥ x_3)) with hg76 | hg76
                · replace H := H.1 hg76
                  refine hp_no (i := 4) rfl (wanted_n rfl rfl rfl hg76) ?_
                  refine hp_no (i := 5) rfl (wanted_n rfl rfl rfl hg76) ?_
                  refine hp_no (i := 6) rfl (wanted_n rfl rfl rfl hg76) ?_
                  refine hp_no (i := 7) rfl (wanted_n rfl rfl rfl hg76) ?_
                  refine hp_no (i := 8) rfl (wanted_n rfl rfl rfl hg76) ?_
                  refine hp_no (i := 9) rfl (wanted_n rfl rfl rfl hg76) ?_
                  refine hp_no (i := 10) rfl (wanted_n rfl rfl rfl hg76) ?_
                  refine hp_pure (i := 11) rfl (wanted_0 rfl) rfl (.bool true) (fun _ => hv_pick_t rfl hg76 rfl) ?_
                  refine hp_pure (i := 12) rfl (wanted_0 rfl) rfl (.bool true) (fun _ => hv_move rfl) ?_
                  refine hp_no (i := 13) rfl (wanted_n rfl rfl (c := true) rfl rfl) ?_
                  refine hp_no (i := 14) rfl (wanted_n rfl rfl (c := true) rfl rfl) ?_
                  refine hp_no (i := 15) rfl (wanted_n rfl rfl (c := true) rfl rfl) ?_
                  refine hp_no (i := 16) rfl (wanted_n rfl rfl (c := true) rfl rfl) ?_
                  refine hp_no (i := 17) rfl (wanted_n rfl rfl (c := true) rfl rfl) ?_
                  refine hp_no (i := 18) rfl (wanted_n rfl rfl (c := true) rfl rfl) ?_
                  refine hp_no (i := 19) rfl (wanted_n rfl rfl (c := true) rfl rfl) ?_
                  refine hp_no (i := 20) rfl (wanted_n rfl rfl (c := true) rfl rfl) ?_
                  refine hp_no (i := 21) rfl (wanted_n rfl rfl (c := true) rfl rfl) ?_
                  refine hp_pure (i := 22) rfl (wanted_0 rfl) rfl (.bool true) (fun _ => hv_pick (t := true) rfl rfl) ?_
                  refine hp_nil ?_
                  refine seqQ_n ?_
                  obtain rfl := H
                  exact ⟨rfl, (has_cons rfl (has_cons rfl has_nil))⟩
                · replace H := H.2 hg76
                  refine hp_read (i := 4) rfl (wanted_y rfl rfl rfl hg76) rfl (.int .i64 x_2) (fun _ he => hv_load TyShV.agg3 rfl (Ext.cell he hc74)) ?_
                  obtain ⟨x_4, hc77, H⟩ := H
                  refine hp_read (i := 5) rfl (wanted_y rfl rfl rfl hg76) rfl (.pointer x_4) (fun _ he => hv_load TyShV.agg47 rfl (Ext.cell he hc77)) ?_
                  obtain ⟨x_4_b, x_4_o, hqe, Hq⟩ := H
                  subst hqe
                  have H := Hq; clear Hq
                  refine hp_pure (i := 6) rfl (wanted_y rfl rfl rfl hg76) rfl (ptr x_4_b x_4_o) (fun _ => hv_nil rfl) ?_
                  refine hp_pure (i := 7) rfl (wanted_y rfl rfl rfl hg76) rfl (ptr x_4_b (x_4_o + 2)) (fun _ => hv_field TyShV.fld55_2 (b := x_4_b) (o := x_4_o) rfl) ?_
                  obtain ⟨x_5, x_n, x_c, hc78, H⟩ := H
                  refine hp_read (i := 8) rfl (wanted_y rfl rfl rfl hg76) rfl (.slice x_5 x_n x_c) (fun _ he => hv_load TyShV.agg35 rfl (Ext.cell he hc78)) ?_
                  refine hp_pure (i := 9) rfl (wanted_y rfl rfl rfl hg76) rfl (.int .i64 (x_n : Int)) (fun _ => hv_len (n := x_n) TyShV.u35 rfl) ?_
                  refine hp_pure (i := 10) rfl (wanted_y rfl rfl rfl hg76) rfl (.bool (decide (x_2 ≥ (x_n : Int)))) (fun _ => hv_arith rfl rfl rfl) ?_
                  refine hp_pure (i := 11) rfl (wanted_0 rfl) rfl (.bool (decide (x_2 ≥ (x_n : Int)))) (fun _ => hv_pick_f rfl hg76 rfl) ?_
                  refine hp_pure (i := 12) rfl (wanted_0 rfl) rfl (.bool (decide (x_2 ≥ (x_n : Int)))) (fun _ => hv_move rfl) ?_
                  rcases bool_or (decide (x_2 ≥ (x_n : Int))) with hg79 | hg79
                  · replace H := H.1 hg79
                    refine hp_no (i := 13) rfl (wanted_n rfl rfl rfl hg79) ?_
                    refine hp_no (i := 14) rfl (wanted_n rfl rfl rfl hg79) ?_
                    refine hp_no (i := 15) rfl (wanted_n rfl rfl rfl hg79) ?_
                    refine hp_no (i := 16) rfl (wanted_n rfl rfl rfl hg79) ?_
                    refine hp_no (i := 17) rfl (wanted_n rfl rfl rfl hg79) ?_
                    refine hp_no (i := 18) rfl (wanted_n rfl rfl rfl hg79) ?_
                    refine hp_no (i := 19) rfl (wanted_n rfl rfl rfl hg79) ?_
                    refine hp_no (i := 20) rfl (wanted_n rfl rfl rfl hg79) ?_
                    refine hp_no (i := 21) rfl (wanted_n rfl rfl rfl hg79) ?_
                    refine hp_pure (i := 22) rfl (wanted_0 rfl) rfl (.bool true) (fun _ => hv_pick_t rfl hg79 rfl) ?_
                    refine hp_nil ?_
                    refine seqQ_n ?_
                    obtain rfl := H
                    exact ⟨rfl, (has_cons rfl (has_cons rfl has_nil))⟩
                  · replace H := H.2 hg79
                    obtain ⟨x_Hash, x_At, x_Version, x_Hits, hc80, hc81, hc82, hc83, H⟩ := H
                    refine hp_read (i := 13) rfl (wanted_y rfl rfl rfl hg79) rfl (.agg #[(.int .u64 x_Hash), (.int .u64 x_At), (.int .u64 x_Version), (.int .u8 x_Hits)]) (fun _ he => hv_loads (vs := [(.int .u64 x_Hash), (.int .u64 x_At), (.int .u64 x_Version), (.int .u8 x_Hits)]) TyShV.agg31 TyShV.sz31 rfl (hcells_cons (Ext.cell he hc80) (hcells_cons (Ext.cell he hc81) (hcells_cons (Ext.cell he hc82) (hcells_cons (Ext.cell he hc83) hcells_nil))))) ?_
                    refine hp_read (i := 14) rfl (wanted_y rfl rfl rfl hg79) rfl (ptr x_4_b x_4_o) (fun _ he => hv_load TyShV.agg47 rfl (Ext.cell he hc77)) ?_
                    refine hp_pure (i := 15) rfl (wanted_y rfl rfl rfl hg79) rfl (ptr x_4_b x_4_o) (fun _ => hv_nil rfl) ?_
                    refine hp_pure (i := 16) rfl (wanted_y rfl rfl rfl hg79) rfl (ptr x_4_b (x_4_o + 2)) (fun _ => hv_field TyShV.fld55_2 (b := x_4_b) (o := x_4_o) rfl) ?_
                    refine hp_read (i := 17) rfl (wanted_y rfl rfl rfl hg79) rfl (.slice x_5 x_n x_c) (fun _ he => hv_load TyShV.agg35 rfl (Ext.cell he hc78)) ?_
                    refine hp_read (i := 18) rfl (wanted_y rfl rfl rfl hg79) rfl (.int .i64 x_2) (fun _ he => hv_load TyShV.agg3 rfl (Ext.cell he hc74)) ?_
                    obtain ⟨x_5_b, x_5_o, hqe, hi84, hi85, Hq⟩ := H
                    subst hqe
                    have H := Hq; clear Hq
                    refine hp_pure (i := 19) rfl (wanted_y rfl rfl rfl hg79) rfl (ptr x_5_b (x_5_o + (Int.toNat x_2) * 4)) (fun _ => hv_index TyShV.el35 rfl rfl hi84 hi85) ?_
                    obtain ⟨x_Hash_1, x_At_1, x_Version_1, x_Hits_1, hc86, hc87, hc88, hc89, H⟩ := H
                    refine hp_read (i := 20) rfl (wanted_y rfl rfl rfl hg79) rfl (.agg #[(.int .u64 x_Hash_1), (.int .u64 x_At_1), (.int .u64 x_Version_1), (.int .u8 x_Hits_1)]) (fun _ he => hv_loads (vs := [(.int .u64 x_Hash_1), (.int .u64 x_At_1), (.int .u64 x_Version_1), (.int .u8 x_Hits_1)]) TyShV.agg31 TyShV.sz31 rfl (hcells_cons (Ext.cell he hc86) (hcells_cons (Ext.cell he hc87) (hcells_cons (Ext.cell he hc88) (hcells_cons (Ext.cell he hc89) hcells_nil))))) ?_
                    refine hp_pure (i := 21) rfl (wanted_y rfl rfl rfl hg79) rfl (.bool (!((x_Hash == x_Hash_1 && (x_At == x_At_1 && (x_Version == x_Version_1 && (x_Hits == x_Hits_1 && true))))))) (fun _ => hv_structEq (xs := [(.int .u64 x_Hash), (.int .u64 x_At), (.int .u64 x_Version), (.int .u8 x_Hits)]) (ys := [(.int .u64 x_Hash_1), (.int .u64 x_At_1), (.int .u64 x_Version_1), (.int .u8 x_Hits_1)]) (b := (x_Hash == x_Hash_1 && (x_At == x_At_1 && (x_Version == x_Version_1 && (x_Hits == x_Hits_1 && true))))) TyShV.se31 rfl rfl (by kernel_rfl) rfl) ?_
                    refine hp_pure (i := 22) rfl (wanted_0 rfl) rfl (.bool (!((x_Hash == x_Hash_1 && (x_At == x_At_1 && (x_Version == x_Version_1 && (x_Hits == x_Hits_1 && true))))))) (fun _ => hv_pick_f rfl hg79 rfl) ?_
                    refine hp_nil ?_
                    refine seqQ_n ?_
                    obtain rfl := H
                    exact ⟨rfl, (has_cons rfl (has_cons rfl has_nil))⟩
              · have H := Hy73; clear Hx72 Hy73
                rintro ρ _ ⟨rfl, hH⟩
                refine hx_has _ hH ?_
                refine hx_cond (b := j_1) rfl (fun hb90 => ?_) (fun hb90 => ?_)
                · replace H := H.1 hb90
                  refine hx_exit ?_
                  refine seqQ_exit ?_
                  refine blockQ_past rfl ?_
                  exact H
                · replace H := H.2 hb90
                  refine hx_skip ?_
                  refine seqQ_n ?_
                  refine hx_region ?_
                  obtain ⟨x_6, hc91, H⟩ := H
                  refine hl_val rfl rfl (v := (.int .i64 x_6)) (hv_load TyShV.agg3 rfl hc91) ?_
                  refine hl_val rfl rfl (v := (.int .i64 (IntKind.i64.wrap (x_6 + 1)))) (hv_arith rfl rfl rfl) ?_
                  obtain ⟨hw93, H⟩ := H
                  refine hl_step rfl rfl (hn_store (v := (.int .i64 (IntKind.i64.wrap (x_6 + 1)))) rfl rfl TyShV.sz3 rfl hw93 ?_)
                  intro h26 eh92
                  replace H := H h26 eh92
                  refine hl_nil ?_
                  refine blockQ_n ?_
                  exact H
            · rintro _ h20 ⟨st, pend, Lc59, hst63, H⟩
              refine ⟨st, pend, Lc59, hst63, ?_⟩
              intro h21 lo62 Ld60
              replace H := H h21 lo62 Ld60
              rcases H with ⟨rfl, H⟩ | ⟨rfl, H⟩
              · refine jumpQ_n ?_
                refine blockQ_n ?_
                refine seqQ_n ?_
                exact ⟨⟨H, trivial⟩, (has_cons rfl (has_cons rfl (has_cons rfl (has_cons rfl (has_cons rfl (has_cons rfl (has_cons rfl has_nil)))))))⟩
              · refine jumpQ_exit ?_
                refine blockQ_here ?_
                refine seqQ_n ?_
                exact ⟨⟨H, trivial⟩, (has_cons rfl (has_cons rfl (has_cons rfl (has_cons rfl (has_cons rfl (has_cons rfl (has_cons rfl has_nil)))))))⟩
          · rintro ρ h17 ⟨⟨HA52, -⟩, hH⟩
            have H := Hy50 h17 HA52; clear Hx49 Hy50
            refine hx_has _ hH ?_
            refine hx_seq ?_
            obtain ⟨A96, Hx94, Hy95⟩ := H
            refine hx_cut (fun ρ h' => ∃ j_2 : Bool, (A96 j_2 h' ∧ True) ∧ Has ρ [(8, (.bool v)), (11, (ptr x 0)), (14, r_1), (115, (.bool j_2))]) ?_ ?_
            · have H := Hx94; clear Hx94 Hy95
              refine hx_draw TyShV.mixed [.read, .read, .pure, .pure, .read, .read, .pure, .pure, .read, .pure, .pure, .pure, .pure, .pure, .read, .read, .pure, .wild, .pure, .pure] [0, 1, 2, 3, 4, 5, 6, 7, 8, 9, 10, 11, 12, 13, 14, 15, 16, 17, 18, 19] (by kernel_rfl) ?_
              obtain ⟨x_7, hc98, H⟩ := H
              refine hp_read (i := 0) rfl (wanted_0 rfl) rfl (.int .i64 x_7) (fun _ he => hv_load TyShV.agg3 rfl (Ext.cell he hc98)) ?_
              obtain ⟨x_8, hc99, H⟩ := H
              refine hp_read (i := 1) rfl (wanted_0 rfl) rfl (.int .i64 x_8) (fun _ he => hv_load TyShV.agg3 rfl (Ext.cell he hc99)) ?_
              refine hp_pure (i := 2) rfl (wanted_0 rfl) rfl (.bool (decide (x_7 < x_8))) (fun _ => hv_arith rfl rfl rfl) ?_
              refine hp_pure (i := 3) rfl (wanted_0 rfl) rfl (.bool (decide (x_7 < x_8))) (fun _ => hv_move rfl) ?_
              rcases bool_or (decide (x_7 < x_8)) with hg100 | hg100
              · replace H := H.1 hg100
                refine hp_read (i := 4) rfl (wanted_y rfl rfl rfl hg100) rfl (.int .i64 x_7) (fun _ he => hv_load TyShV.agg3 rfl (Ext.cell he hc98)) ?_
                obtain ⟨x_9, hc101, H⟩ := H
                refine hp_read (i := 5) rfl (wanted_y rfl rfl rfl hg100) rfl (.pointer x_9) (fun _ he => hv_load TyShV.agg47 rfl (Ext.cell he hc101)) ?_
                obtain ⟨x_9_b, x_9_o, hqe, Hq⟩ := H
                subst hqe
                have H := Hq; clear Hq
                refine hp_pure (i := 6) rfl (wanted_y rfl rfl rfl hg100) rfl (ptr x_9_b x_9_o) (fun _ => hv_nil rfl) ?_
                refine hp_pure (i := 7) rfl (wanted_y rfl rfl rfl hg100) rfl (ptr x_9_b (x_9_o + 2)) (fun _ => hv_field TyShV.fld55_2 (b := x_9_b) (o := x_9_o) rfl) ?_
                obtain ⟨x_10, x_n_1, x_c_1, hc102, H⟩ := H
                refine hp_read (i := 8) rfl (wanted_y rfl rfl rfl hg100) rfl (.slice x_10 x_n_1 x_c_1) (fun _ he => hv_load TyShV.agg35 rfl (Ext.cell he hc102)) ?_
                refine hp_pure (i := 9) rfl (wanted_y rfl rfl rfl hg100) rfl (.int .i64 (x_n_1 : Int)) (fun _ => hv_len (n := x_n_1) TyShV.u35 rfl) ?_
                refine hp_pure (i := 10) rfl (wanted_y rfl rfl rfl hg100) rfl (.bool (decide (x_7 < (x_n_1 : Int)))) (fun _ => hv_arith rfl rfl rfl) ?_
                refine hp_pure (i := 11) rfl (wanted_0 rfl) rfl (.bool (decide (x_7 < (x_n_1 : Int)))) (fun _ => hv_pick_t rfl hg100 rfl) ?_
                refine hp_pure (i := 12) rfl (wanted_0 rfl) rfl (.bool (decide (x_7 < (x_n_1 : Int)))) (fun _ => hv_move rfl) ?_
                rcases bool_or (decide (x_7 < (x_n_1 : Int))) with hg103 | hg103
                · replace H := H.1 hg103
                  refine hp_no (i := 13) rfl (wanted_n rfl rfl rfl hg103) ?_
                  refine hp_no (i := 14) rfl (wanted_n rfl rfl rfl hg103) ?_
                  refine hp_no (i := 15) rfl (wanted_n rfl rfl rfl hg103) ?_
                  refine hp_no (i := 16) rfl (wanted_n rfl rfl rfl hg103) ?_
                  refine hp_no (i := 17) rfl (wanted_n rfl rfl rfl hg103) ?_
                  refine hp_no (i := 18) rfl (wanted_n rfl rfl rfl hg103) ?_
                  refine hp_pure (i := 19) rfl (wanted_0 rfl) rfl (.bool true) (fun _ => hv_pick_t rfl hg103 rfl) ?_
                  refine hp_nil ?_
                  refine seqQ_n ?_
                  exact ⟨_, ⟨H, trivial⟩, (has_cons rfl (has_cons rfl (has_cons rfl (has_cons rfl has_nil))))⟩
                · replace H := H.2 hg103
                  refine hp_pure (i := 13) rfl (wanted_y rfl rfl rfl hg103) rfl (.pointer r0) (fun _ => hv_move rfl) ?_
                  refine hp_read (i := 14) rfl (wanted_y rfl rfl rfl hg103) rfl (ptr x_9_b x_9_o) (fun _ he => hv_load TyShV.agg47 rfl (Ext.cell he hc101)) ?_
                  obtain ⟨x_Hash_2, x_At_2, x_Version_2, x_Hits_2, hc104, hc105, hc106, hc107, H⟩ := H
                  refine hp_read (i := 15) rfl (wanted_y rfl rfl rfl hg103) rfl (.agg #[(.int .u64 x_Hash_2), (.int .u64 x_At_2), (.int .u64 x_Version_2), (.int .u8 x_Hits_2)]) (fun _ he => hv_loads (vs := [(.int .u64 x_Hash_2), (.int .u64 x_At_2), (.int .u64 x_Version_2), (.int .u8 x_Hits_2)]) TyShV.agg31 TyShV.sz31 rfl (hcells_cons (Ext.cell he hc104) (hcells_cons (Ext.cell he hc105) (hcells_cons (Ext.cell he hc106) (hcells_cons (Ext.cell he hc107) hcells_nil))))) ?_
                  refine hp_pure (i := 16) rfl (wanted_y rfl rfl rfl hg103) rfl (.agg #[(.int .i64 1), (.int .u64 x_Hash_2), (.int .u64 x_At_2), (.int .u64 x_Version_2), (.int .u8 x_Hits_2)]) (fun _ => hv_build (vs := [(0, (.int .i64 1)), (1, (.agg #[(.int .u64 x_Hash_2), (.int .u64 x_At_2), (.int .u64 x_Version_2), (.int .u8 x_Hits_2)]))]) (cs := #[(.int .i64 1), (.int .u64 x_Hash_2), (.int .u64 x_At_2), (.int .u64 x_Version_2), (.int .u8 x_Hits_2)]) TyShV.z33 TyShV.pl33 rfl (by kernel_rfl)) ?_
                  refine hp_wild (i := 17) rfl (wanted_y rfl rfl rfl hg103) rfl (hs_call TyShV.cb22 (vs := [(.pointer r0), (ptr x_9_b x_9_o), (.agg #[(.int .i64 1), (.int .u64 x_Hash_2), (.int .u64 x_At_2), (.int .u64 x_Version_2), (.int .u8 x_Hits_2)])]) rfl (HC.mono H ?_))
                  rintro _ h29 ⟨r_2, rfl, H⟩
                  refine hp_pure (i := 18) rfl (wanted_y rfl rfl rfl hg103) rfl (.bool (!r_2)) (fun _ => hv_not (b := r_2) rfl) ?_
                  refine hp_pure (i := 19) rfl (wanted_0 rfl) rfl (.bool (!r_2)) (fun _ => hv_pick_f rfl hg103 rfl) ?_
                  refine hp_nil ?_
                  refine seqQ_n ?_
                  exact ⟨_, ⟨H, trivial⟩, (has_cons rfl (has_cons rfl (has_cons rfl (has_cons rfl has_nil))))⟩
              · replace H := H.2 hg100
                refine hp_no (i := 4) rfl (wanted_n rfl rfl rfl hg100) ?_
                refine hp_no (i := 5) rfl (wanted_n rfl rfl rfl hg100) ?_
                refine hp_no (i := 6) rfl (wanted_n rfl rfl rfl hg100) ?_
                refine hp_no (i := 7) rfl (wanted_n rfl rfl rfl hg100) ?_
                refine hp_no (i := 8) rfl (wanted_n rfl rfl rfl hg100) ?_
                refine hp_no (i := 9) rfl (wanted_n rfl rfl rfl hg100) ?_
                refine hp_no (i := 10) rfl (wanted_n rfl rfl rfl hg100) ?_
                refine hp_pure (i := 11) rfl (wanted_0 rfl) rfl (.bool false) (fun _ => hv_pick_f rfl hg100 rfl) ?_
                refine hp_pure (i := 12) rfl (wanted_0 rfl) rfl (.bool false) (fun _ => hv_move rfl) ?_
                refine hp_pure (i := 13) rfl (wanted_y rfl rfl (c := false) rfl rfl) rfl (.pointer r0) (fun _ => hv_move rfl) ?_
                obtain ⟨x_9, hc108, H⟩ := H
                refine hp_read (i := 14) rfl (wanted_y rfl rfl (c := false) rfl rfl) rfl (.pointer x_9) (fun _ he => hv_load TyShV.agg47 rfl (Ext.cell he hc108)) ?_
                obtain ⟨x_Hash_2, x_At_2, x_Version_2, x_Hits_2, hc109, hc110, hc111, hc112, H⟩ := H
                refine hp_read (i := 15) rfl (wanted_y rfl rfl (c := false) rfl rfl) rfl (.agg #[(.int .u64 x_Hash_2), (.int .u64 x_At_2), (.int .u64 x_Version_2), (.int .u8 x_Hits_2)]) (fun _ he => hv_loads (vs := [(.int .u64 x_Hash_2), (.int .u64 x_At_2), (.int .u64 x_Version_2), (.int .u8 x_Hits_2)]) TyShV.agg31 TyShV.sz31 rfl (hcells_cons (Ext.cell he hc109) (hcells_cons (Ext.cell he hc110) (hcells_cons (Ext.cell he hc111) (hcells_cons (Ext.cell he hc112) hcells_nil))))) ?_
                refine hp_pure (i := 16) rfl (wanted_y rfl rfl (c := false) rfl rfl) rfl (.agg #[(.int .i64 1), (.int .u64 x_Hash_2), (.int .u64 x_At_2), (.int .u64 x_Version_2), (.int .u8 x_Hits_2)]) (fun _ => hv_build (vs := [(0, (.int .i64 1)), (1, (.agg #[(.int .u64 x_Hash_2), (.int .u64 x_At_2), (.int .u64 x_Version_2), (.int .u8 x_Hits_2)]))]) (cs := #[(.int .i64 1), (.int .u64 x_Hash_2), (.int .u64 x_At_2), (.int .u64 x_Version_2), (.int .u8 x_Hits_2)]) TyShV.z33 TyShV.pl33 rfl (by kernel_rfl)) ?_
                refine hp_wild (i := 17) rfl (wanted_y rfl rfl (c := false) rfl rfl) rfl (hs_call TyShV.cb22 (vs := [(.pointer r0), (.pointer x_9), (.agg #[(.int .i64 1), (.int .u64 x_Hash_2), (.int .u64 x_At_2), (.int .u64 x_Version_2), (.int .u8 x_Hits_2)])]) rfl (HC.mono H ?_))
                rintro _ h30 ⟨r_2, rfl, H⟩
                refine hp_pure (i := 18) rfl (wanted_y rfl rfl (c := false) rfl rfl) rfl (.bool (!r_2)) (fun _ => hv_not (b := r_2) rfl) ?_
                refine hp_pure (i := 19) rfl (wanted_0 rfl) rfl (.bool (!r_2)) (fun _ => hv_pick (t := false) rfl rfl) ?_
                refine hp_nil ?_
                refine seqQ_n ?_
                exact ⟨_, ⟨H, trivial⟩, (has_cons rfl (has_cons rfl (has_cons rfl (has_cons rfl has_nil))))⟩
            · rintro ρ h28 ⟨j_2, ⟨HA97, -⟩, hH⟩
              have H := Hy95 j_2 h28 HA97; clear Hx94 Hy95
              refine hx_has _ hH ?_
              refine hx_cond (b := j_2) rfl (fun hb113 => ?_) (fun hb113 => ?_)
              · replace H := H.1 hb113
                refine hx_seq ?_
                refine hx_region ?_
                refine hl_val rfl rfl (v := (.bool false)) (hv_assign rfl) ?_
                refine hl_nil ?_
                refine seqQ_n ?_
                refine hx_ret ?_
                refine seqQ_ret ?_
                exact endQM_ret _ (fun h' hs => ⟨res_one Try.results6 (rv_tmp rfl), H h' hs⟩)
              · replace H := H.2 hb113
                refine hx_skip ?_
                refine seqQ_n ?_
                refine hx_seq ?_
                refine hx_region ?_
                refine hl_step rfl rfl (hn_alloc TyShV.z35 ?_)
                intro again h32 eb114 eh115
                replace H := H again h32 eb114 eh115
                have xx116 : Ext h28 h32 := by rw [eh115]; exact Ext.push _ _
                refine hl_nil ?_
                refine seqQ_n ?_
                refine hx_seq ?_
                refine hx_seq ?_
                refine hx_region ?_
                refine hl_val rfl rfl (v := r_1) (hv_move rfl) ?_
                refine hl_nil ?_
                refine seqQ_n ?_
                refine hx_block ?_
                refine hx_range rfl rfl rfl (fun h33 l_2 le118 lx119 lz120 La121 => ?_)
                refine HCF.mono (H (fun st p h => LoopAt h l_2 _ _ _ _ _ st p) l_2 h33 _ (fun s p h h' k e => k.same e) le118 lx119 lz120 La121 ?_) ?_
                · intro it_Hash_1 it_At_1 it_Version_1 it_Hits_1 h34 K125 Lb122 H
                  refine hcv_yield Lb122 rfl rfl ?_
                  refine hx_region ?_
                  refine hl_step rfl rfl (hn_alloc TyShV.z31 ?_)
                  intro e_1 h37 eb128 eh129
                  replace H := H e_1 h37 eb128 eh129
                  have xx130 : Ext h34 h37 := by rw [eh129]; exact Ext.push _ _
                  obtain ⟨hw132, H⟩ := H
                  refine hl_step rfl rfl (hn_stores (vs := [(.int .u64 it_Hash_1), (.int .u64 it_At_1), (.int .u64 it_Version_1), (.int .u8 it_Hits_1)]) rfl rfl TyShV.sz31 rfl hw132 ?_)
                  intro h38 eh131
                  replace H := H h38 eh131
                  refine hl_nil ?_
                  obtain ⟨Lf135, H⟩ := H
                  refine ⟨rfl, Lf135, ?_⟩
                  intro h39 lo133 Le134
                  replace H := H h39 lo133 Le134
                  refine hx_block ?_
                  refine hx_region ?_
                  obtain ⟨x_11, x_n_2, x_c_2, hc136, H⟩ := H
                  refine hl_val rfl rfl (v := (.slice x_11 x_n_2 x_c_2)) (hv_load TyShV.agg35 rfl hc136) ?_
                  obtain ⟨x_Hash_3, x_At_3, x_Version_3, x_Hits_3, hc137, hc138, hc139, hc140, H⟩ := H
                  refine hl_val rfl rfl (v := (.agg #[(.int .u64 x_Hash_3), (.int .u64 x_At_3), (.int .u64 x_Version_3), (.int .u8 x_Hits_3)])) (hv_loads (vs := [(.int .u64 x_Hash_3), (.int .u64 x_At_3), (.int .u64 x_Version_3), (.int .u8 x_Hits_3)]) TyShV.agg31 TyShV.sz31 rfl (hcells_cons hc137 (hcells_cons hc138 (hcells_cons hc139 (hcells_cons hc140 hcells_nil))))) ?_
                  refine hl_step rfl rfl (hn_buildSlice (n := 1) (vs := [(0, (.agg #[(.int .u64 x_Hash_3), (.int .u64 x_At_3), (.int .u64 x_Version_3), (.int .u8 x_Hits_3)]))]) (cs := #[(.int .u64 x_Hash_3), (.int .u64 x_At_3), (.int .u64 x_Version_3), (.int .u8 x_Hits_3)]) TyShV.u35 TyShV.sz31 TyShV.z31 rfl rfl (by kernel_rfl) ?_)
                  intro nb h40 eb141 eh142
                  replace H := H nb h40 eb141 eh142
                  have xx143 : Ext h39 h40 := by rw [eh142]; exact Ext.push _ _
                  refine hl_step rfl rfl (hs_append rfl rfl (HAppend.mono H ?_))
                  rintro _ h41 ⟨ap, ap_n, ap_c, rfl, H⟩
                  obtain ⟨hw145, H⟩ := H
                  refine hl_step rfl rfl (hn_store (v := (.slice ap ap_n ap_c)) rfl rfl TyShV.sz35 rfl hw145 ?_)
                  intro h42 eh144
                  replace H := H h42 eh144
                  refine hl_nil ?_
                  refine blockQ_n ?_
                  exact H
                · rintro _ h35 ⟨st, pend, Lc123, hst127, H⟩
                  refine ⟨st, pend, Lc123, hst127, ?_⟩
                  intro h36 lo126 Ld124
                  replace H := H h36 lo126 Ld124
                  obtain ⟨rfl, H⟩ := H
                  refine jumpQ_n ?_
                  refine blockQ_n ?_
                  refine seqQ_n ?_
                  refine hx_seq ?_
                  refine hx_draw TyShV.mixed [.read, .read, .pure, .pure, .read, .read, .pure] [0, 1, 2, 3, 4, 5, 6] (by kernel_rfl) ?_
                  obtain ⟨x_12, x_n_3, x_c_3, hc146, H⟩ := H
                  refine hp_read (i := 0) rfl (wanted_0 rfl) rfl (.slice x_12 x_n_3 x_c_3) (fun _ he => hv_load TyShV.agg35 rfl (Ext.cell he hc146)) ?_
                  obtain ⟨x_13, hc147, H⟩ := H
                  refine hp_read (i := 1) rfl (wanted_0 rfl) rfl (.pointer x_13) (fun _ he => hv_load TyShV.agg47 rfl (Ext.cell he hc147)) ?_
                  obtain ⟨x_13_b, x_13_o, hqe, Hq⟩ := H
                  subst hqe
                  have H := Hq; clear Hq
                  refine hp_pure (i := 2) rfl (wanted_0 rfl) rfl (ptr x_13_b x_13_o) (fun _ => hv_nil rfl) ?_
                  refine hp_pure (i := 3) rfl (wanted_0 rfl) rfl (ptr x_13_b (x_13_o + 2)) (fun _ => hv_field TyShV.fld55_2 (b := x_13_b) (o := x_13_o) rfl) ?_
                  obtain ⟨x_14, x_n_4, x_c_4, hc148, H⟩ := H
                  refine hp_read (i := 4) rfl (wanted_0 rfl) rfl (.slice x_14 x_n_4 x_c_4) (fun _ he => hv_load TyShV.agg35 rfl (Ext.cell he hc148)) ?_
                  obtain ⟨r_3, hr149, H⟩ := H
                  refine hp_read (i := 5) rfl (wanted_0 rfl) rfl (.bool r_3) (fun _ he => hv_call TyShV.cb20 (vs := [(.slice x_12 x_n_3 x_c_3), (.slice x_14 x_n_4 x_c_4)]) rfl (hr149 _ he)) ?_
                  refine hp_pure (i := 6) rfl (wanted_0 rfl) rfl (.bool r_3) (fun _ => hv_assign rfl) ?_
                  refine hp_nil ?_
                  refine seqQ_n ?_
                  refine hx_ret ?_
                  exact endQM_ret _ (fun h' hs => ⟨res_one Try.results6 (rv_tmp rfl), H h' hs⟩)

end Go.Proofs.Ytebipjmcckkhcaa
