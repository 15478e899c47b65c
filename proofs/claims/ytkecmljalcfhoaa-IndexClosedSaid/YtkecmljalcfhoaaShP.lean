/-
Shallow forms, written by gen2.py (a program of ours) out of the print of the program.
-/
import Derived.Test.YtkecmljalcfhoaaShJ
import Derived.Test.YtkecmljalcfhoaaPrv
import Derived.Test.YtkecmljalcfhoaaSrt
import Derived.Test.YtkecmljalcfhoaaRng
import Derived.Test.YtkecmljalcfhoaaMor
import Derived.Test.YtkecmljalcfhoaaProg
namespace Go.Proofs.Ytkecmljalcfhoaa
open Go
set_option maxRecDepth 100000
set_option maxHeartbeats 4000000

theorem TyShP.agg25 : aggB Try.prog 25 = some false := by kernel_rfl
theorem TyShP.agg29 : aggB Try.prog 29 = some false := by kernel_rfl
theorem TyShP.agg3 : aggB Try.prog 3 = some false := by kernel_rfl
theorem TyShP.agg31 : aggB Try.prog 31 = some true := by kernel_rfl
theorem TyShP.agg33 : aggB Try.prog 33 = some true := by kernel_rfl
theorem TyShP.agg36 : aggB Try.prog 36 = some false := by kernel_rfl
theorem TyShP.agg4 : aggB Try.prog 4 = some false := by kernel_rfl
theorem TyShP.cb12 : CallB Try.prog 12 := fun _ _ => Try.call12 _ _
theorem TyShP.cb17 : CallB Try.prog 17 := fun _ _ => Try.call17 _ _
theorem TyShP.cb18 : CallB Try.prog 18 := fun _ _ => Try.call18 _ _
theorem TyShP.cb20 : CallB Try.prog 20 := fun _ _ => Try.call20 _ _
theorem TyShP.cb22 : CallB Try.prog 22 := fun _ _ => Try.call22 _ _
theorem TyShP.cb23 : CallB Try.prog 23 := fun _ _ => Try.call23 _ _
theorem TyShP.cb24 : CallB Try.prog 24 := fun _ _ => Try.call24 _ _
theorem TyShP.el22 : elB Try.prog 22 = some 8 := by kernel_rfl
theorem TyShP.el62 : elB Try.prog 62 = some 1 := by kernel_rfl
theorem TyShP.fld31_0 : fldB Try.prog 31 0 = some 0 := by kernel_rfl
theorem TyShP.fld33_0 : fldB Try.prog 33 0 = some 0 := by kernel_rfl
theorem TyShP.fld33_1 : fldB Try.prog 33 1 = some 1 := by kernel_rfl
theorem TyShP.fld33_3 : fldB Try.prog 33 3 = some 6 := by kernel_rfl
theorem TyShP.fld38_0 : fldB Try.prog 38 0 = some 0 := by kernel_rfl
theorem TyShP.fld38_2 : fldB Try.prog 38 2 = some 8 := by kernel_rfl
theorem TyShP.fld38_4 : fldB Try.prog 38 4 = some 10 := by kernel_rfl
theorem TyShP.fld38_6 : fldB Try.prog 38 6 = some 12 := by kernel_rfl
theorem TyShP.pl31 : plB Try.prog 31 = some [(0, 1), (1, 1), (2, 1), (3, 1)] := by kernel_rfl
theorem TyShP.pl61 : plB Try.prog 61 = some [(0, 1)] := by kernel_rfl
theorem TyShP.se31 : seB Try.prog 31 = some [(29, 0), (29, 1), (29, 2), (5, 3)] := by kernel_rfl
theorem TyShP.sz25 : szB Try.prog 25 = some 1 := by kernel_rfl
theorem TyShP.sz31 : szB Try.prog 31 = some 4 := by kernel_rfl
theorem TyShP.sz33 : szB Try.prog 33 = some 8 := by kernel_rfl
theorem TyShP.sz38 : szB Try.prog 38 = some 13 := by kernel_rfl
theorem TyShP.sz4 : szB Try.prog 4 = some 1 := by kernel_rfl
theorem TyShP.u22 : Try.prog.underlying 22 = some (.slice 33) := by kernel_rfl
theorem TyShP.u62 : Try.prog.underlying 62 = some (.slice 25) := by kernel_rfl
theorem TyShP.up25 : Try.prog.underlying 25 = some (.pointer 61) := by kernel_rfl
theorem TyShP.z25 : zeroB Try.prog 25 (.pointer none) := by unfold zeroB; kernel_rfl
theorem TyShP.z31 : zeroB Try.prog 31 (.agg #[(.int .u64 0), (.int .u64 0), (.int .u64 0), (.int .u8 0)]) := by unfold zeroB; kernel_rfl
theorem TyShP.z33 : zeroB Try.prog 33 (.agg #[(.int .i64 0), (.int .u64 0), (.int .u64 0), (.int .u64 0), (.int .u8 0), (.int .u64 0), (.int .i64 0), (.int .i64 0)]) := by unfold zeroB; kernel_rfl
theorem TyShP.z38 : zeroB Try.prog 38 (.agg #[(.int .u64 0), (.int .u64 0), (.int .u64 0), (.int .u8 0), (.int .u64 0), (.int .u64 0), (.int .u64 0), (.int .u8 0), (.bool false), (.bool false), (.int .i64 0), (.int .i64 0), (.int .i64 0)]) := by unfold zeroB; kernel_rfl
theorem TyShP.z4 : zeroB Try.prog 4 (.bool false) := by unfold zeroB; kernel_rfl
theorem TyShP.z61 : zeroB Try.prog 61 (.agg #[(.slice none 0 0)]) := by unfold zeroB; kernel_rfl

/-- cellar/cellarlaw12.IndexClosed -/
theorem f9_sh (dov : Option Addr) (do_n : Nat) (do_c : Nat) (h : Heap) (R : Value → Heap → Prop)
    (H : (∀ nb h1, nb = Array.size h → h1 = Array.push h (.cells #[(.bool false)] 4) → HC Try.prog 22 #[] h1 (fun vv h2 => ∃ r : Bool, vv = (.bool r) ∧ (((!r) = true → (HW h2 nb 0 ∧ ∀ h3, h3 = hset h2 nb 0 (.bool false) → (∃ res : Bool, hcell h3 nb 0 = some (.bool res) ∧ (∀ h4, Shut' (Array.size h) h3 h4 → R (.bool res) h4)))) ∧ ((!r) = false → (∀ nb_1 h5, nb_1 = Array.size h2 → h5 = Array.push h2 (.cells #[(.slice none 0 0)] 61) → (∀ nb_2 h6, nb_2 = Array.size h5 → h6 = Array.push h5 (.cells #[(.pointer none), (ptr nb_1 0)] 25) → (∃ (I14 : Int → Heap → Prop) (mu15 : Int → Heap → Nat), I14 0 h6 ∧ (∀ (v : Int) (h7 : Heap), I14 v h7 → (((decide (v < 2)) = true → ((0 : Int) ≤ v ∧ v < (2 : Int) ∧ (∃ x : Option Addr, hcell h7 nb_2 (0 + (Int.toNat v) * 1) = some (.pointer x) ∧ (∃ (I23 : Int → Heap → Prop) (mu24 : Int → Heap → Nat), I23 0 h7 ∧ (∀ (v_1 : Int) (h8 : Heap), I23 v_1 h8 → (((decide (v_1 < (do_n : Int))) = true → (∃ dov_b dov_o : Nat, dov = some ⟨dov_b, dov_o, none⟩ ∧ (0 : Int) ≤ v_1 ∧ v_1 < (do_n : Int) ∧ (∃ x_Kind x_Entry_Hash x_Entry_At x_Entry_Version x_Entry_Hits x_At x_N x_M : Int, hcell h8 dov_b (dov_o + (Int.toNat v_1) * 8) = some (.int .i64 x_Kind) ∧ hcell h8 dov_b ((dov_o + (Int.toNat v_1) * 8) + 1) = some (.int .u64 x_Entry_Hash) ∧ hcell h8 dov_b ((dov_o + (Int.toNat v_1) * 8) + 2) = some (.int .u64 x_Entry_At) ∧ hcell h8 dov_b ((dov_o + (Int.toNat v_1) * 8) + 3) = some (.int .u64 x_Entry_Version) ∧ hcell h8 dov_b ((dov_o + (Int.toNat v_1) * 8) + 4) = some (.int .u8 x_Entry_Hits) ∧ hcell h8 dov_b ((dov_o + (Int.toNat v_1) * 8) + 5) = some (.int .u64 x_At) ∧ hcell h8 dov_b ((dov_o + (Int.toNat v_1) * 8) + 6) = some (.int .i64 x_N) ∧ hcell h8 dov_b ((dov_o + (Int.toNat v_1) * 8) + 7) = some (.int .i64 x_M) ∧ (∀ o h9, o = Array.size h8 → h9 = Array.push h8 (.cells #[(.int .i64 0), (.int .u64 0), (.int .u64 0), (.int .u64 0), (.int .u8 0), (.int .u64 0), (.int .i64 0), (.int .i64 0)] 33) → (HWs h9 o 0 8 ∧ ∀ h10, h10 = hsets h9 o 0 [(.int .i64 x_Kind), (.int .u64 x_Entry_Hash), (.int .u64 x_Entry_At), (.int .u64 x_Entry_Version), (.int .u8 x_Entry_Hits), (.int .u64 x_At), (.int .i64 x_N), (.int .i64 x_M)] → (∃ x_Kind_1 x_Entry_Hash_1 x_Entry_At_1 x_Entry_Version_1 x_Entry_Hits_1 x_At_1 x_N_1 x_M_1 : Int, hcell h10 o 0 = some (.int .i64 x_Kind_1) ∧ hcell h10 o 1 = some (.int .u64 x_Entry_Hash_1) ∧ hcell h10 o 2 = some (.int .u64 x_Entry_At_1) ∧ hcell h10 o 3 = some (.int .u64 x_Entry_Version_1) ∧ hcell h10 o 4 = some (.int .u8 x_Entry_Hits_1) ∧ hcell h10 o 5 = some (.int .u64 x_At_1) ∧ hcell h10 o 6 = some (.int .i64 x_N_1) ∧ hcell h10 o 7 = some (.int .i64 x_M_1) ∧ HC Try.prog 12 #[(.pointer x), (.agg #[(.int .i64 x_Kind_1), (.int .u64 x_Entry_Hash_1), (.int .u64 x_Entry_At_1), (.int .u64 x_Entry_Version_1), (.int .u8 x_Entry_Hits_1), (.int .u64 x_At_1), (.int .i64 x_N_1), (.int .i64 x_M_1)])] h10 (fun vv h11 => ∃ r_a_Hash r_a_At r_a_Version r_a_Hits r_b_Hash r_b_At r_b_Version r_b_Hits : Int, ∃ r_is r_in : Bool, ∃ r_e r_f r_n : Int, vv = (.agg #[(.int .u64 r_a_Hash), (.int .u64 r_a_At), (.int .u64 r_a_Version), (.int .u8 r_a_Hits), (.int .u64 r_b_Hash), (.int .u64 r_b_At), (.int .u64 r_b_Version), (.int .u8 r_b_Hits), (.bool r_is), (.bool r_in), (.int .i64 r_e), (.int .i64 r_f), (.int .i64 r_n)]) ∧ (∀ t h12, t = Array.size h11 → h12 = Array.push h11 (.cells #[(.int .u64 0), (.int .u64 0), (.int .u64 0), (.int .u8 0), (.int .u64 0), (.int .u64 0), (.int .u64 0), (.int .u8 0), (.bool false), (.bool false), (.int .i64 0), (.int .i64 0), (.int .i64 0)] 38) → (HWs h12 t 0 13 ∧ ∀ h13, h13 = hsets h12 t 0 [(.int .u64 r_a_Hash), (.int .u64 r_a_At), (.int .u64 r_a_Version), (.int .u8 r_a_Hits), (.int .u64 r_b_Hash), (.int .u64 r_b_At), (.int .u64 r_b_Version), (.int .u8 r_b_Hits), (.bool r_is), (.bool r_in), (.int .i64 r_e), (.int .i64 r_f), (.int .i64 r_n)] → (∃ j : Bool, (∃ x_1 : Int, hcell h13 o 0 = some (.int .i64 x_1) ∧ (((x_1 == 0) = true → (∃ x_2 : Int, hcell h13 t 10 = some (.int .i64 x_2) ∧ (((x_2 != 6) = true → (j = true)) ∧ ((x_2 != 6) = false → (∃ x_Hash x_At_2 x_Version x_Hits : Int, hcell h13 t 0 = some (.int .u64 x_Hash) ∧ hcell h13 t 1 = some (.int .u64 x_At_2) ∧ hcell h13 t 2 = some (.int .u64 x_Version) ∧ hcell h13 t 3 = some (.int .u8 x_Hits) ∧ (((!((x_Hash == 0 && (x_At_2 == 0 && (x_Version == 0 && (x_Hits == 0 && true)))))) = true → (j = true)) ∧ ((!((x_Hash == 0 && (x_At_2 == 0 && (x_Version == 0 && (x_Hits == 0 && true)))))) = false → (∃ x_3 : Bool, hcell h13 t 8 = some (.bool x_3) ∧ ((x_3 = true → (j = true)) ∧ (x_3 = false → (∃ x_4 : Int, hcell h13 t 12 = some (.int .i64 x_4) ∧ (((x_4 != 0) = true → (j = true)) ∧ ((x_4 != 0) = false → (∃ x_5 : Int, hcell h13 o 6 = some (.int .i64 x_5) ∧ (∃ r_1 : Int, HC Try.prog 23 #[(.pointer x), (.int .i64 x_5)] h13 (fun vv h' => vv = (.int .i64 r_1) ∧ h' = h13) ∧ (((r_1 != 0) = true → (j = true)) ∧ ((r_1 != 0) = false → (∃ x_6 : Int, hcell h13 o 1 = some (.int .u64 x_6) ∧ (∃ r_2 : Int, HC Try.prog 24 #[(.pointer x), (.int .u64 x_6)] h13 (fun vv h' => vv = (.int .i64 r_2) ∧ h' = h13) ∧ (j = (r_2 != 0))))))))))))))))))))) ∧ ((x_1 == 0) = false → (∃ x_Hash x_At_2 x_Version x_Hits : Int, hcell h13 t 0 = some (.int .u64 x_Hash) ∧ hcell h13 t 1 = some (.int .u64 x_At_2) ∧ hcell h13 t 2 = some (.int .u64 x_Version) ∧ hcell h13 t 3 = some (.int .u8 x_Hits) ∧ (((!((x_Hash == 0 && (x_At_2 == 0 && (x_Version == 0 && (x_Hits == 0 && true)))))) = true → (j = true)) ∧ ((!((x_Hash == 0 && (x_At_2 == 0 && (x_Version == 0 && (x_Hits == 0 && true)))))) = false → (∃ x_2 : Bool, hcell h13 t 8 = some (.bool x_2) ∧ ((x_2 = true → (j = true)) ∧ (x_2 = false → (∃ x_3 : Int, hcell h13 t 12 = some (.int .i64 x_3) ∧ (((x_3 != 0) = true → (j = true)) ∧ ((x_3 != 0) = false → (∃ x_4 : Int, hcell h13 o 6 = some (.int .i64 x_4) ∧ (∃ r_1 : Int, HC Try.prog 23 #[(.pointer x), (.int .i64 x_4)] h13 (fun vv h' => vv = (.int .i64 r_1) ∧ h' = h13) ∧ (((r_1 != 0) = true → (j = true)) ∧ ((r_1 != 0) = false → (∃ x_5 : Int, hcell h13 o 1 = some (.int .u64 x_5) ∧ (∃ r_2 : Int, HC Try.prog 24 #[(.pointer x), (.int .u64 x_5)] h13 (fun vv h' => vv = (.int .i64 r_2) ∧ h' = h13) ∧ (j = (r_2 != 0)))))))))))))))))))) ∧ ((j = true → (HW h13 nb 0 ∧ ∀ h14, h14 = hset h13 nb 0 (.bool false) → (∃ res : Bool, hcell h14 nb 0 = some (.bool res) ∧ (∀ h15, Shut' (Array.size h) h14 h15 → R (.bool res) h15)))) ∧ (j = false → (∃ x_7 : Int, hcell h13 o 6 = some (.int .i64 x_7) ∧ HC Try.prog 18 #[(.pointer x), (.int .i64 x_7)] h13 (fun vv h16 => ∃ r_3 : Value, vv = r_3 ∧ (∀ (Lp96 : LoopState → Option Code → Heap → Prop) (l : Nat) (h17 : Heap) (y : Value), (∀ s p h h', Lp96 s p h → h'[l]? = h[l]? → Lp96 s p h') → l = Array.size h16 + 1 → Ext h16 h17 → Array.size h17 = Array.size h16 + 2 → Lp96 .ready none h17 → (∀ (it_Hash : Int) (it_At : Int) (it_Version : Int) (it_Hits : Int) (h18 : Heap) (K104 : Value → Heap → Prop), Lp96 .ready none h18 → (Lp96 .ready none h18 ∧ ∀ h21, Only l h18 h21 → Lp96 .busy none h21 → (HW h21 nb 0 ∧ ∀ h22, h22 = hset h21 nb 0 (.bool false) → (Lp96 .busy none h22 ∧ ∀ h23, Only l h22 h23 → Lp96 .done (some .ret) h23 → K104 (.bool false) h23))) → HCV Try.prog y [(.agg #[(.int .u64 it_Hash), (.int .u64 it_At), (.int .u64 it_Version), (.int .u8 it_Hits)])] h18 K104) → HCF Try.prog r_3 [y] h17 (fun _ h19 => ∃ (st : LoopState) (pend : Option Code), Lp96 st pend h19 ∧ st ≠ .busy ∧ ∀ h20, Only l h19 h20 → Lp96 .exhausted pend h20 → ((pend = none ∧ (I23 (IntKind.i64.wrap (v_1 + 1)) h20 ∧ mu24 (IntKind.i64.wrap (v_1 + 1)) h20 < mu24 v_1 h8)) ∨ (pend = some .ret ∧ (∃ res : Bool, hcell h20 nb 0 = some (.bool res) ∧ (∀ h24, Shut' (Array.size h) h20 h24 → R (.bool res) h24)))))))))))))))))))) ∧ ((decide (v_1 < (do_n : Int))) = false → (∃ A115 : Bool → Heap → Prop, (∃ r_1 : Int, HC Try.prog 17 #[(.pointer x)] h8 (fun vv h' => vv = (.int .i64 r_1) ∧ h' = h8) ∧ (((r_1 != 0) = true → (A115 true h8)) ∧ ((r_1 != 0) = false → HC Try.prog 20 #[(.pointer x)] h8 (fun vv h26 => ∃ r_2 : Option Addr, vv = (.pointer r_2) ∧ (A115 r_2.isSome h26))))) ∧ (∀ (j : Bool) (h25 : Heap), A115 j h25 → ((j = true → (HW h25 nb 0 ∧ ∀ h27, h27 = hset h25 nb 0 (.bool false) → (∃ res : Bool, hcell h27 nb 0 = some (.bool res) ∧ (∀ h28, Shut' (Array.size h) h27 h28 → R (.bool res) h28)))) ∧ (j = false → (I14 (IntKind.i64.wrap (v + 1)) h25 ∧ mu15 (IntKind.i64.wrap (v + 1)) h25 < mu15 v h7)))))))))))) ∧ ((decide (v < 2)) = false → (HW h7 nb 0 ∧ ∀ h29, h29 = hset h7 nb 0 (.bool true) → (∃ res : Bool, hcell h29 nb 0 = some (.bool res) ∧ (∀ h30, Shut' (Array.size h) h29 h30 → R (.bool res) h30)))))))))))))) :
    HC Try.prog 9 #[(.slice dov do_n do_c)] h R := by
  refine hc_ofM (args := [(.slice dov do_n do_c)]) Try.func9 rfl Try.ntmps9 (Nat.le_of_ble_eq_true rfl) ?_
  refine hx_seq ?_
  refine hx_region ?_
  refine hl_step rfl rfl (hn_alloc TyShP.z4 ?_)
  intro nb h1 eb1 eh2
  replace H := H nb h1 eb1 eh2
  have xx3 : Ext h h1 := by rw [eh2]; exact Ext.push _ _
  refine hl_nil ?_
  refine seqQ_n ?_
  refine hx_seq ?_
  refine hx_seq ?_
  refine hx_region ?_
  refine hl_step rfl rfl (hs_call TyShP.cb22 (vs := []) rfl (HC.mono H ?_))
  rintro _ h2 ⟨r, rfl, H⟩
  refine hl_val rfl rfl (v := (.bool (!r))) (hv_not (b := r) rfl) ?_
  refine hl_nil ?_
  refine seqQ_n ?_
  refine hx_cond (b := !r) rfl (fun hb4 => ?_) (fun hb4 => ?_)
  · replace H := H.1 hb4
    refine hx_seq ?_
    refine hx_region ?_
    obtain ⟨hw6, H⟩ := H
    refine hl_step rfl rfl (hn_store (v := (.bool false)) rfl rfl TyShP.sz4 rfl hw6 ?_)
    intro h3 eh5
    replace H := H h3 eh5
    refine hl_nil ?_
    refine seqQ_n ?_
    refine hx_ret ?_
    refine seqQ_ret ?_
    obtain ⟨res, hc7, H⟩ := H
    exact endQM_ret _ (fun h' hs => ⟨res_one Try.results9 (rv_cell1 TyShP.agg4 rfl (shut_cell hs hc7)), H h' hs⟩)
  · replace H := H.2 hb4
    refine hx_skip ?_
    refine seqQ_n ?_
    refine hx_seq ?_
    refine hx_seq ?_
    refine hx_region ?_
    refine hl_val rfl rfl (v := (.agg #[(.slice none 0 0)])) (hv_build (vs := []) (cs := #[(.slice none 0 0)]) TyShP.z61 TyShP.pl61 rfl (by kernel_rfl)) ?_
    refine hl_step rfl rfl (hn_box (v := (.agg #[(.slice none 0 0)])) rfl ?_)
    intro nb_1 h5 eb8 eh9
    replace H := H nb_1 h5 eb8 eh9
    have xx10 : Ext h2 h5 := by rw [eh9]; exact Ext.push _ _
    refine hl_step rfl rfl (hn_buildSlice (n := 2) (vs := [(0, (.pointer none)), (1, (ptr nb_1 0))]) (cs := #[(.pointer none), (ptr nb_1 0)]) TyShP.u62 TyShP.sz25 TyShP.z25 rfl rfl (by kernel_rfl) ?_)
    intro nb_2 h6 eb11 eh12
    replace H := H nb_2 h6 eb11 eh12
    have xx13 : Ext h5 h6 := by rw [eh12]; exact Ext.push _ _
    refine hl_val rfl rfl (v := (.int .i64 2)) (hv_len (n := 2) TyShP.u62 rfl) ?_
    refine hl_val rfl rfl (v := (.int .i64 0)) (hv_move rfl) ?_
    refine hl_nil ?_
    refine seqQ_n ?_
    refine hx_block ?_
    obtain ⟨I14, mu15, Ha16, Hr17⟩ := H
    refine hx_loopT (σ := Int) (fun s => [(0, (.slice dov do_n do_c)), (2, (ptr nb 0)), (12, (.slice (some ⟨nb_2, 0, none⟩) 2 2)), (13, (.int .i64 2)), (14, (.int .i64 s))]) (fun s h' => I14 s h' ∧ True) (fun s h' => mu15 s h') 0 ⟨Ha16, trivial⟩ (has_cons rfl (has_cons rfl (has_cons rfl (has_cons rfl (has_cons rfl has_nil))))) ?_
    rintro v ρ h7 ⟨Hi18, -⟩
    have H := Hr17 v h7 Hi18
    refine hx_seq ?_
    refine hx_region ?_
    refine hl_val rfl rfl (v := (.bool (decide (v < 2)))) (hv_arith rfl rfl rfl) ?_
    refine hl_nil ?_
    refine seqQ_n ?_
    refine hx_seq ?_
    refine hx_cond (b := decide (v < 2)) rfl (fun hb19 => ?_) (fun hb19 => ?_)
    · replace H := H.1 hb19
      refine hx_skip ?_
      refine seqQ_n ?_
      refine hx_seq ?_
      refine hx_block ?_
      refine hx_seq ?_
      refine hx_region ?_
      obtain ⟨hi20, hi21, H⟩ := H
      refine hl_val rfl rfl (v := (ptr nb_2 (0 + (Int.toNat v) * 1))) (hv_index TyShP.el62 rfl rfl hi20 hi21) ?_
      obtain ⟨x, hc22, H⟩ := H
      refine hl_val rfl rfl (v := (.pointer x)) (hv_load TyShP.agg25 rfl hc22) ?_
      refine hl_val rfl rfl (v := (.pointer x)) (hv_assign rfl) ?_
      refine hl_nil ?_
      refine seqQ_n ?_
      refine hx_seq ?_
      refine hx_seq ?_
      refine hx_region ?_
      refine hl_val rfl rfl (v := (.slice dov do_n do_c)) (hv_move rfl) ?_
      refine hl_val rfl rfl (v := (.int .i64 (do_n : Int))) (hv_len (n := do_n) TyShP.u22 rfl) ?_
      refine hl_val rfl rfl (v := (.int .i64 0)) (hv_move rfl) ?_
      refine hl_nil ?_
      refine seqQ_n ?_
      refine hx_block ?_
      obtain ⟨I23, mu24, Ha25, Hr26⟩ := H
      refine hx_loopT (σ := Int) (fun s => [(0, (.slice dov do_n do_c)), (2, (ptr nb 0)), (4, (.pointer x)), (12, (.slice (some ⟨nb_2, 0, none⟩) 2 2)), (13, (.int .i64 2)), (14, (.int .i64 v)), (18, (.slice dov do_n do_c)), (19, (.int .i64 (do_n : Int))), (20, (.int .i64 s))]) (fun s h' => I23 s h' ∧ True) (fun s h' => mu24 s h') 0 ⟨Ha25, trivial⟩ (has_cons rfl (has_cons rfl (has_cons rfl (has_cons rfl (has_cons rfl (has_cons rfl (has_cons rfl (has_cons rfl (has_cons rfl has_nil))))))))) ?_
      rintro v_1 ρ h8 ⟨Hi27, -⟩
      have H := Hr26 v_1 h8 Hi27
      refine hx_seq ?_
      refine hx_region ?_
      refine hl_val rfl rfl (v := (.bool (decide (v_1 < (do_n : Int))))) (hv_arith rfl rfl rfl) ?_
      refine hl_nil ?_
      refine seqQ_n ?_
      refine hx_seq ?_
      refine hx_cond (b := decide (v_1 < (do_n : Int))) rfl (fun hb28 => ?_) (fun hb28 => ?_)
      · replace H := H.1 hb28
        refine hx_skip ?_
        refine seqQ_n ?_
        refine hx_seq ?_
        refine hx_block ?_
        refine hx_seq ?_
        refine hx_region ?_
        obtain ⟨dov_b, dov_o, hqe, hi29, hi30, Hq⟩ := H
        subst hqe
        have H := Hq; clear Hq
        refine hl_val rfl rfl (v := (ptr dov_b (dov_o + (Int.toNat v_1) * 8))) (hv_index TyShP.el22 rfl rfl hi29 hi30) ?_
        obtain ⟨x_Kind, x_Entry_Hash, x_Entry_At, x_Entry_Version, x_Entry_Hits, x_At, x_N, x_M, hc31, hc32, hc33, hc34, hc35, hc36, hc37, hc38, H⟩ := H
        refine hl_val rfl rfl (v := (.agg #[(.int .i64 x_Kind), (.int .u64 x_Entry_Hash), (.int .u64 x_Entry_At), (.int .u64 x_Entry_Version), (.int .u8 x_Entry_Hits), (.int .u64 x_At), (.int .i64 x_N), (.int .i64 x_M)])) (hv_loads (vs := [(.int .i64 x_Kind), (.int .u64 x_Entry_Hash), (.int .u64 x_Entry_At), (.int .u64 x_Entry_Version), (.int .u8 x_Entry_Hits), (.int .u64 x_At), (.int .i64 x_N), (.int .i64 x_M)]) TyShP.agg33 TyShP.sz33 rfl (hcells_cons hc31 (hcells_cons hc32 (hcells_cons hc33 (hcells_cons hc34 (hcells_cons hc35 (hcells_cons hc36 (hcells_cons hc37 (hcells_cons hc38 hcells_nil))))))))) ?_
        refine hl_step rfl rfl (hn_alloc TyShP.z33 ?_)
        intro o h9 eb39 eh40
        replace H := H o h9 eb39 eh40
        have xx41 : Ext h8 h9 := by rw [eh40]; exact Ext.push _ _
        obtain ⟨hw43, H⟩ := H
        refine hl_step rfl rfl (hn_stores (vs := [(.int .i64 x_Kind), (.int .u64 x_Entry_Hash), (.int .u64 x_Entry_At), (.int .u64 x_Entry_Version), (.int .u8 x_Entry_Hits), (.int .u64 x_At), (.int .i64 x_N), (.int .i64 x_M)]) rfl rfl TyShP.sz33 rfl hw43 ?_)
        intro h10 eh42
        replace H := H h10 eh42
        refine hl_nil ?_
        refine seqQ_n ?_
        refine hx_seq ?_
        refine hx_region ?_
        refine hl_val rfl rfl (v := (.pointer x)) (hv_move rfl) ?_
        obtain ⟨x_Kind_1, x_Entry_Hash_1, x_Entry_At_1, x_Entry_Version_1, x_Entry_Hits_1, x_At_1, x_N_1, x_M_1, hc44, hc45, hc46, hc47, hc48, hc49, hc50, hc51, H⟩ := H
        refine hl_val rfl rfl (v := (.agg #[(.int .i64 x_Kind_1), (.int .u64 x_Entry_Hash_1), (.int .u64 x_Entry_At_1), (.int .u64 x_Entry_Version_1), (.int .u8 x_Entry_Hits_1), (.int .u64 x_At_1), (.int .i64 x_N_1), (.int .i64 x_M_1)])) (hv_loads (vs := [(.int .i64 x_Kind_1), (.int .u64 x_Entry_Hash_1), (.int .u64 x_Entry_At_1), (.int .u64 x_Entry_Version_1), (.int .u8 x_Entry_Hits_1), (.int .u64 x_At_1), (.int .i64 x_N_1), (.int .i64 x_M_1)]) TyShP.agg33 TyShP.sz33 rfl (hcells_cons hc44 (hcells_cons hc45 (hcells_cons hc46 (hcells_cons hc47 (hcells_cons hc48 (hcells_cons hc49 (hcells_cons hc50 (hcells_cons hc51 hcells_nil))))))))) ?_
        refine hl_step rfl rfl (hs_call TyShP.cb12 (vs := [(.pointer x), (.agg #[(.int .i64 x_Kind_1), (.int .u64 x_Entry_Hash_1), (.int .u64 x_Entry_At_1), (.int .u64 x_Entry_Version_1), (.int .u8 x_Entry_Hits_1), (.int .u64 x_At_1), (.int .i64 x_N_1), (.int .i64 x_M_1)])]) rfl (HC.mono H ?_))
        rintro _ h11 ⟨r_a_Hash, r_a_At, r_a_Version, r_a_Hits, r_b_Hash, r_b_At, r_b_Version, r_b_Hits, r_is, r_in, r_e, r_f, r_n, rfl, H⟩
        refine hl_step rfl rfl (hn_alloc TyShP.z38 ?_)
        intro t h12 eb52 eh53
        replace H := H t h12 eb52 eh53
        have xx54 : Ext h11 h12 := by rw [eh53]; exact Ext.push _ _
        obtain ⟨hw56, H⟩ := H
        refine hl_step rfl rfl (hn_stores (vs := [(.int .u64 r_a_Hash), (.int .u64 r_a_At), (.int .u64 r_a_Version), (.int .u8 r_a_Hits), (.int .u64 r_b_Hash), (.int .u64 r_b_At), (.int .u64 r_b_Version), (.int .u8 r_b_Hits), (.bool r_is), (.bool r_in), (.int .i64 r_e), (.int .i64 r_f), (.int .i64 r_n)]) rfl rfl TyShP.sz38 rfl hw56 ?_)
        intro h13 eh55
        replace H := H h13 eh55
        refine hl_nil ?_
        refine seqQ_n ?_
        refine hx_seq ?_
        obtain ⟨j, Hx57, Hy58⟩ := H
        refine hx_cut (fun ρ h' => h13 = h' ∧ Has ρ [(0, (.slice (some ⟨dov_b, dov_o, none⟩) do_n do_c)), (2, (ptr nb 0)), (4, (.pointer x)), (6, (ptr o 0)), (12, (.slice (some ⟨nb_2, 0, none⟩) 2 2)), (13, (.int .i64 2)), (14, (.int .i64 v)), (18, (.slice (some ⟨dov_b, dov_o, none⟩) do_n do_c)), (19, (.int .i64 (do_n : Int))), (20, (.int .i64 v_1)), (64, (.bool j))]) ?_ ?_
        · have H := Hx57; clear Hx57 Hy58
          refine hx_region ?_
          refine hl_val rfl rfl (v := (ptr o 0)) (hv_field TyShP.fld33_0 (b := o) (o := 0) rfl) ?_
          obtain ⟨x_1, hc59, H⟩ := H
          refine hl_val rfl rfl (v := (.int .i64 x_1)) (hv_load TyShP.agg3 rfl hc59) ?_
          refine hl_val rfl rfl (v := (.bool (x_1 == 0))) (hv_arith rfl rfl rfl) ?_
          refine hl_val rfl rfl (v := (.bool (x_1 == 0))) (hv_move rfl) ?_
          rcases bool_or (x_1 == 0) with hg60 | hg60
          · replace H := H.1 hg60
            refine hl_yes (wanted_y rfl rfl rfl hg60) rfl (HStep.of_val (v := (ptr t 10)) (hv_field TyShP.fld38_4 (b := t) (o := 0) rfl) ?_)
            obtain ⟨x_2, hc61, H⟩ := H
            refine hl_yes (wanted_y rfl rfl rfl hg60) rfl (HStep.of_val (v := (.int .i64 x_2)) (hv_load TyShP.agg36 rfl hc61) ?_)
            refine hl_yes (wanted_y rfl rfl rfl hg60) rfl (HStep.of_val (v := (.bool (x_2 != 6))) (hv_arith rfl rfl rfl) ?_)
            refine hl_val rfl rfl (v := (.bool (x_2 != 6))) (hv_pick_t rfl hg60 rfl) ?_
            refine hl_val rfl rfl (v := (.bool (x_2 != 6))) (hv_move rfl) ?_
            rcases bool_or (x_2 != 6) with hg62 | hg62
            · replace H := H.1 hg62
              refine hl_no (wanted_n rfl rfl rfl hg62) rfl ?_
              refine hl_no (wanted_n rfl rfl rfl hg62) rfl ?_
              refine hl_no (wanted_n rfl rfl rfl hg62) rfl ?_
              refine hl_no (wanted_n rfl rfl rfl hg62) rfl ?_
              refine hl_val rfl rfl (v := (.bool true)) (hv_pick_t rfl hg62 rfl) ?_
              refine hl_val rfl rfl (v := (.bool true)) (hv_move rfl) ?_
              refine hl_no (wanted_n rfl rfl (c := true) rfl rfl) rfl ?_
              refine hl_no (wanted_n rfl rfl (c := true) rfl rfl) rfl ?_
              refine hl_val rfl rfl (v := (.bool true)) (hv_pick (t := true) rfl rfl) ?_
              refine hl_val rfl rfl (v := (.bool true)) (hv_move rfl) ?_
              refine hl_no (wanted_n rfl rfl (c := true) rfl rfl) rfl ?_
              refine hl_no (wanted_n rfl rfl (c := true) rfl rfl) rfl ?_
              refine hl_no (wanted_n rfl rfl (c := true) rfl rfl) rfl ?_
              refine hl_val rfl rfl (v := (.bool true)) (hv_pick (t := true) rfl rfl) ?_
              refine hl_val rfl rfl (v := (.bool true)) (hv_move rfl) ?_
              refine hl_no (wanted_n rfl rfl (c := true) rfl rfl) rfl ?_
              refine hl_no (wanted_n rfl rfl (c := true) rfl rfl) rfl ?_
              refine hl_no (wanted_n rfl rfl (c := true) rfl rfl) rfl ?_
              refine hl_no (wanted_n rfl rfl (c := true) rfl rfl) rfl ?_
              refine hl_no (wanted_n rfl rfl (c := true) rfl rfl) rfl ?_
              refine hl_val rfl rfl (v := (.bool true)) (hv_pick (t := true) rfl rfl) ?_
              refine hl_val rfl rfl (v := (.bool true)) (hv_move rfl) ?_
              refine hl_no (wanted_n rfl rfl (c := true) rfl rfl) rfl ?_
              refine hl_no (wanted_n rfl rfl (c := true) rfl rfl) rfl ?_
              refine hl_no (wanted_n rfl rfl (c := true) rfl rfl) rfl ?_
              refine hl_no (wanted_n rfl rfl (c := true) rfl rfl) rfl ?_
              refine hl_no (wanted_n rfl rfl (c := true) rfl rfl) rfl ?_
              refine hl_no (wanted_n rfl rfl (c := true) rfl rfl) rfl ?_
              refine hl_val rfl rfl (v := (.bool true)) (hv_pick (t := true) rfl rfl) ?_
              refine hl_nil ?_
              refine seqQ_n ?_
              obtain rfl := H
              exact ⟨rfl, (has_cons rfl (has_cons rfl (has_cons rfl (has_cons rfl (has_cons rfl (has_cons rfl (has_cons rfl (has_cons rfl (has_cons rfl (has_cons rfl (has_cons rfl has_nil)))))))))))⟩
            · replace H := H.2 hg62
              refine hl_yes (wanted_y rfl rfl rfl hg62) rfl (HStep.of_val (v := (ptr t 0)) (hv_field TyShP.fld38_0 (b := t) (o := 0) rfl) ?_)
              obtain ⟨x_Hash, x_At_2, x_Version, x_Hits, hc63, hc64, hc65, hc66, H⟩ := H
              refine hl_yes (wanted_y rfl rfl rfl hg62) rfl (HStep.of_val (v := (.agg #[(.int .u64 x_Hash), (.int .u64 x_At_2), (.int .u64 x_Version), (.int .u8 x_Hits)])) (hv_loads (vs := [(.int .u64 x_Hash), (.int .u64 x_At_2), (.int .u64 x_Version), (.int .u8 x_Hits)]) TyShP.agg31 TyShP.sz31 rfl (hcells_cons hc63 (hcells_cons hc64 (hcells_cons hc65 (hcells_cons hc66 hcells_nil))))) ?_)
              refine hl_yes (wanted_y rfl rfl rfl hg62) rfl (HStep.of_val (v := (.agg #[(.int .u64 0), (.int .u64 0), (.int .u64 0), (.int .u8 0)])) (hv_build (vs := []) (cs := #[(.int .u64 0), (.int .u64 0), (.int .u64 0), (.int .u8 0)]) TyShP.z31 TyShP.pl31 rfl (by kernel_rfl)) ?_)
              refine hl_yes (wanted_y rfl rfl rfl hg62) rfl (HStep.of_val (v := (.bool (!((x_Hash == 0 && (x_At_2 == 0 && (x_Version == 0 && (x_Hits == 0 && true)))))))) (hv_structEq (xs := [(.int .u64 x_Hash), (.int .u64 x_At_2), (.int .u64 x_Version), (.int .u8 x_Hits)]) (ys := [(.int .u64 0), (.int .u64 0), (.int .u64 0), (.int .u8 0)]) (b := (x_Hash == 0 && (x_At_2 == 0 && (x_Version == 0 && (x_Hits == 0 && true))))) TyShP.se31 rfl rfl (by kernel_rfl) rfl) ?_)
              refine hl_val rfl rfl (v := (.bool (!((x_Hash == 0 && (x_At_2 == 0 && (x_Version == 0 && (x_Hits == 0 && true)))))))) (hv_pick_f rfl hg62 rfl) ?_
              refine hl_val rfl rfl (v := (.bool (!((x_Hash == 0 && (x_At_2 == 0 && (x_Version == 0 && (x_Hits == 0 && true)))))))) (hv_move rfl) ?_
              rcases bool_or (!((x_Hash == 0 && (x_At_2 == 0 && (x_Version == 0 && (x_Hits == 0 && true)))))) with hg67 | hg67
              · replace H := H.1 hg67
                refine hl_no (wanted_n rfl rfl rfl hg67) rfl ?_
                refine hl_no (wanted_n rfl rfl rfl hg67) rfl ?_
                refine hl_val rfl rfl (v := (.bool true)) (hv_pick_t rfl hg67 rfl) ?_
                refine hl_val rfl rfl (v := (.bool true)) (hv_move rfl) ?_
                refine hl_no (wanted_n rfl rfl (c := true) rfl rfl) rfl ?_
                refine hl_no (wanted_n rfl rfl (c := true) rfl rfl) rfl ?_
                refine hl_no (wanted_n rfl rfl (c := true) rfl rfl) rfl ?_
                refine hl_val rfl rfl (v := (.bool true)) (hv_pick (t := true) rfl rfl) ?_
                refine hl_val rfl rfl (v := (.bool true)) (hv_move rfl) ?_
                refine hl_no (wanted_n rfl rfl (c := true) rfl rfl) rfl ?_
                refine hl_no (wanted_n rfl rfl (c := true) rfl rfl) rfl ?_
                refine hl_no (wanted_n rfl rfl (c := true) rfl rfl) rfl ?_
                refine hl_no (wanted_n rfl rfl (c := true) rfl rfl) rfl ?_
                refine hl_no (wanted_n rfl rfl (c := true) rfl rfl) rfl ?_
                refine hl_val rfl rfl (v := (.bool true)) (hv_pick (t := true) rfl rfl) ?_
                refine hl_val rfl rfl (v := (.bool true)) (hv_move rfl) ?_
                refine hl_no (wanted_n rfl rfl (c := true) rfl rfl) rfl ?_
                refine hl_no (wanted_n rfl rfl (c := true) rfl rfl) rfl ?_
                refine hl_no (wanted_n rfl rfl (c := true) rfl rfl) rfl ?_
                refine hl_no (wanted_n rfl rfl (c := true) rfl rfl) rfl ?_
                refine hl_no (wanted_n rfl rfl (c := true) rfl rfl) rfl ?_
                refine hl_no (wanted_n rfl rfl (c := true) rfl rfl) rfl ?_
                refine hl_val rfl rfl (v := (.bool true)) (hv_pick (t := true) rfl rfl) ?_
                refine hl_nil ?_
                refine seqQ_n ?_
                obtain rfl := H
                exact ⟨rfl, (has_cons rfl (has_cons rfl (has_cons rfl (has_cons rfl (has_cons rfl (has_cons rfl (has_cons rfl (has_cons rfl (has_cons rfl (has_cons rfl (has_cons rfl has_nil)))))))))))⟩
              · replace H := H.2 hg67
                refine hl_yes (wanted_y rfl rfl rfl hg67) rfl (HStep.of_val (v := (ptr t 8)) (hv_field TyShP.fld38_2 (b := t) (o := 0) rfl) ?_)
                obtain ⟨x_3, hc68, H⟩ := H
                refine hl_yes (wanted_y rfl rfl rfl hg67) rfl (HStep.of_val (v := (.bool x_3)) (hv_load TyShP.agg4 rfl hc68) ?_)
                refine hl_val rfl rfl (v := (.bool x_3)) (hv_pick_f rfl hg67 rfl) ?_
                refine hl_val rfl rfl (v := (.bool x_3)) (hv_move rfl) ?_
                rcases bool_or (x_3) with hg69 | hg69
                · replace H := H.1 hg69
                  refine hl_no (wanted_n rfl rfl rfl hg69) rfl ?_
                  refine hl_no (wanted_n rfl rfl rfl hg69) rfl ?_
                  refine hl_no (wanted_n rfl rfl rfl hg69) rfl ?_
                  refine hl_val rfl rfl (v := (.bool true)) (hv_pick_t rfl hg69 rfl) ?_
                  refine hl_val rfl rfl (v := (.bool true)) (hv_move rfl) ?_
                  refine hl_no (wanted_n rfl rfl (c := true) rfl rfl) rfl ?_
                  refine hl_no (wanted_n rfl rfl (c := true) rfl rfl) rfl ?_
                  refine hl_no (wanted_n rfl rfl (c := true) rfl rfl) rfl ?_
                  refine hl_no (wanted_n rfl rfl (c := true) rfl rfl) rfl ?_
                  refine hl_no (wanted_n rfl rfl (c := true) rfl rfl) rfl ?_
                  refine hl_val rfl rfl (v := (.bool true)) (hv_pick (t := true) rfl rfl) ?_
                  refine hl_val rfl rfl (v := (.bool true)) (hv_move rfl) ?_
                  refine hl_no (wanted_n rfl rfl (c := true) rfl rfl) rfl ?_
                  refine hl_no (wanted_n rfl rfl (c := true) rfl rfl) rfl ?_
                  refine hl_no (wanted_n rfl rfl (c := true) rfl rfl) rfl ?_
                  refine hl_no (wanted_n rfl rfl (c := true) rfl rfl) rfl ?_
                  refine hl_no (wanted_n rfl rfl (c := true) rfl rfl) rfl ?_
                  refine hl_no (wanted_n rfl rfl (c := true) rfl rfl) rfl ?_
                  refine hl_val rfl rfl (v := (.bool true)) (hv_pick (t := true) rfl rfl) ?_
                  refine hl_nil ?_
                  refine seqQ_n ?_
                  obtain rfl := H
                  exact ⟨rfl, (has_cons rfl (has_cons rfl (has_cons rfl (has_cons rfl (has_cons rfl (has_cons rfl (has_cons rfl (has_cons rfl (has_cons rfl (has_cons rfl (has_cons rfl has_nil)))))))))))⟩
                · replace H := H.2 hg69
                  refine hl_yes (wanted_y rfl rfl rfl hg69) rfl (HStep.of_val (v := (ptr t 12)) (hv_field TyShP.fld38_6 (b := t) (o := 0) rfl) ?_)
                  obtain ⟨x_4, hc70, H⟩ := H
                  refine hl_yes (wanted_y rfl rfl rfl hg69) rfl (HStep.of_val (v := (.int .i64 x_4)) (hv_load TyShP.agg3 rfl hc70) ?_)
                  refine hl_yes (wanted_y rfl rfl rfl hg69) rfl (HStep.of_val (v := (.bool (x_4 != 0))) (hv_arith rfl rfl rfl) ?_)
                  refine hl_val rfl rfl (v := (.bool (x_4 != 0))) (hv_pick_f rfl hg69 rfl) ?_
                  refine hl_val rfl rfl (v := (.bool (x_4 != 0))) (hv_move rfl) ?_
                  rcases bool_or (x_4 != 0) with hg71 | hg71
                  · replace H := H.1 hg71
                    refine hl_no (wanted_n rfl rfl rfl hg71) rfl ?_
                    refine hl_no (wanted_n rfl rfl rfl hg71) rfl ?_
                    refine hl_no (wanted_n rfl rfl rfl hg71) rfl ?_
                    refine hl_no (wanted_n rfl rfl rfl hg71) rfl ?_
                    refine hl_no (wanted_n rfl rfl rfl hg71) rfl ?_
                    refine hl_val rfl rfl (v := (.bool true)) (hv_pick_t rfl hg71 rfl) ?_
                    refine hl_val rfl rfl (v := (.bool true)) (hv_move rfl) ?_
                    refine hl_no (wanted_n rfl rfl (c := true) rfl rfl) rfl ?_
                    refine hl_no (wanted_n rfl rfl (c := true) rfl rfl) rfl ?_
                    refine hl_no (wanted_n rfl rfl (c := true) rfl rfl) rfl ?_
                    refine hl_no (wanted_n rfl rfl (c := true) rfl rfl) rfl ?_
                    refine hl_no (wanted_n rfl rfl (c := true) rfl rfl) rfl ?_
                    refine hl_no (wanted_n rfl rfl (c := true) rfl rfl) rfl ?_
                    refine hl_val rfl rfl (v := (.bool true)) (hv_pick (t := true) rfl rfl) ?_
                    refine hl_nil ?_
                    refine seqQ_n ?_
                    obtain rfl := H
                    exact ⟨rfl, (has_cons rfl (has_cons rfl (has_cons rfl (has_cons rfl (has_cons rfl (has_cons rfl (has_cons rfl (has_cons rfl (has_cons rfl (has_cons rfl (has_cons rfl has_nil)))))))))))⟩
                  · replace H := H.2 hg71
                    refine hl_yes (wanted_y rfl rfl rfl hg71) rfl (HStep.of_val (v := (.pointer x)) (hv_move rfl) ?_)
                    refine hl_yes (wanted_y rfl rfl rfl hg71) rfl (HStep.of_val (v := (ptr o 6)) (hv_field TyShP.fld33_3 (b := o) (o := 0) rfl) ?_)
                    obtain ⟨x_5, hc72, H⟩ := H
                    refine hl_yes (wanted_y rfl rfl rfl hg71) rfl (HStep.of_val (v := (.int .i64 x_5)) (hv_load TyShP.agg3 rfl hc72) ?_)
                    obtain ⟨r_1, hr73, H⟩ := H
                    refine hl_yes (wanted_y rfl rfl rfl hg71) rfl (HStep.of_val (v := (.int .i64 r_1)) (hv_call TyShP.cb23 (vs := [(.pointer x), (.int .i64 x_5)]) rfl hr73) ?_)
                    refine hl_yes (wanted_y rfl rfl rfl hg71) rfl (HStep.of_val (v := (.bool (r_1 != 0))) (hv_arith rfl rfl rfl) ?_)
                    refine hl_val rfl rfl (v := (.bool (r_1 != 0))) (hv_pick_f rfl hg71 rfl) ?_
                    refine hl_val rfl rfl (v := (.bool (r_1 != 0))) (hv_move rfl) ?_
                    rcases bool_or (r_1 != 0) with hg74 | hg74
                    · replace H := H.1 hg74
                      refine hl_no (wanted_n rfl rfl rfl hg74) rfl ?_
                      refine hl_no (wanted_n rfl rfl rfl hg74) rfl ?_
                      refine hl_no (wanted_n rfl rfl rfl hg74) rfl ?_
                      refine hl_no (wanted_n rfl rfl rfl hg74) rfl ?_
                      refine hl_no (wanted_n rfl rfl rfl hg74) rfl ?_
                      refine hl_no (wanted_n rfl rfl rfl hg74) rfl ?_
                      refine hl_val rfl rfl (v := (.bool true)) (hv_pick_t rfl hg74 rfl) ?_
                      refine hl_nil ?_
                      refine seqQ_n ?_
                      obtain rfl := H
                      exact ⟨rfl, (has_cons rfl (has_cons rfl (has_cons rfl (has_cons rfl (has_cons rfl (has_cons rfl (has_cons rfl (has_cons rfl (has_cons rfl (has_cons rfl (has_cons rfl has_nil)))))))))))⟩
                    · replace H := H.2 hg74
                      refine hl_yes (wanted_y rfl rfl rfl hg74) rfl (HStep.of_val (v := (.pointer x)) (hv_move rfl) ?_)
                      refine hl_yes (wanted_y rfl rfl rfl hg74) rfl (HStep.of_val (v := (ptr o 1)) (hv_field TyShP.fld33_1 (b := o) (o := 0) rfl) ?_)
                      refine hl_yes (wanted_y rfl rfl rfl hg74) rfl (HStep.of_val (v := (ptr o 1)) (hv_field TyShP.fld31_0 (b := o) (o := 1) rfl) ?_)
                      obtain ⟨x_6, hc75, H⟩ := H
                      refine hl_yes (wanted_y rfl rfl rfl hg74) rfl (HStep.of_val (v := (.int .u64 x_6)) (hv_load TyShP.agg29 rfl hc75) ?_)
                      obtain ⟨r_2, hr76, H⟩ := H
                      refine hl_yes (wanted_y rfl rfl rfl hg74) rfl (HStep.of_val (v := (.int .i64 r_2)) (hv_call TyShP.cb24 (vs := [(.pointer x), (.int .u64 x_6)]) rfl hr76) ?_)
                      refine hl_yes (wanted_y rfl rfl rfl hg74) rfl (HStep.of_val (v := (.bool (r_2 != 0))) (hv_arith rfl rfl rfl) ?_)
                      refine hl_val rfl rfl (v := (.bool (r_2 != 0))) (hv_pick_f rfl hg74 rfl) ?_
                      refine hl_nil ?_
                      refine seqQ_n ?_
                      obtain rfl := H
                      exact ⟨rfl, (has_cons rfl (has_cons rfl (has_cons rfl (has_cons rfl (has_cons rfl (has_cons rfl (has_cons rfl (has_cons rfl (has_cons rfl (has_cons rfl (has_cons rfl has_nil)))))))))))⟩
          · replace H := H.2 hg60
            refine hl_no (wanted_n rfl rfl rfl hg60) rfl ?_
            refine hl_no (wanted_n rfl rfl rfl hg60) rfl ?_
            refine hl_no (wanted_n rfl rfl rfl hg60) rfl ?_
            refine hl_val rfl rfl (v := (.bool false)) (hv_pick_f rfl hg60 rfl) ?_
            refine hl_val rfl rfl (v := (.bool false)) (hv_move rfl) ?_
            refine hl_yes (wanted_y rfl rfl (c := false) rfl rfl) rfl (HStep.of_val (v := (ptr t 0)) (hv_field TyShP.fld38_0 (b := t) (o := 0) rfl) ?_)
            obtain ⟨x_Hash, x_At_2, x_Version, x_Hits, hc77, hc78, hc79, hc80, H⟩ := H
            refine hl_yes (wanted_y rfl rfl (c := false) rfl rfl) rfl (HStep.of_val (v := (.agg #[(.int .u64 x_Hash), (.int .u64 x_At_2), (.int .u64 x_Version), (.int .u8 x_Hits)])) (hv_loads (vs := [(.int .u64 x_Hash), (.int .u64 x_At_2), (.int .u64 x_Version), (.int .u8 x_Hits)]) TyShP.agg31 TyShP.sz31 rfl (hcells_cons hc77 (hcells_cons hc78 (hcells_cons hc79 (hcells_cons hc80 hcells_nil))))) ?_)
            refine hl_yes (wanted_y rfl rfl (c := false) rfl rfl) rfl (HStep.of_val (v := (.agg #[(.int .u64 0), (.int .u64 0), (.int .u64 0), (.int .u8 0)])) (hv_build (vs := []) (cs := #[(.int .u64 0), (.int .u64 0), (.int .u64 0), (.int .u8 0)]) TyShP.z31 TyShP.pl31 rfl (by kernel_rfl)) ?_)
            refine hl_yes (wanted_y rfl rfl (c := false) rfl rfl) rfl (HStep.of_val (v := (.bool (!((x_Hash == 0 && (x_At_2 == 0 && (x_Version == 0 && (x_Hits == 0 && true)))))))) (hv_structEq (xs := [(.int .u64 x_Hash), (.int .u64 x_At_2), (.int .u64 x_Version), (.int .u8 x_Hits)]) (ys := [(.int .u64 0), (.int .u64 0), (.int .u64 0), (.int .u8 0)]) (b := (x_Hash == 0 && (x_At_2 == 0 && (x_Version == 0 && (x_Hits == 0 && true))))) TyShP.se31 rfl rfl (by kernel_rfl) rfl) ?_)
            refine hl_val rfl rfl (v := (.bool (!((x_Hash == 0 && (x_At_2 == 0 && (x_Version == 0 && (x_Hits == 0 && true)))))))) (hv_pick (t := false) rfl rfl) ?_
            refine hl_val rfl rfl (v := (.bool (!((x_Hash == 0 && (x_At_2 == 0 && (x_Version == 0 && (x_Hits == 0 && true)))))))) (hv_move rfl) ?_
            rcases bool_or (!((x_Hash == 0 && (x_At_2 == 0 && (x_Version == 0 && (x_Hits == 0 && true)))))) with hg81 | hg81
            · replace H := H.1 hg81
              refine hl_no (wanted_n rfl rfl rfl hg81) rfl ?_
              refine hl_no (wanted_n rfl rfl rfl hg81) rfl ?_
              refine hl_val rfl rfl (v := (.bool true)) (hv_pick_t rfl hg81 rfl) ?_
              refine hl_val rfl rfl (v := (.bool true)) (hv_move rfl) ?_
              refine hl_no (wanted_n rfl rfl (c := true) rfl rfl) rfl ?_
              refine hl_no (wanted_n rfl rfl (c := true) rfl rfl) rfl ?_
              refine hl_no (wanted_n rfl rfl (c := true) rfl rfl) rfl ?_
              refine hl_val rfl rfl (v := (.bool true)) (hv_pick (t := true) rfl rfl) ?_
              refine hl_val rfl rfl (v := (.bool true)) (hv_move rfl) ?_
              refine hl_no (wanted_n rfl rfl (c := true) rfl rfl) rfl ?_
              refine hl_no (wanted_n rfl rfl (c := true) rfl rfl) rfl ?_
              refine hl_no (wanted_n rfl rfl (c := true) rfl rfl) rfl ?_
              refine hl_no (wanted_n rfl rfl (c := true) rfl rfl) rfl ?_
              refine hl_no (wanted_n rfl rfl (c := true) rfl rfl) rfl ?_
              refine hl_val rfl rfl (v := (.bool true)) (hv_pick (t := true) rfl rfl) ?_
              refine hl_val rfl rfl (v := (.bool true)) (hv_move rfl) ?_
              refine hl_no (wanted_n rfl rfl (c := true) rfl rfl) rfl ?_
              refine hl_no (wanted_n rfl rfl (c := true) rfl rfl) rfl ?_
              refine hl_no (wanted_n rfl rfl (c := true) rfl rfl) rfl ?_
              refine hl_no (wanted_n rfl rfl (c := true) rfl rfl) rfl ?_
              refine hl_no (wanted_n rfl rfl (c := true) rfl rfl) rfl ?_
              refine hl_no (wanted_n rfl rfl (c := true) rfl rfl) rfl ?_
              refine hl_val rfl rfl (v := (.bool true)) (hv_pick (t := true) rfl rfl) ?_
              refine hl_nil ?_
              refine seqQ_n ?_
              obtain rfl := H
              exact ⟨rfl, (has_cons rfl (has_cons rfl (has_cons rfl (has_cons rfl (has_cons rfl (has_cons rfl (has_cons rfl (has_cons rfl (has_cons rfl (has_cons rfl (has_cons rfl has_nil)))))))))))⟩
            · replace H := H.2 hg81
              refine hl_yes (wanted_y rfl rfl rfl hg81) rfl (HStep.of_val (v := (ptr t 8)) (hv_field TyShP.fld38_2 (b := t) (o := 0) rfl) ?_)
              obtain ⟨x_2, hc82, H⟩ := H
              refine hl_yes (wanted_y rfl rfl rfl hg81) rfl (HStep.of_val (v := (.bool x_2)) (hv_load TyShP.agg4 rfl hc82) ?_)
              refine hl_val rfl rfl (v := (.bool x_2)) (hv_pick_f rfl hg81 rfl) ?_
              refine hl_val rfl rfl (v := (.bool x_2)) (hv_move rfl) ?_
              rcases bool_or (x_2) with hg83 | hg83
              · replace H := H.1 hg83
                refine hl_no (wanted_n rfl rfl rfl hg83) rfl ?_
                refine hl_no (wanted_n rfl rfl rfl hg83) rfl ?_
                refine hl_no (wanted_n rfl rfl rfl hg83) rfl ?_
                refine hl_val rfl rfl (v := (.bool true)) (hv_pick_t rfl hg83 rfl) ?_
                refine hl_val rfl rfl (v := (.bool true)) (hv_move rfl) ?_
                refine hl_no (wanted_n rfl rfl (c := true) rfl rfl) rfl ?_
                refine hl_no (wanted_n rfl rfl (c := true) rfl rfl) rfl ?_
                refine hl_no (wanted_n rfl rfl (c := true) rfl rfl) rfl ?_
                refine hl_no (wanted_n rfl rfl (c := true) rfl rfl) rfl ?_
                refine hl_no (wanted_n rfl rfl (c := true) rfl rfl) rfl ?_
                refine hl_val rfl rfl (v := (.bool true)) (hv_pick (t := true) rfl rfl) ?_
                refine hl_val rfl rfl (v := (.bool true)) (hv_move rfl) ?_
                refine hl_no (wanted_n rfl rfl (c := true) rfl rfl) rfl ?_
                refine hl_no (wanted_n rfl rfl (c := true) rfl rfl) rfl ?_
                refine hl_no (wanted_n rfl rfl (c := true) rfl rfl) rfl ?_
                refine hl_no (wanted_n rfl rfl (c := true) rfl rfl) rfl ?_
                refine hl_no (wanted_n rfl rfl (c := true) rfl rfl) rfl ?_
                refine hl_no (wanted_n rfl rfl (c := true) rfl rfl) rfl ?_
                refine hl_val rfl rfl (v := (.bool true)) (hv_pick (t := true) rfl rfl) ?_
                refine hl_nil ?_
                refine seqQ_n ?_
                obtain rfl := H
                exact ⟨rfl, (has_cons rfl (has_cons rfl (has_cons rfl (has_cons rfl (has_cons rfl (has_cons rfl (has_cons rfl (has_cons rfl (has_cons rfl (has_cons rfl (has_cons rfl has_nil)))))))))))⟩
              · replace H := H.2 hg83
                refine hl_yes (wanted_y rfl rfl rfl hg83) rfl (HStep.of_val (v := (ptr t 12)) (hv_field TyShP.fld38_6 (b := t) (o := 0) rfl) ?_)
                obtain ⟨x_3, hc84, H⟩ := H
                refine hl_yes (wanted_y rfl rfl rfl hg83) rfl (HStep.of_val (v := (.int .i64 x_3)) (hv_load TyShP.agg3 rfl hc84) ?_)
                refine hl_yes (wanted_y rfl rfl rfl hg83) rfl (HStep.of_val (v := (.bool (x_3 != 0))) (hv_arith rfl rfl rfl) ?_)
                refine hl_val rfl rfl (v := (.bool (x_3 != 0))) (hv_pick_f rfl hg83 rfl) ?_
                refine hl_val rfl rfl (v := (.bool (x_3 != 0))) (hv_move rfl) ?_
                rcases bool_or (x_3 != 0) with hg85 | hg85
                · replace H := H.1 hg85
                  refine hl_no (wanted_n rfl rfl rfl hg85) rfl ?_
                  refine hl_no (wanted_n rfl rfl rfl hg85) rfl ?_
                  refine hl_no (wanted_n rfl rfl rfl hg85) rfl ?_
                  refine hl_no (wanted_n rfl rfl rfl hg85) rfl ?_
                  refine hl_no (wanted_n rfl rfl rfl hg85) rfl ?_
                  refine hl_val rfl rfl (v := (.bool true)) (hv_pick_t rfl hg85 rfl) ?_
                  refine hl_val rfl rfl (v := (.bool true)) (hv_move rfl) ?_
                  refine hl_no (wanted_n rfl rfl (c := true) rfl rfl) rfl ?_
                  refine hl_no (wanted_n rfl rfl (c := true) rfl rfl) rfl ?_
                  refine hl_no (wanted_n rfl rfl (c := true) rfl rfl) rfl ?_
                  refine hl_no (wanted_n rfl rfl (c := true) rfl rfl) rfl ?_
                  refine hl_no (wanted_n rfl rfl (c := true) rfl rfl) rfl ?_
                  refine hl_no (wanted_n rfl rfl (c := true) rfl rfl) rfl ?_
                  refine hl_val rfl rfl (v := (.bool true)) (hv_pick (t := true) rfl rfl) ?_
                  refine hl_nil ?_
                  refine seqQ_n ?_
                  obtain rfl := H
                  exact ⟨rfl, (has_cons rfl (has_cons rfl (has_cons rfl (has_cons rfl (has_cons rfl (has_cons rfl (has_cons rfl (has_cons rfl (has_cons rfl (has_cons rfl (has_cons rfl has_nil)))))))))))⟩
                · replace H := H.2 hg85
                  refine hl_yes (wanted_y rfl rfl rfl hg85) rfl (HStep.of_val (v := (.pointer x)) (hv_move rfl) ?_)
                  refine hl_yes (wanted_y rfl rfl rfl hg85) rfl (HStep.of_val (v := (ptr o 6)) (hv_field TyShP.fld33_3 (b := o) (o := 0) rfl) ?_)
                  obtain ⟨x_4, hc86, H⟩ := H
                  refine hl_yes (wanted_y rfl rfl rfl hg85) rfl (HStep.of_val (v := (.int .i64 x_4)) (hv_load TyShP.agg3 rfl hc86) ?_)
                  obtain ⟨r_1, hr87, H⟩ := H
                  refine hl_yes (wanted_y rfl rfl rfl hg85) rfl (HStep.of_val (v := (.int .i64 r_1)) (hv_call TyShP.cb23 (vs := [(.pointer x), (.int .i64 x_4)]) rfl hr87) ?_)
                  refine hl_yes (wanted_y rfl rfl rfl hg85) rfl (HStep.of_val (v := (.bool (r_1 != 0))) (hv_arith rfl rfl rfl) ?_)
                  refine hl_val rfl rfl (v := (.bool (r_1 != 0))) (hv_pick_f rfl hg85 rfl) ?_
                  refine hl_val rfl rfl (v := (.bool (r_1 != 0))) (hv_move rfl) ?_
                  rcases bool_or (r_1 != 0) with hg88 | hg88
                  · replace H := H.1 hg88
                    refine hl_no (wanted_n rfl rfl rfl hg88) rfl ?_
                    refine hl_no (wanted_n rfl rfl rfl hg88) rfl ?_
                    refine hl_no (wanted_n rfl rfl rfl hg88) rfl ?_
                    refine hl_no (wanted_n rfl rfl rfl hg88) rfl ?_
                    refine hl_no (wanted_n rfl rfl rfl hg88) rfl ?_
                    refine hl_no (wanted_n rfl rfl rfl hg88) rfl ?_
                    refine hl_val rfl rfl (v := (.bool true)) (hv_pick_t rfl hg88 rfl) ?_
                    refine hl_nil ?_
                    refine seqQ_n ?_
                    obtain rfl := H
                    exact ⟨rfl, (has_cons rfl (has_cons rfl (has_cons rfl (has_cons rfl (has_cons rfl (has_cons rfl (has_cons rfl (has_cons rfl (has_cons rfl (has_cons rfl (has_cons rfl has_nil)))))))))))⟩
                  · replace H := H.2 hg88
                    refine hl_yes (wanted_y rfl rfl rfl hg88) rfl (HStep.of_val (v := (.pointer x)) (hv_move rfl) ?_)
                    refine hl_yes (wanted_y rfl rfl rfl hg88) rfl (HStep.of_val (v := (ptr o 1)) (hv_field TyShP.fld33_1 (b := o) (o := 0) rfl) ?_)
                    refine hl_yes (wanted_y rfl rfl rfl hg88) rfl (HStep.of_val (v := (ptr o 1)) (hv_field TyShP.fld31_0 (b := o) (o := 1) rfl) ?_)
                    obtain ⟨x_5, hc89, H⟩ := H
                    refine hl_yes (wanted_y rfl rfl rfl hg88) rfl (HStep.of_val (v := (.int .u64 x_5)) (hv_load TyShP.agg29 rfl hc89) ?_)
                    obtain ⟨r_2, hr90, H⟩ := H
                    refine hl_yes (wanted_y rfl rfl rfl hg88) rfl (HStep.of_val (v := (.int .i64 r_2)) (hv_call TyShP.cb24 (vs := [(.pointer x), (.int .u64 x_5)]) rfl hr90) ?_)
                    refine hl_yes (wanted_y rfl rfl rfl hg88) rfl (HStep.of_val (v := (.bool (r_2 != 0))) (hv_arith rfl rfl rfl) ?_)
                    refine hl_val rfl rfl (v := (.bool (r_2 != 0))) (hv_pick_f rfl hg88 rfl) ?_
                    refine hl_nil ?_
                    refine seqQ_n ?_
                    obtain rfl := H
                    exact ⟨rfl, (has_cons rfl (has_cons rfl (has_cons rfl (has_cons rfl (has_cons rfl (has_cons rfl (has_cons rfl (has_cons rfl (has_cons rfl (has_cons rfl (has_cons rfl has_nil)))))))))))⟩
        · have H := Hy58; clear Hx57 Hy58
          rintro ρ _ ⟨rfl, hH⟩
          refine hx_has _ hH ?_
          refine hx_cond (b := j) rfl (fun hb91 => ?_) (fun hb91 => ?_)
          · replace H := H.1 hb91
            refine hx_seq ?_
            refine hx_region ?_
            obtain ⟨hw93, H⟩ := H
            refine hl_step rfl rfl (hn_store (v := (.bool false)) rfl rfl TyShP.sz4 rfl hw93 ?_)
            intro h14 eh92
            replace H := H h14 eh92
            refine hl_nil ?_
            refine seqQ_n ?_
            refine hx_ret ?_
            refine seqQ_ret ?_
            refine blockQ_ret ?_
            refine seqQ_ret ?_
            refine seqQ_ret ?_
            refine blockQ_ret ?_
            refine seqQ_ret ?_
            refine blockQ_ret ?_
            refine seqQ_ret ?_
            refine seqQ_ret ?_
            refine blockQ_ret ?_
            refine seqQ_ret ?_
            obtain ⟨res, hc94, H⟩ := H
            exact endQM_ret _ (fun h' hs => ⟨res_one Try.results9 (rv_cell1 TyShP.agg4 rfl (shut_cell hs hc94)), H h' hs⟩)
          · replace H := H.2 hb91
            refine hx_skip ?_
            refine seqQ_n ?_
            refine hx_seq ?_
            refine hx_region ?_
            refine hl_val rfl rfl (v := (.pointer x)) (hv_move rfl) ?_
            refine hl_val rfl rfl (v := (ptr o 6)) (hv_field TyShP.fld33_3 (b := o) (o := 0) rfl) ?_
            obtain ⟨x_7, hc95, H⟩ := H
            refine hl_val rfl rfl (v := (.int .i64 x_7)) (hv_load TyShP.agg3 rfl hc95) ?_
            refine hl_step rfl rfl (hs_call TyShP.cb18 (vs := [(.pointer x), (.int .i64 x_7)]) rfl (HC.mono H ?_))
            rintro r_3 h16 ⟨_, rfl, H⟩
            refine hl_nil ?_
            refine seqQ_n ?_
            refine hx_block ?_
            refine hx_range rfl rfl rfl (fun h17 l le97 lx98 lz99 La100 => ?_)
            refine HCF.mono (H (fun st p h => LoopAt h l _ _ _ _ _ st p) l h17 _ (fun s p h h' k e => k.same e) le97 lx98 lz99 La100 ?_) ?_
            · intro it_Hash it_At it_Version it_Hits h18 K104 Lb101 H
              refine hcv_yield Lb101 rfl rfl ?_
              refine hx_skip ?_
              obtain ⟨Lf109, H⟩ := H
              refine ⟨rfl, Lf109, ?_⟩
              intro h21 lo107 Le108
              replace H := H h21 lo107 Le108
              refine hx_block ?_
              refine hx_seq ?_
              refine hx_region ?_
              obtain ⟨hw111, H⟩ := H
              refine hl_step rfl rfl (hn_store (v := (.bool false)) rfl rfl TyShP.sz4 rfl hw111 ?_)
              intro h22 eh110
              replace H := H h22 eh110
              refine hl_nil ?_
              refine seqQ_n ?_
              refine hx_ret ?_
              refine blockQ_ret ?_
              exact H
            · rintro _ h19 ⟨st, pend, Lc102, hst106, H⟩
              refine ⟨st, pend, Lc102, hst106, ?_⟩
              intro h20 lo105 Ld103
              replace H := H h20 lo105 Ld103
              rcases H with ⟨rfl, H⟩ | ⟨rfl, H⟩
              · refine jumpQ_n ?_
                refine blockQ_n ?_
                refine blockQ_n ?_
                refine seqQ_n ?_
                refine hx_region ?_
                refine hl_val rfl rfl (v := (.int .i64 (IntKind.i64.wrap (v_1 + 1)))) (hv_arith rfl rfl rfl) ?_
                refine hl_val rfl rfl (v := (.int .i64 (IntKind.i64.wrap (v_1 + 1)))) (hv_move rfl) ?_
                refine hl_nil ?_
                refine seqQ_n ?_
                exact ⟨IntKind.i64.wrap (v_1 + 1), ⟨⟨H.1, trivial⟩, H.2⟩, (has_cons rfl (has_cons rfl (has_cons rfl (has_cons rfl (has_cons rfl (has_cons rfl (has_cons rfl (has_cons rfl (has_cons rfl has_nil)))))))))⟩
              · refine jumpQ_ret ?_
                refine blockQ_ret ?_
                refine blockQ_ret ?_
                refine seqQ_ret ?_
                refine seqQ_ret ?_
                refine blockQ_ret ?_
                refine seqQ_ret ?_
                refine blockQ_ret ?_
                refine seqQ_ret ?_
                refine seqQ_ret ?_
                refine blockQ_ret ?_
                refine seqQ_ret ?_
                obtain ⟨res, hc112, H⟩ := H
                exact endQM_ret _ (fun h' hs => ⟨res_one Try.results9 (rv_cell1 TyShP.agg4 rfl (shut_cell hs hc112)), H h' hs⟩)
      · replace H := H.2 hb28
        refine hx_exit ?_
        refine seqQ_exit ?_
        refine seqQ_exit ?_
        refine blockQ_here ?_
        refine seqQ_n ?_
        obtain ⟨A115, Hx113, Hy114⟩ := H
        refine hx_cut (fun ρ h' => ∃ j : Bool, (A115 j h' ∧ True) ∧ Has ρ [(0, (.slice dov do_n do_c)), (2, (ptr nb 0)), (12, (.slice (some ⟨nb_2, 0, none⟩) 2 2)), (13, (.int .i64 2)), (14, (.int .i64 v)), (78, (.bool j))]) ?_ ?_
        · have H := Hx113; clear Hx113 Hy114
          refine hx_region ?_
          refine hl_val rfl rfl (v := (.pointer x)) (hv_move rfl) ?_
          obtain ⟨r_1, hr117, H⟩ := H
          refine hl_val rfl rfl (v := (.int .i64 r_1)) (hv_call TyShP.cb17 (vs := [(.pointer x)]) rfl hr117) ?_
          refine hl_val rfl rfl (v := (.bool (r_1 != 0))) (hv_arith rfl rfl rfl) ?_
          refine hl_val rfl rfl (v := (.bool (r_1 != 0))) (hv_move rfl) ?_
          rcases bool_or (r_1 != 0) with hg118 | hg118
          · replace H := H.1 hg118
            refine hl_no (wanted_n rfl rfl rfl hg118) rfl ?_
            refine hl_no (wanted_n rfl rfl rfl hg118) rfl ?_
            refine hl_no (wanted_n rfl rfl rfl hg118) rfl ?_
            refine hl_val rfl rfl (v := (.bool true)) (hv_pick_t rfl hg118 rfl) ?_
            refine hl_nil ?_
            refine seqQ_n ?_
            exact ⟨_, ⟨H, trivial⟩, (has_cons rfl (has_cons rfl (has_cons rfl (has_cons rfl (has_cons rfl (has_cons rfl has_nil))))))⟩
          · replace H := H.2 hg118
            refine hl_yes (wanted_y rfl rfl rfl hg118) rfl (HStep.of_val (v := (.pointer x)) (hv_move rfl) ?_)
            refine hl_yes (wanted_y rfl rfl rfl hg118) rfl (hs_call TyShP.cb20 (vs := [(.pointer x)]) rfl (HC.mono H ?_))
            rintro _ h26 ⟨r_2, rfl, H⟩
            refine hl_yes (wanted_y rfl rfl rfl hg118) rfl (HStep.of_val (v := (.bool r_2.isSome)) (hv_ptrNil TyShP.up25 rfl rfl) ?_)
            refine hl_val rfl rfl (v := (.bool r_2.isSome)) (hv_pick_f rfl hg118 rfl) ?_
            refine hl_nil ?_
            refine seqQ_n ?_
            exact ⟨_, ⟨H, trivial⟩, (has_cons rfl (has_cons rfl (has_cons rfl (has_cons rfl (has_cons rfl (has_cons rfl has_nil))))))⟩
        · rintro ρ h25 ⟨j, ⟨HA116, -⟩, hH⟩
          have H := Hy114 j h25 HA116; clear Hx113 Hy114
          refine hx_has _ hH ?_
          refine hx_cond (b := j) rfl (fun hb119 => ?_) (fun hb119 => ?_)
          · replace H := H.1 hb119
            refine hx_seq ?_
            refine hx_region ?_
            obtain ⟨hw121, H⟩ := H
            refine hl_step rfl rfl (hn_store (v := (.bool false)) rfl rfl TyShP.sz4 rfl hw121 ?_)
            intro h27 eh120
            replace H := H h27 eh120
            refine hl_nil ?_
            refine seqQ_n ?_
            refine hx_ret ?_
            refine blockQ_ret ?_
            refine seqQ_ret ?_
            refine seqQ_ret ?_
            refine blockQ_ret ?_
            refine seqQ_ret ?_
            obtain ⟨res, hc122, H⟩ := H
            exact endQM_ret _ (fun h' hs => ⟨res_one Try.results9 (rv_cell1 TyShP.agg4 rfl (shut_cell hs hc122)), H h' hs⟩)
          · replace H := H.2 hb119
            refine hx_skip ?_
            refine blockQ_n ?_
            refine seqQ_n ?_
            refine hx_region ?_
            refine hl_val rfl rfl (v := (.int .i64 (IntKind.i64.wrap (v + 1)))) (hv_arith rfl rfl rfl) ?_
            refine hl_val rfl rfl (v := (.int .i64 (IntKind.i64.wrap (v + 1)))) (hv_move rfl) ?_
            refine hl_nil ?_
            refine seqQ_n ?_
            exact ⟨IntKind.i64.wrap (v + 1), ⟨⟨H.1, trivial⟩, H.2⟩, (has_cons rfl (has_cons rfl (has_cons rfl (has_cons rfl (has_cons rfl has_nil)))))⟩
    · replace H := H.2 hb19
      refine hx_exit ?_
      refine seqQ_exit ?_
      refine seqQ_exit ?_
      refine blockQ_here ?_
      refine seqQ_n ?_
      refine hx_seq ?_
      refine hx_region ?_
      obtain ⟨hw124, H⟩ := H
      refine hl_step rfl rfl (hn_store (v := (.bool true)) rfl rfl TyShP.sz4 rfl hw124 ?_)
      intro h29 eh123
      replace H := H h29 eh123
      refine hl_nil ?_
      refine seqQ_n ?_
      refine hx_ret ?_
      obtain ⟨res, hc125, H⟩ := H
      exact endQM_ret _ (fun h' hs => ⟨res_one Try.results9 (rv_cell1 TyShP.agg4 rfl (shut_cell hs hc125)), H h' hs⟩)

end Go.Proofs.Ytkecmljalcfhoaa
