/-
Shallow forms, written by gen.py (a program of this session) out of the print of the program.
-/
import Derived.Test.YtfdgjgjcppfmiaaMor
import Derived.Test.YtfdgjgjcppfmiaaProg
namespace Go.Proofs.Ytfdgjgjcppfmiaa
open Go
set_option maxRecDepth 100000
set_option maxHeartbeats 4000000

theorem Ty.agg24 : aggB Try.prog 24 = some false := by kernel_rfl
theorem Ty.agg28 : aggB Try.prog 28 = some false := by kernel_rfl
theorem Ty.agg3 : aggB Try.prog 3 = some false := by kernel_rfl
theorem Ty.agg31 : aggB Try.prog 31 = some true := by kernel_rfl
theorem Ty.cb32 : CallB Try.prog 32 := fun _ _ => Try.call32 _ _
theorem Ty.cb35 : CallB Try.prog 35 := fun _ _ => Try.call35 _ _
theorem Ty.el28 : elB Try.prog 28 = some 4 := by kernel_rfl
theorem Ty.el50 : elB Try.prog 50 = some 1 := by kernel_rfl
theorem Ty.fld31_0 : fldB Try.prog 31 0 = some 0 := by kernel_rfl
theorem Ty.fld67_0 : fldB Try.prog 67 0 = some 0 := by kernel_rfl
theorem Ty.sz3 : szB Try.prog 3 = some 1 := by kernel_rfl
theorem Ty.sz31 : szB Try.prog 31 = some 4 := by kernel_rfl
theorem Ty.u28 : Try.prog.underlying 28 = some (.slice 31) := by kernel_rfl
theorem Ty.u50 : Try.prog.underlying 50 = some (.slice 3) := by kernel_rfl
theorem Ty.z3 : zeroB Try.prog 3 (.int .i64 0) := by unfold zeroB; kernel_rfl
theorem Ty.z31 : zeroB Try.prog 31 (.agg #[(.int .i64 0), (.int .u64 0), (.int .i64 0), (.int .i64 0)]) := by unfold zeroB; kernel_rfl

/-- (*cellar/region.Manager).Sealed$1 -/
theorem f34_sho (yield : Value) (cap0_b : Nat) (cap0_o : Nat) (h : Heap) (R : Value → Heap → Prop)
    (H : (∃ x : Option Addr, hcell h cap0_b cap0_o = some (.pointer x) ∧ (∃ r : Bool, HC Try.prog 32 #[(.pointer x)] h (fun vv h' => vv = (.bool r) ∧ h' = h) ∧ (((!r) = true → R (.tuple #[]) h) ∧ ((!r) = false → (∃ x_1 : Option Addr, hcell h cap0_b cap0_o = some (.pointer x_1) ∧ (∃ x_1_b x_1_o : Nat, x_1 = some ⟨x_1_b, x_1_o, none⟩ ∧ (∃ x_2 : Option Addr, ∃ x_n x_c : Nat, hcell h x_1_b x_1_o = some (.slice x_2 x_n x_c) ∧ (∃ (I2 : Option Addr → Nat → Nat → Int → Heap → Prop) (mu3 : Option Addr → Nat → Nat → Int → Heap → Nat), I2 none 0 0 0 h ∧ (∀ (all : Option Addr) (all_n : Nat) (all_c : Nat) (v : Int) (h1 : Heap), I2 all all_n all_c v h1 → (((decide (v < (x_n : Int))) = true → (∃ A7 : Option Addr → Nat → Nat → Heap → Prop, (∃ x_2_b x_2_o : Nat, x_2 = some ⟨x_2_b, x_2_o, none⟩ ∧ (0 : Int) ≤ v ∧ v < (x_n : Int) ∧ (∃ x_State x_Sequence x_Pins x_Erases : Int, hcell h1 x_2_b (x_2_o + (Int.toNat v) * 4) = some (.int .i64 x_State) ∧ hcell h1 x_2_b ((x_2_o + (Int.toNat v) * 4) + 1) = some (.int .u64 x_Sequence) ∧ hcell h1 x_2_b ((x_2_o + (Int.toNat v) * 4) + 2) = some (.int .i64 x_Pins) ∧ hcell h1 x_2_b ((x_2_o + (Int.toNat v) * 4) + 3) = some (.int .i64 x_Erases) ∧ (∀ r_1 h3, r_1 = Array.size h1 → h3 = Array.push h1 (.cells #[(.int .i64 0), (.int .u64 0), (.int .i64 0), (.int .i64 0)] 31) → (HWs h3 r_1 0 4 ∧ ∀ h4, h4 = hsets h3 r_1 0 [(.int .i64 x_State), (.int .u64 x_Sequence), (.int .i64 x_Pins), (.int .i64 x_Erases)] → (∃ x_3 : Int, hcell h4 r_1 0 = some (.int .i64 x_3) ∧ (((x_3 == 3) = true → (∀ nb h5, nb = Array.size h4 → h5 = Array.push h4 (.cells #[(.int .i64 v)] 3) → HAppend Try.prog 50 50 (.slice all all_n all_c) (.slice (some ⟨nb, 0, none⟩) 1 1) h5 (fun vv h6 => ∃ ap : Option Addr, ∃ ap_n ap_c : Nat, vv = (.slice ap ap_n ap_c) ∧ (A7 ap ap_n ap_c h6)))) ∧ ((x_3 == 3) = false → (A7 all all_n all_c h4)))))))) ∧ (∀ (all_1 : Option Addr) (all_n_1 : Nat) (all_c_1 : Nat) (h2 : Heap), A7 all_1 all_n_1 all_c_1 h2 → (I2 all_1 all_n_1 all_c_1 (IntKind.i64.wrap (v + 1)) h2 ∧ mu3 all_1 all_n_1 all_c_1 (IntKind.i64.wrap (v + 1)) h2 < mu3 all all_n all_c v h1)))) ∧ ((decide (v < (x_n : Int))) = false → HC Try.prog 35 #[(.slice all all_n all_c), (.func (.func 36) #[] #[(ptr cap0_b cap0_o)])] h1 (fun vv h7 => vv = (.tuple #[]) ∧ (∃ (I25 : Int → Heap → Prop) (mu26 : Int → Heap → Nat), I25 0 h7 ∧ (∀ (v_1 : Int) (h8 : Heap), I25 v_1 h8 → (((decide (v_1 < (all_n : Int))) = true → (∃ all_b all_o : Nat, all = some ⟨all_b, all_o, none⟩ ∧ (0 : Int) ≤ v_1 ∧ v_1 < (all_n : Int) ∧ (∃ x_3 : Int, hcell h8 all_b (all_o + (Int.toNat v_1) * 1) = some (.int .i64 x_3) ∧ HCV Try.prog yield [(.int .i64 x_3)] h8 (fun vv h9 => ∃ r_1 : Bool, vv = (.bool r_1) ∧ (((!r_1) = true → R (.tuple #[]) h9) ∧ ((!r_1) = false → (I25 (IntKind.i64.wrap (v_1 + 1)) h9 ∧ mu26 (IntKind.i64.wrap (v_1 + 1)) h9 < mu26 v_1 h8))))))) ∧ ((decide (v_1 < (all_n : Int))) = false → R (.tuple #[]) h8))))))))))))))))) :
    HC Try.prog 34 #[yield, (ptr cap0_b cap0_o)] h R := by
  refine hc_of (args := [yield, (ptr cap0_b cap0_o)]) Try.func34 rfl Try.ntmps34 (Nat.le_of_ble_eq_true rfl) ?_
  refine hx_seq ?_
  refine hx_seq ?_
  refine hx_region ?_
  obtain ⟨x, hc39, H⟩ := H
  refine hl_val rfl rfl (v := (.pointer x)) (hv_load Ty.agg24 rfl hc39) ?_
  obtain ⟨r, hr1, H⟩ := H
  refine hl_val rfl rfl (v := (.bool r)) (hv_call Ty.cb32 (vs := [(.pointer x)]) rfl hr1) ?_
  refine hl_val rfl rfl (v := (.bool (!r))) (hv_not (b := r) rfl) ?_
  refine hl_nil ?_
  refine seqQ_n ?_
  refine hx_cond (b := !r) rfl (fun hb38 => ?_) (fun hb38 => ?_)
  · replace H := H.1 hb38
    refine hx_ret ?_
    refine seqQ_ret ?_
    exact endQ_ret _ (res_none Try.results34 ) H
  · replace H := H.2 hb38
    refine hx_skip ?_
    refine seqQ_n ?_
    refine hx_seq ?_
    refine hx_region ?_
    refine hl_val rfl rfl (v := (.slice none 0 0)) (hv_assign rfl) ?_
    refine hl_nil ?_
    refine seqQ_n ?_
    refine hx_seq ?_
    refine hx_seq ?_
    refine hx_region ?_
    obtain ⟨x_1, hc37, H⟩ := H
    refine hl_val rfl rfl (v := (.pointer x_1)) (hv_load Ty.agg24 rfl hc37) ?_
    obtain ⟨x_1_b, x_1_o, hqe, Hq⟩ := H
    subst hqe
    have H := Hq; clear Hq
    refine hl_val rfl rfl (v := (ptr x_1_b x_1_o)) (hv_nil rfl) ?_
    refine hl_val rfl rfl (v := (ptr x_1_b x_1_o)) (hv_field Ty.fld67_0 (b := x_1_b) (o := x_1_o) rfl) ?_
    obtain ⟨x_2, x_n, x_c, hc36, H⟩ := H
    refine hl_val rfl rfl (v := (.slice x_2 x_n x_c)) (hv_load Ty.agg28 rfl hc36) ?_
    refine hl_val rfl rfl (v := (.int .i64 (x_n : Int))) (hv_len (n := x_n) Ty.u28 rfl) ?_
    refine hl_val rfl rfl (v := (.int .i64 0)) (hv_move rfl) ?_
    refine hl_nil ?_
    refine seqQ_n ?_
    refine hx_block ?_
    obtain ⟨I2, mu3, Ha4, Hr5⟩ := H
    refine hx_loopT (σ := Option Addr × Nat × Nat × Int) (fun s => [(0, yield), (1, (ptr cap0_b cap0_o)), (3, (.slice s.1 s.2.1 s.2.2.1)), (14, (.slice x_2 x_n x_c)), (15, (.int .i64 (x_n : Int))), (16, (.int .i64 s.2.2.2))]) (fun s h' => I2 s.1 s.2.1 s.2.2.1 s.2.2.2 h') (fun s h' => mu3 s.1 s.2.1 s.2.2.1 s.2.2.2 h') (none, 0, 0, 0) Ha4 (has_cons rfl (has_cons rfl (has_cons rfl (has_cons rfl (has_cons rfl (has_cons rfl has_nil)))))) ?_
    rintro ⟨all, all_n, all_c, v⟩ ρ h1 Hi6
    have H := Hr5 all all_n all_c v h1 Hi6
    refine hx_seq ?_
    refine hx_region ?_
    refine hl_val rfl rfl (v := (.bool (decide (v < (x_n : Int))))) (hv_arith rfl rfl rfl) ?_
    refine hl_nil ?_
    refine seqQ_n ?_
    refine hx_seq ?_
    refine hx_cond (b := decide (v < (x_n : Int))) rfl (fun hb35 => ?_) (fun hb35 => ?_)
    · replace H := H.1 hb35
      refine hx_skip ?_
      refine seqQ_n ?_
      obtain ⟨A7, Hx22, Hy23⟩ := H
      refine hx_cut (fun ρ h' => ∃ all_1 : Option Addr, ∃ all_n_1 all_c_1 : Nat, A7 all_1 all_n_1 all_c_1 h' ∧ Has ρ [(0, yield), (1, (ptr cap0_b cap0_o)), (3, (.slice all_1 all_n_1 all_c_1)), (14, (.slice x_2 x_n x_c)), (15, (.int .i64 (x_n : Int))), (16, (.int .i64 v))]) ?_ ?_
      · have H := Hx22; clear Hx22 Hy23
        refine hx_block ?_
        refine hx_seq ?_
        refine hx_region ?_
        refine hl_val rfl rfl (v := (.int .i64 v)) (hv_move rfl) ?_
        obtain ⟨x_2_b, x_2_o, hqe, hi8, hi9, Hq⟩ := H
        subst hqe
        have H := Hq; clear Hq
        refine hl_val rfl rfl (v := (ptr x_2_b (x_2_o + (Int.toNat v) * 4))) (hv_index Ty.el28 rfl rfl hi8 hi9) ?_
        obtain ⟨x_State, x_Sequence, x_Pins, x_Erases, hc18, hc19, hc20, hc21, H⟩ := H
        refine hl_val rfl rfl (v := (.agg #[(.int .i64 x_State), (.int .u64 x_Sequence), (.int .i64 x_Pins), (.int .i64 x_Erases)])) (hv_loads (vs := [(.int .i64 x_State), (.int .u64 x_Sequence), (.int .i64 x_Pins), (.int .i64 x_Erases)]) Ty.agg31 Ty.sz31 rfl (hcells_cons hc18 (hcells_cons hc19 (hcells_cons hc20 (hcells_cons hc21 hcells_nil))))) ?_
        refine hl_step rfl rfl (hn_alloc Ty.z31 ?_)
        intro r_1 h3 eb10 eh11
        replace H := H r_1 h3 eb10 eh11
        refine hl_val rfl rfl (v := (.int .i64 v)) (hv_assign rfl) ?_
        obtain ⟨hw12, H⟩ := H
        refine hl_step rfl rfl (hn_stores (vs := [(.int .i64 x_State), (.int .u64 x_Sequence), (.int .i64 x_Pins), (.int .i64 x_Erases)]) rfl rfl Ty.sz31 rfl hw12 ?_)
        intro h4 eh13
        replace H := H h4 eh13
        refine hl_nil ?_
        refine seqQ_n ?_
        refine hx_seq ?_
        refine hx_region ?_
        refine hl_val rfl rfl (v := (ptr r_1 0)) (hv_field Ty.fld31_0 (b := r_1) (o := 0) rfl) ?_
        obtain ⟨x_3, hc17, H⟩ := H
        refine hl_val rfl rfl (v := (.int .i64 x_3)) (hv_load Ty.agg3 rfl hc17) ?_
        refine hl_val rfl rfl (v := (.bool (x_3 == 3))) (hv_arith rfl rfl rfl) ?_
        refine hl_nil ?_
        refine seqQ_n ?_
        refine hx_cond (b := x_3 == 3) rfl (fun hb16 => ?_) (fun hb16 => ?_)
        · replace H := H.1 hb16
          refine hx_region ?_
          refine hl_val rfl rfl (v := (.slice all all_n all_c)) (hv_move rfl) ?_
          refine hl_val rfl rfl (v := (.int .i64 v)) (hv_move rfl) ?_
          refine hl_step rfl rfl (hn_buildSlice (n := 1) (vs := [(0, (.int .i64 v))]) (cs := #[(.int .i64 v)]) Ty.u50 Ty.sz3 Ty.z3 rfl rfl (by kernel_rfl) ?_)
          intro nb h5 eb14 eh15
          replace H := H nb h5 eb14 eh15
          refine hl_step rfl rfl (hs_append rfl rfl (HAppend.mono H ?_))
          rintro _ h6 ⟨ap, ap_n, ap_c, rfl, H⟩
          refine hl_val rfl rfl (v := (.slice ap ap_n ap_c)) (hv_assign rfl) ?_
          refine hl_nil ?_
          refine blockQ_n ?_
          refine seqQ_n ?_
          exact ⟨_, _, _, H, (has_cons rfl (has_cons rfl (has_cons rfl (has_cons rfl (has_cons rfl (has_cons rfl has_nil))))))⟩
        · replace H := H.2 hb16
          refine hx_skip ?_
          refine blockQ_n ?_
          refine seqQ_n ?_
          exact ⟨_, _, _, H, (has_cons rfl (has_cons rfl (has_cons rfl (has_cons rfl (has_cons rfl (has_cons rfl has_nil))))))⟩
      · rintro ρ h2 ⟨all_1, all_n_1, all_c_1, HA24, hH⟩
        have H := Hy23 all_1 all_n_1 all_c_1 h2 HA24; clear Hx22 Hy23
        refine hx_has _ hH ?_
        refine hx_region ?_
        refine hl_val rfl rfl (v := (.int .i64 (IntKind.i64.wrap (v + 1)))) (hv_arith rfl rfl rfl) ?_
        refine hl_val rfl rfl (v := (.int .i64 (IntKind.i64.wrap (v + 1)))) (hv_move rfl) ?_
        refine hl_nil ?_
        refine seqQ_n ?_
        exact ⟨(all_1, all_n_1, all_c_1, IntKind.i64.wrap (v + 1)), H, (has_cons rfl (has_cons rfl (has_cons rfl (has_cons rfl (has_cons rfl (has_cons rfl has_nil))))))⟩
    · replace H := H.2 hb35
      refine hx_exit ?_
      refine seqQ_exit ?_
      refine seqQ_exit ?_
      refine blockQ_here ?_
      refine seqQ_n ?_
      refine hx_seq ?_
      refine hx_region ?_
      refine hl_val rfl rfl (v := (.slice all all_n all_c)) (hv_move rfl) ?_
      refine hl_val rfl rfl (v := (.func (.func 36) #[] #[(ptr cap0_b cap0_o)])) (hv_makeFunc (fv := []) (cv := [(ptr cap0_b cap0_o)]) rfl rfl) ?_
      refine hl_step rfl rfl (hs_call Ty.cb35 (vs := [(.slice all all_n all_c), (.func (.func 36) #[] #[(ptr cap0_b cap0_o)])]) rfl (HC.mono H ?_))
      rintro _ h7 ⟨rfl, H⟩
      refine hl_nil ?_
      refine seqQ_n ?_
      refine hx_seq ?_
      refine hx_region ?_
      refine hl_val rfl rfl (v := (.slice all all_n all_c)) (hv_move rfl) ?_
      refine hl_val rfl rfl (v := (.int .i64 (all_n : Int))) (hv_len (n := all_n) Ty.u50 rfl) ?_
      refine hl_val rfl rfl (v := (.int .i64 0)) (hv_move rfl) ?_
      refine hl_nil ?_
      refine seqQ_n ?_
      refine hx_block ?_
      obtain ⟨I25, mu26, Ha27, Hr28⟩ := H
      refine hx_loopT (σ := Int) (fun s => [(0, yield), (32, (.slice all all_n all_c)), (33, (.int .i64 (all_n : Int))), (34, (.int .i64 s))]) (fun s h' => I25 s h') (fun s h' => mu26 s h') 0 Ha27 (has_cons rfl (has_cons rfl (has_cons rfl (has_cons rfl has_nil)))) ?_
      rintro v_1 ρ h8 Hi29
      have H := Hr28 v_1 h8 Hi29
      refine hx_seq ?_
      refine hx_region ?_
      refine hl_val rfl rfl (v := (.bool (decide (v_1 < (all_n : Int))))) (hv_arith rfl rfl rfl) ?_
      refine hl_nil ?_
      refine seqQ_n ?_
      refine hx_seq ?_
      refine hx_cond (b := decide (v_1 < (all_n : Int))) rfl (fun hb34 => ?_) (fun hb34 => ?_)
      · replace H := H.1 hb34
        refine hx_skip ?_
        refine seqQ_n ?_
        refine hx_seq ?_
        refine hx_block ?_
        refine hx_seq ?_
        refine hx_region ?_
        obtain ⟨all_b, all_o, hqe, hi30, hi31, Hq⟩ := H
        subst hqe
        have H := Hq; clear Hq
        refine hl_val rfl rfl (v := (ptr all_b (all_o + (Int.toNat v_1) * 1))) (hv_index Ty.el50 rfl rfl hi30 hi31) ?_
        obtain ⟨x_3, hc33, H⟩ := H
        refine hl_val rfl rfl (v := (.int .i64 x_3)) (hv_load Ty.agg3 rfl hc33) ?_
        refine hl_val rfl rfl (v := (.int .i64 x_3)) (hv_assign rfl) ?_
        refine hl_nil ?_
        refine seqQ_n ?_
        refine hx_seq ?_
        refine hx_region ?_
        refine hl_val rfl rfl (v := yield) (hv_move rfl) ?_
        refine hl_val rfl rfl (v := (.int .i64 x_3)) (hv_move rfl) ?_
        refine hl_step rfl rfl (hs_callF (vs := [(.int .i64 x_3)]) rfl rfl (HCV.mono H ?_))
        rintro _ h9 ⟨r_1, rfl, H⟩
        refine hl_val rfl rfl (v := (.bool (!r_1))) (hv_not (b := r_1) rfl) ?_
        refine hl_nil ?_
        refine seqQ_n ?_
        refine hx_cond (b := !r_1) rfl (fun hb32 => ?_) (fun hb32 => ?_)
        · replace H := H.1 hb32
          refine hx_ret ?_
          refine blockQ_ret ?_
          refine seqQ_ret ?_
          refine seqQ_ret ?_
          refine blockQ_ret ?_
          exact endQ_ret _ (res_none Try.results34 ) H
        · replace H := H.2 hb32
          refine hx_skip ?_
          refine blockQ_n ?_
          refine seqQ_n ?_
          refine hx_region ?_
          refine hl_val rfl rfl (v := (.int .i64 (IntKind.i64.wrap (v_1 + 1)))) (hv_arith rfl rfl rfl) ?_
          refine hl_val rfl rfl (v := (.int .i64 (IntKind.i64.wrap (v_1 + 1)))) (hv_move rfl) ?_
          refine hl_nil ?_
          refine seqQ_n ?_
          exact ⟨IntKind.i64.wrap (v_1 + 1), H, (has_cons rfl (has_cons rfl (has_cons rfl (has_cons rfl has_nil))))⟩
      · replace H := H.2 hb34
        refine hx_exit ?_
        refine seqQ_exit ?_
        refine seqQ_exit ?_
        refine blockQ_here ?_
        exact endQ_n _ (res_none Try.results34 ) H

end Go.Proofs.Ytfdgjgjcppfmiaa
