/-
Shallow forms, written by gen.py (a program of this session) out of the print of the program.
-/
import Derived.Test.YtfdgjgjcppfmiaaMor
import Derived.Test.YtfdgjgjcppfmiaaProg
namespace Go.Proofs.Ytfdgjgjcppfmiaa
open Go
set_option maxRecDepth 100000
set_option maxHeartbeats 4000000

theorem Ty.agg29 : aggB Try.prog 29 = some false := by kernel_rfl
theorem Ty.agg3 : aggB Try.prog 3 = some false := by kernel_rfl
theorem Ty.agg31 : aggB Try.prog 31 = some true := by kernel_rfl
theorem Ty.agg36 : aggB Try.prog 36 = some true := by kernel_rfl
theorem Ty.cb10 : CallB Try.prog 10 := fun _ _ => Try.call10 _ _
theorem Ty.cb11 : CallB Try.prog 11 := fun _ _ => Try.call11 _ _
theorem Ty.cb12 : CallB Try.prog 12 := fun _ _ => Try.call12 _ _
theorem Ty.cb13 : CallB Try.prog 13 := fun _ _ => Try.call13 _ _
theorem Ty.cb21 : CallB Try.prog 21 := fun _ _ => Try.call21 _ _
theorem Ty.cb22 : CallB Try.prog 22 := fun _ _ => Try.call22 _ _
theorem Ty.cb23 : CallB Try.prog 23 := fun _ _ => Try.call23 _ _
theorem Ty.cb24 : CallB Try.prog 24 := fun _ _ => Try.call24 _ _
theorem Ty.cb25 : CallB Try.prog 25 := fun _ _ => Try.call25 _ _
theorem Ty.cb26 : CallB Try.prog 26 := fun _ _ => Try.call26 _ _
theorem Ty.cb9 : CallB Try.prog 9 := fun _ _ => Try.call9 _ _
theorem Ty.el22 : elB Try.prog 22 = some 3 := by kernel_rfl
theorem Ty.el28 : elB Try.prog 28 = some 4 := by kernel_rfl
theorem Ty.fld31_0 : fldB Try.prog 31 0 = some 0 := by kernel_rfl
theorem Ty.fld31_1 : fldB Try.prog 31 1 = some 1 := by kernel_rfl
theorem Ty.fld31_2 : fldB Try.prog 31 2 = some 2 := by kernel_rfl
theorem Ty.fld31_3 : fldB Try.prog 31 3 = some 3 := by kernel_rfl
theorem Ty.fld36_0 : fldB Try.prog 36 0 = some 0 := by kernel_rfl
theorem Ty.fld36_1 : fldB Try.prog 36 1 = some 1 := by kernel_rfl
theorem Ty.fld36_2 : fldB Try.prog 36 2 = some 2 := by kernel_rfl
theorem Ty.sz31 : szB Try.prog 31 = some 4 := by kernel_rfl
theorem Ty.sz36 : szB Try.prog 36 = some 3 := by kernel_rfl
theorem Ty.u22 : Try.prog.underlying 22 = some (.slice 36) := by kernel_rfl
theorem Ty.u28 : Try.prog.underlying 28 = some (.slice 31) := by kernel_rfl
theorem Ty.up24 : Try.prog.underlying 24 = some (.pointer 67) := by kernel_rfl
theorem Ty.z31 : zeroB Try.prog 31 (.agg #[(.int .i64 0), (.int .u64 0), (.int .i64 0), (.int .i64 0)]) := by unfold zeroB; kernel_rfl

/-- cellar/cellarlaw09.does -/
theorem f12_sh (m_b : Nat) (m_o : Nat) (o_Kind : Int) (o_N : Int) (o_Task : Int) (h : Heap) (R : Value → Heap → Prop)
    (H : (∀ o h1, o = Array.size h → h1 = Array.push h (.cells #[(.int .i64 o_Kind), (.int .i64 o_N), (.int .i64 o_Task)] 36) → (∃ A3 : Int → Heap → Prop, (∃ x : Int, hcell h1 o 0 = some (.int .i64 x) ∧ (((x == 1) = true → HC Try.prog 13 #[(ptr m_b m_o)] h1 (fun vv h3 => ∃ r0 r1 r2 : Int, vv = (.tuple #[(.int .i64 r0), (.int .u64 r1), (.int .i64 r2)]) ∧ (A3 r2 h3))) ∧ ((x == 1) = false → (((x == 2) = true → HC Try.prog 23 #[(ptr m_b m_o)] h1 (fun vv h4 => ∃ r : Int, vv = (.int .i64 r) ∧ (A3 r h4))) ∧ ((x == 2) = false → (((x == 3) = true → (∃ x_1 : Int, hcell h1 o 1 = some (.int .i64 x_1) ∧ HC Try.prog 24 #[(ptr m_b m_o), (.int .i64 x_1)] h1 (fun vv h5 => ∃ r : Int, vv = (.int .i64 r) ∧ (A3 r h5)))) ∧ ((x == 3) = false → (((x == 4) = true → (∃ x_1 : Int, hcell h1 o 2 = some (.int .i64 x_1) ∧ (∃ x_2 : Int, hcell h1 o 1 = some (.int .i64 x_2) ∧ HC Try.prog 21 #[(ptr m_b m_o), (.int .i64 x_1), (.int .i64 x_2)] h1 (fun vv h6 => ∃ r0 : Bool, ∃ r1 : Int, vv = (.tuple #[(.bool r0), (.int .i64 r1)]) ∧ (A3 r1 h6))))) ∧ ((x == 4) = false → (((x == 5) = true → (∃ x_1 : Int, hcell h1 o 1 = some (.int .i64 x_1) ∧ HC Try.prog 25 #[(ptr m_b m_o), (.int .i64 x_1)] h1 (fun vv h7 => ∃ r : Int, vv = (.int .i64 r) ∧ (A3 r h7)))) ∧ ((x == 5) = false → (((x == 6) = true → (∃ x_1 : Int, hcell h1 o 1 = some (.int .i64 x_1) ∧ HC Try.prog 26 #[(ptr m_b m_o), (.int .i64 x_1)] h1 (fun vv h8 => ∃ r : Bool, vv = (.bool r) ∧ (((!r) = true → (A3 91 h8)) ∧ ((!r) = false → (A3 0 h8)))))) ∧ ((x == 6) = false → (((x == 7) = true → (∃ x_1 : Int, hcell h1 o 1 = some (.int .i64 x_1) ∧ HC Try.prog 22 #[(ptr m_b m_o), (.int .i64 x_1)] h1 (fun vv h9 => ∃ r0 : Option Addr, ∃ r0_n r0_c : Nat, ∃ r1 : Int, vv = (.tuple #[(.slice r0 r0_n r0_c), (.int .i64 r1)]) ∧ (A3 r1 h9)))) ∧ ((x == 7) = false → (A3 0 h1)))))))))))))))) ∧ (∀ (e : Int) (h2 : Heap), A3 e h2 → R (.int .i64 e) h2)))) :
    HC Try.prog 12 #[(ptr m_b m_o), (.agg #[(.int .i64 o_Kind), (.int .i64 o_N), (.int .i64 o_Task)])] h R := by
  refine hc_of (args := [(ptr m_b m_o), (.agg #[(.int .i64 o_Kind), (.int .i64 o_N), (.int .i64 o_Task)])]) Try.func12 rfl Try.ntmps12 (Nat.le_of_ble_eq_true rfl) ?_
  refine hx_seq ?_
  refine hx_region ?_
  refine hl_step rfl rfl (hn_box (v := (.agg #[(.int .i64 o_Kind), (.int .i64 o_N), (.int .i64 o_Task)])) rfl ?_)
  intro o h1 eb1 eh2
  replace H := H o h1 eb1 eh2
  refine hl_val rfl rfl (v := (.int .i64 0)) (hv_assign rfl) ?_
  refine hl_nil ?_
  refine seqQ_n ?_
  refine hx_seq ?_
  refine hx_region ?_
  refine hl_val rfl rfl (v := (.int .i64 0)) (hv_assign rfl) ?_
  refine hl_nil ?_
  refine seqQ_n ?_
  obtain ⟨A3, Hx19, Hy20⟩ := H
  refine hx_cut (fun ρ h' => ∃ e : Int, A3 e h' ∧ Has ρ [(5, (.int .i64 e))]) ?_ ?_
  · have H := Hx19; clear Hx19 Hy20
    refine hx_seq ?_
    refine hx_region ?_
    refine hl_val rfl rfl (v := (ptr o 0)) (hv_field Ty.fld36_0 (b := o) (o := 0) rfl) ?_
    obtain ⟨x, hc18, H⟩ := H
    refine hl_val rfl rfl (v := (.int .i64 x)) (hv_load Ty.agg3 rfl hc18) ?_
    refine hl_nil ?_
    refine seqQ_n ?_
    refine hx_block ?_
    refine hx_seq ?_
    refine hx_region ?_
    refine hl_val rfl rfl (v := (.bool (x == 1))) (hv_arith rfl rfl rfl) ?_
    refine hl_val rfl rfl (v := (.bool (x == 1))) (hv_assign rfl) ?_
    refine hl_nil ?_
    refine seqQ_n ?_
    refine hx_cond (b := x == 1) rfl (fun hb17 => ?_) (fun hb17 => ?_)
    · replace H := H.1 hb17
      refine hx_region ?_
      refine hl_val rfl rfl (v := (ptr m_b m_o)) (hv_move rfl) ?_
      refine hl_step rfl rfl (hs_call Ty.cb13 (vs := [(ptr m_b m_o)]) rfl (HC.mono H ?_))
      rintro _ h3 ⟨r0, r1, r2, rfl, H⟩
      refine hl_val rfl rfl (v := (.tuple #[(.int .i64 r0), (.int .u64 r1), (.int .i64 r2)])) (hv_move rfl) ?_
      refine hl_val rfl rfl (v := (.int .i64 r0)) (hv_extract (vs := #[(.int .i64 r0), (.int .u64 r1), (.int .i64 r2)]) rfl rfl) ?_
      refine hl_val rfl rfl (v := (.int .u64 r1)) (hv_extract (vs := #[(.int .i64 r0), (.int .u64 r1), (.int .i64 r2)]) rfl rfl) ?_
      refine hl_val rfl rfl (v := (.int .i64 r2)) (hv_extract (vs := #[(.int .i64 r0), (.int .u64 r1), (.int .i64 r2)]) rfl rfl) ?_
      refine hl_val rfl rfl (v := (.int .i64 r2)) (hv_assign rfl) ?_
      refine hl_nil ?_
      refine blockQ_n ?_
      refine seqQ_n ?_
      exact ⟨_, H, (has_cons rfl has_nil)⟩
    · replace H := H.2 hb17
      refine hx_seq ?_
      refine hx_region ?_
      refine hl_val rfl rfl (v := (.bool (x == 2))) (hv_arith rfl rfl rfl) ?_
      refine hl_val rfl rfl (v := (.bool (x == 2))) (hv_assign rfl) ?_
      refine hl_nil ?_
      refine seqQ_n ?_
      refine hx_cond (b := x == 2) rfl (fun hb16 => ?_) (fun hb16 => ?_)
      · replace H := H.1 hb16
        refine hx_region ?_
        refine hl_val rfl rfl (v := (ptr m_b m_o)) (hv_move rfl) ?_
        refine hl_step rfl rfl (hs_call Ty.cb23 (vs := [(ptr m_b m_o)]) rfl (HC.mono H ?_))
        rintro _ h4 ⟨r, rfl, H⟩
        refine hl_val rfl rfl (v := (.int .i64 r)) (hv_assign rfl) ?_
        refine hl_nil ?_
        refine blockQ_n ?_
        refine seqQ_n ?_
        exact ⟨_, H, (has_cons rfl has_nil)⟩
      · replace H := H.2 hb16
        refine hx_seq ?_
        refine hx_region ?_
        refine hl_val rfl rfl (v := (.bool (x == 3))) (hv_arith rfl rfl rfl) ?_
        refine hl_val rfl rfl (v := (.bool (x == 3))) (hv_assign rfl) ?_
        refine hl_nil ?_
        refine seqQ_n ?_
        refine hx_cond (b := x == 3) rfl (fun hb15 => ?_) (fun hb15 => ?_)
        · replace H := H.1 hb15
          refine hx_region ?_
          refine hl_val rfl rfl (v := (ptr m_b m_o)) (hv_move rfl) ?_
          refine hl_val rfl rfl (v := (ptr o 1)) (hv_field Ty.fld36_1 (b := o) (o := 0) rfl) ?_
          obtain ⟨x_1, hc4, H⟩ := H
          refine hl_val rfl rfl (v := (.int .i64 x_1)) (hv_load Ty.agg3 rfl hc4) ?_
          refine hl_step rfl rfl (hs_call Ty.cb24 (vs := [(ptr m_b m_o), (.int .i64 x_1)]) rfl (HC.mono H ?_))
          rintro _ h5 ⟨r, rfl, H⟩
          refine hl_val rfl rfl (v := (.int .i64 r)) (hv_assign rfl) ?_
          refine hl_nil ?_
          refine blockQ_n ?_
          refine seqQ_n ?_
          exact ⟨_, H, (has_cons rfl has_nil)⟩
        · replace H := H.2 hb15
          refine hx_seq ?_
          refine hx_region ?_
          refine hl_val rfl rfl (v := (.bool (x == 4))) (hv_arith rfl rfl rfl) ?_
          refine hl_val rfl rfl (v := (.bool (x == 4))) (hv_assign rfl) ?_
          refine hl_nil ?_
          refine seqQ_n ?_
          refine hx_cond (b := x == 4) rfl (fun hb14 => ?_) (fun hb14 => ?_)
          · replace H := H.1 hb14
            refine hx_region ?_
            refine hl_val rfl rfl (v := (ptr m_b m_o)) (hv_move rfl) ?_
            refine hl_val rfl rfl (v := (ptr o 2)) (hv_field Ty.fld36_2 (b := o) (o := 0) rfl) ?_
            obtain ⟨x_1, hc6, H⟩ := H
            refine hl_val rfl rfl (v := (.int .i64 x_1)) (hv_load Ty.agg3 rfl hc6) ?_
            refine hl_val rfl rfl (v := (ptr o 1)) (hv_field Ty.fld36_1 (b := o) (o := 0) rfl) ?_
            obtain ⟨x_2, hc5, H⟩ := H
            refine hl_val rfl rfl (v := (.int .i64 x_2)) (hv_load Ty.agg3 rfl hc5) ?_
            refine hl_step rfl rfl (hs_call Ty.cb21 (vs := [(ptr m_b m_o), (.int .i64 x_1), (.int .i64 x_2)]) rfl (HC.mono H ?_))
            rintro _ h6 ⟨r0, r1, rfl, H⟩
            refine hl_val rfl rfl (v := (.tuple #[(.bool r0), (.int .i64 r1)])) (hv_move rfl) ?_
            refine hl_val rfl rfl (v := (.bool r0)) (hv_extract (vs := #[(.bool r0), (.int .i64 r1)]) rfl rfl) ?_
            refine hl_val rfl rfl (v := (.int .i64 r1)) (hv_extract (vs := #[(.bool r0), (.int .i64 r1)]) rfl rfl) ?_
            refine hl_val rfl rfl (v := (.int .i64 r1)) (hv_assign rfl) ?_
            refine hl_nil ?_
            refine blockQ_n ?_
            refine seqQ_n ?_
            exact ⟨_, H, (has_cons rfl has_nil)⟩
          · replace H := H.2 hb14
            refine hx_seq ?_
            refine hx_region ?_
            refine hl_val rfl rfl (v := (.bool (x == 5))) (hv_arith rfl rfl rfl) ?_
            refine hl_val rfl rfl (v := (.bool (x == 5))) (hv_assign rfl) ?_
            refine hl_nil ?_
            refine seqQ_n ?_
            refine hx_cond (b := x == 5) rfl (fun hb13 => ?_) (fun hb13 => ?_)
            · replace H := H.1 hb13
              refine hx_region ?_
              refine hl_val rfl rfl (v := (ptr m_b m_o)) (hv_move rfl) ?_
              refine hl_val rfl rfl (v := (ptr o 1)) (hv_field Ty.fld36_1 (b := o) (o := 0) rfl) ?_
              obtain ⟨x_1, hc7, H⟩ := H
              refine hl_val rfl rfl (v := (.int .i64 x_1)) (hv_load Ty.agg3 rfl hc7) ?_
              refine hl_step rfl rfl (hs_call Ty.cb25 (vs := [(ptr m_b m_o), (.int .i64 x_1)]) rfl (HC.mono H ?_))
              rintro _ h7 ⟨r, rfl, H⟩
              refine hl_val rfl rfl (v := (.int .i64 r)) (hv_assign rfl) ?_
              refine hl_nil ?_
              refine blockQ_n ?_
              refine seqQ_n ?_
              exact ⟨_, H, (has_cons rfl has_nil)⟩
            · replace H := H.2 hb13
              refine hx_seq ?_
              refine hx_region ?_
              refine hl_val rfl rfl (v := (.bool (x == 6))) (hv_arith rfl rfl rfl) ?_
              refine hl_val rfl rfl (v := (.bool (x == 6))) (hv_assign rfl) ?_
              refine hl_nil ?_
              refine seqQ_n ?_
              refine hx_cond (b := x == 6) rfl (fun hb12 => ?_) (fun hb12 => ?_)
              · replace H := H.1 hb12
                refine hx_seq ?_
                refine hx_region ?_
                refine hl_val rfl rfl (v := (ptr m_b m_o)) (hv_move rfl) ?_
                refine hl_val rfl rfl (v := (ptr o 1)) (hv_field Ty.fld36_1 (b := o) (o := 0) rfl) ?_
                obtain ⟨x_1, hc9, H⟩ := H
                refine hl_val rfl rfl (v := (.int .i64 x_1)) (hv_load Ty.agg3 rfl hc9) ?_
                refine hl_step rfl rfl (hs_call Ty.cb26 (vs := [(ptr m_b m_o), (.int .i64 x_1)]) rfl (HC.mono H ?_))
                rintro _ h8 ⟨r, rfl, H⟩
                refine hl_val rfl rfl (v := (.bool (!r))) (hv_not (b := r) rfl) ?_
                refine hl_nil ?_
                refine seqQ_n ?_
                refine hx_cond (b := !r) rfl (fun hb8 => ?_) (fun hb8 => ?_)
                · replace H := H.1 hb8
                  refine hx_region ?_
                  refine hl_val rfl rfl (v := (.int .i64 91)) (hv_assign rfl) ?_
                  refine hl_nil ?_
                  refine blockQ_n ?_
                  refine seqQ_n ?_
                  exact ⟨_, H, (has_cons rfl has_nil)⟩
                · replace H := H.2 hb8
                  refine hx_skip ?_
                  refine blockQ_n ?_
                  refine seqQ_n ?_
                  exact ⟨_, H, (has_cons rfl has_nil)⟩
              · replace H := H.2 hb12
                refine hx_seq ?_
                refine hx_region ?_
                refine hl_val rfl rfl (v := (.bool (x == 7))) (hv_arith rfl rfl rfl) ?_
                refine hl_val rfl rfl (v := (.bool (x == 7))) (hv_assign rfl) ?_
                refine hl_nil ?_
                refine seqQ_n ?_
                refine hx_cond (b := x == 7) rfl (fun hb11 => ?_) (fun hb11 => ?_)
                · replace H := H.1 hb11
                  refine hx_region ?_
                  refine hl_val rfl rfl (v := (ptr m_b m_o)) (hv_move rfl) ?_
                  refine hl_val rfl rfl (v := (ptr o 1)) (hv_field Ty.fld36_1 (b := o) (o := 0) rfl) ?_
                  obtain ⟨x_1, hc10, H⟩ := H
                  refine hl_val rfl rfl (v := (.int .i64 x_1)) (hv_load Ty.agg3 rfl hc10) ?_
                  refine hl_step rfl rfl (hs_call Ty.cb22 (vs := [(ptr m_b m_o), (.int .i64 x_1)]) rfl (HC.mono H ?_))
                  rintro _ h9 ⟨r0, r0_n, r0_c, r1, rfl, H⟩
                  refine hl_val rfl rfl (v := (.tuple #[(.slice r0 r0_n r0_c), (.int .i64 r1)])) (hv_move rfl) ?_
                  refine hl_val rfl rfl (v := (.slice r0 r0_n r0_c)) (hv_extract (vs := #[(.slice r0 r0_n r0_c), (.int .i64 r1)]) rfl rfl) ?_
                  refine hl_val rfl rfl (v := (.int .i64 r1)) (hv_extract (vs := #[(.slice r0 r0_n r0_c), (.int .i64 r1)]) rfl rfl) ?_
                  refine hl_val rfl rfl (v := (.int .i64 r1)) (hv_assign rfl) ?_
                  refine hl_nil ?_
                  refine blockQ_n ?_
                  refine seqQ_n ?_
                  exact ⟨_, H, (has_cons rfl has_nil)⟩
                · replace H := H.2 hb11
                  refine hx_skip ?_
                  refine blockQ_n ?_
                  refine seqQ_n ?_
                  exact ⟨_, H, (has_cons rfl has_nil)⟩
  · rintro ρ h2 ⟨e, HA21, hH⟩
    have H := Hy20 e h2 HA21; clear Hx19 Hy20
    refine hx_has _ hH ?_
    refine hx_seq ?_
    refine hx_region ?_
    refine hl_val rfl rfl (v := (.int .i64 e)) (hv_move rfl) ?_
    refine hl_val rfl rfl (v := (.int .i64 e)) (hv_assign rfl) ?_
    refine hl_nil ?_
    refine seqQ_n ?_
    refine hx_ret ?_
    exact endQ_ret _ (res_one Try.results12 (rv_tmp rfl)) H

/-- cellar/cellarlaw09.lives -/
theorem f9_sh  (h : Heap) (R : Value → Heap → Prop)
    (H : HC Try.prog 10 #[(.int .i64 2)] h (fun vv h1 => ∃ r0 : Option Addr, ∃ r1 : Int, vv = (.tuple #[(.pointer r0), (.int .i64 r1)]) ∧ (∃ j : Bool, (((r1 != 0) = true → (j = true)) ∧ ((r1 != 0) = false → (j = r0.isNone))) ∧ ((j = true → R (.bool false) h1) ∧ (j = false → HC Try.prog 13 #[(.pointer r0)] h1 (fun vv h2 => ∃ r0_1 r1_1 r2 : Int, vv = (.tuple #[(.int .i64 r0_1), (.int .u64 r1_1), (.int .i64 r2)]) ∧ (∃ A2 : Bool → Heap → Prop, (((r0_1 == 0) = true → (((r1_1 == 1) = true → (((r2 == 0) = true → HC Try.prog 26 #[(.pointer r0), (.int .i64 0)] h2 (fun vv h4 => ∃ r : Bool, vv = (.bool r) ∧ ((r = true → HC Try.prog 23 #[(.pointer r0)] h4 (fun vv h5 => ∃ r_1 : Int, vv = (.int .i64 r_1) ∧ (((r_1 == 0) = true → HC Try.prog 24 #[(.pointer r0), (.int .i64 0)] h5 (fun vv h6 => ∃ r_2 : Int, vv = (.int .i64 r_2) ∧ (((r_2 == 0) = true → HC Try.prog 26 #[(.pointer r0), (.int .i64 0)] h6 (fun vv h7 => ∃ r_3 : Bool, vv = (.bool r_3) ∧ (((!r_3) = true → HC Try.prog 25 #[(.pointer r0), (.int .i64 0)] h7 (fun vv h8 => ∃ r_4 : Int, vv = (.int .i64 r_4) ∧ (A2 (r_4 == 92) h8))) ∧ ((!r_3) = false → (A2 false h7))))) ∧ ((r_2 == 0) = false → (A2 false h6))))) ∧ ((r_1 == 0) = false → (A2 false h5))))) ∧ (r = false → (A2 false h4))))) ∧ ((r2 == 0) = false → (A2 false h2)))) ∧ ((r1_1 == 1) = false → (A2 false h2)))) ∧ ((r0_1 == 0) = false → (A2 false h2))) ∧ (∀ (j_1 : Bool) (h3 : Heap), A2 j_1 h3 → R (.bool j_1) h3)))))))) :
    HC Try.prog 9 #[] h R := by
  refine hc_of (args := []) Try.func9 rfl Try.ntmps9 (Nat.le_of_ble_eq_true rfl) ?_
  refine hx_seq ?_
  refine hx_region ?_
  refine hl_val rfl rfl (v := (.bool false)) (hv_assign rfl) ?_
  refine hl_nil ?_
  refine seqQ_n ?_
  refine hx_seq ?_
  refine hx_region ?_
  refine hl_step rfl rfl (hs_call Ty.cb10 (vs := [(.int .i64 2)]) rfl (HC.mono H ?_))
  rintro _ h1 ⟨r0, r1, rfl, H⟩
  refine hl_val rfl rfl (v := (.tuple #[(.pointer r0), (.int .i64 r1)])) (hv_move rfl) ?_
  refine hl_val rfl rfl (v := (.pointer r0)) (hv_extract (vs := #[(.pointer r0), (.int .i64 r1)]) rfl rfl) ?_
  refine hl_val rfl rfl (v := (.int .i64 r1)) (hv_extract (vs := #[(.pointer r0), (.int .i64 r1)]) rfl rfl) ?_
  refine hl_val rfl rfl (v := (.pointer r0)) (hv_assign rfl) ?_
  refine hl_val rfl rfl (v := (.int .i64 r1)) (hv_assign rfl) ?_
  refine hl_nil ?_
  refine seqQ_n ?_
  refine hx_seq ?_
  obtain ⟨j, Hx14, Hy15⟩ := H
  refine hx_cut (fun ρ h' => h1 = h' ∧ Has ρ [(1, (.pointer r0)), (14, (.bool j))]) ?_ ?_
  · have H := Hx14; clear Hx14 Hy15
    refine hx_region ?_
    refine hl_val rfl rfl (v := (.int .i64 r1)) (hv_move rfl) ?_
    refine hl_val rfl rfl (v := (.bool (r1 != 0))) (hv_arith rfl rfl rfl) ?_
    refine hl_val rfl rfl (v := (.bool (r1 != 0))) (hv_move rfl) ?_
    rcases bool_or (r1 != 0) with hg1 | hg1
    · replace H := H.1 hg1
      refine hl_no (wanted_n rfl rfl rfl hg1) rfl ?_
      refine hl_no (wanted_n rfl rfl rfl hg1) rfl ?_
      refine hl_val rfl rfl (v := (.bool true)) (hv_pick_t rfl hg1 rfl) ?_
      refine hl_nil ?_
      refine seqQ_n ?_
      obtain rfl := H
      exact ⟨rfl, (has_cons rfl (has_cons rfl has_nil))⟩
    · replace H := H.2 hg1
      refine hl_yes (wanted_y rfl rfl rfl hg1) rfl (HStep.of_val (v := (.pointer r0)) (hv_move rfl) ?_)
      refine hl_yes (wanted_y rfl rfl rfl hg1) rfl (HStep.of_val (v := (.bool r0.isNone)) (hv_ptrNil Ty.up24 rfl rfl) ?_)
      refine hl_val rfl rfl (v := (.bool r0.isNone)) (hv_pick_f rfl hg1 rfl) ?_
      refine hl_nil ?_
      refine seqQ_n ?_
      obtain rfl := H
      exact ⟨rfl, (has_cons rfl (has_cons rfl has_nil))⟩
  · have H := Hy15; clear Hx14 Hy15
    rintro ρ _ ⟨rfl, hH⟩
    refine hx_has _ hH ?_
    refine hx_cond (b := j) rfl (fun hb13 => ?_) (fun hb13 => ?_)
    · replace H := H.1 hb13
      refine hx_seq ?_
      refine hx_region ?_
      refine hl_val rfl rfl (v := (.bool false)) (hv_assign rfl) ?_
      refine hl_nil ?_
      refine seqQ_n ?_
      refine hx_ret ?_
      refine seqQ_ret ?_
      exact endQ_ret _ (res_one Try.results9 (rv_tmp rfl)) H
    · replace H := H.2 hb13
      refine hx_skip ?_
      refine seqQ_n ?_
      refine hx_seq ?_
      refine hx_region ?_
      refine hl_val rfl rfl (v := (.pointer r0)) (hv_move rfl) ?_
      refine hl_step rfl rfl (hs_call Ty.cb13 (vs := [(.pointer r0)]) rfl (HC.mono H ?_))
      rintro _ h2 ⟨r0_1, r1_1, r2, rfl, H⟩
      refine hl_val rfl rfl (v := (.tuple #[(.int .i64 r0_1), (.int .u64 r1_1), (.int .i64 r2)])) (hv_move rfl) ?_
      refine hl_val rfl rfl (v := (.int .i64 r0_1)) (hv_extract (vs := #[(.int .i64 r0_1), (.int .u64 r1_1), (.int .i64 r2)]) rfl rfl) ?_
      refine hl_val rfl rfl (v := (.int .u64 r1_1)) (hv_extract (vs := #[(.int .i64 r0_1), (.int .u64 r1_1), (.int .i64 r2)]) rfl rfl) ?_
      refine hl_val rfl rfl (v := (.int .i64 r2)) (hv_extract (vs := #[(.int .i64 r0_1), (.int .u64 r1_1), (.int .i64 r2)]) rfl rfl) ?_
      refine hl_val rfl rfl (v := (.int .i64 r0_1)) (hv_assign rfl) ?_
      refine hl_val rfl rfl (v := (.int .u64 r1_1)) (hv_assign rfl) ?_
      refine hl_val rfl rfl (v := (.int .i64 r2)) (hv_assign rfl) ?_
      refine hl_nil ?_
      refine seqQ_n ?_
      obtain ⟨A2, Hx10, Hy11⟩ := H
      refine hx_cut (fun ρ h' => ∃ j_1 : Bool, A2 j_1 h' ∧ Has ρ [(0, (.bool j_1))]) ?_ ?_
      · have H := Hx10; clear Hx10 Hy11
        refine hx_region ?_
        refine hl_val rfl rfl (v := (.int .i64 r0_1)) (hv_move rfl) ?_
        refine hl_val rfl rfl (v := (.bool (r0_1 == 0))) (hv_arith rfl rfl rfl) ?_
        refine hl_val rfl rfl (v := (.bool (r0_1 == 0))) (hv_move rfl) ?_
        rcases bool_or (r0_1 == 0) with hg3 | hg3
        · replace H := H.1 hg3
          refine hl_yes (wanted_y rfl rfl rfl hg3) rfl (HStep.of_val (v := (.int .u64 r1_1)) (hv_move rfl) ?_)
          refine hl_yes (wanted_y rfl rfl rfl hg3) rfl (HStep.of_val (v := (.bool (r1_1 == 1))) (hv_arith rfl rfl rfl) ?_)
          refine hl_val rfl rfl (v := (.bool (r1_1 == 1))) (hv_pick_t rfl hg3 rfl) ?_
          refine hl_val rfl rfl (v := (.bool (r1_1 == 1))) (hv_move rfl) ?_
          rcases bool_or (r1_1 == 1) with hg4 | hg4
          · replace H := H.1 hg4
            refine hl_yes (wanted_y rfl rfl rfl hg4) rfl (HStep.of_val (v := (.int .i64 r2)) (hv_move rfl) ?_)
            refine hl_yes (wanted_y rfl rfl rfl hg4) rfl (HStep.of_val (v := (.bool (r2 == 0))) (hv_arith rfl rfl rfl) ?_)
            refine hl_val rfl rfl (v := (.bool (r2 == 0))) (hv_pick_t rfl hg4 rfl) ?_
            refine hl_val rfl rfl (v := (.bool (r2 == 0))) (hv_move rfl) ?_
            rcases bool_or (r2 == 0) with hg5 | hg5
            · replace H := H.1 hg5
              refine hl_yes (wanted_y rfl rfl rfl hg5) rfl (HStep.of_val (v := (.pointer r0)) (hv_move rfl) ?_)
              refine hl_yes (wanted_y rfl rfl rfl hg5) rfl (hs_call Ty.cb26 (vs := [(.pointer r0), (.int .i64 0)]) rfl (HC.mono H ?_))
              rintro _ h4 ⟨r, rfl, H⟩
              refine hl_val rfl rfl (v := (.bool r)) (hv_pick_t rfl hg5 rfl) ?_
              refine hl_val rfl rfl (v := (.bool r)) (hv_move rfl) ?_
              rcases bool_or (r) with hg6 | hg6
              · replace H := H.1 hg6
                refine hl_yes (wanted_y rfl rfl rfl hg6) rfl (HStep.of_val (v := (.pointer r0)) (hv_move rfl) ?_)
                refine hl_yes (wanted_y rfl rfl rfl hg6) rfl (hs_call Ty.cb23 (vs := [(.pointer r0)]) rfl (HC.mono H ?_))
                rintro _ h5 ⟨r_1, rfl, H⟩
                refine hl_yes (wanted_y rfl rfl rfl hg6) rfl (HStep.of_val (v := (.bool (r_1 == 0))) (hv_arith rfl rfl rfl) ?_)
                refine hl_val rfl rfl (v := (.bool (r_1 == 0))) (hv_pick_t rfl hg6 rfl) ?_
                refine hl_val rfl rfl (v := (.bool (r_1 == 0))) (hv_move rfl) ?_
                rcases bool_or (r_1 == 0) with hg7 | hg7
                · replace H := H.1 hg7
                  refine hl_yes (wanted_y rfl rfl rfl hg7) rfl (HStep.of_val (v := (.pointer r0)) (hv_move rfl) ?_)
                  refine hl_yes (wanted_y rfl rfl rfl hg7) rfl (hs_call Ty.cb24 (vs := [(.pointer r0), (.int .i64 0)]) rfl (HC.mono H ?_))
                  rintro _ h6 ⟨r_2, rfl, H⟩
                  refine hl_yes (wanted_y rfl rfl rfl hg7) rfl (HStep.of_val (v := (.bool (r_2 == 0))) (hv_arith rfl rfl rfl) ?_)
                  refine hl_val rfl rfl (v := (.bool (r_2 == 0))) (hv_pick_t rfl hg7 rfl) ?_
                  refine hl_val rfl rfl (v := (.bool (r_2 == 0))) (hv_move rfl) ?_
                  rcases bool_or (r_2 == 0) with hg8 | hg8
                  · replace H := H.1 hg8
                    refine hl_yes (wanted_y rfl rfl rfl hg8) rfl (HStep.of_val (v := (.pointer r0)) (hv_move rfl) ?_)
                    refine hl_yes (wanted_y rfl rfl rfl hg8) rfl (hs_call Ty.cb26 (vs := [(.pointer r0), (.int .i64 0)]) rfl (HC.mono H ?_))
                    rintro _ h7 ⟨r_3, rfl, H⟩
                    refine hl_yes (wanted_y rfl rfl rfl hg8) rfl (HStep.of_val (v := (.bool (!r_3))) (hv_not (b := r_3) rfl) ?_)
                    refine hl_val rfl rfl (v := (.bool (!r_3))) (hv_pick_t rfl hg8 rfl) ?_
                    refine hl_val rfl rfl (v := (.bool (!r_3))) (hv_move rfl) ?_
                    rcases bool_or (!r_3) with hg9 | hg9
                    · replace H := H.1 hg9
                      refine hl_yes (wanted_y rfl rfl rfl hg9) rfl (HStep.of_val (v := (.pointer r0)) (hv_move rfl) ?_)
                      refine hl_yes (wanted_y rfl rfl rfl hg9) rfl (hs_call Ty.cb25 (vs := [(.pointer r0), (.int .i64 0)]) rfl (HC.mono H ?_))
                      rintro _ h8 ⟨r_4, rfl, H⟩
                      refine hl_yes (wanted_y rfl rfl rfl hg9) rfl (HStep.of_val (v := (.bool (r_4 == 92))) (hv_arith rfl rfl rfl) ?_)
                      refine hl_val rfl rfl (v := (.bool (r_4 == 92))) (hv_pick_t rfl hg9 rfl) ?_
                      refine hl_val rfl rfl (v := (.bool (r_4 == 92))) (hv_assign rfl) ?_
                      refine hl_nil ?_
                      refine seqQ_n ?_
                      exact ⟨_, H, (has_cons rfl has_nil)⟩
                    · replace H := H.2 hg9
                      refine hl_no (wanted_n rfl rfl rfl hg9) rfl ?_
                      refine hl_no (wanted_n rfl rfl rfl hg9) rfl ?_
                      refine hl_no (wanted_n rfl rfl rfl hg9) rfl ?_
                      refine hl_val rfl rfl (v := (.bool false)) (hv_pick_f rfl hg9 rfl) ?_
                      refine hl_val rfl rfl (v := (.bool false)) (hv_assign rfl) ?_
                      refine hl_nil ?_
                      refine seqQ_n ?_
                      exact ⟨_, H, (has_cons rfl has_nil)⟩
                  · replace H := H.2 hg8
                    refine hl_no (wanted_n rfl rfl rfl hg8) rfl ?_
                    refine hl_no (wanted_n rfl rfl rfl hg8) rfl ?_
                    refine hl_no (wanted_n rfl rfl rfl hg8) rfl ?_
                    refine hl_val rfl rfl (v := (.bool false)) (hv_pick_f rfl hg8 rfl) ?_
                    refine hl_val rfl rfl (v := (.bool false)) (hv_move rfl) ?_
                    refine hl_no (wanted_n rfl rfl (c := false) rfl rfl) rfl ?_
                    refine hl_no (wanted_n rfl rfl (c := false) rfl rfl) rfl ?_
                    refine hl_no (wanted_n rfl rfl (c := false) rfl rfl) rfl ?_
                    refine hl_val rfl rfl (v := (.bool false)) (hv_pick (t := false) rfl rfl) ?_
                    refine hl_val rfl rfl (v := (.bool false)) (hv_assign rfl) ?_
                    refine hl_nil ?_
                    refine seqQ_n ?_
                    exact ⟨_, H, (has_cons rfl has_nil)⟩
                · replace H := H.2 hg7
                  refine hl_no (wanted_n rfl rfl rfl hg7) rfl ?_
                  refine hl_no (wanted_n rfl rfl rfl hg7) rfl ?_
                  refine hl_no (wanted_n rfl rfl rfl hg7) rfl ?_
                  refine hl_val rfl rfl (v := (.bool false)) (hv_pick_f rfl hg7 rfl) ?_
                  refine hl_val rfl rfl (v := (.bool false)) (hv_move rfl) ?_
                  refine hl_no (wanted_n rfl rfl (c := false) rfl rfl) rfl ?_
                  refine hl_no (wanted_n rfl rfl (c := false) rfl rfl) rfl ?_
                  refine hl_no (wanted_n rfl rfl (c := false) rfl rfl) rfl ?_
                  refine hl_val rfl rfl (v := (.bool false)) (hv_pick (t := false) rfl rfl) ?_
                  refine hl_val rfl rfl (v := (.bool false)) (hv_move rfl) ?_
                  refine hl_no (wanted_n rfl rfl (c := false) rfl rfl) rfl ?_
                  refine hl_no (wanted_n rfl rfl (c := false) rfl rfl) rfl ?_
                  refine hl_no (wanted_n rfl rfl (c := false) rfl rfl) rfl ?_
                  refine hl_val rfl rfl (v := (.bool false)) (hv_pick (t := false) rfl rfl) ?_
                  refine hl_val rfl rfl (v := (.bool false)) (hv_assign rfl) ?_
                  refine hl_nil ?_
                  refine seqQ_n ?_
                  exact ⟨_, H, (has_cons rfl has_nil)⟩
              · replace H := H.2 hg6
                refine hl_no (wanted_n rfl rfl rfl hg6) rfl ?_
                refine hl_no (wanted_n rfl rfl rfl hg6) rfl ?_
                refine hl_no (wanted_n rfl rfl rfl hg6) rfl ?_
                refine hl_val rfl rfl (v := (.bool false)) (hv_pick_f rfl hg6 rfl) ?_
                refine hl_val rfl rfl (v := (.bool false)) (hv_move rfl) ?_
                refine hl_no (wanted_n rfl rfl (c := false) rfl rfl) rfl ?_
                refine hl_no (wanted_n rfl rfl (c := false) rfl rfl) rfl ?_
                refine hl_no (wanted_n rfl rfl (c := false) rfl rfl) rfl ?_
                refine hl_val rfl rfl (v := (.bool false)) (hv_pick (t := false) rfl rfl) ?_
                refine hl_val rfl rfl (v := (.bool false)) (hv_move rfl) ?_
                refine hl_no (wanted_n rfl rfl (c := false) rfl rfl) rfl ?_
                refine hl_no (wanted_n rfl rfl (c := false) rfl rfl) rfl ?_
                refine hl_no (wanted_n rfl rfl (c := false) rfl rfl) rfl ?_
                refine hl_val rfl rfl (v := (.bool false)) (hv_pick (t := false) rfl rfl) ?_
                refine hl_val rfl rfl (v := (.bool false)) (hv_move rfl) ?_
                refine hl_no (wanted_n rfl rfl (c := false) rfl rfl) rfl ?_
                refine hl_no (wanted_n rfl rfl (c := false) rfl rfl) rfl ?_
                refine hl_no (wanted_n rfl rfl (c := false) rfl rfl) rfl ?_
                refine hl_val rfl rfl (v := (.bool false)) (hv_pick (t := false) rfl rfl) ?_
                refine hl_val rfl rfl (v := (.bool false)) (hv_assign rfl) ?_
                refine hl_nil ?_
                refine seqQ_n ?_
                exact ⟨_, H, (has_cons rfl has_nil)⟩
            · replace H := H.2 hg5
              refine hl_no (wanted_n rfl rfl rfl hg5) rfl ?_
              refine hl_no (wanted_n rfl rfl rfl hg5) rfl ?_
              refine hl_val rfl rfl (v := (.bool false)) (hv_pick_f rfl hg5 rfl) ?_
              refine hl_val rfl rfl (v := (.bool false)) (hv_move rfl) ?_
              refine hl_no (wanted_n rfl rfl (c := false) rfl rfl) rfl ?_
              refine hl_no (wanted_n rfl rfl (c := false) rfl rfl) rfl ?_
              refine hl_no (wanted_n rfl rfl (c := false) rfl rfl) rfl ?_
              refine hl_val rfl rfl (v := (.bool false)) (hv_pick (t := false) rfl rfl) ?_
              refine hl_val rfl rfl (v := (.bool false)) (hv_move rfl) ?_
              refine hl_no (wanted_n rfl rfl (c := false) rfl rfl) rfl ?_
              refine hl_no (wanted_n rfl rfl (c := false) rfl rfl) rfl ?_
              refine hl_no (wanted_n rfl rfl (c := false) rfl rfl) rfl ?_
              refine hl_val rfl rfl (v := (.bool false)) (hv_pick (t := false) rfl rfl) ?_
              refine hl_val rfl rfl (v := (.bool false)) (hv_move rfl) ?_
              refine hl_no (wanted_n rfl rfl (c := false) rfl rfl) rfl ?_
              refine hl_no (wanted_n rfl rfl (c := false) rfl rfl) rfl ?_
              refine hl_no (wanted_n rfl rfl (c := false) rfl rfl) rfl ?_
              refine hl_val rfl rfl (v := (.bool false)) (hv_pick (t := false) rfl rfl) ?_
              refine hl_val rfl rfl (v := (.bool false)) (hv_move rfl) ?_
              refine hl_no (wanted_n rfl rfl (c := false) rfl rfl) rfl ?_
              refine hl_no (wanted_n rfl rfl (c := false) rfl rfl) rfl ?_
              refine hl_no (wanted_n rfl rfl (c := false) rfl rfl) rfl ?_
              refine hl_val rfl rfl (v := (.bool false)) (hv_pick (t := false) rfl rfl) ?_
              refine hl_val rfl rfl (v := (.bool false)) (hv_assign rfl) ?_
              refine hl_nil ?_
              refine seqQ_n ?_
              exact ⟨_, H, (has_cons rfl has_nil)⟩
          · replace H := H.2 hg4
            refine hl_no (wanted_n rfl rfl rfl hg4) rfl ?_
            refine hl_no (wanted_n rfl rfl rfl hg4) rfl ?_
            refine hl_val rfl rfl (v := (.bool false)) (hv_pick_f rfl hg4 rfl) ?_
            refine hl_val rfl rfl (v := (.bool false)) (hv_move rfl) ?_
            refine hl_no (wanted_n rfl rfl (c := false) rfl rfl) rfl ?_
            refine hl_no (wanted_n rfl rfl (c := false) rfl rfl) rfl ?_
            refine hl_val rfl rfl (v := (.bool false)) (hv_pick (t := false) rfl rfl) ?_
            refine hl_val rfl rfl (v := (.bool false)) (hv_move rfl) ?_
            refine hl_no (wanted_n rfl rfl (c := false) rfl rfl) rfl ?_
            refine hl_no (wanted_n rfl rfl (c := false) rfl rfl) rfl ?_
            refine hl_no (wanted_n rfl rfl (c := false) rfl rfl) rfl ?_
            refine hl_val rfl rfl (v := (.bool false)) (hv_pick (t := false) rfl rfl) ?_
            refine hl_val rfl rfl (v := (.bool false)) (hv_move rfl) ?_
            refine hl_no (wanted_n rfl rfl (c := false) rfl rfl) rfl ?_
            refine hl_no (wanted_n rfl rfl (c := false) rfl rfl) rfl ?_
            refine hl_no (wanted_n rfl rfl (c := false) rfl rfl) rfl ?_
            refine hl_val rfl rfl (v := (.bool false)) (hv_pick (t := false) rfl rfl) ?_
            refine hl_val rfl rfl (v := (.bool false)) (hv_move rfl) ?_
            refine hl_no (wanted_n rfl rfl (c := false) rfl rfl) rfl ?_
            refine hl_no (wanted_n rfl rfl (c := false) rfl rfl) rfl ?_
            refine hl_no (wanted_n rfl rfl (c := false) rfl rfl) rfl ?_
            refine hl_val rfl rfl (v := (.bool false)) (hv_pick (t := false) rfl rfl) ?_
            refine hl_val rfl rfl (v := (.bool false)) (hv_move rfl) ?_
            refine hl_no (wanted_n rfl rfl (c := false) rfl rfl) rfl ?_
            refine hl_no (wanted_n rfl rfl (c := false) rfl rfl) rfl ?_
            refine hl_no (wanted_n rfl rfl (c := false) rfl rfl) rfl ?_
            refine hl_val rfl rfl (v := (.bool false)) (hv_pick (t := false) rfl rfl) ?_
            refine hl_val rfl rfl (v := (.bool false)) (hv_assign rfl) ?_
            refine hl_nil ?_
            refine seqQ_n ?_
            exact ⟨_, H, (has_cons rfl has_nil)⟩
        · replace H := H.2 hg3
          refine hl_no (wanted_n rfl rfl rfl hg3) rfl ?_
          refine hl_no (wanted_n rfl rfl rfl hg3) rfl ?_
          refine hl_val rfl rfl (v := (.bool false)) (hv_pick_f rfl hg3 rfl) ?_
          refine hl_val rfl rfl (v := (.bool false)) (hv_move rfl) ?_
          refine hl_no (wanted_n rfl rfl (c := false) rfl rfl) rfl ?_
          refine hl_no (wanted_n rfl rfl (c := false) rfl rfl) rfl ?_
          refine hl_val rfl rfl (v := (.bool false)) (hv_pick (t := false) rfl rfl) ?_
          refine hl_val rfl rfl (v := (.bool false)) (hv_move rfl) ?_
          refine hl_no (wanted_n rfl rfl (c := false) rfl rfl) rfl ?_
          refine hl_no (wanted_n rfl rfl (c := false) rfl rfl) rfl ?_
          refine hl_val rfl rfl (v := (.bool false)) (hv_pick (t := false) rfl rfl) ?_
          refine hl_val rfl rfl (v := (.bool false)) (hv_move rfl) ?_
          refine hl_no (wanted_n rfl rfl (c := false) rfl rfl) rfl ?_
          refine hl_no (wanted_n rfl rfl (c := false) rfl rfl) rfl ?_
          refine hl_no (wanted_n rfl rfl (c := false) rfl rfl) rfl ?_
          refine hl_val rfl rfl (v := (.bool false)) (hv_pick (t := false) rfl rfl) ?_
          refine hl_val rfl rfl (v := (.bool false)) (hv_move rfl) ?_
          refine hl_no (wanted_n rfl rfl (c := false) rfl rfl) rfl ?_
          refine hl_no (wanted_n rfl rfl (c := false) rfl rfl) rfl ?_
          refine hl_no (wanted_n rfl rfl (c := false) rfl rfl) rfl ?_
          refine hl_val rfl rfl (v := (.bool false)) (hv_pick (t := false) rfl rfl) ?_
          refine hl_val rfl rfl (v := (.bool false)) (hv_move rfl) ?_
          refine hl_no (wanted_n rfl rfl (c := false) rfl rfl) rfl ?_
          refine hl_no (wanted_n rfl rfl (c := false) rfl rfl) rfl ?_
          refine hl_no (wanted_n rfl rfl (c := false) rfl rfl) rfl ?_
          refine hl_val rfl rfl (v := (.bool false)) (hv_pick (t := false) rfl rfl) ?_
          refine hl_val rfl rfl (v := (.bool false)) (hv_move rfl) ?_
          refine hl_no (wanted_n rfl rfl (c := false) rfl rfl) rfl ?_
          refine hl_no (wanted_n rfl rfl (c := false) rfl rfl) rfl ?_
          refine hl_no (wanted_n rfl rfl (c := false) rfl rfl) rfl ?_
          refine hl_val rfl rfl (v := (.bool false)) (hv_pick (t := false) rfl rfl) ?_
          refine hl_val rfl rfl (v := (.bool false)) (hv_assign rfl) ?_
          refine hl_nil ?_
          refine seqQ_n ?_
          exact ⟨_, H, (has_cons rfl has_nil)⟩
      · rintro ρ h3 ⟨j_1, HA12, hH⟩
        have H := Hy11 j_1 h3 HA12; clear Hx10 Hy11
        refine hx_has _ hH ?_
        refine hx_ret ?_
        exact endQ_ret _ (res_one Try.results9 (rv_tmp rfl)) H

/-- cellar/cellarlaw09.RegionRound -/
theorem f3_sh (regions : Int) (l : Option Addr) (l_n : Nat) (l_c : Nat) (h : Heap) (R : Value → Heap → Prop)
    (H : HC Try.prog 9 #[] h (fun vv h1 => ∃ r : Bool, vv = (.bool r) ∧ (((!r) = true → R (.bool false) h1) ∧ ((!r) = false → HC Try.prog 10 #[(.int .i64 regions)] h1 (fun vv h2 => ∃ r0 : Option Addr, ∃ r1 : Int, vv = (.tuple #[(.pointer r0), (.int .i64 r1)]) ∧ (((r1 != 0) = true → R (.bool r0.isNone) h2) ∧ ((r1 != 0) = false → (∃ (I1 : Int → Heap → Prop) (mu2 : Int → Heap → Nat), I1 0 h2 ∧ (∀ (i : Int) (h3 : Heap), I1 i h3 → (((decide (i < (l_n : Int))) = true → (∃ (I6 : Option Addr → Nat → Nat → Int → Heap → Prop) (mu7 : Option Addr → Nat → Nat → Int → Heap → Nat), I6 none 0 0 0 h3 ∧ (∀ (ahead : Option Addr) (ahead_n : Nat) (ahead_c : Nat) (k : Int) (h4 : Heap), I6 ahead ahead_n ahead_c k h4 → (((decide (k < regions)) = true → HC Try.prog 11 #[(.pointer r0), (.int .i64 k)] h4 (fun vv h5 => ∃ r0_State r0_Sequence r0_Pins r0_Erases : Int, ∃ r1_1 : Bool, vv = (.tuple #[(.agg #[(.int .i64 r0_State), (.int .u64 r0_Sequence), (.int .i64 r0_Pins), (.int .i64 r0_Erases)]), (.bool r1_1)]) ∧ (∀ x h6, x = Array.size h5 → h6 = Array.push h5 (.cells #[(.int .i64 0), (.int .u64 0), (.int .i64 0), (.int .i64 0)] 31) → (HWs h6 x 0 4 ∧ ∀ h7, h7 = hsets h6 x 0 [(.int .i64 r0_State), (.int .u64 r0_Sequence), (.int .i64 r0_Pins), (.int .i64 r0_Erases)] → (∃ x_State x_Sequence x_Pins x_Erases : Int, hcell h7 x 0 = some (.int .i64 x_State) ∧ hcell h7 x 1 = some (.int .u64 x_Sequence) ∧ hcell h7 x 2 = some (.int .i64 x_Pins) ∧ hcell h7 x 3 = some (.int .i64 x_Erases) ∧ (∀ nb h8, nb = Array.size h7 → h8 = Array.push h7 (.cells #[(.int .i64 x_State), (.int .u64 x_Sequence), (.int .i64 x_Pins), (.int .i64 x_Erases)] 31) → HAppend Try.prog 28 28 (.slice ahead ahead_n ahead_c) (.slice (some ⟨nb, 0, none⟩) 1 1) h8 (fun vv h9 => ∃ ap : Option Addr, ∃ ap_n ap_c : Nat, vv = (.slice ap ap_n ap_c) ∧ (I6 ap ap_n ap_c (IntKind.i64.wrap (k + 1)) h9 ∧ mu7 ap ap_n ap_c (IntKind.i64.wrap (k + 1)) h9 < mu7 ahead ahead_n ahead_c k h4)))))))) ∧ ((decide (k < regions)) = false → (∃ l_b l_o : Nat, l = some ⟨l_b, l_o, none⟩ ∧ (0 : Int) ≤ i ∧ i < (l_n : Int) ∧ (∃ x_Kind x_N x_Task : Int, hcell h4 l_b (l_o + (Int.toNat i) * 3) = some (.int .i64 x_Kind) ∧ hcell h4 l_b ((l_o + (Int.toNat i) * 3) + 1) = some (.int .i64 x_N) ∧ hcell h4 l_b ((l_o + (Int.toNat i) * 3) + 2) = some (.int .i64 x_Task) ∧ HC Try.prog 12 #[(.pointer r0), (.agg #[(.int .i64 x_Kind), (.int .i64 x_N), (.int .i64 x_Task)])] h4 (fun vv h10 => ∃ r_1 : Int, vv = (.int .i64 r_1) ∧ (∃ (I23 : Int → Heap → Prop) (mu24 : Int → Heap → Nat), I23 0 h10 ∧ (∀ (k_1 : Int) (h11 : Heap), I23 k_1 h11 → (((decide (k_1 < regions)) = true → HC Try.prog 11 #[(.pointer r0), (.int .i64 k_1)] h11 (fun vv h12 => ∃ r0_State r0_Sequence r0_Pins r0_Erases : Int, ∃ r1_1 : Bool, vv = (.tuple #[(.agg #[(.int .i64 r0_State), (.int .u64 r0_Sequence), (.int .i64 r0_Pins), (.int .i64 r0_Erases)]), (.bool r1_1)]) ∧ (∀ x h13, x = Array.size h12 → h13 = Array.push h12 (.cells #[(.int .i64 0), (.int .u64 0), (.int .i64 0), (.int .i64 0)] 31) → (HWs h13 x 0 4 ∧ ∀ h14, h14 = hsets h13 x 0 [(.int .i64 r0_State), (.int .u64 r0_Sequence), (.int .i64 r0_Pins), (.int .i64 r0_Erases)] → (∃ ahead_b ahead_o : Nat, ahead = some ⟨ahead_b, ahead_o, none⟩ ∧ (0 : Int) ≤ k_1 ∧ k_1 < (ahead_n : Int) ∧ (∃ x_State x_Sequence x_Pins x_Erases : Int, hcell h14 ahead_b (ahead_o + (Int.toNat k_1) * 4) = some (.int .i64 x_State) ∧ hcell h14 ahead_b ((ahead_o + (Int.toNat k_1) * 4) + 1) = some (.int .u64 x_Sequence) ∧ hcell h14 ahead_b ((ahead_o + (Int.toNat k_1) * 4) + 2) = some (.int .i64 x_Pins) ∧ hcell h14 ahead_b ((ahead_o + (Int.toNat k_1) * 4) + 3) = some (.int .i64 x_Erases) ∧ (∀ a h15, a = Array.size h14 → h15 = Array.push h14 (.cells #[(.int .i64 0), (.int .u64 0), (.int .i64 0), (.int .i64 0)] 31) → (HWs h15 a 0 4 ∧ ∀ h16, h16 = hsets h15 a 0 [(.int .i64 x_State), (.int .u64 x_Sequence), (.int .i64 x_Pins), (.int .i64 x_Erases)] → (∃ j : Bool, (((!r1_1) = true → (j = true)) ∧ ((!r1_1) = false → (∃ x_1 : Int, hcell h16 x 0 = some (.int .i64 x_1) ∧ (∃ x_2 : Int, hcell h16 a 0 = some (.int .i64 x_2) ∧ (((x_1 != x_2) = true → (∃ x_3 : Int, hcell h16 x 0 = some (.int .i64 x_3) ∧ (∃ x_4 : Int, hcell h16 a 0 = some (.int .i64 x_4) ∧ (((x_3 != (IntKind.i64.wrap ((Int.tmod x_4 4) + 1))) = true → (j = true)) ∧ ((x_3 != (IntKind.i64.wrap ((Int.tmod x_4 4) + 1))) = false → (∃ x_5 : Int, hcell h16 x 0 = some (.int .i64 x_5) ∧ (((decide (x_5 < 1)) = true → (j = true)) ∧ ((decide (x_5 < 1)) = false → (∃ x_6 : Int, hcell h16 x 0 = some (.int .i64 x_6) ∧ (j = (decide (x_6 > 4)))))))))))) ∧ ((x_1 != x_2) = false → (∃ x_3 : Int, hcell h16 x 0 = some (.int .i64 x_3) ∧ (((decide (x_3 < 1)) = true → (j = true)) ∧ ((decide (x_3 < 1)) = false → (∃ x_4 : Int, hcell h16 x 0 = some (.int .i64 x_4) ∧ (j = (decide (x_4 > 4))))))))))))) ∧ ((j = true → R (.bool false) h16) ∧ (j = false → (∃ j_1 : Bool, (∃ x_7 : Int, hcell h16 a 0 = some (.int .i64 x_7) ∧ (((x_7 == 4) = true → (∃ x_8 : Int, hcell h16 x 2 = some (.int .i64 x_8) ∧ (∃ x_9 : Int, hcell h16 a 2 = some (.int .i64 x_9) ∧ (((decide (x_8 > x_9)) = true → (j_1 = true)) ∧ ((decide (x_8 > x_9)) = false → (∃ x_10 : Int, hcell h16 x 0 = some (.int .i64 x_10) ∧ (((x_10 == 1) = true → (∃ x_11 : Int, hcell h16 x 2 = some (.int .i64 x_11) ∧ (((x_11 != 0) = true → (j_1 = true)) ∧ ((x_11 != 0) = false → (∃ x_12 : Int, hcell h16 x 1 = some (.int .u64 x_12) ∧ (j_1 = (x_12 != 0))))))) ∧ ((x_10 == 1) = false → (j_1 = false))))))))) ∧ ((x_7 == 4) = false → (∃ x_8 : Int, hcell h16 x 0 = some (.int .i64 x_8) ∧ (((x_8 == 1) = true → (∃ x_9 : Int, hcell h16 x 2 = some (.int .i64 x_9) ∧ (((x_9 != 0) = true → (j_1 = true)) ∧ ((x_9 != 0) = false → (∃ x_10 : Int, hcell h16 x 1 = some (.int .u64 x_10) ∧ (j_1 = (x_10 != 0))))))) ∧ ((x_8 == 1) = false → (j_1 = false))))))) ∧ ((j_1 = true → R (.bool false) h16) ∧ (j_1 = false → (∃ j_2 : Bool, (∃ x_13 : Int, hcell h16 a 0 = some (.int .i64 x_13) ∧ (((x_13 == 4) = true → (∃ x_14 : Int, hcell h16 x 0 = some (.int .i64 x_14) ∧ (((x_14 == 1) = true → (∃ x_15 : Int, hcell h16 a 2 = some (.int .i64 x_15) ∧ (((x_15 != 0) = true → (j_2 = true)) ∧ ((x_15 != 0) = false → (∃ x_16 : Int, hcell h16 x 3 = some (.int .i64 x_16) ∧ (∃ x_17 : Int, hcell h16 a 3 = some (.int .i64 x_17) ∧ (j_2 = (x_16 != (IntKind.i64.wrap (x_17 + 1)))))))))) ∧ ((x_14 == 1) = false → (j_2 = false))))) ∧ ((x_13 == 4) = false → (j_2 = false)))) ∧ ((j_2 = true → R (.bool false) h16) ∧ (j_2 = false → (I23 (IntKind.i64.wrap (k_1 + 1)) h16 ∧ mu24 (IntKind.i64.wrap (k_1 + 1)) h16 < mu24 k_1 h11)))))))))))))))))) ∧ ((decide (k_1 < regions)) = false → (I1 (IntKind.i64.wrap (i + 1)) h11 ∧ mu2 (IntKind.i64.wrap (i + 1)) h11 < mu2 i h3))))))))))))) ∧ ((decide (i < (l_n : Int))) = false → R (.bool true) h3))))))))))) :
    HC Try.prog 3 #[(.int .i64 regions), (.slice l l_n l_c)] h R := by
  refine hc_of (args := [(.int .i64 regions), (.slice l l_n l_c)]) Try.func3 rfl Try.ntmps3 (Nat.le_of_ble_eq_true rfl) ?_
  refine hx_seq ?_
  refine hx_region ?_
  refine hl_val rfl rfl (v := (.bool false)) (hv_assign rfl) ?_
  refine hl_nil ?_
  refine seqQ_n ?_
  refine hx_seq ?_
  refine hx_seq ?_
  refine hx_region ?_
  refine hl_step rfl rfl (hs_call Ty.cb9 (vs := []) rfl (HC.mono H ?_))
  rintro _ h1 ⟨r, rfl, H⟩
  refine hl_val rfl rfl (v := (.bool (!r))) (hv_not (b := r) rfl) ?_
  refine hl_nil ?_
  refine seqQ_n ?_
  refine hx_cond (b := !r) rfl (fun hb94 => ?_) (fun hb94 => ?_)
  · replace H := H.1 hb94
    refine hx_seq ?_
    refine hx_region ?_
    refine hl_val rfl rfl (v := (.bool false)) (hv_assign rfl) ?_
    refine hl_nil ?_
    refine seqQ_n ?_
    refine hx_ret ?_
    refine seqQ_ret ?_
    exact endQ_ret _ (res_one Try.results3 (rv_tmp rfl)) H
  · replace H := H.2 hb94
    refine hx_skip ?_
    refine seqQ_n ?_
    refine hx_seq ?_
    refine hx_region ?_
    refine hl_val rfl rfl (v := (.int .i64 regions)) (hv_move rfl) ?_
    refine hl_step rfl rfl (hs_call Ty.cb10 (vs := [(.int .i64 regions)]) rfl (HC.mono H ?_))
    rintro _ h2 ⟨r0, r1, rfl, H⟩
    refine hl_val rfl rfl (v := (.tuple #[(.pointer r0), (.int .i64 r1)])) (hv_move rfl) ?_
    refine hl_val rfl rfl (v := (.pointer r0)) (hv_extract (vs := #[(.pointer r0), (.int .i64 r1)]) rfl rfl) ?_
    refine hl_val rfl rfl (v := (.int .i64 r1)) (hv_extract (vs := #[(.pointer r0), (.int .i64 r1)]) rfl rfl) ?_
    refine hl_val rfl rfl (v := (.pointer r0)) (hv_assign rfl) ?_
    refine hl_val rfl rfl (v := (.int .i64 r1)) (hv_assign rfl) ?_
    refine hl_nil ?_
    refine seqQ_n ?_
    refine hx_seq ?_
    refine hx_seq ?_
    refine hx_region ?_
    refine hl_val rfl rfl (v := (.int .i64 r1)) (hv_move rfl) ?_
    refine hl_val rfl rfl (v := (.bool (r1 != 0))) (hv_arith rfl rfl rfl) ?_
    refine hl_nil ?_
    refine seqQ_n ?_
    refine hx_cond (b := r1 != 0) rfl (fun hb93 => ?_) (fun hb93 => ?_)
    · replace H := H.1 hb93
      refine hx_seq ?_
      refine hx_region ?_
      refine hl_val rfl rfl (v := (.pointer r0)) (hv_move rfl) ?_
      refine hl_val rfl rfl (v := (.bool r0.isNone)) (hv_ptrNil Ty.up24 rfl rfl) ?_
      refine hl_val rfl rfl (v := (.bool r0.isNone)) (hv_assign rfl) ?_
      refine hl_nil ?_
      refine seqQ_n ?_
      refine hx_ret ?_
      refine seqQ_ret ?_
      exact endQ_ret _ (res_one Try.results3 (rv_tmp rfl)) H
    · replace H := H.2 hb93
      refine hx_skip ?_
      refine seqQ_n ?_
      refine hx_seq ?_
      refine hx_seq ?_
      refine hx_region ?_
      refine hl_val rfl rfl (v := (.int .i64 0)) (hv_assign rfl) ?_
      refine hl_nil ?_
      refine seqQ_n ?_
      refine hx_block ?_
      obtain ⟨I1, mu2, Ha3, Hr4⟩ := H
      refine hx_loopT (σ := Int) (fun s => [(0, (.int .i64 regions)), (1, (.slice l l_n l_c)), (5, (.pointer r0)), (7, (.int .i64 s))]) (fun s h' => I1 s h') (fun s h' => mu2 s h') 0 Ha3 (has_cons rfl (has_cons rfl (has_cons rfl (has_cons rfl has_nil)))) ?_
      rintro i ρ h3 Hi5
      have H := Hr4 i h3 Hi5
      refine hx_seq ?_
      refine hx_seq ?_
      refine hx_region ?_
      refine hl_val rfl rfl (v := (.int .i64 i)) (hv_move rfl) ?_
      refine hl_val rfl rfl (v := (.slice l l_n l_c)) (hv_move rfl) ?_
      refine hl_val rfl rfl (v := (.int .i64 (l_n : Int))) (hv_len (n := l_n) Ty.u22 rfl) ?_
      refine hl_val rfl rfl (v := (.bool (decide (i < (l_n : Int))))) (hv_arith rfl rfl rfl) ?_
      refine hl_nil ?_
      refine seqQ_n ?_
      refine hx_cond (b := decide (i < (l_n : Int))) rfl (fun hb92 => ?_) (fun hb92 => ?_)
      · replace H := H.1 hb92
        refine hx_skip ?_
        refine seqQ_n ?_
        refine hx_seq ?_
        refine hx_block ?_
        refine hx_seq ?_
        refine hx_region ?_
        refine hl_val rfl rfl (v := (.slice none 0 0)) (hv_assign rfl) ?_
        refine hl_nil ?_
        refine seqQ_n ?_
        refine hx_seq ?_
        refine hx_seq ?_
        refine hx_region ?_
        refine hl_val rfl rfl (v := (.int .i64 0)) (hv_assign rfl) ?_
        refine hl_nil ?_
        refine seqQ_n ?_
        refine hx_block ?_
        obtain ⟨I6, mu7, Ha8, Hr9⟩ := H
        refine hx_loopT (σ := Option Addr × Nat × Nat × Int) (fun s => [(0, (.int .i64 regions)), (1, (.slice l l_n l_c)), (5, (.pointer r0)), (7, (.int .i64 i)), (8, (.slice s.1 s.2.1 s.2.2.1)), (9, (.int .i64 s.2.2.2))]) (fun s h' => I6 s.1 s.2.1 s.2.2.1 s.2.2.2 h') (fun s h' => mu7 s.1 s.2.1 s.2.2.1 s.2.2.2 h') (none, 0, 0, 0) Ha8 (has_cons rfl (has_cons rfl (has_cons rfl (has_cons rfl (has_cons rfl (has_cons rfl has_nil)))))) ?_
        rintro ⟨ahead, ahead_n, ahead_c, k⟩ ρ h4 Hi10
        have H := Hr9 ahead ahead_n ahead_c k h4 Hi10
        refine hx_seq ?_
        refine hx_seq ?_
        refine hx_region ?_
        refine hl_val rfl rfl (v := (.int .i64 k)) (hv_move rfl) ?_
        refine hl_val rfl rfl (v := (.int .i64 regions)) (hv_move rfl) ?_
        refine hl_val rfl rfl (v := (.bool (decide (k < regions)))) (hv_arith rfl rfl rfl) ?_
        refine hl_nil ?_
        refine seqQ_n ?_
        refine hx_cond (b := decide (k < regions)) rfl (fun hb91 => ?_) (fun hb91 => ?_)
        · replace H := H.1 hb91
          refine hx_skip ?_
          refine seqQ_n ?_
          refine hx_seq ?_
          refine hx_block ?_
          refine hx_seq ?_
          refine hx_region ?_
          refine hl_val rfl rfl (v := (.pointer r0)) (hv_move rfl) ?_
          refine hl_val rfl rfl (v := (.int .i64 k)) (hv_move rfl) ?_
          refine hl_step rfl rfl (hs_call Ty.cb11 (vs := [(.pointer r0), (.int .i64 k)]) rfl (HC.mono H ?_))
          rintro _ h5 ⟨r0_State, r0_Sequence, r0_Pins, r0_Erases, r1_1, rfl, H⟩
          refine hl_val rfl rfl (v := (.tuple #[(.agg #[(.int .i64 r0_State), (.int .u64 r0_Sequence), (.int .i64 r0_Pins), (.int .i64 r0_Erases)]), (.bool r1_1)])) (hv_move rfl) ?_
          refine hl_val rfl rfl (v := (.agg #[(.int .i64 r0_State), (.int .u64 r0_Sequence), (.int .i64 r0_Pins), (.int .i64 r0_Erases)])) (hv_extract (vs := #[(.agg #[(.int .i64 r0_State), (.int .u64 r0_Sequence), (.int .i64 r0_Pins), (.int .i64 r0_Erases)]), (.bool r1_1)]) rfl rfl) ?_
          refine hl_val rfl rfl (v := (.bool r1_1)) (hv_extract (vs := #[(.agg #[(.int .i64 r0_State), (.int .u64 r0_Sequence), (.int .i64 r0_Pins), (.int .i64 r0_Erases)]), (.bool r1_1)]) rfl rfl) ?_
          refine hl_step rfl rfl (hn_alloc Ty.z31 ?_)
          intro x h6 eb11 eh12
          replace H := H x h6 eb11 eh12
          obtain ⟨hw13, H⟩ := H
          refine hl_step rfl rfl (hn_stores (vs := [(.int .i64 r0_State), (.int .u64 r0_Sequence), (.int .i64 r0_Pins), (.int .i64 r0_Erases)]) rfl rfl Ty.sz31 rfl hw13 ?_)
          intro h7 eh14
          replace H := H h7 eh14
          refine hl_val rfl rfl (v := (.bool r1_1)) (hv_assign rfl) ?_
          refine hl_nil ?_
          refine seqQ_n ?_
          refine hx_region ?_
          refine hl_val rfl rfl (v := (.slice ahead ahead_n ahead_c)) (hv_move rfl) ?_
          obtain ⟨x_State, x_Sequence, x_Pins, x_Erases, hc17, hc18, hc19, hc20, H⟩ := H
          refine hl_val rfl rfl (v := (.agg #[(.int .i64 x_State), (.int .u64 x_Sequence), (.int .i64 x_Pins), (.int .i64 x_Erases)])) (hv_loads (vs := [(.int .i64 x_State), (.int .u64 x_Sequence), (.int .i64 x_Pins), (.int .i64 x_Erases)]) Ty.agg31 Ty.sz31 rfl (hcells_cons hc17 (hcells_cons hc18 (hcells_cons hc19 (hcells_cons hc20 hcells_nil))))) ?_
          refine hl_step rfl rfl (hn_buildSlice (n := 1) (vs := [(0, (.agg #[(.int .i64 x_State), (.int .u64 x_Sequence), (.int .i64 x_Pins), (.int .i64 x_Erases)]))]) (cs := #[(.int .i64 x_State), (.int .u64 x_Sequence), (.int .i64 x_Pins), (.int .i64 x_Erases)]) Ty.u28 Ty.sz31 Ty.z31 rfl rfl (by kernel_rfl) ?_)
          intro nb h8 eb15 eh16
          replace H := H nb h8 eb15 eh16
          refine hl_step rfl rfl (hs_append rfl rfl (HAppend.mono H ?_))
          rintro _ h9 ⟨ap, ap_n, ap_c, rfl, H⟩
          refine hl_val rfl rfl (v := (.slice ap ap_n ap_c)) (hv_assign rfl) ?_
          refine hl_nil ?_
          refine blockQ_n ?_
          refine seqQ_n ?_
          refine hx_region ?_
          refine hl_val rfl rfl (v := (.int .i64 k)) (hv_move rfl) ?_
          refine hl_val rfl rfl (v := (.int .i64 (IntKind.i64.wrap (k + 1)))) (hv_arith rfl rfl rfl) ?_
          refine hl_val rfl rfl (v := (.int .i64 (IntKind.i64.wrap (k + 1)))) (hv_assign rfl) ?_
          refine hl_nil ?_
          refine seqQ_n ?_
          exact ⟨(ap, ap_n, ap_c, IntKind.i64.wrap (k + 1)), H, (has_cons rfl (has_cons rfl (has_cons rfl (has_cons rfl (has_cons rfl (has_cons rfl has_nil))))))⟩
        · replace H := H.2 hb91
          refine hx_exit ?_
          refine seqQ_exit ?_
          refine seqQ_exit ?_
          refine blockQ_here ?_
          refine seqQ_n ?_
          refine hx_seq ?_
          refine hx_region ?_
          refine hl_val rfl rfl (v := (.pointer r0)) (hv_move rfl) ?_
          refine hl_val rfl rfl (v := (.slice l l_n l_c)) (hv_move rfl) ?_
          refine hl_val rfl rfl (v := (.int .i64 i)) (hv_move rfl) ?_
          obtain ⟨l_b, l_o, hqe, hi21, hi22, Hq⟩ := H
          subst hqe
          have H := Hq; clear Hq
          refine hl_val rfl rfl (v := (ptr l_b (l_o + (Int.toNat i) * 3))) (hv_index Ty.el22 rfl rfl hi21 hi22) ?_
          obtain ⟨x_Kind, x_N, x_Task, hc88, hc89, hc90, H⟩ := H
          refine hl_val rfl rfl (v := (.agg #[(.int .i64 x_Kind), (.int .i64 x_N), (.int .i64 x_Task)])) (hv_loads (vs := [(.int .i64 x_Kind), (.int .i64 x_N), (.int .i64 x_Task)]) Ty.agg36 Ty.sz36 rfl (hcells_cons hc88 (hcells_cons hc89 (hcells_cons hc90 hcells_nil)))) ?_
          refine hl_step rfl rfl (hs_call Ty.cb12 (vs := [(.pointer r0), (.agg #[(.int .i64 x_Kind), (.int .i64 x_N), (.int .i64 x_Task)])]) rfl (HC.mono H ?_))
          rintro _ h10 ⟨r_1, rfl, H⟩
          refine hl_nil ?_
          refine seqQ_n ?_
          refine hx_seq ?_
          refine hx_region ?_
          refine hl_val rfl rfl (v := (.int .i64 0)) (hv_assign rfl) ?_
          refine hl_nil ?_
          refine seqQ_n ?_
          refine hx_block ?_
          obtain ⟨I23, mu24, Ha25, Hr26⟩ := H
          refine hx_loopT (σ := Int) (fun s => [(0, (.int .i64 regions)), (1, (.slice (some ⟨l_b, l_o, none⟩) l_n l_c)), (5, (.pointer r0)), (7, (.int .i64 i)), (8, (.slice ahead ahead_n ahead_c)), (12, (.int .i64 s))]) (fun s h' => I23 s h') (fun s h' => mu24 s h') 0 Ha25 (has_cons rfl (has_cons rfl (has_cons rfl (has_cons rfl (has_cons rfl (has_cons rfl has_nil)))))) ?_
          rintro k_1 ρ h11 Hi27
          have H := Hr26 k_1 h11 Hi27
          refine hx_seq ?_
          refine hx_seq ?_
          refine hx_region ?_
          refine hl_val rfl rfl (v := (.int .i64 k_1)) (hv_move rfl) ?_
          refine hl_val rfl rfl (v := (.int .i64 regions)) (hv_move rfl) ?_
          refine hl_val rfl rfl (v := (.bool (decide (k_1 < regions)))) (hv_arith rfl rfl rfl) ?_
          refine hl_nil ?_
          refine seqQ_n ?_
          refine hx_cond (b := decide (k_1 < regions)) rfl (fun hb87 => ?_) (fun hb87 => ?_)
          · replace H := H.1 hb87
            refine hx_skip ?_
            refine seqQ_n ?_
            refine hx_seq ?_
            refine hx_block ?_
            refine hx_seq ?_
            refine hx_region ?_
            refine hl_val rfl rfl (v := (.pointer r0)) (hv_move rfl) ?_
            refine hl_val rfl rfl (v := (.int .i64 k_1)) (hv_move rfl) ?_
            refine hl_step rfl rfl (hs_call Ty.cb11 (vs := [(.pointer r0), (.int .i64 k_1)]) rfl (HC.mono H ?_))
            rintro _ h12 ⟨r0_State, r0_Sequence, r0_Pins, r0_Erases, r1_1, rfl, H⟩
            refine hl_val rfl rfl (v := (.tuple #[(.agg #[(.int .i64 r0_State), (.int .u64 r0_Sequence), (.int .i64 r0_Pins), (.int .i64 r0_Erases)]), (.bool r1_1)])) (hv_move rfl) ?_
            refine hl_val rfl rfl (v := (.agg #[(.int .i64 r0_State), (.int .u64 r0_Sequence), (.int .i64 r0_Pins), (.int .i64 r0_Erases)])) (hv_extract (vs := #[(.agg #[(.int .i64 r0_State), (.int .u64 r0_Sequence), (.int .i64 r0_Pins), (.int .i64 r0_Erases)]), (.bool r1_1)]) rfl rfl) ?_
            refine hl_val rfl rfl (v := (.bool r1_1)) (hv_extract (vs := #[(.agg #[(.int .i64 r0_State), (.int .u64 r0_Sequence), (.int .i64 r0_Pins), (.int .i64 r0_Erases)]), (.bool r1_1)]) rfl rfl) ?_
            refine hl_step rfl rfl (hn_alloc Ty.z31 ?_)
            intro x h13 eb28 eh29
            replace H := H x h13 eb28 eh29
            obtain ⟨hw30, H⟩ := H
            refine hl_step rfl rfl (hn_stores (vs := [(.int .i64 r0_State), (.int .u64 r0_Sequence), (.int .i64 r0_Pins), (.int .i64 r0_Erases)]) rfl rfl Ty.sz31 rfl hw30 ?_)
            intro h14 eh31
            replace H := H h14 eh31
            refine hl_val rfl rfl (v := (.bool r1_1)) (hv_assign rfl) ?_
            refine hl_nil ?_
            refine seqQ_n ?_
            refine hx_seq ?_
            refine hx_region ?_
            refine hl_val rfl rfl (v := (.slice ahead ahead_n ahead_c)) (hv_move rfl) ?_
            refine hl_val rfl rfl (v := (.int .i64 k_1)) (hv_move rfl) ?_
            obtain ⟨ahead_b, ahead_o, hqe, hi32, hi33, Hq⟩ := H
            subst hqe
            have H := Hq; clear Hq
            refine hl_val rfl rfl (v := (ptr ahead_b (ahead_o + (Int.toNat k_1) * 4))) (hv_index Ty.el28 rfl rfl hi32 hi33) ?_
            obtain ⟨x_State, x_Sequence, x_Pins, x_Erases, hc83, hc84, hc85, hc86, H⟩ := H
            refine hl_val rfl rfl (v := (.agg #[(.int .i64 x_State), (.int .u64 x_Sequence), (.int .i64 x_Pins), (.int .i64 x_Erases)])) (hv_loads (vs := [(.int .i64 x_State), (.int .u64 x_Sequence), (.int .i64 x_Pins), (.int .i64 x_Erases)]) Ty.agg31 Ty.sz31 rfl (hcells_cons hc83 (hcells_cons hc84 (hcells_cons hc85 (hcells_cons hc86 hcells_nil))))) ?_
            refine hl_step rfl rfl (hn_alloc Ty.z31 ?_)
            intro a h15 eb34 eh35
            replace H := H a h15 eb34 eh35
            obtain ⟨hw36, H⟩ := H
            refine hl_step rfl rfl (hn_stores (vs := [(.int .i64 x_State), (.int .u64 x_Sequence), (.int .i64 x_Pins), (.int .i64 x_Erases)]) rfl rfl Ty.sz31 rfl hw36 ?_)
            intro h16 eh37
            replace H := H h16 eh37
            refine hl_nil ?_
            refine seqQ_n ?_
            refine hx_seq ?_
            obtain ⟨j, Hx81, Hy82⟩ := H
            refine hx_cut (fun ρ h' => h16 = h' ∧ Has ρ [(0, (.int .i64 regions)), (1, (.slice (some ⟨l_b, l_o, none⟩) l_n l_c)), (5, (.pointer r0)), (7, (.int .i64 i)), (8, (.slice (some ⟨ahead_b, ahead_o, none⟩) ahead_n ahead_c)), (12, (.int .i64 k_1)), (13, (ptr x 0)), (15, (ptr a 0)), (96, (.bool j))]) ?_ ?_
            · have H := Hx81; clear Hx81 Hy82
              refine hx_region ?_
              refine hl_val rfl rfl (v := (.bool r1_1)) (hv_move rfl) ?_
              refine hl_val rfl rfl (v := (.bool (!r1_1))) (hv_not (b := r1_1) rfl) ?_
              refine hl_val rfl rfl (v := (.bool (!r1_1))) (hv_move rfl) ?_
              rcases bool_or (!r1_1) with hg38 | hg38
              · replace H := H.1 hg38
                refine hl_no (wanted_n rfl rfl rfl hg38) rfl ?_
                refine hl_no (wanted_n rfl rfl rfl hg38) rfl ?_
                refine hl_no (wanted_n rfl rfl rfl hg38) rfl ?_
                refine hl_no (wanted_n rfl rfl rfl hg38) rfl ?_
                refine hl_no (wanted_n rfl rfl rfl hg38) rfl ?_
                refine hl_no (wanted_n rfl rfl rfl hg38) rfl ?_
                refine hl_no (wanted_u rfl rfl rfl) rfl ?_
                refine hl_no (wanted_u rfl rfl rfl) rfl ?_
                refine hl_no (wanted_u rfl rfl rfl) rfl ?_
                refine hl_no (wanted_u rfl rfl rfl) rfl ?_
                refine hl_no (wanted_u rfl rfl rfl) rfl ?_
                refine hl_no (wanted_u rfl rfl rfl) rfl ?_
                refine hl_no (wanted_u rfl rfl rfl) rfl ?_
                refine hl_no (wanted_n rfl rfl rfl hg38) rfl ?_
                refine hl_val rfl rfl (v := (.bool true)) (hv_pick_t rfl hg38 rfl) ?_
                refine hl_val rfl rfl (v := (.bool true)) (hv_move rfl) ?_
                refine hl_no (wanted_n rfl rfl (c := true) rfl rfl) rfl ?_
                refine hl_no (wanted_n rfl rfl (c := true) rfl rfl) rfl ?_
                refine hl_no (wanted_n rfl rfl (c := true) rfl rfl) rfl ?_
                refine hl_val rfl rfl (v := (.bool true)) (hv_pick (t := true) rfl rfl) ?_
                refine hl_val rfl rfl (v := (.bool true)) (hv_move rfl) ?_
                refine hl_no (wanted_n rfl rfl (c := true) rfl rfl) rfl ?_
                refine hl_no (wanted_n rfl rfl (c := true) rfl rfl) rfl ?_
                refine hl_no (wanted_n rfl rfl (c := true) rfl rfl) rfl ?_
                refine hl_val rfl rfl (v := (.bool true)) (hv_pick (t := true) rfl rfl) ?_
                refine hl_nil ?_
                refine seqQ_n ?_
                obtain rfl := H
                exact ⟨rfl, (has_cons rfl (has_cons rfl (has_cons rfl (has_cons rfl (has_cons rfl (has_cons rfl (has_cons rfl (has_cons rfl (has_cons rfl has_nil)))))))))⟩
              · replace H := H.2 hg38
                refine hl_yes (wanted_y rfl rfl rfl hg38) rfl (HStep.of_val (v := (ptr x 0)) (hv_field Ty.fld31_0 (b := x) (o := 0) rfl) ?_)
                obtain ⟨x_1, hc50, H⟩ := H
                refine hl_yes (wanted_y rfl rfl rfl hg38) rfl (HStep.of_val (v := (.int .i64 x_1)) (hv_load Ty.agg3 rfl hc50) ?_)
                refine hl_yes (wanted_y rfl rfl rfl hg38) rfl (HStep.of_val (v := (ptr a 0)) (hv_field Ty.fld31_0 (b := a) (o := 0) rfl) ?_)
                obtain ⟨x_2, hc49, H⟩ := H
                refine hl_yes (wanted_y rfl rfl rfl hg38) rfl (HStep.of_val (v := (.int .i64 x_2)) (hv_load Ty.agg3 rfl hc49) ?_)
                refine hl_yes (wanted_y rfl rfl rfl hg38) rfl (HStep.of_val (v := (.bool (x_1 != x_2))) (hv_arith rfl rfl rfl) ?_)
                refine hl_yes (wanted_y rfl rfl rfl hg38) rfl (HStep.of_val (v := (.bool (x_1 != x_2))) (hv_move rfl) ?_)
                rcases bool_or (x_1 != x_2) with hg39 | hg39
                · replace H := H.1 hg39
                  refine hl_yes (wanted_y rfl rfl rfl hg39) rfl (HStep.of_val (v := (ptr x 0)) (hv_field Ty.fld31_0 (b := x) (o := 0) rfl) ?_)
                  obtain ⟨x_3, hc45, H⟩ := H
                  refine hl_yes (wanted_y rfl rfl rfl hg39) rfl (HStep.of_val (v := (.int .i64 x_3)) (hv_load Ty.agg3 rfl hc45) ?_)
                  refine hl_yes (wanted_y rfl rfl rfl hg39) rfl (HStep.of_val (v := (ptr a 0)) (hv_field Ty.fld31_0 (b := a) (o := 0) rfl) ?_)
                  obtain ⟨x_4, hc44, H⟩ := H
                  refine hl_yes (wanted_y rfl rfl rfl hg39) rfl (HStep.of_val (v := (.int .i64 x_4)) (hv_load Ty.agg3 rfl hc44) ?_)
                  refine hl_yes (wanted_y rfl rfl rfl hg39) rfl (HStep.of_val (v := (.int .i64 (Int.tmod x_4 4))) (hv_rem rfl rfl (by decide)) ?_)
                  refine hl_yes (wanted_y rfl rfl rfl hg39) rfl (HStep.of_val (v := (.int .i64 (IntKind.i64.wrap ((Int.tmod x_4 4) + 1)))) (hv_arith rfl rfl rfl) ?_)
                  refine hl_yes (wanted_y rfl rfl rfl hg39) rfl (HStep.of_val (v := (.bool (x_3 != (IntKind.i64.wrap ((Int.tmod x_4 4) + 1))))) (hv_arith rfl rfl rfl) ?_)
                  refine hl_yes (wanted_y rfl rfl rfl hg38) rfl (HStep.of_val (v := (.bool (x_3 != (IntKind.i64.wrap ((Int.tmod x_4 4) + 1))))) (hv_pick_t rfl hg39 rfl) ?_)
                  refine hl_val rfl rfl (v := (.bool (x_3 != (IntKind.i64.wrap ((Int.tmod x_4 4) + 1))))) (hv_pick_f rfl hg38 rfl) ?_
                  refine hl_val rfl rfl (v := (.bool (x_3 != (IntKind.i64.wrap ((Int.tmod x_4 4) + 1))))) (hv_move rfl) ?_
                  rcases bool_or (x_3 != (IntKind.i64.wrap ((Int.tmod x_4 4) + 1))) with hg40 | hg40
                  · replace H := H.1 hg40
                    refine hl_no (wanted_n rfl rfl rfl hg40) rfl ?_
                    refine hl_no (wanted_n rfl rfl rfl hg40) rfl ?_
                    refine hl_no (wanted_n rfl rfl rfl hg40) rfl ?_
                    refine hl_val rfl rfl (v := (.bool true)) (hv_pick_t rfl hg40 rfl) ?_
                    refine hl_val rfl rfl (v := (.bool true)) (hv_move rfl) ?_
                    refine hl_no (wanted_n rfl rfl (c := true) rfl rfl) rfl ?_
                    refine hl_no (wanted_n rfl rfl (c := true) rfl rfl) rfl ?_
                    refine hl_no (wanted_n rfl rfl (c := true) rfl rfl) rfl ?_
                    refine hl_val rfl rfl (v := (.bool true)) (hv_pick (t := true) rfl rfl) ?_
                    refine hl_nil ?_
                    refine seqQ_n ?_
                    obtain rfl := H
                    exact ⟨rfl, (has_cons rfl (has_cons rfl (has_cons rfl (has_cons rfl (has_cons rfl (has_cons rfl (has_cons rfl (has_cons rfl (has_cons rfl has_nil)))))))))⟩
                  · replace H := H.2 hg40
                    refine hl_yes (wanted_y rfl rfl rfl hg40) rfl (HStep.of_val (v := (ptr x 0)) (hv_field Ty.fld31_0 (b := x) (o := 0) rfl) ?_)
                    obtain ⟨x_5, hc43, H⟩ := H
                    refine hl_yes (wanted_y rfl rfl rfl hg40) rfl (HStep.of_val (v := (.int .i64 x_5)) (hv_load Ty.agg3 rfl hc43) ?_)
                    refine hl_yes (wanted_y rfl rfl rfl hg40) rfl (HStep.of_val (v := (.bool (decide (x_5 < 1)))) (hv_arith rfl rfl rfl) ?_)
                    refine hl_val rfl rfl (v := (.bool (decide (x_5 < 1)))) (hv_pick_f rfl hg40 rfl) ?_
                    refine hl_val rfl rfl (v := (.bool (decide (x_5 < 1)))) (hv_move rfl) ?_
                    rcases bool_or (decide (x_5 < 1)) with hg41 | hg41
                    · replace H := H.1 hg41
                      refine hl_no (wanted_n rfl rfl rfl hg41) rfl ?_
                      refine hl_no (wanted_n rfl rfl rfl hg41) rfl ?_
                      refine hl_no (wanted_n rfl rfl rfl hg41) rfl ?_
                      refine hl_val rfl rfl (v := (.bool true)) (hv_pick_t rfl hg41 rfl) ?_
                      refine hl_nil ?_
                      refine seqQ_n ?_
                      obtain rfl := H
                      exact ⟨rfl, (has_cons rfl (has_cons rfl (has_cons rfl (has_cons rfl (has_cons rfl (has_cons rfl (has_cons rfl (has_cons rfl (has_cons rfl has_nil)))))))))⟩
                    · replace H := H.2 hg41
                      refine hl_yes (wanted_y rfl rfl rfl hg41) rfl (HStep.of_val (v := (ptr x 0)) (hv_field Ty.fld31_0 (b := x) (o := 0) rfl) ?_)
                      obtain ⟨x_6, hc42, H⟩ := H
                      refine hl_yes (wanted_y rfl rfl rfl hg41) rfl (HStep.of_val (v := (.int .i64 x_6)) (hv_load Ty.agg3 rfl hc42) ?_)
                      refine hl_yes (wanted_y rfl rfl rfl hg41) rfl (HStep.of_val (v := (.bool (decide (x_6 > 4)))) (hv_arith rfl rfl rfl) ?_)
                      refine hl_val rfl rfl (v := (.bool (decide (x_6 > 4)))) (hv_pick_f rfl hg41 rfl) ?_
                      refine hl_nil ?_
                      refine seqQ_n ?_
                      obtain rfl := H
                      exact ⟨rfl, (has_cons rfl (has_cons rfl (has_cons rfl (has_cons rfl (has_cons rfl (has_cons rfl (has_cons rfl (has_cons rfl (has_cons rfl has_nil)))))))))⟩
                · replace H := H.2 hg39
                  refine hl_no (wanted_n rfl rfl rfl hg39) rfl ?_
                  refine hl_no (wanted_n rfl rfl rfl hg39) rfl ?_
                  refine hl_no (wanted_n rfl rfl rfl hg39) rfl ?_
                  refine hl_no (wanted_n rfl rfl rfl hg39) rfl ?_
                  refine hl_no (wanted_n rfl rfl rfl hg39) rfl ?_
                  refine hl_no (wanted_n rfl rfl rfl hg39) rfl ?_
                  refine hl_no (wanted_n rfl rfl rfl hg39) rfl ?_
                  refine hl_yes (wanted_y rfl rfl rfl hg38) rfl (HStep.of_val (v := (.bool false)) (hv_pick_f rfl hg39 rfl) ?_)
                  refine hl_val rfl rfl (v := (.bool false)) (hv_pick_f rfl hg38 rfl) ?_
                  refine hl_val rfl rfl (v := (.bool false)) (hv_move rfl) ?_
                  refine hl_yes (wanted_y rfl rfl (c := false) rfl rfl) rfl (HStep.of_val (v := (ptr x 0)) (hv_field Ty.fld31_0 (b := x) (o := 0) rfl) ?_)
                  obtain ⟨x_3, hc48, H⟩ := H
                  refine hl_yes (wanted_y rfl rfl (c := false) rfl rfl) rfl (HStep.of_val (v := (.int .i64 x_3)) (hv_load Ty.agg3 rfl hc48) ?_)
                  refine hl_yes (wanted_y rfl rfl (c := false) rfl rfl) rfl (HStep.of_val (v := (.bool (decide (x_3 < 1)))) (hv_arith rfl rfl rfl) ?_)
                  refine hl_val rfl rfl (v := (.bool (decide (x_3 < 1)))) (hv_pick (t := false) rfl rfl) ?_
                  refine hl_val rfl rfl (v := (.bool (decide (x_3 < 1)))) (hv_move rfl) ?_
                  rcases bool_or (decide (x_3 < 1)) with hg46 | hg46
                  · replace H := H.1 hg46
                    refine hl_no (wanted_n rfl rfl rfl hg46) rfl ?_
                    refine hl_no (wanted_n rfl rfl rfl hg46) rfl ?_
                    refine hl_no (wanted_n rfl rfl rfl hg46) rfl ?_
                    refine hl_val rfl rfl (v := (.bool true)) (hv_pick_t rfl hg46 rfl) ?_
                    refine hl_nil ?_
                    refine seqQ_n ?_
                    obtain rfl := H
                    exact ⟨rfl, (has_cons rfl (has_cons rfl (has_cons rfl (has_cons rfl (has_cons rfl (has_cons rfl (has_cons rfl (has_cons rfl (has_cons rfl has_nil)))))))))⟩
                  · replace H := H.2 hg46
                    refine hl_yes (wanted_y rfl rfl rfl hg46) rfl (HStep.of_val (v := (ptr x 0)) (hv_field Ty.fld31_0 (b := x) (o := 0) rfl) ?_)
                    obtain ⟨x_4, hc47, H⟩ := H
                    refine hl_yes (wanted_y rfl rfl rfl hg46) rfl (HStep.of_val (v := (.int .i64 x_4)) (hv_load Ty.agg3 rfl hc47) ?_)
                    refine hl_yes (wanted_y rfl rfl rfl hg46) rfl (HStep.of_val (v := (.bool (decide (x_4 > 4)))) (hv_arith rfl rfl rfl) ?_)
                    refine hl_val rfl rfl (v := (.bool (decide (x_4 > 4)))) (hv_pick_f rfl hg46 rfl) ?_
                    refine hl_nil ?_
                    refine seqQ_n ?_
                    obtain rfl := H
                    exact ⟨rfl, (has_cons rfl (has_cons rfl (has_cons rfl (has_cons rfl (has_cons rfl (has_cons rfl (has_cons rfl (has_cons rfl (has_cons rfl has_nil)))))))))⟩
            · have H := Hy82; clear Hx81 Hy82
              rintro ρ _ ⟨rfl, hH⟩
              refine hx_has _ hH ?_
              refine hx_cond (b := j) rfl (fun hb80 => ?_) (fun hb80 => ?_)
              · replace H := H.1 hb80
                refine hx_seq ?_
                refine hx_region ?_
                refine hl_val rfl rfl (v := (.bool false)) (hv_assign rfl) ?_
                refine hl_nil ?_
                refine seqQ_n ?_
                refine hx_ret ?_
                refine seqQ_ret ?_
                refine blockQ_ret ?_
                refine seqQ_ret ?_
                refine seqQ_ret ?_
                refine blockQ_ret ?_
                refine blockQ_ret ?_
                refine seqQ_ret ?_
                refine seqQ_ret ?_
                refine blockQ_ret ?_
                refine seqQ_ret ?_
                exact endQ_ret _ (res_one Try.results3 (rv_tmp rfl)) H
              · replace H := H.2 hb80
                refine hx_skip ?_
                refine seqQ_n ?_
                refine hx_seq ?_
                obtain ⟨j_1, Hx78, Hy79⟩ := H
                refine hx_cut (fun ρ h' => h16 = h' ∧ Has ρ [(0, (.int .i64 regions)), (1, (.slice (some ⟨l_b, l_o, none⟩) l_n l_c)), (5, (.pointer r0)), (7, (.int .i64 i)), (8, (.slice (some ⟨ahead_b, ahead_o, none⟩) ahead_n ahead_c)), (12, (.int .i64 k_1)), (13, (ptr x 0)), (15, (ptr a 0)), (121, (.bool j_1))]) ?_ ?_
                · have H := Hx78; clear Hx78 Hy79
                  refine hx_region ?_
                  refine hl_val rfl rfl (v := (ptr a 0)) (hv_field Ty.fld31_0 (b := a) (o := 0) rfl) ?_
                  obtain ⟨x_7, hc65, H⟩ := H
                  refine hl_val rfl rfl (v := (.int .i64 x_7)) (hv_load Ty.agg3 rfl hc65) ?_
                  refine hl_val rfl rfl (v := (.bool (x_7 == 4))) (hv_arith rfl rfl rfl) ?_
                  refine hl_val rfl rfl (v := (.bool (x_7 == 4))) (hv_move rfl) ?_
                  rcases bool_or (x_7 == 4) with hg51 | hg51
                  · replace H := H.1 hg51
                    refine hl_yes (wanted_y rfl rfl rfl hg51) rfl (HStep.of_val (v := (ptr x 2)) (hv_field Ty.fld31_2 (b := x) (o := 0) rfl) ?_)
                    obtain ⟨x_8, hc59, H⟩ := H
                    refine hl_yes (wanted_y rfl rfl rfl hg51) rfl (HStep.of_val (v := (.int .i64 x_8)) (hv_load Ty.agg3 rfl hc59) ?_)
                    refine hl_yes (wanted_y rfl rfl rfl hg51) rfl (HStep.of_val (v := (ptr a 2)) (hv_field Ty.fld31_2 (b := a) (o := 0) rfl) ?_)
                    obtain ⟨x_9, hc58, H⟩ := H
                    refine hl_yes (wanted_y rfl rfl rfl hg51) rfl (HStep.of_val (v := (.int .i64 x_9)) (hv_load Ty.agg3 rfl hc58) ?_)
                    refine hl_yes (wanted_y rfl rfl rfl hg51) rfl (HStep.of_val (v := (.bool (decide (x_8 > x_9)))) (hv_arith rfl rfl rfl) ?_)
                    refine hl_val rfl rfl (v := (.bool (decide (x_8 > x_9)))) (hv_pick_t rfl hg51 rfl) ?_
                    refine hl_val rfl rfl (v := (.bool (decide (x_8 > x_9)))) (hv_move rfl) ?_
                    rcases bool_or (decide (x_8 > x_9)) with hg52 | hg52
                    · replace H := H.1 hg52
                      refine hl_no (wanted_n rfl rfl rfl hg52) rfl ?_
                      refine hl_no (wanted_n rfl rfl rfl hg52) rfl ?_
                      refine hl_no (wanted_n rfl rfl rfl hg52) rfl ?_
                      refine hl_no (wanted_n rfl rfl rfl hg52) rfl ?_
                      refine hl_no (wanted_u rfl rfl rfl) rfl ?_
                      refine hl_no (wanted_u rfl rfl rfl) rfl ?_
                      refine hl_no (wanted_u rfl rfl rfl) rfl ?_
                      refine hl_no (wanted_u rfl rfl rfl) rfl ?_
                      refine hl_no (wanted_u rfl rfl rfl) rfl ?_
                      refine hl_no (wanted_u rfl rfl rfl) rfl ?_
                      refine hl_no (wanted_u rfl rfl rfl) rfl ?_
                      refine hl_no (wanted_u rfl rfl rfl) rfl ?_
                      refine hl_no (wanted_n rfl rfl rfl hg52) rfl ?_
                      refine hl_val rfl rfl (v := (.bool true)) (hv_pick_t rfl hg52 rfl) ?_
                      refine hl_nil ?_
                      refine seqQ_n ?_
                      obtain rfl := H
                      exact ⟨rfl, (has_cons rfl (has_cons rfl (has_cons rfl (has_cons rfl (has_cons rfl (has_cons rfl (has_cons rfl (has_cons rfl (has_cons rfl has_nil)))))))))⟩
                    · replace H := H.2 hg52
                      refine hl_yes (wanted_y rfl rfl rfl hg52) rfl (HStep.of_val (v := (ptr x 0)) (hv_field Ty.fld31_0 (b := x) (o := 0) rfl) ?_)
                      obtain ⟨x_10, hc57, H⟩ := H
                      refine hl_yes (wanted_y rfl rfl rfl hg52) rfl (HStep.of_val (v := (.int .i64 x_10)) (hv_load Ty.agg3 rfl hc57) ?_)
                      refine hl_yes (wanted_y rfl rfl rfl hg52) rfl (HStep.of_val (v := (.bool (x_10 == 1))) (hv_arith rfl rfl rfl) ?_)
                      refine hl_yes (wanted_y rfl rfl rfl hg52) rfl (HStep.of_val (v := (.bool (x_10 == 1))) (hv_move rfl) ?_)
                      rcases bool_or (x_10 == 1) with hg53 | hg53
                      · replace H := H.1 hg53
                        refine hl_yes (wanted_y rfl rfl rfl hg53) rfl (HStep.of_val (v := (ptr x 2)) (hv_field Ty.fld31_2 (b := x) (o := 0) rfl) ?_)
                        obtain ⟨x_11, hc56, H⟩ := H
                        refine hl_yes (wanted_y rfl rfl rfl hg53) rfl (HStep.of_val (v := (.int .i64 x_11)) (hv_load Ty.agg3 rfl hc56) ?_)
                        refine hl_yes (wanted_y rfl rfl rfl hg53) rfl (HStep.of_val (v := (.bool (x_11 != 0))) (hv_arith rfl rfl rfl) ?_)
                        refine hl_yes (wanted_y rfl rfl rfl hg53) rfl (HStep.of_val (v := (.bool (x_11 != 0))) (hv_move rfl) ?_)
                        rcases bool_or (x_11 != 0) with hg54 | hg54
                        · replace H := H.1 hg54
                          refine hl_no (wanted_n rfl rfl rfl hg54) rfl ?_
                          refine hl_no (wanted_n rfl rfl rfl hg54) rfl ?_
                          refine hl_no (wanted_n rfl rfl rfl hg54) rfl ?_
                          refine hl_yes (wanted_y rfl rfl rfl hg53) rfl (HStep.of_val (v := (.bool true)) (hv_pick_t rfl hg54 rfl) ?_)
                          refine hl_yes (wanted_y rfl rfl rfl hg52) rfl (HStep.of_val (v := (.bool true)) (hv_pick_t rfl hg53 rfl) ?_)
                          refine hl_val rfl rfl (v := (.bool true)) (hv_pick_f rfl hg52 rfl) ?_
                          refine hl_nil ?_
                          refine seqQ_n ?_
                          obtain rfl := H
                          exact ⟨rfl, (has_cons rfl (has_cons rfl (has_cons rfl (has_cons rfl (has_cons rfl (has_cons rfl (has_cons rfl (has_cons rfl (has_cons rfl has_nil)))))))))⟩
                        · replace H := H.2 hg54
                          refine hl_yes (wanted_y rfl rfl rfl hg54) rfl (HStep.of_val (v := (ptr x 1)) (hv_field Ty.fld31_1 (b := x) (o := 0) rfl) ?_)
                          obtain ⟨x_12, hc55, H⟩ := H
                          refine hl_yes (wanted_y rfl rfl rfl hg54) rfl (HStep.of_val (v := (.int .u64 x_12)) (hv_load Ty.agg29 rfl hc55) ?_)
                          refine hl_yes (wanted_y rfl rfl rfl hg54) rfl (HStep.of_val (v := (.bool (x_12 != 0))) (hv_arith rfl rfl rfl) ?_)
                          refine hl_yes (wanted_y rfl rfl rfl hg53) rfl (HStep.of_val (v := (.bool (x_12 != 0))) (hv_pick_f rfl hg54 rfl) ?_)
                          refine hl_yes (wanted_y rfl rfl rfl hg52) rfl (HStep.of_val (v := (.bool (x_12 != 0))) (hv_pick_t rfl hg53 rfl) ?_)
                          refine hl_val rfl rfl (v := (.bool (x_12 != 0))) (hv_pick_f rfl hg52 rfl) ?_
                          refine hl_nil ?_
                          refine seqQ_n ?_
                          obtain rfl := H
                          exact ⟨rfl, (has_cons rfl (has_cons rfl (has_cons rfl (has_cons rfl (has_cons rfl (has_cons rfl (has_cons rfl (has_cons rfl (has_cons rfl has_nil)))))))))⟩
                      · replace H := H.2 hg53
                        refine hl_no (wanted_n rfl rfl rfl hg53) rfl ?_
                        refine hl_no (wanted_n rfl rfl rfl hg53) rfl ?_
                        refine hl_no (wanted_n rfl rfl rfl hg53) rfl ?_
                        refine hl_no (wanted_n rfl rfl rfl hg53) rfl ?_
                        refine hl_no (wanted_u rfl rfl rfl) rfl ?_
                        refine hl_no (wanted_u rfl rfl rfl) rfl ?_
                        refine hl_no (wanted_u rfl rfl rfl) rfl ?_
                        refine hl_no (wanted_n rfl rfl rfl hg53) rfl ?_
                        refine hl_yes (wanted_y rfl rfl rfl hg52) rfl (HStep.of_val (v := (.bool false)) (hv_pick_f rfl hg53 rfl) ?_)
                        refine hl_val rfl rfl (v := (.bool false)) (hv_pick_f rfl hg52 rfl) ?_
                        refine hl_nil ?_
                        refine seqQ_n ?_
                        obtain rfl := H
                        exact ⟨rfl, (has_cons rfl (has_cons rfl (has_cons rfl (has_cons rfl (has_cons rfl (has_cons rfl (has_cons rfl (has_cons rfl (has_cons rfl has_nil)))))))))⟩
                  · replace H := H.2 hg51
                    refine hl_no (wanted_n rfl rfl rfl hg51) rfl ?_
                    refine hl_no (wanted_n rfl rfl rfl hg51) rfl ?_
                    refine hl_no (wanted_n rfl rfl rfl hg51) rfl ?_
                    refine hl_no (wanted_n rfl rfl rfl hg51) rfl ?_
                    refine hl_no (wanted_n rfl rfl rfl hg51) rfl ?_
                    refine hl_val rfl rfl (v := (.bool false)) (hv_pick_f rfl hg51 rfl) ?_
                    refine hl_val rfl rfl (v := (.bool false)) (hv_move rfl) ?_
                    refine hl_yes (wanted_y rfl rfl (c := false) rfl rfl) rfl (HStep.of_val (v := (ptr x 0)) (hv_field Ty.fld31_0 (b := x) (o := 0) rfl) ?_)
                    obtain ⟨x_8, hc64, H⟩ := H
                    refine hl_yes (wanted_y rfl rfl (c := false) rfl rfl) rfl (HStep.of_val (v := (.int .i64 x_8)) (hv_load Ty.agg3 rfl hc64) ?_)
                    refine hl_yes (wanted_y rfl rfl (c := false) rfl rfl) rfl (HStep.of_val (v := (.bool (x_8 == 1))) (hv_arith rfl rfl rfl) ?_)
                    refine hl_yes (wanted_y rfl rfl (c := false) rfl rfl) rfl (HStep.of_val (v := (.bool (x_8 == 1))) (hv_move rfl) ?_)
                    rcases bool_or (x_8 == 1) with hg60 | hg60
                    · replace H := H.1 hg60
                      refine hl_yes (wanted_y rfl rfl rfl hg60) rfl (HStep.of_val (v := (ptr x 2)) (hv_field Ty.fld31_2 (b := x) (o := 0) rfl) ?_)
                      obtain ⟨x_9, hc63, H⟩ := H
                      refine hl_yes (wanted_y rfl rfl rfl hg60) rfl (HStep.of_val (v := (.int .i64 x_9)) (hv_load Ty.agg3 rfl hc63) ?_)
                      refine hl_yes (wanted_y rfl rfl rfl hg60) rfl (HStep.of_val (v := (.bool (x_9 != 0))) (hv_arith rfl rfl rfl) ?_)
                      refine hl_yes (wanted_y rfl rfl rfl hg60) rfl (HStep.of_val (v := (.bool (x_9 != 0))) (hv_move rfl) ?_)
                      rcases bool_or (x_9 != 0) with hg61 | hg61
                      · replace H := H.1 hg61
                        refine hl_no (wanted_n rfl rfl rfl hg61) rfl ?_
                        refine hl_no (wanted_n rfl rfl rfl hg61) rfl ?_
                        refine hl_no (wanted_n rfl rfl rfl hg61) rfl ?_
                        refine hl_yes (wanted_y rfl rfl rfl hg60) rfl (HStep.of_val (v := (.bool true)) (hv_pick_t rfl hg61 rfl) ?_)
                        refine hl_yes (wanted_y rfl rfl (c := false) rfl rfl) rfl (HStep.of_val (v := (.bool true)) (hv_pick_t rfl hg60 rfl) ?_)
                        refine hl_val rfl rfl (v := (.bool true)) (hv_pick (t := false) rfl rfl) ?_
                        refine hl_nil ?_
                        refine seqQ_n ?_
                        obtain rfl := H
                        exact ⟨rfl, (has_cons rfl (has_cons rfl (has_cons rfl (has_cons rfl (has_cons rfl (has_cons rfl (has_cons rfl (has_cons rfl (has_cons rfl has_nil)))))))))⟩
                      · replace H := H.2 hg61
                        refine hl_yes (wanted_y rfl rfl rfl hg61) rfl (HStep.of_val (v := (ptr x 1)) (hv_field Ty.fld31_1 (b := x) (o := 0) rfl) ?_)
                        obtain ⟨x_10, hc62, H⟩ := H
                        refine hl_yes (wanted_y rfl rfl rfl hg61) rfl (HStep.of_val (v := (.int .u64 x_10)) (hv_load Ty.agg29 rfl hc62) ?_)
                        refine hl_yes (wanted_y rfl rfl rfl hg61) rfl (HStep.of_val (v := (.bool (x_10 != 0))) (hv_arith rfl rfl rfl) ?_)
                        refine hl_yes (wanted_y rfl rfl rfl hg60) rfl (HStep.of_val (v := (.bool (x_10 != 0))) (hv_pick_f rfl hg61 rfl) ?_)
                        refine hl_yes (wanted_y rfl rfl (c := false) rfl rfl) rfl (HStep.of_val (v := (.bool (x_10 != 0))) (hv_pick_t rfl hg60 rfl) ?_)
                        refine hl_val rfl rfl (v := (.bool (x_10 != 0))) (hv_pick (t := false) rfl rfl) ?_
                        refine hl_nil ?_
                        refine seqQ_n ?_
                        obtain rfl := H
                        exact ⟨rfl, (has_cons rfl (has_cons rfl (has_cons rfl (has_cons rfl (has_cons rfl (has_cons rfl (has_cons rfl (has_cons rfl (has_cons rfl has_nil)))))))))⟩
                    · replace H := H.2 hg60
                      refine hl_no (wanted_n rfl rfl rfl hg60) rfl ?_
                      refine hl_no (wanted_n rfl rfl rfl hg60) rfl ?_
                      refine hl_no (wanted_n rfl rfl rfl hg60) rfl ?_
                      refine hl_no (wanted_n rfl rfl rfl hg60) rfl ?_
                      refine hl_no (wanted_u rfl rfl rfl) rfl ?_
                      refine hl_no (wanted_u rfl rfl rfl) rfl ?_
                      refine hl_no (wanted_u rfl rfl rfl) rfl ?_
                      refine hl_no (wanted_n rfl rfl rfl hg60) rfl ?_
                      refine hl_yes (wanted_y rfl rfl (c := false) rfl rfl) rfl (HStep.of_val (v := (.bool false)) (hv_pick_f rfl hg60 rfl) ?_)
                      refine hl_val rfl rfl (v := (.bool false)) (hv_pick (t := false) rfl rfl) ?_
                      refine hl_nil ?_
                      refine seqQ_n ?_
                      obtain rfl := H
                      exact ⟨rfl, (has_cons rfl (has_cons rfl (has_cons rfl (has_cons rfl (has_cons rfl (has_cons rfl (has_cons rfl (has_cons rfl (has_cons rfl has_nil)))))))))⟩
                · have H := Hy79; clear Hx78 Hy79
                  rintro ρ _ ⟨rfl, hH⟩
                  refine hx_has _ hH ?_
                  refine hx_cond (b := j_1) rfl (fun hb77 => ?_) (fun hb77 => ?_)
                  · replace H := H.1 hb77
                    refine hx_seq ?_
                    refine hx_region ?_
                    refine hl_val rfl rfl (v := (.bool false)) (hv_assign rfl) ?_
                    refine hl_nil ?_
                    refine seqQ_n ?_
                    refine hx_ret ?_
                    refine seqQ_ret ?_
                    refine blockQ_ret ?_
                    refine seqQ_ret ?_
                    refine seqQ_ret ?_
                    refine blockQ_ret ?_
                    refine blockQ_ret ?_
                    refine seqQ_ret ?_
                    refine seqQ_ret ?_
                    refine blockQ_ret ?_
                    refine seqQ_ret ?_
                    exact endQ_ret _ (res_one Try.results3 (rv_tmp rfl)) H
                  · replace H := H.2 hb77
                    refine hx_skip ?_
                    refine seqQ_n ?_
                    obtain ⟨j_2, Hx75, Hy76⟩ := H
                    refine hx_cut (fun ρ h' => h16 = h' ∧ Has ρ [(0, (.int .i64 regions)), (1, (.slice (some ⟨l_b, l_o, none⟩) l_n l_c)), (5, (.pointer r0)), (7, (.int .i64 i)), (8, (.slice (some ⟨ahead_b, ahead_o, none⟩) ahead_n ahead_c)), (12, (.int .i64 k_1)), (142, (.bool j_2))]) ?_ ?_
                    · have H := Hx75; clear Hx75 Hy76
                      refine hx_region ?_
                      refine hl_val rfl rfl (v := (ptr a 0)) (hv_field Ty.fld31_0 (b := a) (o := 0) rfl) ?_
                      obtain ⟨x_13, hc73, H⟩ := H
                      refine hl_val rfl rfl (v := (.int .i64 x_13)) (hv_load Ty.agg3 rfl hc73) ?_
                      refine hl_val rfl rfl (v := (.bool (x_13 == 4))) (hv_arith rfl rfl rfl) ?_
                      refine hl_val rfl rfl (v := (.bool (x_13 == 4))) (hv_move rfl) ?_
                      rcases bool_or (x_13 == 4) with hg66 | hg66
                      · replace H := H.1 hg66
                        refine hl_yes (wanted_y rfl rfl rfl hg66) rfl (HStep.of_val (v := (ptr x 0)) (hv_field Ty.fld31_0 (b := x) (o := 0) rfl) ?_)
                        obtain ⟨x_14, hc72, H⟩ := H
                        refine hl_yes (wanted_y rfl rfl rfl hg66) rfl (HStep.of_val (v := (.int .i64 x_14)) (hv_load Ty.agg3 rfl hc72) ?_)
                        refine hl_yes (wanted_y rfl rfl rfl hg66) rfl (HStep.of_val (v := (.bool (x_14 == 1))) (hv_arith rfl rfl rfl) ?_)
                        refine hl_val rfl rfl (v := (.bool (x_14 == 1))) (hv_pick_t rfl hg66 rfl) ?_
                        refine hl_val rfl rfl (v := (.bool (x_14 == 1))) (hv_move rfl) ?_
                        rcases bool_or (x_14 == 1) with hg67 | hg67
                        · replace H := H.1 hg67
                          refine hl_yes (wanted_y rfl rfl rfl hg67) rfl (HStep.of_val (v := (ptr a 2)) (hv_field Ty.fld31_2 (b := a) (o := 0) rfl) ?_)
                          obtain ⟨x_15, hc71, H⟩ := H
                          refine hl_yes (wanted_y rfl rfl rfl hg67) rfl (HStep.of_val (v := (.int .i64 x_15)) (hv_load Ty.agg3 rfl hc71) ?_)
                          refine hl_yes (wanted_y rfl rfl rfl hg67) rfl (HStep.of_val (v := (.bool (x_15 != 0))) (hv_arith rfl rfl rfl) ?_)
                          refine hl_yes (wanted_y rfl rfl rfl hg67) rfl (HStep.of_val (v := (.bool (x_15 != 0))) (hv_move rfl) ?_)
                          rcases bool_or (x_15 != 0) with hg68 | hg68
                          · replace H := H.1 hg68
                            refine hl_no (wanted_n rfl rfl rfl hg68) rfl ?_
                            refine hl_no (wanted_n rfl rfl rfl hg68) rfl ?_
                            refine hl_no (wanted_n rfl rfl rfl hg68) rfl ?_
                            refine hl_no (wanted_n rfl rfl rfl hg68) rfl ?_
                            refine hl_no (wanted_n rfl rfl rfl hg68) rfl ?_
                            refine hl_no (wanted_n rfl rfl rfl hg68) rfl ?_
                            refine hl_yes (wanted_y rfl rfl rfl hg67) rfl (HStep.of_val (v := (.bool true)) (hv_pick_t rfl hg68 rfl) ?_)
                            refine hl_val rfl rfl (v := (.bool true)) (hv_pick_t rfl hg67 rfl) ?_
                            refine hl_nil ?_
                            refine seqQ_n ?_
                            obtain rfl := H
                            exact ⟨rfl, (has_cons rfl (has_cons rfl (has_cons rfl (has_cons rfl (has_cons rfl (has_cons rfl (has_cons rfl has_nil)))))))⟩
                          · replace H := H.2 hg68
                            refine hl_yes (wanted_y rfl rfl rfl hg68) rfl (HStep.of_val (v := (ptr x 3)) (hv_field Ty.fld31_3 (b := x) (o := 0) rfl) ?_)
                            obtain ⟨x_16, hc70, H⟩ := H
                            refine hl_yes (wanted_y rfl rfl rfl hg68) rfl (HStep.of_val (v := (.int .i64 x_16)) (hv_load Ty.agg3 rfl hc70) ?_)
                            refine hl_yes (wanted_y rfl rfl rfl hg68) rfl (HStep.of_val (v := (ptr a 3)) (hv_field Ty.fld31_3 (b := a) (o := 0) rfl) ?_)
                            obtain ⟨x_17, hc69, H⟩ := H
                            refine hl_yes (wanted_y rfl rfl rfl hg68) rfl (HStep.of_val (v := (.int .i64 x_17)) (hv_load Ty.agg3 rfl hc69) ?_)
                            refine hl_yes (wanted_y rfl rfl rfl hg68) rfl (HStep.of_val (v := (.int .i64 (IntKind.i64.wrap (x_17 + 1)))) (hv_arith rfl rfl rfl) ?_)
                            refine hl_yes (wanted_y rfl rfl rfl hg68) rfl (HStep.of_val (v := (.bool (x_16 != (IntKind.i64.wrap (x_17 + 1))))) (hv_arith rfl rfl rfl) ?_)
                            refine hl_yes (wanted_y rfl rfl rfl hg67) rfl (HStep.of_val (v := (.bool (x_16 != (IntKind.i64.wrap (x_17 + 1))))) (hv_pick_f rfl hg68 rfl) ?_)
                            refine hl_val rfl rfl (v := (.bool (x_16 != (IntKind.i64.wrap (x_17 + 1))))) (hv_pick_t rfl hg67 rfl) ?_
                            refine hl_nil ?_
                            refine seqQ_n ?_
                            obtain rfl := H
                            exact ⟨rfl, (has_cons rfl (has_cons rfl (has_cons rfl (has_cons rfl (has_cons rfl (has_cons rfl (has_cons rfl has_nil)))))))⟩
                        · replace H := H.2 hg67
                          refine hl_no (wanted_n rfl rfl rfl hg67) rfl ?_
                          refine hl_no (wanted_n rfl rfl rfl hg67) rfl ?_
                          refine hl_no (wanted_n rfl rfl rfl hg67) rfl ?_
                          refine hl_no (wanted_n rfl rfl rfl hg67) rfl ?_
                          refine hl_no (wanted_u rfl rfl rfl) rfl ?_
                          refine hl_no (wanted_u rfl rfl rfl) rfl ?_
                          refine hl_no (wanted_u rfl rfl rfl) rfl ?_
                          refine hl_no (wanted_u rfl rfl rfl) rfl ?_
                          refine hl_no (wanted_u rfl rfl rfl) rfl ?_
                          refine hl_no (wanted_u rfl rfl rfl) rfl ?_
                          refine hl_no (wanted_n rfl rfl rfl hg67) rfl ?_
                          refine hl_val rfl rfl (v := (.bool false)) (hv_pick_f rfl hg67 rfl) ?_
                          refine hl_nil ?_
                          refine seqQ_n ?_
                          obtain rfl := H
                          exact ⟨rfl, (has_cons rfl (has_cons rfl (has_cons rfl (has_cons rfl (has_cons rfl (has_cons rfl (has_cons rfl has_nil)))))))⟩
                      · replace H := H.2 hg66
                        refine hl_no (wanted_n rfl rfl rfl hg66) rfl ?_
                        refine hl_no (wanted_n rfl rfl rfl hg66) rfl ?_
                        refine hl_no (wanted_n rfl rfl rfl hg66) rfl ?_
                        refine hl_val rfl rfl (v := (.bool false)) (hv_pick_f rfl hg66 rfl) ?_
                        refine hl_val rfl rfl (v := (.bool false)) (hv_move rfl) ?_
                        refine hl_no (wanted_n rfl rfl (c := false) rfl rfl) rfl ?_
                        refine hl_no (wanted_n rfl rfl (c := false) rfl rfl) rfl ?_
                        refine hl_no (wanted_n rfl rfl (c := false) rfl rfl) rfl ?_
                        refine hl_no (wanted_n rfl rfl (c := false) rfl rfl) rfl ?_
                        refine hl_no (wanted_u rfl rfl rfl) rfl ?_
                        refine hl_no (wanted_u rfl rfl rfl) rfl ?_
                        refine hl_no (wanted_u rfl rfl rfl) rfl ?_
                        refine hl_no (wanted_u rfl rfl rfl) rfl ?_
                        refine hl_no (wanted_u rfl rfl rfl) rfl ?_
                        refine hl_no (wanted_u rfl rfl rfl) rfl ?_
                        refine hl_no (wanted_n rfl rfl (c := false) rfl rfl) rfl ?_
                        refine hl_val rfl rfl (v := (.bool false)) (hv_pick (t := false) rfl rfl) ?_
                        refine hl_nil ?_
                        refine seqQ_n ?_
                        obtain rfl := H
                        exact ⟨rfl, (has_cons rfl (has_cons rfl (has_cons rfl (has_cons rfl (has_cons rfl (has_cons rfl (has_cons rfl has_nil)))))))⟩
                    · have H := Hy76; clear Hx75 Hy76
                      rintro ρ _ ⟨rfl, hH⟩
                      refine hx_has _ hH ?_
                      refine hx_cond (b := j_2) rfl (fun hb74 => ?_) (fun hb74 => ?_)
                      · replace H := H.1 hb74
                        refine hx_seq ?_
                        refine hx_region ?_
                        refine hl_val rfl rfl (v := (.bool false)) (hv_assign rfl) ?_
                        refine hl_nil ?_
                        refine seqQ_n ?_
                        refine hx_ret ?_
                        refine blockQ_ret ?_
                        refine seqQ_ret ?_
                        refine seqQ_ret ?_
                        refine blockQ_ret ?_
                        refine blockQ_ret ?_
                        refine seqQ_ret ?_
                        refine seqQ_ret ?_
                        refine blockQ_ret ?_
                        refine seqQ_ret ?_
                        exact endQ_ret _ (res_one Try.results3 (rv_tmp rfl)) H
                      · replace H := H.2 hb74
                        refine hx_skip ?_
                        refine blockQ_n ?_
                        refine seqQ_n ?_
                        refine hx_region ?_
                        refine hl_val rfl rfl (v := (.int .i64 k_1)) (hv_move rfl) ?_
                        refine hl_val rfl rfl (v := (.int .i64 (IntKind.i64.wrap (k_1 + 1)))) (hv_arith rfl rfl rfl) ?_
                        refine hl_val rfl rfl (v := (.int .i64 (IntKind.i64.wrap (k_1 + 1)))) (hv_assign rfl) ?_
                        refine hl_nil ?_
                        refine seqQ_n ?_
                        exact ⟨IntKind.i64.wrap (k_1 + 1), H, (has_cons rfl (has_cons rfl (has_cons rfl (has_cons rfl (has_cons rfl (has_cons rfl has_nil))))))⟩
          · replace H := H.2 hb87
            refine hx_exit ?_
            refine seqQ_exit ?_
            refine seqQ_exit ?_
            refine blockQ_here ?_
            refine blockQ_n ?_
            refine seqQ_n ?_
            refine hx_region ?_
            refine hl_val rfl rfl (v := (.int .i64 i)) (hv_move rfl) ?_
            refine hl_val rfl rfl (v := (.int .i64 (IntKind.i64.wrap (i + 1)))) (hv_arith rfl rfl rfl) ?_
            refine hl_val rfl rfl (v := (.int .i64 (IntKind.i64.wrap (i + 1)))) (hv_assign rfl) ?_
            refine hl_nil ?_
            refine seqQ_n ?_
            exact ⟨IntKind.i64.wrap (i + 1), H, (has_cons rfl (has_cons rfl (has_cons rfl (has_cons rfl has_nil))))⟩
      · replace H := H.2 hb92
        refine hx_exit ?_
        refine seqQ_exit ?_
        refine seqQ_exit ?_
        refine blockQ_here ?_
        refine seqQ_n ?_
        refine hx_seq ?_
        refine hx_region ?_
        refine hl_val rfl rfl (v := (.bool true)) (hv_assign rfl) ?_
        refine hl_nil ?_
        refine seqQ_n ?_
        refine hx_ret ?_
        exact endQ_ret _ (res_one Try.results3 (rv_tmp rfl)) H

end Go.Proofs.Ytfdgjgjcppfmiaa
