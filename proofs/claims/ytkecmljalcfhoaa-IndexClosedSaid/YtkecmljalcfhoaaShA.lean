/-
Shallow forms, written by gen.py (a program of this session) out of the print of the program.
-/
import Derived.Test.YtkecmljalcfhoaaMor
import Derived.Test.YtkecmljalcfhoaaProg
namespace Go.Proofs.Ytkecmljalcfhoaa
open Go
set_option maxRecDepth 100000
set_option maxHeartbeats 4000000

theorem Ty.agg29 : aggB Try.prog 29 = some false := by kernel_rfl
theorem Ty.agg3 : aggB Try.prog 3 = some false := by kernel_rfl
theorem Ty.agg31 : aggB Try.prog 31 = some true := by kernel_rfl
theorem Ty.agg47 : aggB Try.prog 47 = some false := by kernel_rfl
theorem Ty.by31 : byB Try.prog 31 = some 32 := by kernel_rfl
theorem Ty.cb58 : CallB Try.prog 58 := fun _ _ => Try.call58 _ _
theorem Ty.cb62 : CallB Try.prog 62 := fun _ _ => Try.call62 _ _
theorem Ty.cb63 : CallB Try.prog 63 := fun _ _ => Try.call63 _ _
theorem Ty.cb64 : CallB Try.prog 64 := fun _ _ => Try.call64 _ _
theorem Ty.cb65 : CallB Try.prog 65 := fun _ _ => Try.call65 _ _
theorem Ty.cb66 : CallB Try.prog 66 := fun _ _ => Try.call66 _ _
theorem Ty.cb69 : CallB Try.prog 69 := fun _ _ => Try.call69 _ _
theorem Ty.el47 : elB Try.prog 47 = some 4 := by kernel_rfl
theorem Ty.fld31_0 : fldB Try.prog 31 0 = some 0 := by kernel_rfl
theorem Ty.fld31_1 : fldB Try.prog 31 1 = some 1 := by kernel_rfl
theorem Ty.fld87_0 : fldB Try.prog 87 0 = some 0 := by kernel_rfl
theorem Ty.fld87_1 : fldB Try.prog 87 1 = some 1 := by kernel_rfl
theorem Ty.fld87_3 : fldB Try.prog 87 3 = some 3 := by kernel_rfl
theorem Ty.mixed : Try.prog.follows .mixedOrders = true := by kernel_rfl
theorem Ty.sz3 : szB Try.prog 3 = some 1 := by kernel_rfl
theorem Ty.sz31 : szB Try.prog 31 = some 4 := by kernel_rfl
theorem Ty.sz47 : szB Try.prog 47 = some 1 := by kernel_rfl
theorem Ty.u29 : Try.prog.underlying 29 = some (.int .u64) := by kernel_rfl
theorem Ty.u3 : Try.prog.underlying 3 = some (.int .i64) := by kernel_rfl
theorem Ty.u47 : Try.prog.underlying 47 = some (.slice 31) := by kernel_rfl
theorem Ty.up70 : Try.prog.underlying 70 = some (.pointer 87) := by kernel_rfl
theorem Ty.z31 : zeroB Try.prog 31 (.agg #[(.int .u64 0), (.int .u64 0), (.int .u64 0), (.int .u8 0)]) := by unfold zeroB; kernel_rfl

/-- (*cellar/table.Table).made -/
theorem f64_sh (t : Option Addr) (h : Heap) (R : Value → Heap → Prop)
    (H : (∃ j : Bool, ((t.isSome = true → (∃ t_b t_o : Nat, t = some ⟨t_b, t_o, none⟩ ∧ (∃ x : Option Addr, ∃ x_n x_c : Nat, hcell h t_b t_o = some (.slice x x_n x_c) ∧ (j = (decide ((x_n : Int) > 0)))))) ∧ (t.isSome = false → (j = false))) ∧ R (.bool j) h)) :
    HC Try.prog 64 #[(.pointer t)] h R := by
  refine hc_of (args := [(.pointer t)]) Try.func64 rfl Try.ntmps64 (Nat.le_of_ble_eq_true rfl) ?_
  refine hx_seq ?_
  refine hx_region ?_
  refine hl_val rfl rfl (v := (.bool false)) (hv_assign rfl) ?_
  refine hl_nil ?_
  refine seqQ_n ?_
  obtain ⟨j, Hx3, Hy4⟩ := H
  refine hx_cut (fun ρ h' => h = h' ∧ Has ρ [(2, (.bool j))]) ?_ ?_
  · have H := Hx3; clear Hx3 Hy4
    refine hx_region ?_
    refine hl_val rfl rfl (v := (.pointer t)) (hv_move rfl) ?_
    refine hl_val rfl rfl (v := (.bool t.isSome)) (hv_ptrNil Ty.up70 rfl rfl) ?_
    refine hl_val rfl rfl (v := (.bool t.isSome)) (hv_move rfl) ?_
    rcases bool_or (t.isSome) with hg1 | hg1
    · replace H := H.1 hg1
      refine hl_yes (wanted_y rfl rfl rfl hg1) rfl (HStep.of_val (v := (.pointer t)) (hv_move rfl) ?_)
      obtain ⟨t_b, t_o, hqe, Hq⟩ := H
      subst hqe
      have H := Hq; clear Hq
      refine hl_yes (wanted_y rfl rfl rfl hg1) rfl (HStep.of_val (v := (ptr t_b t_o)) (hv_nil rfl) ?_)
      refine hl_yes (wanted_y rfl rfl rfl hg1) rfl (HStep.of_val (v := (ptr t_b t_o)) (hv_field Ty.fld87_0 (b := t_b) (o := t_o) rfl) ?_)
      obtain ⟨x, x_n, x_c, hc2, H⟩ := H
      refine hl_yes (wanted_y rfl rfl rfl hg1) rfl (HStep.of_val (v := (.slice x x_n x_c)) (hv_load Ty.agg47 rfl hc2) ?_)
      refine hl_yes (wanted_y rfl rfl rfl hg1) rfl (HStep.of_val (v := (.int .i64 (x_n : Int))) (hv_len (n := x_n) Ty.u47 rfl) ?_)
      refine hl_yes (wanted_y rfl rfl rfl hg1) rfl (HStep.of_val (v := (.bool (decide ((x_n : Int) > 0)))) (hv_arith rfl rfl rfl) ?_)
      refine hl_val rfl rfl (v := (.bool (decide ((x_n : Int) > 0)))) (hv_pick_t rfl hg1 rfl) ?_
      refine hl_val rfl rfl (v := (.bool (decide ((x_n : Int) > 0)))) (hv_assign rfl) ?_
      refine hl_nil ?_
      refine seqQ_n ?_
      obtain rfl := H
      exact ⟨rfl, (has_cons rfl has_nil)⟩
    · replace H := H.2 hg1
      refine hl_no (wanted_n rfl rfl rfl hg1) rfl ?_
      refine hl_no (wanted_n rfl rfl rfl hg1) rfl ?_
      refine hl_no (wanted_n rfl rfl rfl hg1) rfl ?_
      refine hl_no (wanted_n rfl rfl rfl hg1) rfl ?_
      refine hl_no (wanted_n rfl rfl rfl hg1) rfl ?_
      refine hl_no (wanted_n rfl rfl rfl hg1) rfl ?_
      refine hl_val rfl rfl (v := (.bool false)) (hv_pick_f rfl hg1 rfl) ?_
      refine hl_val rfl rfl (v := (.bool false)) (hv_assign rfl) ?_
      refine hl_nil ?_
      refine seqQ_n ?_
      obtain rfl := H
      exact ⟨rfl, (has_cons rfl has_nil)⟩
  · have H := Hy4; clear Hx3 Hy4
    rintro ρ _ ⟨rfl, hH⟩
    refine hx_has _ hH ?_
    refine hx_ret ?_
    exact endQ_ret _ (res_one Try.results64 (rv_tmp rfl)) H

/-- cellar/table.empty -/
theorem f58_sh (e_Hash : Int) (e_At : Int) (e_Version : Int) (e_Hits : Int) (h : Heap) (R : Value → Heap → Prop)
    (H : (∀ e h1, e = Array.size h → h1 = Array.push h (.cells #[(.int .u64 e_Hash), (.int .u64 e_At), (.int .u64 e_Version), (.int .u8 e_Hits)] 31) → (∃ x : Int, hcell h1 e 1 = some (.int .u64 x) ∧ R (.bool (x == 0)) h1))) :
    HC Try.prog 58 #[(.agg #[(.int .u64 e_Hash), (.int .u64 e_At), (.int .u64 e_Version), (.int .u8 e_Hits)])] h R := by
  refine hc_of (args := [(.agg #[(.int .u64 e_Hash), (.int .u64 e_At), (.int .u64 e_Version), (.int .u8 e_Hits)])]) Try.func58 rfl Try.ntmps58 (Nat.le_of_ble_eq_true rfl) ?_
  refine hx_seq ?_
  refine hx_region ?_
  refine hl_step rfl rfl (hn_box (v := (.agg #[(.int .u64 e_Hash), (.int .u64 e_At), (.int .u64 e_Version), (.int .u8 e_Hits)])) rfl ?_)
  intro e h1 eb1 eh2
  replace H := H e h1 eb1 eh2
  refine hl_val rfl rfl (v := (.bool false)) (hv_assign rfl) ?_
  refine hl_nil ?_
  refine seqQ_n ?_
  refine hx_seq ?_
  refine hx_region ?_
  refine hl_val rfl rfl (v := (ptr e 1)) (hv_field Ty.fld31_1 (b := e) (o := 0) rfl) ?_
  obtain ⟨x, hc3, H⟩ := H
  refine hl_val rfl rfl (v := (.int .u64 x)) (hv_load Ty.agg29 rfl hc3) ?_
  refine hl_val rfl rfl (v := (.bool (x == 0))) (hv_arith rfl rfl rfl) ?_
  refine hl_val rfl rfl (v := (.bool (x == 0))) (hv_assign rfl) ?_
  refine hl_nil ?_
  refine seqQ_n ?_
  refine hx_ret ?_
  exact endQ_ret _ (res_one Try.results58 (rv_tmp rfl)) H

/-- (*cellar/table.Table).find -/
theorem f50_sh (t : Option Addr) (hash : Int) (h : Heap) (R : Value → Heap → Prop)
    (H : (∃ r : Bool, HC Try.prog 64 #[(.pointer t)] h (fun vv h' => vv = (.bool r) ∧ h' = h) ∧ (((!r) = true → R (.int .i64 (-1)) h) ∧ ((!r) = false → (∃ r_1 : Int, HC Try.prog 66 #[(.pointer t), (.int .u64 hash)] h (fun vv h' => vv = (.int .i64 r_1) ∧ h' = h) ∧ (∃ A3 : Heap → Prop, (∃ (I4 : Int → Int → Heap → Prop) (mu5 : Int → Int → Heap → Nat), I4 r_1 0 h ∧ (∀ (atv : Int) (far : Int) (h2 : Heap), I4 atv far h2 → (∃ t_b t_o : Nat, t = some ⟨t_b, t_o, none⟩ ∧ (∃ x : Option Addr, ∃ x_n x_c : Nat, hcell h2 t_b t_o = some (.slice x x_n x_c) ∧ (∃ x_b x_o : Nat, x = some ⟨x_b, x_o, none⟩ ∧ (0 : Int) ≤ atv ∧ atv < (x_n : Int) ∧ (∃ x_Hash x_At x_Version x_Hits : Int, hcell h2 x_b (x_o + (Int.toNat atv) * 4) = some (.int .u64 x_Hash) ∧ hcell h2 x_b ((x_o + (Int.toNat atv) * 4) + 1) = some (.int .u64 x_At) ∧ hcell h2 x_b ((x_o + (Int.toNat atv) * 4) + 2) = some (.int .u64 x_Version) ∧ hcell h2 x_b ((x_o + (Int.toNat atv) * 4) + 3) = some (.int .u8 x_Hits) ∧ HC Try.prog 58 #[(.agg #[(.int .u64 x_Hash), (.int .u64 x_At), (.int .u64 x_Version), (.int .u8 x_Hits)])] h2 (fun vv h3 => ∃ r_2 : Bool, vv = (.bool r_2) ∧ (((!r_2) = true → (∃ x_1 : Option Addr, ∃ x_n_1 x_c_1 : Nat, hcell h3 t_b t_o = some (.slice x_1 x_n_1 x_c_1) ∧ (∃ x_1_b x_1_o : Nat, x_1 = some ⟨x_1_b, x_1_o, none⟩ ∧ (0 : Int) ≤ atv ∧ atv < (x_n_1 : Int) ∧ (∃ x_2 : Int, hcell h3 x_1_b (x_1_o + (Int.toNat atv) * 4) = some (.int .u64 x_2) ∧ (((x_2 == hash) = true → R (.int .i64 atv) h3) ∧ ((x_2 == hash) = false → (∃ r_3 : Int, HC Try.prog 63 #[(ptr t_b t_o), (.int .i64 atv)] h3 (fun vv h' => vv = (.int .i64 r_3) ∧ h' = h3) ∧ (((decide (r_3 < far)) = true → (A3 h3)) ∧ ((decide (r_3 < far)) = false → (∃ r_4 : Int, HC Try.prog 62 #[(ptr t_b t_o), (.int .i64 atv)] h3 (fun vv h' => vv = (.int .i64 r_4) ∧ h' = h3) ∧ (I4 r_4 (IntKind.i64.wrap (far + 1)) h3 ∧ mu5 r_4 (IntKind.i64.wrap (far + 1)) h3 < mu5 atv far h2))))))))))) ∧ ((!r_2) = false → (A3 h3)))))))))) ∧ (∀ (h1 : Heap), A3 h1 → R (.int .i64 (-1)) h1))))))) :
    HC Try.prog 50 #[(.pointer t), (.int .u64 hash)] h R := by
  refine hc_of (args := [(.pointer t), (.int .u64 hash)]) Try.func50 rfl Try.ntmps50 (Nat.le_of_ble_eq_true rfl) ?_
  refine hx_seq ?_
  refine hx_region ?_
  refine hl_val rfl rfl (v := (.int .i64 0)) (hv_assign rfl) ?_
  refine hl_nil ?_
  refine seqQ_n ?_
  refine hx_scope ?_
  refine hx_seq ?_
  refine hx_seq ?_
  refine hx_region ?_
  refine hl_val rfl rfl (v := (.pointer t)) (hv_move rfl) ?_
  obtain ⟨r, hr1, H⟩ := H
  refine hl_val rfl rfl (v := (.bool r)) (hv_call Ty.cb64 (vs := [(.pointer t)]) rfl hr1) ?_
  refine hl_val rfl rfl (v := (.bool (!r))) (hv_not (b := r) rfl) ?_
  refine hl_nil ?_
  refine seqQ_n ?_
  refine hx_cond (b := !r) rfl (fun hb28 => ?_) (fun hb28 => ?_)
  · replace H := H.1 hb28
    refine hx_seq ?_
    refine hx_region ?_
    refine hl_val rfl rfl (v := (.int .i64 (-1))) (hv_assign rfl) ?_
    refine hl_nil ?_
    refine seqQ_n ?_
    refine hx_ret ?_
    refine seqQ_ret ?_
    refine scopeQ_ret ?_
    exact endQ_ret _ (res_one Try.results50 (rv_tmp rfl)) H
  · replace H := H.2 hb28
    refine hx_skip ?_
    refine seqQ_n ?_
    refine hx_seq ?_
    refine hx_region ?_
    refine hl_val rfl rfl (v := (.pointer t)) (hv_move rfl) ?_
    refine hl_val rfl rfl (v := (.int .u64 hash)) (hv_move rfl) ?_
    obtain ⟨r_1, hr2, H⟩ := H
    refine hl_val rfl rfl (v := (.int .i64 r_1)) (hv_call Ty.cb66 (vs := [(.pointer t), (.int .u64 hash)]) rfl hr2) ?_
    refine hl_val rfl rfl (v := (.int .i64 r_1)) (hv_assign rfl) ?_
    refine hl_val rfl rfl (v := (.int .i64 0)) (hv_assign rfl) ?_
    refine hl_nil ?_
    refine seqQ_n ?_
    refine hx_seq ?_
    refine hx_label ?_
    refine seqQ_n ?_
    obtain ⟨A3, Hx25, Hy26⟩ := H
    refine hx_cut (fun ρ h' => A3 h' ∧ Has ρ []) ?_ ?_
    · have H := Hx25; clear Hx25 Hy26
      refine hx_block ?_
      obtain ⟨I4, mu5, Ha6, Hr7⟩ := H
      refine hx_loopT (σ := Int × Int) (fun s => [(0, (.pointer t)), (1, (.int .u64 hash)), (5, (.int .i64 s.1)), (6, (.int .i64 s.2))]) (fun s h' => I4 s.1 s.2 h') (fun s h' => mu5 s.1 s.2 h') (r_1, 0) Ha6 (has_cons rfl (has_cons rfl (has_cons rfl (has_cons rfl has_nil)))) ?_
      rintro ⟨atv, far⟩ ρ h2 Hi8
      have H := Hr7 atv far h2 Hi8
      refine hx_seq ?_
      refine hx_seq ?_
      refine hx_region ?_
      refine hl_val rfl rfl (v := (.pointer t)) (hv_move rfl) ?_
      obtain ⟨t_b, t_o, hqe, Hq⟩ := H
      subst hqe
      have H := Hq; clear Hq
      refine hl_val rfl rfl (v := (ptr t_b t_o)) (hv_nil rfl) ?_
      refine hl_val rfl rfl (v := (ptr t_b t_o)) (hv_field Ty.fld87_0 (b := t_b) (o := t_o) rfl) ?_
      obtain ⟨x, x_n, x_c, hc24, H⟩ := H
      refine hl_val rfl rfl (v := (.slice x x_n x_c)) (hv_load Ty.agg47 rfl hc24) ?_
      refine hl_val rfl rfl (v := (.int .i64 atv)) (hv_move rfl) ?_
      obtain ⟨x_b, x_o, hqe, hi9, hi10, Hq⟩ := H
      subst hqe
      have H := Hq; clear Hq
      refine hl_val rfl rfl (v := (ptr x_b (x_o + (Int.toNat atv) * 4))) (hv_index Ty.el47 rfl rfl hi9 hi10) ?_
      obtain ⟨x_Hash, x_At, x_Version, x_Hits, hc20, hc21, hc22, hc23, H⟩ := H
      refine hl_val rfl rfl (v := (.agg #[(.int .u64 x_Hash), (.int .u64 x_At), (.int .u64 x_Version), (.int .u8 x_Hits)])) (hv_loads (vs := [(.int .u64 x_Hash), (.int .u64 x_At), (.int .u64 x_Version), (.int .u8 x_Hits)]) Ty.agg31 Ty.sz31 rfl (hcells_cons hc20 (hcells_cons hc21 (hcells_cons hc22 (hcells_cons hc23 hcells_nil))))) ?_
      refine hl_step rfl rfl (hs_call Ty.cb58 (vs := [(.agg #[(.int .u64 x_Hash), (.int .u64 x_At), (.int .u64 x_Version), (.int .u8 x_Hits)])]) rfl (HC.mono H ?_))
      rintro _ h3 ⟨r_2, rfl, H⟩
      refine hl_val rfl rfl (v := (.bool (!r_2))) (hv_not (b := r_2) rfl) ?_
      refine hl_nil ?_
      refine seqQ_n ?_
      refine hx_cond (b := !r_2) rfl (fun hb19 => ?_) (fun hb19 => ?_)
      · replace H := H.1 hb19
        refine hx_skip ?_
        refine seqQ_n ?_
        refine hx_block ?_
        refine hx_seq ?_
        refine hx_block ?_
        refine hx_seq ?_
        refine hx_region ?_
        refine hl_val rfl rfl (v := (ptr t_b t_o)) (hv_move rfl) ?_
        refine hl_val rfl rfl (v := (ptr t_b t_o)) (hv_nil rfl) ?_
        refine hl_val rfl rfl (v := (ptr t_b t_o)) (hv_field Ty.fld87_0 (b := t_b) (o := t_o) rfl) ?_
        obtain ⟨x_1, x_n_1, x_c_1, hc18, H⟩ := H
        refine hl_val rfl rfl (v := (.slice x_1 x_n_1 x_c_1)) (hv_load Ty.agg47 rfl hc18) ?_
        refine hl_val rfl rfl (v := (.int .i64 atv)) (hv_move rfl) ?_
        obtain ⟨x_1_b, x_1_o, hqe, hi11, hi12, Hq⟩ := H
        subst hqe
        have H := Hq; clear Hq
        refine hl_val rfl rfl (v := (ptr x_1_b (x_1_o + (Int.toNat atv) * 4))) (hv_index Ty.el47 rfl rfl hi11 hi12) ?_
        refine hl_val rfl rfl (v := (ptr x_1_b (x_1_o + (Int.toNat atv) * 4))) (hv_field Ty.fld31_0 (b := x_1_b) (o := x_1_o + (Int.toNat atv) * 4) rfl) ?_
        obtain ⟨x_2, hc17, H⟩ := H
        refine hl_val rfl rfl (v := (.int .u64 x_2)) (hv_load Ty.agg29 rfl hc17) ?_
        refine hl_val rfl rfl (v := (.int .u64 hash)) (hv_move rfl) ?_
        refine hl_val rfl rfl (v := (.bool (x_2 == hash))) (hv_arith rfl rfl rfl) ?_
        refine hl_val rfl rfl (v := (.bool (x_2 == hash))) (hv_assign rfl) ?_
        refine hl_nil ?_
        refine seqQ_n ?_
        refine hx_cond (b := x_2 == hash) rfl (fun hb16 => ?_) (fun hb16 => ?_)
        · replace H := H.1 hb16
          refine hx_seq ?_
          refine hx_region ?_
          refine hl_val rfl rfl (v := (.int .i64 atv)) (hv_move rfl) ?_
          refine hl_val rfl rfl (v := (.int .i64 atv)) (hv_assign rfl) ?_
          refine hl_nil ?_
          refine seqQ_n ?_
          refine hx_ret ?_
          refine blockQ_ret ?_
          refine seqQ_ret ?_
          refine blockQ_ret ?_
          refine seqQ_ret ?_
          refine blockQ_ret ?_
          refine seqQ_ret ?_
          refine scopeQ_ret ?_
          exact endQ_ret _ (res_one Try.results50 (rv_tmp rfl)) H
        · replace H := H.2 hb16
          refine hx_seq ?_
          refine hx_region ?_
          refine hl_val rfl rfl (v := (ptr t_b t_o)) (hv_move rfl) ?_
          refine hl_val rfl rfl (v := (.int .i64 atv)) (hv_move rfl) ?_
          obtain ⟨r_3, hr13, H⟩ := H
          refine hl_val rfl rfl (v := (.int .i64 r_3)) (hv_call Ty.cb63 (vs := [(ptr t_b t_o), (.int .i64 atv)]) rfl hr13) ?_
          refine hl_val rfl rfl (v := (.int .i64 far)) (hv_move rfl) ?_
          refine hl_val rfl rfl (v := (.bool (decide (r_3 < far)))) (hv_arith rfl rfl rfl) ?_
          refine hl_val rfl rfl (v := (.bool (decide (r_3 < far)))) (hv_assign rfl) ?_
          refine hl_nil ?_
          refine seqQ_n ?_
          refine hx_cond (b := decide (r_3 < far)) rfl (fun hb15 => ?_) (fun hb15 => ?_)
          · replace H := H.1 hb15
            refine hx_exit ?_
            refine blockQ_past rfl ?_
            refine seqQ_exit ?_
            refine blockQ_past rfl ?_
            refine seqQ_exit ?_
            refine blockQ_here ?_
            refine seqQ_n ?_
            exact ⟨H, has_nil⟩
          · replace H := H.2 hb15
            refine hx_skip ?_
            refine blockQ_n ?_
            refine seqQ_n ?_
            refine hx_region ?_
            refine hl_val rfl rfl (v := (ptr t_b t_o)) (hv_move rfl) ?_
            refine hl_val rfl rfl (v := (.int .i64 atv)) (hv_move rfl) ?_
            obtain ⟨r_4, hr14, H⟩ := H
            refine hl_val rfl rfl (v := (.int .i64 r_4)) (hv_call Ty.cb62 (vs := [(ptr t_b t_o), (.int .i64 atv)]) rfl hr14) ?_
            refine hl_val rfl rfl (v := (.int .i64 far)) (hv_move rfl) ?_
            refine hl_val rfl rfl (v := (.int .i64 (IntKind.i64.wrap (far + 1)))) (hv_arith rfl rfl rfl) ?_
            refine hl_val rfl rfl (v := (.int .i64 r_4)) (hv_assign rfl) ?_
            refine hl_val rfl rfl (v := (.int .i64 (IntKind.i64.wrap (far + 1)))) (hv_assign rfl) ?_
            refine hl_nil ?_
            refine blockQ_n ?_
            refine seqQ_n ?_
            exact ⟨(r_4, IntKind.i64.wrap (far + 1)), H, (has_cons rfl (has_cons rfl (has_cons rfl (has_cons rfl has_nil))))⟩
      · replace H := H.2 hb19
        refine hx_exit ?_
        refine seqQ_exit ?_
        refine seqQ_exit ?_
        refine blockQ_here ?_
        refine seqQ_n ?_
        exact ⟨H, has_nil⟩
    · rintro ρ h1 ⟨HA27, hH⟩
      have H := Hy26 h1 HA27; clear Hx25 Hy26
      refine hx_has _ hH ?_
      refine hx_seq ?_
      refine hx_region ?_
      refine hl_val rfl rfl (v := (.int .i64 (-1))) (hv_assign rfl) ?_
      refine hl_nil ?_
      refine seqQ_n ?_
      refine hx_ret ?_
      refine scopeQ_ret ?_
      exact endQ_ret _ (res_one Try.results50 (rv_tmp rfl)) H

/-- (*cellar/table.Table).full -/
theorem f67_sh (t_b : Nat) (t_o : Nat) (h : Heap) (R : Value → Heap → Prop)
    (H : (∃ x : Int, hcell h t_b (t_o + 3) = some (.int .i64 x) ∧ (∃ x_1 : Option Addr, ∃ x_n x_c : Nat, hcell h t_b t_o = some (.slice x_1 x_n x_c) ∧ R (.bool (decide ((IntKind.i64.wrap (8 * (IntKind.i64.wrap (x + 1)))) > (IntKind.i64.wrap (7 * (x_n : Int)))))) h))) :
    HC Try.prog 67 #[(ptr t_b t_o)] h R := by
  refine hc_of (args := [(ptr t_b t_o)]) Try.func67 rfl Try.ntmps67 (Nat.le_of_ble_eq_true rfl) ?_
  refine hx_seq ?_
  refine hx_region ?_
  refine hl_val rfl rfl (v := (.bool false)) (hv_assign rfl) ?_
  refine hl_nil ?_
  refine seqQ_n ?_
  refine hx_seq ?_
  refine hx_draw Ty.mixed [.pure, .pure, .pure, .read, .pure, .pure, .pure, .pure, .pure, .read, .pure, .pure, .pure, .pure] [0, 1, 2, 3, 4, 5, 6, 7, 8, 9, 10, 11, 12, 13] (by kernel_rfl) ?_
  refine hp_pure (i := 0) rfl (wanted_0 rfl) rfl (ptr t_b t_o) (fun _ => hv_move rfl) ?_
  refine hp_pure (i := 1) rfl (wanted_0 rfl) rfl (ptr t_b t_o) (fun _ => hv_nil rfl) ?_
  refine hp_pure (i := 2) rfl (wanted_0 rfl) rfl (ptr t_b (t_o + 3)) (fun _ => hv_field Ty.fld87_3 (b := t_b) (o := t_o) rfl) ?_
  obtain ⟨x, hc2, H⟩ := H
  refine hp_read (i := 3) rfl (wanted_0 rfl) rfl (.int .i64 x) (fun _ he => hv_load Ty.agg3 rfl (he.cell hc2)) ?_
  refine hp_pure (i := 4) rfl (wanted_0 rfl) rfl (.int .i64 (IntKind.i64.wrap (x + 1))) (fun _ => hv_arith rfl rfl rfl) ?_
  refine hp_pure (i := 5) rfl (wanted_0 rfl) rfl (.int .i64 (IntKind.i64.wrap (8 * (IntKind.i64.wrap (x + 1))))) (fun _ => hv_arith rfl rfl rfl) ?_
  refine hp_pure (i := 6) rfl (wanted_0 rfl) rfl (ptr t_b t_o) (fun _ => hv_move rfl) ?_
  refine hp_pure (i := 7) rfl (wanted_0 rfl) rfl (ptr t_b t_o) (fun _ => hv_nil rfl) ?_
  refine hp_pure (i := 8) rfl (wanted_0 rfl) rfl (ptr t_b t_o) (fun _ => hv_field Ty.fld87_0 (b := t_b) (o := t_o) rfl) ?_
  obtain ⟨x_1, x_n, x_c, hc1, H⟩ := H
  refine hp_read (i := 9) rfl (wanted_0 rfl) rfl (.slice x_1 x_n x_c) (fun _ he => hv_load Ty.agg47 rfl (he.cell hc1)) ?_
  refine hp_pure (i := 10) rfl (wanted_0 rfl) rfl (.int .i64 (x_n : Int)) (fun _ => hv_len (n := x_n) Ty.u47 rfl) ?_
  refine hp_pure (i := 11) rfl (wanted_0 rfl) rfl (.int .i64 (IntKind.i64.wrap (7 * (x_n : Int)))) (fun _ => hv_arith rfl rfl rfl) ?_
  refine hp_pure (i := 12) rfl (wanted_0 rfl) rfl (.bool (decide ((IntKind.i64.wrap (8 * (IntKind.i64.wrap (x + 1)))) > (IntKind.i64.wrap (7 * (x_n : Int)))))) (fun _ => hv_arith rfl rfl rfl) ?_
  refine hp_pure (i := 13) rfl (wanted_0 rfl) rfl (.bool (decide ((IntKind.i64.wrap (8 * (IntKind.i64.wrap (x + 1)))) > (IntKind.i64.wrap (7 * (x_n : Int)))))) (fun _ => hv_assign rfl) ?_
  refine hp_nil ?_
  refine seqQ_n ?_
  refine hx_ret ?_
  exact endQ_ret _ (res_one Try.results67 (rv_tmp rfl)) H

/-- (*cellar/table.Table).next -/
theorem f62_sh (t_b : Nat) (t_o : Nat) (atv : Int) (h : Heap) (R : Value → Heap → Prop)
    (H : (∃ x : Option Addr, ∃ x_n x_c : Nat, hcell h t_b t_o = some (.slice x x_n x_c) ∧ ((x_n : Int) ≠ 0 ∧ R (.int .i64 (Int.tmod (IntKind.i64.wrap (atv + 1)) (x_n : Int))) h))) :
    HC Try.prog 62 #[(ptr t_b t_o), (.int .i64 atv)] h R := by
  refine hc_of (args := [(ptr t_b t_o), (.int .i64 atv)]) Try.func62 rfl Try.ntmps62 (Nat.le_of_ble_eq_true rfl) ?_
  refine hx_seq ?_
  refine hx_region ?_
  refine hl_val rfl rfl (v := (.int .i64 0)) (hv_assign rfl) ?_
  refine hl_nil ?_
  refine seqQ_n ?_
  refine hx_seq ?_
  refine hx_region ?_
  refine hl_val rfl rfl (v := (.int .i64 atv)) (hv_move rfl) ?_
  refine hl_val rfl rfl (v := (.int .i64 (IntKind.i64.wrap (atv + 1)))) (hv_arith rfl rfl rfl) ?_
  refine hl_val rfl rfl (v := (ptr t_b t_o)) (hv_move rfl) ?_
  refine hl_val rfl rfl (v := (ptr t_b t_o)) (hv_nil rfl) ?_
  refine hl_val rfl rfl (v := (ptr t_b t_o)) (hv_field Ty.fld87_0 (b := t_b) (o := t_o) rfl) ?_
  obtain ⟨x, x_n, x_c, hc2, H⟩ := H
  refine hl_val rfl rfl (v := (.slice x x_n x_c)) (hv_load Ty.agg47 rfl hc2) ?_
  refine hl_val rfl rfl (v := (.int .i64 (x_n : Int))) (hv_len (n := x_n) Ty.u47 rfl) ?_
  obtain ⟨hz1, H⟩ := H
  refine hl_val rfl rfl (v := (.int .i64 (Int.tmod (IntKind.i64.wrap (atv + 1)) (x_n : Int)))) (hv_rem rfl rfl hz1) ?_
  refine hl_val rfl rfl (v := (.int .i64 (Int.tmod (IntKind.i64.wrap (atv + 1)) (x_n : Int)))) (hv_assign rfl) ?_
  refine hl_nil ?_
  refine seqQ_n ?_
  refine hx_ret ?_
  exact endQ_ret _ (res_one Try.results62 (rv_tmp rfl)) H

/-- (*cellar/table.Table).distance -/
theorem f63_sh (t_b : Nat) (t_o : Nat) (atv : Int) (h : Heap) (R : Value → Heap → Prop)
    (H : (∃ x : Option Addr, ∃ x_n x_c : Nat, hcell h t_b t_o = some (.slice x x_n x_c) ∧ (∃ x_b x_o : Nat, x = some ⟨x_b, x_o, none⟩ ∧ (0 : Int) ≤ atv ∧ atv < (x_n : Int) ∧ (∃ x_1 : Int, hcell h x_b (x_o + (Int.toNat atv) * 4) = some (.int .u64 x_1) ∧ (∃ r : Int, (∀ h1, Ext h h1 → HC Try.prog 66 #[(ptr t_b t_o), (.int .u64 x_1)] h1 (fun vv h' => vv = (.int .i64 r) ∧ h' = h1)) ∧ (∃ x_2 : Option Addr, ∃ x_n_1 x_c_1 : Nat, hcell h t_b t_o = some (.slice x_2 x_n_1 x_c_1) ∧ (∃ x_3 : Option Addr, ∃ x_n_2 x_c_2 : Nat, hcell h t_b t_o = some (.slice x_3 x_n_2 x_c_2) ∧ ((x_n_2 : Int) ≠ 0 ∧ R (.int .i64 (Int.tmod (IntKind.i64.wrap ((IntKind.i64.wrap (atv - r)) + (x_n_1 : Int))) (x_n_2 : Int))) h)))))))) :
    HC Try.prog 63 #[(ptr t_b t_o), (.int .i64 atv)] h R := by
  refine hc_of (args := [(ptr t_b t_o), (.int .i64 atv)]) Try.func63 rfl Try.ntmps63 (Nat.le_of_ble_eq_true rfl) ?_
  refine hx_seq ?_
  refine hx_region ?_
  refine hl_val rfl rfl (v := (.int .i64 0)) (hv_assign rfl) ?_
  refine hl_nil ?_
  refine seqQ_n ?_
  refine hx_seq ?_
  refine hx_draw Ty.mixed [.pure, .pure, .pure, .pure, .pure, .read, .pure, .pure, .pure, .read, .read, .pure, .pure, .pure, .pure, .read, .pure, .pure, .pure, .pure, .pure, .read, .pure, .pure, .pure] [0, 1, 2, 3, 4, 5, 6, 7, 8, 9, 10, 11, 12, 13, 14, 15, 16, 17, 18, 19, 20, 21, 22, 23, 24] (by kernel_rfl) ?_
  refine hp_pure (i := 0) rfl (wanted_0 rfl) rfl (.int .i64 atv) (fun _ => hv_move rfl) ?_
  refine hp_pure (i := 1) rfl (wanted_0 rfl) rfl (ptr t_b t_o) (fun _ => hv_move rfl) ?_
  refine hp_pure (i := 2) rfl (wanted_0 rfl) rfl (ptr t_b t_o) (fun _ => hv_move rfl) ?_
  refine hp_pure (i := 3) rfl (wanted_0 rfl) rfl (ptr t_b t_o) (fun _ => hv_nil rfl) ?_
  refine hp_pure (i := 4) rfl (wanted_0 rfl) rfl (ptr t_b t_o) (fun _ => hv_field Ty.fld87_0 (b := t_b) (o := t_o) rfl) ?_
  obtain ⟨x, x_n, x_c, hc8, H⟩ := H
  refine hp_read (i := 5) rfl (wanted_0 rfl) rfl (.slice x x_n x_c) (fun _ he => hv_load Ty.agg47 rfl (he.cell hc8)) ?_
  refine hp_pure (i := 6) rfl (wanted_0 rfl) rfl (.int .i64 atv) (fun _ => hv_move rfl) ?_
  obtain ⟨x_b, x_o, hqe, hi1, hi2, Hq⟩ := H
  subst hqe
  have H := Hq; clear Hq
  refine hp_pure (i := 7) rfl (wanted_0 rfl) rfl (ptr x_b (x_o + (Int.toNat atv) * 4)) (fun _ => hv_index Ty.el47 rfl rfl hi1 hi2) ?_
  refine hp_pure (i := 8) rfl (wanted_0 rfl) rfl (ptr x_b (x_o + (Int.toNat atv) * 4)) (fun _ => hv_field Ty.fld31_0 (b := x_b) (o := x_o + (Int.toNat atv) * 4) rfl) ?_
  obtain ⟨x_1, hc7, H⟩ := H
  refine hp_read (i := 9) rfl (wanted_0 rfl) rfl (.int .u64 x_1) (fun _ he => hv_load Ty.agg29 rfl (he.cell hc7)) ?_
  obtain ⟨r, hr3, H⟩ := H
  refine hp_read (i := 10) rfl (wanted_0 rfl) rfl (.int .i64 r) (fun _ he => hv_call Ty.cb66 (vs := [(ptr t_b t_o), (.int .u64 x_1)]) rfl (hr3 _ he)) ?_
  refine hp_pure (i := 11) rfl (wanted_0 rfl) rfl (.int .i64 (IntKind.i64.wrap (atv - r))) (fun _ => hv_arith rfl rfl rfl) ?_
  refine hp_pure (i := 12) rfl (wanted_0 rfl) rfl (ptr t_b t_o) (fun _ => hv_move rfl) ?_
  refine hp_pure (i := 13) rfl (wanted_0 rfl) rfl (ptr t_b t_o) (fun _ => hv_nil rfl) ?_
  refine hp_pure (i := 14) rfl (wanted_0 rfl) rfl (ptr t_b t_o) (fun _ => hv_field Ty.fld87_0 (b := t_b) (o := t_o) rfl) ?_
  obtain ⟨x_2, x_n_1, x_c_1, hc6, H⟩ := H
  refine hp_read (i := 15) rfl (wanted_0 rfl) rfl (.slice x_2 x_n_1 x_c_1) (fun _ he => hv_load Ty.agg47 rfl (he.cell hc6)) ?_
  refine hp_pure (i := 16) rfl (wanted_0 rfl) rfl (.int .i64 (x_n_1 : Int)) (fun _ => hv_len (n := x_n_1) Ty.u47 rfl) ?_
  refine hp_pure (i := 17) rfl (wanted_0 rfl) rfl (.int .i64 (IntKind.i64.wrap ((IntKind.i64.wrap (atv - r)) + (x_n_1 : Int)))) (fun _ => hv_arith rfl rfl rfl) ?_
  refine hp_pure (i := 18) rfl (wanted_0 rfl) rfl (ptr t_b t_o) (fun _ => hv_move rfl) ?_
  refine hp_pure (i := 19) rfl (wanted_0 rfl) rfl (ptr t_b t_o) (fun _ => hv_nil rfl) ?_
  refine hp_pure (i := 20) rfl (wanted_0 rfl) rfl (ptr t_b t_o) (fun _ => hv_field Ty.fld87_0 (b := t_b) (o := t_o) rfl) ?_
  obtain ⟨x_3, x_n_2, x_c_2, hc5, H⟩ := H
  refine hp_read (i := 21) rfl (wanted_0 rfl) rfl (.slice x_3 x_n_2 x_c_2) (fun _ he => hv_load Ty.agg47 rfl (he.cell hc5)) ?_
  refine hp_pure (i := 22) rfl (wanted_0 rfl) rfl (.int .i64 (x_n_2 : Int)) (fun _ => hv_len (n := x_n_2) Ty.u47 rfl) ?_
  obtain ⟨hz4, H⟩ := H
  refine hp_pure (i := 23) rfl (wanted_0 rfl) rfl (.int .i64 (Int.tmod (IntKind.i64.wrap ((IntKind.i64.wrap (atv - r)) + (x_n_1 : Int))) (x_n_2 : Int))) (fun _ => hv_rem rfl rfl hz4) ?_
  refine hp_pure (i := 24) rfl (wanted_0 rfl) rfl (.int .i64 (Int.tmod (IntKind.i64.wrap ((IntKind.i64.wrap (atv - r)) + (x_n_1 : Int))) (x_n_2 : Int))) (fun _ => hv_assign rfl) ?_
  refine hp_nil ?_
  refine seqQ_n ?_
  refine hx_ret ?_
  exact endQ_ret _ (res_one Try.results63 (rv_tmp rfl)) H

/-- (*cellar/table.Table).home -/
theorem f66_sh (t_b : Nat) (t_o : Nat) (hash : Int) (h : Heap) (R : Value → Heap → Prop)
    (H : (∃ x : Int, hcell h t_b (t_o + 1) = some (.int .i64 x) ∧ ((0 : Int) ≤ IntKind.i64.wrap (64 - x) ∧ R (.int .i64 (IntKind.i64.wrap (Int.fdiv hash (2 ^ min (Int.toNat (IntKind.i64.wrap (64 - x))) 64)))) h))) :
    HC Try.prog 66 #[(ptr t_b t_o), (.int .u64 hash)] h R := by
  refine hc_of (args := [(ptr t_b t_o), (.int .u64 hash)]) Try.func66 rfl Try.ntmps66 (Nat.le_of_ble_eq_true rfl) ?_
  refine hx_seq ?_
  refine hx_region ?_
  refine hl_val rfl rfl (v := (.int .i64 0)) (hv_assign rfl) ?_
  refine hl_nil ?_
  refine seqQ_n ?_
  refine hx_seq ?_
  refine hx_region ?_
  refine hl_val rfl rfl (v := (.int .u64 hash)) (hv_move rfl) ?_
  refine hl_val rfl rfl (v := (ptr t_b t_o)) (hv_move rfl) ?_
  refine hl_val rfl rfl (v := (ptr t_b t_o)) (hv_nil rfl) ?_
  refine hl_val rfl rfl (v := (ptr t_b (t_o + 1))) (hv_field Ty.fld87_1 (b := t_b) (o := t_o) rfl) ?_
  obtain ⟨x, hc2, H⟩ := H
  refine hl_val rfl rfl (v := (.int .i64 x)) (hv_load Ty.agg3 rfl hc2) ?_
  refine hl_val rfl rfl (v := (.int .i64 (IntKind.i64.wrap (64 - x)))) (hv_arith rfl rfl rfl) ?_
  obtain ⟨hz1, H⟩ := H
  refine hl_val rfl rfl (v := (.int .u64 (Int.fdiv hash (2 ^ min (Int.toNat (IntKind.i64.wrap (64 - x))) 64)))) (hv_shift rfl rfl hz1 rfl) ?_
  refine hl_val rfl rfl (v := (.int .i64 (IntKind.i64.wrap (Int.fdiv hash (2 ^ min (Int.toNat (IntKind.i64.wrap (64 - x))) 64))))) (hv_convInt Ty.u29 Ty.u3 rfl) ?_
  refine hl_val rfl rfl (v := (.int .i64 (IntKind.i64.wrap (Int.fdiv hash (2 ^ min (Int.toNat (IntKind.i64.wrap (64 - x))) 64))))) (hv_assign rfl) ?_
  refine hl_nil ?_
  refine seqQ_n ?_
  refine hx_ret ?_
  exact endQ_ret _ (res_one Try.results66 (rv_tmp rfl)) H

/-- (*cellar/table.Table).lay -/
theorem f69_sh (t_b : Nat) (t_o : Nat) (e_Hash : Int) (e_At : Int) (e_Version : Int) (e_Hits : Int) (h : Heap) (R : Value → Heap → Prop)
    (H : (∀ e h1, e = Array.size h → h1 = Array.push h (.cells #[(.int .u64 e_Hash), (.int .u64 e_At), (.int .u64 e_Version), (.int .u8 e_Hits)] 31) → (∃ x : Int, hcell h1 e 0 = some (.int .u64 x) ∧ (∃ r : Int, HC Try.prog 66 #[(ptr t_b t_o), (.int .u64 x)] h1 (fun vv h' => vv = (.int .i64 r) ∧ h' = h1) ∧ (∃ (I4 : Int → Int → Heap → Prop) (mu5 : Int → Int → Heap → Nat), I4 r 0 h1 ∧ (∀ (atv : Int) (far : Int) (h2 : Heap), I4 atv far h2 → (∃ x_1 : Option Addr, ∃ x_n x_c : Nat, hcell h2 t_b t_o = some (.slice x_1 x_n x_c) ∧ (∃ x_1_b x_1_o : Nat, x_1 = some ⟨x_1_b, x_1_o, none⟩ ∧ (0 : Int) ≤ atv ∧ atv < (x_n : Int) ∧ (∃ x_Hash x_At x_Version x_Hits : Int, hcell h2 x_1_b (x_1_o + (Int.toNat atv) * 4) = some (.int .u64 x_Hash) ∧ hcell h2 x_1_b ((x_1_o + (Int.toNat atv) * 4) + 1) = some (.int .u64 x_At) ∧ hcell h2 x_1_b ((x_1_o + (Int.toNat atv) * 4) + 2) = some (.int .u64 x_Version) ∧ hcell h2 x_1_b ((x_1_o + (Int.toNat atv) * 4) + 3) = some (.int .u8 x_Hits) ∧ HC Try.prog 58 #[(.agg #[(.int .u64 x_Hash), (.int .u64 x_At), (.int .u64 x_Version), (.int .u8 x_Hits)])] h2 (fun vv h3 => ∃ r_1 : Bool, vv = (.bool r_1) ∧ ((r_1 = true → (∃ x_2 : Option Addr, ∃ x_n_1 x_c_1 : Nat, hcell h3 t_b t_o = some (.slice x_2 x_n_1 x_c_1) ∧ (∃ x_Hash_1 x_At_1 x_Version_1 x_Hits_1 : Int, hcell h3 e 0 = some (.int .u64 x_Hash_1) ∧ hcell h3 e 1 = some (.int .u64 x_At_1) ∧ hcell h3 e 2 = some (.int .u64 x_Version_1) ∧ hcell h3 e 3 = some (.int .u8 x_Hits_1) ∧ (∃ x_2_b x_2_o : Nat, x_2 = some ⟨x_2_b, x_2_o, none⟩ ∧ (0 : Int) ≤ atv ∧ atv < (x_n_1 : Int) ∧ (HWs h3 x_2_b (x_2_o + (Int.toNat atv) * 4) 4 ∧ ∀ h4, h4 = hsets h3 x_2_b (x_2_o + (Int.toNat atv) * 4) [(.int .u64 x_Hash_1), (.int .u64 x_At_1), (.int .u64 x_Version_1), (.int .u8 x_Hits_1)] → (∃ x_3 : Int, hcell h4 t_b (t_o + 3) = some (.int .i64 x_3) ∧ (HW h4 t_b (t_o + 3) ∧ ∀ h5, h5 = hset h4 t_b (t_o + 3) (.int .i64 (IntKind.i64.wrap (x_3 + 1))) → R (.tuple #[]) h5))))))) ∧ (r_1 = false → (∃ r_2 : Int, HC Try.prog 63 #[(ptr t_b t_o), (.int .i64 atv)] h3 (fun vv h' => vv = (.int .i64 r_2) ∧ h' = h3) ∧ (∃ A24 : Int → Heap → Prop, (∃ j : Bool, (((decide (r_2 < far)) = true → (j = true)) ∧ ((decide (r_2 < far)) = false → (((r_2 == far) = true → (∃ x_2 : Option Addr, ∃ x_n_1 x_c_1 : Nat, hcell h3 t_b t_o = some (.slice x_2 x_n_1 x_c_1) ∧ (∃ x_2_b x_2_o : Nat, x_2 = some ⟨x_2_b, x_2_o, none⟩ ∧ (0 : Int) ≤ atv ∧ atv < (x_n_1 : Int) ∧ (∃ x_3 : Int, hcell h3 x_2_b (x_2_o + (Int.toNat atv) * 4) = some (.int .u64 x_3) ∧ (∃ x_4 : Int, hcell h3 e 0 = some (.int .u64 x_4) ∧ (j = (decide (x_3 > x_4)))))))) ∧ ((r_2 == far) = false → (j = false))))) ∧ ((j = true → (∃ x_5 : Option Addr, ∃ x_n_2 x_c_2 : Nat, hcell h3 t_b t_o = some (.slice x_5 x_n_2 x_c_2) ∧ (∃ x_Hash_1 x_At_1 x_Version_1 x_Hits_1 : Int, hcell h3 e 0 = some (.int .u64 x_Hash_1) ∧ hcell h3 e 1 = some (.int .u64 x_At_1) ∧ hcell h3 e 2 = some (.int .u64 x_Version_1) ∧ hcell h3 e 3 = some (.int .u8 x_Hits_1) ∧ (∃ x_6 : Option Addr, ∃ x_n_3 x_c_3 : Nat, hcell h3 t_b t_o = some (.slice x_6 x_n_3 x_c_3) ∧ (∃ x_6_b x_6_o : Nat, x_6 = some ⟨x_6_b, x_6_o, none⟩ ∧ (0 : Int) ≤ atv ∧ atv < (x_n_3 : Int) ∧ (∃ x_Hash_2 x_At_2 x_Version_2 x_Hits_2 : Int, hcell h3 x_6_b (x_6_o + (Int.toNat atv) * 4) = some (.int .u64 x_Hash_2) ∧ hcell h3 x_6_b ((x_6_o + (Int.toNat atv) * 4) + 1) = some (.int .u64 x_At_2) ∧ hcell h3 x_6_b ((x_6_o + (Int.toNat atv) * 4) + 2) = some (.int .u64 x_Version_2) ∧ hcell h3 x_6_b ((x_6_o + (Int.toNat atv) * 4) + 3) = some (.int .u8 x_Hits_2) ∧ (∃ x_5_b x_5_o : Nat, x_5 = some ⟨x_5_b, x_5_o, none⟩ ∧ (0 : Int) ≤ atv ∧ atv < (x_n_2 : Int) ∧ (HWs h3 x_5_b (x_5_o + (Int.toNat atv) * 4) 4 ∧ ∀ h7, h7 = hsets h3 x_5_b (x_5_o + (Int.toNat atv) * 4) [(.int .u64 x_Hash_1), (.int .u64 x_At_1), (.int .u64 x_Version_1), (.int .u8 x_Hits_1)] → (HWs h7 e 0 4 ∧ ∀ h8, h8 = hsets h7 e 0 [(.int .u64 x_Hash_2), (.int .u64 x_At_2), (.int .u64 x_Version_2), (.int .u8 x_Hits_2)] → (A24 r_2 h8)))))))))) ∧ (j = false → (A24 far h3)))) ∧ (∀ (far_1 : Int) (h6 : Heap), A24 far_1 h6 → (∃ r_3 : Int, HC Try.prog 62 #[(ptr t_b t_o), (.int .i64 atv)] h6 (fun vv h' => vv = (.int .i64 r_3) ∧ h' = h6) ∧ (I4 r_3 (IntKind.i64.wrap (far_1 + 1)) h6 ∧ mu5 r_3 (IntKind.i64.wrap (far_1 + 1)) h6 < mu5 atv far h2))))))))))))))))) :
    HC Try.prog 69 #[(ptr t_b t_o), (.agg #[(.int .u64 e_Hash), (.int .u64 e_At), (.int .u64 e_Version), (.int .u8 e_Hits)])] h R := by
  refine hc_of (args := [(ptr t_b t_o), (.agg #[(.int .u64 e_Hash), (.int .u64 e_At), (.int .u64 e_Version), (.int .u8 e_Hits)])]) Try.func69 rfl Try.ntmps69 (Nat.le_of_ble_eq_true rfl) ?_
  refine hx_seq ?_
  refine hx_region ?_
  refine hl_step rfl rfl (hn_box (v := (.agg #[(.int .u64 e_Hash), (.int .u64 e_At), (.int .u64 e_Version), (.int .u8 e_Hits)])) rfl ?_)
  intro e h1 eb1 eh2
  replace H := H e h1 eb1 eh2
  refine hl_nil ?_
  refine seqQ_n ?_
  refine hx_seq ?_
  refine hx_region ?_
  refine hl_val rfl rfl (v := (ptr t_b t_o)) (hv_move rfl) ?_
  refine hl_val rfl rfl (v := (ptr e 0)) (hv_field Ty.fld31_0 (b := e) (o := 0) rfl) ?_
  obtain ⟨x, hc63, H⟩ := H
  refine hl_val rfl rfl (v := (.int .u64 x)) (hv_load Ty.agg29 rfl hc63) ?_
  obtain ⟨r, hr3, H⟩ := H
  refine hl_val rfl rfl (v := (.int .i64 r)) (hv_call Ty.cb66 (vs := [(ptr t_b t_o), (.int .u64 x)]) rfl hr3) ?_
  refine hl_val rfl rfl (v := (.int .i64 r)) (hv_assign rfl) ?_
  refine hl_val rfl rfl (v := (.int .i64 0)) (hv_assign rfl) ?_
  refine hl_nil ?_
  refine seqQ_n ?_
  refine hx_block ?_
  obtain ⟨I4, mu5, Ha6, Hr7⟩ := H
  refine hx_loopT (σ := Int × Int) (fun s => [(0, (ptr t_b t_o)), (3, (ptr e 0)), (4, (.int .i64 s.1)), (5, (.int .i64 s.2))]) (fun s h' => I4 s.1 s.2 h') (fun s h' => mu5 s.1 s.2 h') (r, 0) Ha6 (has_cons rfl (has_cons rfl (has_cons rfl (has_cons rfl has_nil)))) ?_
  rintro ⟨atv, far⟩ ρ h2 Hi8
  have H := Hr7 atv far h2 Hi8
  refine hx_block ?_
  refine hx_seq ?_
  refine hx_seq ?_
  refine hx_region ?_
  refine hl_val rfl rfl (v := (ptr t_b t_o)) (hv_move rfl) ?_
  refine hl_val rfl rfl (v := (ptr t_b t_o)) (hv_nil rfl) ?_
  refine hl_val rfl rfl (v := (ptr t_b t_o)) (hv_field Ty.fld87_0 (b := t_b) (o := t_o) rfl) ?_
  obtain ⟨x_1, x_n, x_c, hc62, H⟩ := H
  refine hl_val rfl rfl (v := (.slice x_1 x_n x_c)) (hv_load Ty.agg47 rfl hc62) ?_
  refine hl_val rfl rfl (v := (.int .i64 atv)) (hv_move rfl) ?_
  obtain ⟨x_1_b, x_1_o, hqe, hi9, hi10, Hq⟩ := H
  subst hqe
  have H := Hq; clear Hq
  refine hl_val rfl rfl (v := (ptr x_1_b (x_1_o + (Int.toNat atv) * 4))) (hv_index Ty.el47 rfl rfl hi9 hi10) ?_
  obtain ⟨x_Hash, x_At, x_Version, x_Hits, hc58, hc59, hc60, hc61, H⟩ := H
  refine hl_val rfl rfl (v := (.agg #[(.int .u64 x_Hash), (.int .u64 x_At), (.int .u64 x_Version), (.int .u8 x_Hits)])) (hv_loads (vs := [(.int .u64 x_Hash), (.int .u64 x_At), (.int .u64 x_Version), (.int .u8 x_Hits)]) Ty.agg31 Ty.sz31 rfl (hcells_cons hc58 (hcells_cons hc59 (hcells_cons hc60 (hcells_cons hc61 hcells_nil))))) ?_
  refine hl_step rfl rfl (hs_call Ty.cb58 (vs := [(.agg #[(.int .u64 x_Hash), (.int .u64 x_At), (.int .u64 x_Version), (.int .u8 x_Hits)])]) rfl (HC.mono H ?_))
  rintro _ h3 ⟨r_1, rfl, H⟩
  refine hl_nil ?_
  refine seqQ_n ?_
  refine hx_cond (b := r_1) rfl (fun hb57 => ?_) (fun hb57 => ?_)
  · replace H := H.1 hb57
    refine hx_seq ?_
    refine hx_draw Ty.mixed [.pure, .pure, .pure, .read, .pure, .read, .pure, .wild] [0, 1, 2, 3, 4, 5, 6, 7] (by kernel_rfl) ?_
    refine hp_pure (i := 0) rfl (wanted_0 rfl) rfl (ptr t_b t_o) (fun _ => hv_move rfl) ?_
    refine hp_pure (i := 1) rfl (wanted_0 rfl) rfl (ptr t_b t_o) (fun _ => hv_nil rfl) ?_
    refine hp_pure (i := 2) rfl (wanted_0 rfl) rfl (ptr t_b t_o) (fun _ => hv_field Ty.fld87_0 (b := t_b) (o := t_o) rfl) ?_
    obtain ⟨x_2, x_n_1, x_c_1, hc22, H⟩ := H
    refine hp_read (i := 3) rfl (wanted_0 rfl) rfl (.slice x_2 x_n_1 x_c_1) (fun _ he => hv_load Ty.agg47 rfl (he.cell hc22)) ?_
    refine hp_pure (i := 4) rfl (wanted_0 rfl) rfl (.int .i64 atv) (fun _ => hv_move rfl) ?_
    obtain ⟨x_Hash_1, x_At_1, x_Version_1, x_Hits_1, hc18, hc19, hc20, hc21, H⟩ := H
    refine hp_read (i := 5) rfl (wanted_0 rfl) rfl (.agg #[(.int .u64 x_Hash_1), (.int .u64 x_At_1), (.int .u64 x_Version_1), (.int .u8 x_Hits_1)]) (fun _ he => hv_loads (vs := [(.int .u64 x_Hash_1), (.int .u64 x_At_1), (.int .u64 x_Version_1), (.int .u8 x_Hits_1)]) Ty.agg31 Ty.sz31 rfl (hcells_cons (he.cell hc18) (hcells_cons (he.cell hc19) (hcells_cons (he.cell hc20) (hcells_cons (he.cell hc21) hcells_nil))))) ?_
    obtain ⟨x_2_b, x_2_o, hqe, hi11, hi12, Hq⟩ := H
    subst hqe
    have H := Hq; clear Hq
    refine hp_pure (i := 6) rfl (wanted_0 rfl) rfl (ptr x_2_b (x_2_o + (Int.toNat atv) * 4)) (fun _ => hv_index Ty.el47 rfl rfl hi11 hi12) ?_
    obtain ⟨hw13, H⟩ := H
    refine hp_wild (i := 7) rfl (wanted_0 rfl) rfl (hn_stores (vs := [(.int .u64 x_Hash_1), (.int .u64 x_At_1), (.int .u64 x_Version_1), (.int .u8 x_Hits_1)]) rfl rfl Ty.sz31 rfl hw13 ?_)
    intro h4 eh14
    replace H := H h4 eh14
    refine hp_nil ?_
    refine seqQ_n ?_
    refine hx_seq ?_
    refine hx_region ?_
    refine hl_val rfl rfl (v := (ptr t_b t_o)) (hv_move rfl) ?_
    refine hl_val rfl rfl (v := (ptr t_b t_o)) (hv_nil rfl) ?_
    refine hl_val rfl rfl (v := (ptr t_b (t_o + 3))) (hv_field Ty.fld87_3 (b := t_b) (o := t_o) rfl) ?_
    obtain ⟨x_3, hc17, H⟩ := H
    refine hl_val rfl rfl (v := (.int .i64 x_3)) (hv_load Ty.agg3 rfl hc17) ?_
    refine hl_val rfl rfl (v := (.int .i64 (IntKind.i64.wrap (x_3 + 1)))) (hv_arith rfl rfl rfl) ?_
    refine hl_val rfl rfl (v := (ptr t_b t_o)) (hv_nil rfl) ?_
    refine hl_val rfl rfl (v := (ptr t_b (t_o + 3))) (hv_field Ty.fld87_3 (b := t_b) (o := t_o) rfl) ?_
    obtain ⟨hw15, H⟩ := H
    refine hl_step rfl rfl (hn_store (v := (.int .i64 (IntKind.i64.wrap (x_3 + 1)))) rfl rfl Ty.sz3 rfl hw15 ?_)
    intro h5 eh16
    replace H := H h5 eh16
    refine hl_nil ?_
    refine seqQ_n ?_
    refine hx_ret ?_
    refine seqQ_ret ?_
    refine blockQ_ret ?_
    refine seqQ_ret ?_
    refine blockQ_ret ?_
    exact endQ_ret _ (res_none Try.results69 ) H
  · replace H := H.2 hb57
    refine hx_skip ?_
    refine seqQ_n ?_
    refine hx_seq ?_
    refine hx_region ?_
    refine hl_val rfl rfl (v := (ptr t_b t_o)) (hv_move rfl) ?_
    refine hl_val rfl rfl (v := (.int .i64 atv)) (hv_move rfl) ?_
    obtain ⟨r_2, hr23, H⟩ := H
    refine hl_val rfl rfl (v := (.int .i64 r_2)) (hv_call Ty.cb63 (vs := [(ptr t_b t_o), (.int .i64 atv)]) rfl hr23) ?_
    refine hl_val rfl rfl (v := (.int .i64 r_2)) (hv_assign rfl) ?_
    refine hl_nil ?_
    refine seqQ_n ?_
    obtain ⟨A24, Hx54, Hy55⟩ := H
    refine hx_cut (fun ρ h' => ∃ far_1 : Int, A24 far_1 h' ∧ Has ρ [(0, (ptr t_b t_o)), (3, (ptr e 0)), (4, (.int .i64 atv)), (5, (.int .i64 far_1))]) ?_ ?_
    · have H := Hx54; clear Hx54 Hy55
      obtain ⟨j, Hx51, Hy52⟩ := H
      refine hx_cut (fun ρ h' => h3 = h' ∧ Has ρ [(0, (ptr t_b t_o)), (3, (ptr e 0)), (4, (.int .i64 atv)), (5, (.int .i64 far)), (6, (.int .i64 r_2)), (56, (.bool j))]) ?_ ?_
      · have H := Hx51; clear Hx51 Hy52
        refine hx_draw Ty.mixed [.pure, .pure, .pure, .pure, .pure, .pure, .pure, .pure, .pure, .pure, .pure, .read, .pure, .pure, .pure, .read, .pure, .read, .pure, .pure, .pure] [0, 1, 2, 3, 4, 5, 6, 7, 8, 9, 10, 11, 12, 13, 14, 15, 16, 17, 18, 19, 20] (by kernel_rfl) ?_
        refine hp_pure (i := 0) rfl (wanted_0 rfl) rfl (.int .i64 r_2) (fun _ => hv_move rfl) ?_
        refine hp_pure (i := 1) rfl (wanted_0 rfl) rfl (.int .i64 far) (fun _ => hv_move rfl) ?_
        refine hp_pure (i := 2) rfl (wanted_0 rfl) rfl (.bool (decide (r_2 < far))) (fun _ => hv_arith rfl rfl rfl) ?_
        refine hp_pure (i := 3) rfl (wanted_0 rfl) rfl (.bool (decide (r_2 < far))) (fun _ => hv_move rfl) ?_
        rcases bool_or (decide (r_2 < far)) with hg25 | hg25
        · replace H := H.1 hg25
          refine hp_no (i := 4) rfl (wanted_n rfl rfl rfl hg25) ?_
          refine hp_no (i := 5) rfl (wanted_n rfl rfl rfl hg25) ?_
          refine hp_no (i := 6) rfl (wanted_n rfl rfl rfl hg25) ?_
          refine hp_no (i := 7) rfl (wanted_n rfl rfl rfl hg25) ?_
          refine hp_no (i := 8) rfl (wanted_u rfl rfl rfl) ?_
          refine hp_no (i := 9) rfl (wanted_u rfl rfl rfl) ?_
          refine hp_no (i := 10) rfl (wanted_u rfl rfl rfl) ?_
          refine hp_no (i := 11) rfl (wanted_u rfl rfl rfl) ?_
          refine hp_no (i := 12) rfl (wanted_u rfl rfl rfl) ?_
          refine hp_no (i := 13) rfl (wanted_u rfl rfl rfl) ?_
          refine hp_no (i := 14) rfl (wanted_u rfl rfl rfl) ?_
          refine hp_no (i := 15) rfl (wanted_u rfl rfl rfl) ?_
          refine hp_no (i := 16) rfl (wanted_u rfl rfl rfl) ?_
          refine hp_no (i := 17) rfl (wanted_u rfl rfl rfl) ?_
          refine hp_no (i := 18) rfl (wanted_u rfl rfl rfl) ?_
          refine hp_no (i := 19) rfl (wanted_n rfl rfl rfl hg25) ?_
          refine hp_pure (i := 20) rfl (wanted_0 rfl) rfl (.bool true) (fun _ => hv_pick_t rfl hg25 rfl) ?_
          refine hp_nil ?_
          refine seqQ_n ?_
          obtain rfl := H
          exact ⟨rfl, (has_cons rfl (has_cons rfl (has_cons rfl (has_cons rfl (has_cons rfl (has_cons rfl has_nil))))))⟩
        · replace H := H.2 hg25
          refine hp_pure (i := 4) rfl (wanted_y rfl rfl rfl hg25) rfl (.int .i64 r_2) (fun _ => hv_move rfl) ?_
          refine hp_pure (i := 5) rfl (wanted_y rfl rfl rfl hg25) rfl (.int .i64 far) (fun _ => hv_move rfl) ?_
          refine hp_pure (i := 6) rfl (wanted_y rfl rfl rfl hg25) rfl (.bool (r_2 == far)) (fun _ => hv_arith rfl rfl rfl) ?_
          refine hp_pure (i := 7) rfl (wanted_y rfl rfl rfl hg25) rfl (.bool (r_2 == far)) (fun _ => hv_move rfl) ?_
          rcases bool_or (r_2 == far) with hg26 | hg26
          · replace H := H.1 hg26
            refine hp_pure (i := 8) rfl (wanted_y rfl rfl rfl hg26) rfl (ptr t_b t_o) (fun _ => hv_move rfl) ?_
            refine hp_pure (i := 9) rfl (wanted_y rfl rfl rfl hg26) rfl (ptr t_b t_o) (fun _ => hv_nil rfl) ?_
            refine hp_pure (i := 10) rfl (wanted_y rfl rfl rfl hg26) rfl (ptr t_b t_o) (fun _ => hv_field Ty.fld87_0 (b := t_b) (o := t_o) rfl) ?_
            obtain ⟨x_2, x_n_1, x_c_1, hc31, H⟩ := H
            refine hp_read (i := 11) rfl (wanted_y rfl rfl rfl hg26) rfl (.slice x_2 x_n_1 x_c_1) (fun _ he => hv_load Ty.agg47 rfl (he.cell hc31)) ?_
            refine hp_pure (i := 12) rfl (wanted_y rfl rfl rfl hg26) rfl (.int .i64 atv) (fun _ => hv_move rfl) ?_
            obtain ⟨x_2_b, x_2_o, hqe, hi27, hi28, Hq⟩ := H
            subst hqe
            have H := Hq; clear Hq
            refine hp_pure (i := 13) rfl (wanted_y rfl rfl rfl hg26) rfl (ptr x_2_b (x_2_o + (Int.toNat atv) * 4)) (fun _ => hv_index Ty.el47 rfl rfl hi27 hi28) ?_
            refine hp_pure (i := 14) rfl (wanted_y rfl rfl rfl hg26) rfl (ptr x_2_b (x_2_o + (Int.toNat atv) * 4)) (fun _ => hv_field Ty.fld31_0 (b := x_2_b) (o := x_2_o + (Int.toNat atv) * 4) rfl) ?_
            obtain ⟨x_3, hc30, H⟩ := H
            refine hp_read (i := 15) rfl (wanted_y rfl rfl rfl hg26) rfl (.int .u64 x_3) (fun _ he => hv_load Ty.agg29 rfl (he.cell hc30)) ?_
            refine hp_pure (i := 16) rfl (wanted_y rfl rfl rfl hg26) rfl (ptr e 0) (fun _ => hv_field Ty.fld31_0 (b := e) (o := 0) rfl) ?_
            obtain ⟨x_4, hc29, H⟩ := H
            refine hp_read (i := 17) rfl (wanted_y rfl rfl rfl hg26) rfl (.int .u64 x_4) (fun _ he => hv_load Ty.agg29 rfl (he.cell hc29)) ?_
            refine hp_pure (i := 18) rfl (wanted_y rfl rfl rfl hg26) rfl (.bool (decide (x_3 > x_4))) (fun _ => hv_arith rfl rfl rfl) ?_
            refine hp_pure (i := 19) rfl (wanted_y rfl rfl rfl hg25) rfl (.bool (decide (x_3 > x_4))) (fun _ => hv_pick_t rfl hg26 rfl) ?_
            refine hp_pure (i := 20) rfl (wanted_0 rfl) rfl (.bool (decide (x_3 > x_4))) (fun _ => hv_pick_f rfl hg25 rfl) ?_
            refine hp_nil ?_
            refine seqQ_n ?_
            obtain rfl := H
            exact ⟨rfl, (has_cons rfl (has_cons rfl (has_cons rfl (has_cons rfl (has_cons rfl (has_cons rfl has_nil))))))⟩
          · replace H := H.2 hg26
            refine hp_no (i := 8) rfl (wanted_n rfl rfl rfl hg26) ?_
            refine hp_no (i := 9) rfl (wanted_n rfl rfl rfl hg26) ?_
            refine hp_no (i := 10) rfl (wanted_n rfl rfl rfl hg26) ?_
            refine hp_no (i := 11) rfl (wanted_n rfl rfl rfl hg26) ?_
            refine hp_no (i := 12) rfl (wanted_n rfl rfl rfl hg26) ?_
            refine hp_no (i := 13) rfl (wanted_n rfl rfl rfl hg26) ?_
            refine hp_no (i := 14) rfl (wanted_n rfl rfl rfl hg26) ?_
            refine hp_no (i := 15) rfl (wanted_n rfl rfl rfl hg26) ?_
            refine hp_no (i := 16) rfl (wanted_n rfl rfl rfl hg26) ?_
            refine hp_no (i := 17) rfl (wanted_n rfl rfl rfl hg26) ?_
            refine hp_no (i := 18) rfl (wanted_n rfl rfl rfl hg26) ?_
            refine hp_pure (i := 19) rfl (wanted_y rfl rfl rfl hg25) rfl (.bool false) (fun _ => hv_pick_f rfl hg26 rfl) ?_
            refine hp_pure (i := 20) rfl (wanted_0 rfl) rfl (.bool false) (fun _ => hv_pick_f rfl hg25 rfl) ?_
            refine hp_nil ?_
            refine seqQ_n ?_
            obtain rfl := H
            exact ⟨rfl, (has_cons rfl (has_cons rfl (has_cons rfl (has_cons rfl (has_cons rfl (has_cons rfl has_nil))))))⟩
      · have H := Hy52; clear Hx51 Hy52
        rintro ρ _ ⟨rfl, hH⟩
        refine hx_has _ hH ?_
        refine hx_cond (b := j) rfl (fun hb50 => ?_) (fun hb50 => ?_)
        · replace H := H.1 hb50
          refine hx_seq ?_
          refine hx_draw Ty.mixed [.pure, .pure, .pure, .read, .pure, .read, .pure, .pure, .pure, .read, .pure, .pure, .read, .pure, .wild, .wild] [0, 1, 2, 3, 4, 5, 6, 7, 8, 9, 10, 11, 12, 13, 14, 15] (by kernel_rfl) ?_
          refine hp_pure (i := 0) rfl (wanted_0 rfl) rfl (ptr t_b t_o) (fun _ => hv_move rfl) ?_
          refine hp_pure (i := 1) rfl (wanted_0 rfl) rfl (ptr t_b t_o) (fun _ => hv_nil rfl) ?_
          refine hp_pure (i := 2) rfl (wanted_0 rfl) rfl (ptr t_b t_o) (fun _ => hv_field Ty.fld87_0 (b := t_b) (o := t_o) rfl) ?_
          obtain ⟨x_5, x_n_2, x_c_2, hc49, H⟩ := H
          refine hp_read (i := 3) rfl (wanted_0 rfl) rfl (.slice x_5 x_n_2 x_c_2) (fun _ he => hv_load Ty.agg47 rfl (he.cell hc49)) ?_
          refine hp_pure (i := 4) rfl (wanted_0 rfl) rfl (.int .i64 atv) (fun _ => hv_move rfl) ?_
          obtain ⟨x_Hash_1, x_At_1, x_Version_1, x_Hits_1, hc45, hc46, hc47, hc48, H⟩ := H
          refine hp_read (i := 5) rfl (wanted_0 rfl) rfl (.agg #[(.int .u64 x_Hash_1), (.int .u64 x_At_1), (.int .u64 x_Version_1), (.int .u8 x_Hits_1)]) (fun _ he => hv_loads (vs := [(.int .u64 x_Hash_1), (.int .u64 x_At_1), (.int .u64 x_Version_1), (.int .u8 x_Hits_1)]) Ty.agg31 Ty.sz31 rfl (hcells_cons (he.cell hc45) (hcells_cons (he.cell hc46) (hcells_cons (he.cell hc47) (hcells_cons (he.cell hc48) hcells_nil))))) ?_
          refine hp_pure (i := 6) rfl (wanted_0 rfl) rfl (ptr t_b t_o) (fun _ => hv_move rfl) ?_
          refine hp_pure (i := 7) rfl (wanted_0 rfl) rfl (ptr t_b t_o) (fun _ => hv_nil rfl) ?_
          refine hp_pure (i := 8) rfl (wanted_0 rfl) rfl (ptr t_b t_o) (fun _ => hv_field Ty.fld87_0 (b := t_b) (o := t_o) rfl) ?_
          obtain ⟨x_6, x_n_3, x_c_3, hc44, H⟩ := H
          refine hp_read (i := 9) rfl (wanted_0 rfl) rfl (.slice x_6 x_n_3 x_c_3) (fun _ he => hv_load Ty.agg47 rfl (he.cell hc44)) ?_
          refine hp_pure (i := 10) rfl (wanted_0 rfl) rfl (.int .i64 atv) (fun _ => hv_move rfl) ?_
          obtain ⟨x_6_b, x_6_o, hqe, hi32, hi33, Hq⟩ := H
          subst hqe
          have H := Hq; clear Hq
          refine hp_pure (i := 11) rfl (wanted_0 rfl) rfl (ptr x_6_b (x_6_o + (Int.toNat atv) * 4)) (fun _ => hv_index Ty.el47 rfl rfl hi32 hi33) ?_
          obtain ⟨x_Hash_2, x_At_2, x_Version_2, x_Hits_2, hc40, hc41, hc42, hc43, H⟩ := H
          refine hp_read (i := 12) rfl (wanted_0 rfl) rfl (.agg #[(.int .u64 x_Hash_2), (.int .u64 x_At_2), (.int .u64 x_Version_2), (.int .u8 x_Hits_2)]) (fun _ he => hv_loads (vs := [(.int .u64 x_Hash_2), (.int .u64 x_At_2), (.int .u64 x_Version_2), (.int .u8 x_Hits_2)]) Ty.agg31 Ty.sz31 rfl (hcells_cons (he.cell hc40) (hcells_cons (he.cell hc41) (hcells_cons (he.cell hc42) (hcells_cons (he.cell hc43) hcells_nil))))) ?_
          obtain ⟨x_5_b, x_5_o, hqe, hi34, hi35, Hq⟩ := H
          subst hqe
          have H := Hq; clear Hq
          refine hp_pure (i := 13) rfl (wanted_0 rfl) rfl (ptr x_5_b (x_5_o + (Int.toNat atv) * 4)) (fun _ => hv_index Ty.el47 rfl rfl hi34 hi35) ?_
          obtain ⟨hw36, H⟩ := H
          refine hp_wild (i := 14) rfl (wanted_0 rfl) rfl (hn_stores (vs := [(.int .u64 x_Hash_1), (.int .u64 x_At_1), (.int .u64 x_Version_1), (.int .u8 x_Hits_1)]) rfl rfl Ty.sz31 rfl hw36 ?_)
          intro h7 eh37
          replace H := H h7 eh37
          obtain ⟨hw38, H⟩ := H
          refine hp_wild (i := 15) rfl (wanted_0 rfl) rfl (hn_stores (vs := [(.int .u64 x_Hash_2), (.int .u64 x_At_2), (.int .u64 x_Version_2), (.int .u8 x_Hits_2)]) rfl rfl Ty.sz31 rfl hw38 ?_)
          intro h8 eh39
          replace H := H h8 eh39
          refine hp_nil ?_
          refine seqQ_n ?_
          refine hx_region ?_
          refine hl_val rfl rfl (v := (.int .i64 r_2)) (hv_move rfl) ?_
          refine hl_val rfl rfl (v := (.int .i64 r_2)) (hv_assign rfl) ?_
          refine hl_nil ?_
          refine seqQ_n ?_
          exact ⟨_, H, (has_cons rfl (has_cons rfl (has_cons rfl (has_cons rfl has_nil))))⟩
        · replace H := H.2 hb50
          refine hx_skip ?_
          refine seqQ_n ?_
          exact ⟨_, H, (has_cons rfl (has_cons rfl (has_cons rfl (has_cons rfl has_nil))))⟩
    · rintro ρ h6 ⟨far_1, HA56, hH⟩
      have H := Hy55 far_1 h6 HA56; clear Hx54 Hy55
      refine hx_has _ hH ?_
      refine hx_region ?_
      refine hl_val rfl rfl (v := (ptr t_b t_o)) (hv_move rfl) ?_
      refine hl_val rfl rfl (v := (.int .i64 atv)) (hv_move rfl) ?_
      obtain ⟨r_3, hr53, H⟩ := H
      refine hl_val rfl rfl (v := (.int .i64 r_3)) (hv_call Ty.cb62 (vs := [(ptr t_b t_o), (.int .i64 atv)]) rfl hr53) ?_
      refine hl_val rfl rfl (v := (.int .i64 far_1)) (hv_move rfl) ?_
      refine hl_val rfl rfl (v := (.int .i64 (IntKind.i64.wrap (far_1 + 1)))) (hv_arith rfl rfl rfl) ?_
      refine hl_val rfl rfl (v := (.int .i64 r_3)) (hv_assign rfl) ?_
      refine hl_val rfl rfl (v := (.int .i64 (IntKind.i64.wrap (far_1 + 1)))) (hv_assign rfl) ?_
      refine hl_nil ?_
      refine blockQ_n ?_
      refine seqQ_n ?_
      exact ⟨(r_3, IntKind.i64.wrap (far_1 + 1)), H, (has_cons rfl (has_cons rfl (has_cons rfl (has_cons rfl has_nil))))⟩

/-- (*cellar/table.Table).grow -/
theorem f68_sh (t_b : Nat) (t_o : Nat) (h : Heap) (R : Value → Heap → Prop)
    (H : (∃ x : Option Addr, ∃ x_n x_c : Nat, hcell h t_b t_o = some (.slice x x_n x_c) ∧ (∃ x_1 : Int, hcell h t_b (t_o + 1) = some (.int .i64 x_1) ∧ (HW h t_b (t_o + 1) ∧ ∀ h1, h1 = hset h t_b (t_o + 1) (.int .i64 (IntKind.i64.wrap (x_1 + 1))) → (∃ x_2 : Int, hcell h1 t_b (t_o + 1) = some (.int .i64 x_2) ∧ ((0 : Int) ≤ x_2 ∧ ((0 : Int) ≤ IntKind.i64.wrap (1 * 2 ^ min (Int.toNat x_2) 64) ∧ 32 * (IntKind.i64.wrap (1 * 2 ^ min (Int.toNat x_2) 64)) ≤ 140737488355328 ∧ IntKind.i64.wrap (1 * 2 ^ min (Int.toNat x_2) 64) ≤ 140737488355328 ∧ ∀ nb h2, nb = Array.size h1 → h2 = Array.push h1 (.cells (zcells [(.int .u64 0), (.int .u64 0), (.int .u64 0), (.int .u8 0)] (Int.toNat (IntKind.i64.wrap (1 * 2 ^ min (Int.toNat x_2) 64)))).toArray 31) → (HW h2 t_b t_o ∧ ∀ h3, h3 = hset h2 t_b t_o (.slice (some ⟨nb, 0, none⟩) (Int.toNat (IntKind.i64.wrap (1 * 2 ^ min (Int.toNat x_2) 64))) (Int.toNat (IntKind.i64.wrap (1 * 2 ^ min (Int.toNat x_2) 64)))) → (HW h3 t_b (t_o + 3) ∧ ∀ h4, h4 = hset h3 t_b (t_o + 3) (.int .i64 0) → (∃ (I12 : Int → Heap → Prop) (mu13 : Int → Heap → Nat), I12 0 h4 ∧ (∀ (v : Int) (h5 : Heap), I12 v h5 → (((decide (v < (x_n : Int))) = true → (∃ A17 : Heap → Prop, (∃ x_b x_o : Nat, x = some ⟨x_b, x_o, none⟩ ∧ (0 : Int) ≤ v ∧ v < (x_n : Int) ∧ (∃ x_Hash x_At x_Version x_Hits : Int, hcell h5 x_b (x_o + (Int.toNat v) * 4) = some (.int .u64 x_Hash) ∧ hcell h5 x_b ((x_o + (Int.toNat v) * 4) + 1) = some (.int .u64 x_At) ∧ hcell h5 x_b ((x_o + (Int.toNat v) * 4) + 2) = some (.int .u64 x_Version) ∧ hcell h5 x_b ((x_o + (Int.toNat v) * 4) + 3) = some (.int .u8 x_Hits) ∧ (∀ e h7, e = Array.size h5 → h7 = Array.push h5 (.cells #[(.int .u64 0), (.int .u64 0), (.int .u64 0), (.int .u8 0)] 31) → (HWs h7 e 0 4 ∧ ∀ h8, h8 = hsets h7 e 0 [(.int .u64 x_Hash), (.int .u64 x_At), (.int .u64 x_Version), (.int .u8 x_Hits)] → (∃ x_Hash_1 x_At_1 x_Version_1 x_Hits_1 : Int, hcell h8 e 0 = some (.int .u64 x_Hash_1) ∧ hcell h8 e 1 = some (.int .u64 x_At_1) ∧ hcell h8 e 2 = some (.int .u64 x_Version_1) ∧ hcell h8 e 3 = some (.int .u8 x_Hits_1) ∧ HC Try.prog 58 #[(.agg #[(.int .u64 x_Hash_1), (.int .u64 x_At_1), (.int .u64 x_Version_1), (.int .u8 x_Hits_1)])] h8 (fun vv h9 => ∃ r : Bool, vv = (.bool r) ∧ ((r = true → (A17 h9)) ∧ (r = false → (∃ x_Hash_2 x_At_2 x_Version_2 x_Hits_2 : Int, hcell h9 e 0 = some (.int .u64 x_Hash_2) ∧ hcell h9 e 1 = some (.int .u64 x_At_2) ∧ hcell h9 e 2 = some (.int .u64 x_Version_2) ∧ hcell h9 e 3 = some (.int .u8 x_Hits_2) ∧ HC Try.prog 69 #[(ptr t_b t_o), (.agg #[(.int .u64 x_Hash_2), (.int .u64 x_At_2), (.int .u64 x_Version_2), (.int .u8 x_Hits_2)])] h9 (fun vv h10 => vv = (.tuple #[]) ∧ (A17 h10))))))))))) ∧ (∀ (h6 : Heap), A17 h6 → (I12 (IntKind.i64.wrap (v + 1)) h6 ∧ mu13 (IntKind.i64.wrap (v + 1)) h6 < mu13 v h5)))) ∧ ((decide (v < (x_n : Int))) = false → R (.tuple #[]) h5))))))))))))) :
    HC Try.prog 68 #[(ptr t_b t_o)] h R := by
  refine hc_of (args := [(ptr t_b t_o)]) Try.func68 rfl Try.ntmps68 (Nat.le_of_ble_eq_true rfl) ?_
  refine hx_seq ?_
  refine hx_region ?_
  refine hl_val rfl rfl (v := (ptr t_b t_o)) (hv_move rfl) ?_
  refine hl_val rfl rfl (v := (ptr t_b t_o)) (hv_nil rfl) ?_
  refine hl_val rfl rfl (v := (ptr t_b t_o)) (hv_field Ty.fld87_0 (b := t_b) (o := t_o) rfl) ?_
  obtain ⟨x, x_n, x_c, hc44, H⟩ := H
  refine hl_val rfl rfl (v := (.slice x x_n x_c)) (hv_load Ty.agg47 rfl hc44) ?_
  refine hl_val rfl rfl (v := (.slice x x_n x_c)) (hv_assign rfl) ?_
  refine hl_nil ?_
  refine seqQ_n ?_
  refine hx_seq ?_
  refine hx_region ?_
  refine hl_val rfl rfl (v := (ptr t_b t_o)) (hv_move rfl) ?_
  refine hl_val rfl rfl (v := (ptr t_b t_o)) (hv_nil rfl) ?_
  refine hl_val rfl rfl (v := (ptr t_b (t_o + 1))) (hv_field Ty.fld87_1 (b := t_b) (o := t_o) rfl) ?_
  obtain ⟨x_1, hc43, H⟩ := H
  refine hl_val rfl rfl (v := (.int .i64 x_1)) (hv_load Ty.agg3 rfl hc43) ?_
  refine hl_val rfl rfl (v := (.int .i64 (IntKind.i64.wrap (x_1 + 1)))) (hv_arith rfl rfl rfl) ?_
  refine hl_val rfl rfl (v := (ptr t_b t_o)) (hv_nil rfl) ?_
  refine hl_val rfl rfl (v := (ptr t_b (t_o + 1))) (hv_field Ty.fld87_1 (b := t_b) (o := t_o) rfl) ?_
  obtain ⟨hw1, H⟩ := H
  refine hl_step rfl rfl (hn_store (v := (.int .i64 (IntKind.i64.wrap (x_1 + 1)))) rfl rfl Ty.sz3 rfl hw1 ?_)
  intro h1 eh2
  replace H := H h1 eh2
  refine hl_nil ?_
  refine seqQ_n ?_
  refine hx_seq ?_
  refine hx_region ?_
  refine hl_val rfl rfl (v := (ptr t_b t_o)) (hv_move rfl) ?_
  refine hl_val rfl rfl (v := (ptr t_b t_o)) (hv_move rfl) ?_
  refine hl_val rfl rfl (v := (ptr t_b t_o)) (hv_move rfl) ?_
  refine hl_val rfl rfl (v := (ptr t_b t_o)) (hv_nil rfl) ?_
  refine hl_val rfl rfl (v := (ptr t_b (t_o + 1))) (hv_field Ty.fld87_1 (b := t_b) (o := t_o) rfl) ?_
  obtain ⟨x_2, hc42, H⟩ := H
  refine hl_val rfl rfl (v := (.int .i64 x_2)) (hv_load Ty.agg3 rfl hc42) ?_
  obtain ⟨hz41, H⟩ := H
  refine hl_val rfl rfl (v := (.int .i64 (IntKind.i64.wrap (1 * 2 ^ min (Int.toNat x_2) 64)))) (hv_shift rfl rfl hz41 rfl) ?_
  obtain ⟨hm5, hm6, hm7, H⟩ := H
  refine hl_step rfl rfl (hn_make (z := (.agg #[(.int .u64 0), (.int .u64 0), (.int .u64 0), (.int .u8 0)])) (zs := [(.int .u64 0), (.int .u64 0), (.int .u64 0), (.int .u8 0)]) (n := IntKind.i64.wrap (1 * 2 ^ min (Int.toNat x_2) 64)) Ty.u47 Ty.sz31 Ty.by31 Ty.z31 rfl rfl hm5 hm6 hm7 rfl rfl ?_)
  intro nb h2 eb3 eh4
  replace H := H nb h2 eb3 eh4
  refine hl_val rfl rfl (v := (ptr t_b t_o)) (hv_nil rfl) ?_
  refine hl_val rfl rfl (v := (ptr t_b t_o)) (hv_field Ty.fld87_0 (b := t_b) (o := t_o) rfl) ?_
  obtain ⟨hw8, H⟩ := H
  refine hl_step rfl rfl (hn_store (v := (.slice (some ⟨nb, 0, none⟩) (Int.toNat (IntKind.i64.wrap (1 * 2 ^ min (Int.toNat x_2) 64))) (Int.toNat (IntKind.i64.wrap (1 * 2 ^ min (Int.toNat x_2) 64))))) rfl rfl Ty.sz47 rfl hw8 ?_)
  intro h3 eh9
  replace H := H h3 eh9
  refine hl_val rfl rfl (v := (ptr t_b t_o)) (hv_nil rfl) ?_
  refine hl_val rfl rfl (v := (ptr t_b (t_o + 3))) (hv_field Ty.fld87_3 (b := t_b) (o := t_o) rfl) ?_
  obtain ⟨hw10, H⟩ := H
  refine hl_step rfl rfl (hn_store (v := (.int .i64 0)) rfl rfl Ty.sz3 rfl hw10 ?_)
  intro h4 eh11
  replace H := H h4 eh11
  refine hl_nil ?_
  refine seqQ_n ?_
  refine hx_seq ?_
  refine hx_region ?_
  refine hl_val rfl rfl (v := (.slice x x_n x_c)) (hv_move rfl) ?_
  refine hl_val rfl rfl (v := (.int .i64 (x_n : Int))) (hv_len (n := x_n) Ty.u47 rfl) ?_
  refine hl_val rfl rfl (v := (.int .i64 0)) (hv_move rfl) ?_
  refine hl_nil ?_
  refine seqQ_n ?_
  refine hx_block ?_
  obtain ⟨I12, mu13, Ha14, Hr15⟩ := H
  refine hx_loopT (σ := Int) (fun s => [(0, (ptr t_b t_o)), (28, (.slice x x_n x_c)), (29, (.int .i64 (x_n : Int))), (30, (.int .i64 s))]) (fun s h' => I12 s h') (fun s h' => mu13 s h') 0 Ha14 (has_cons rfl (has_cons rfl (has_cons rfl (has_cons rfl has_nil)))) ?_
  rintro v ρ h5 Hi16
  have H := Hr15 v h5 Hi16
  refine hx_seq ?_
  refine hx_region ?_
  refine hl_val rfl rfl (v := (.bool (decide (v < (x_n : Int))))) (hv_arith rfl rfl rfl) ?_
  refine hl_nil ?_
  refine seqQ_n ?_
  refine hx_seq ?_
  refine hx_cond (b := decide (v < (x_n : Int))) rfl (fun hb40 => ?_) (fun hb40 => ?_)
  · replace H := H.1 hb40
    refine hx_skip ?_
    refine seqQ_n ?_
    obtain ⟨A17, Hx37, Hy38⟩ := H
    refine hx_cut (fun ρ h' => A17 h' ∧ Has ρ [(0, (ptr t_b t_o)), (28, (.slice x x_n x_c)), (29, (.int .i64 (x_n : Int))), (30, (.int .i64 v))]) ?_ ?_
    · have H := Hx37; clear Hx37 Hy38
      refine hx_block ?_
      refine hx_seq ?_
      refine hx_region ?_
      obtain ⟨x_b, x_o, hqe, hi18, hi19, Hq⟩ := H
      subst hqe
      have H := Hq; clear Hq
      refine hl_val rfl rfl (v := (ptr x_b (x_o + (Int.toNat v) * 4))) (hv_index Ty.el47 rfl rfl hi18 hi19) ?_
      obtain ⟨x_Hash, x_At, x_Version, x_Hits, hc33, hc34, hc35, hc36, H⟩ := H
      refine hl_val rfl rfl (v := (.agg #[(.int .u64 x_Hash), (.int .u64 x_At), (.int .u64 x_Version), (.int .u8 x_Hits)])) (hv_loads (vs := [(.int .u64 x_Hash), (.int .u64 x_At), (.int .u64 x_Version), (.int .u8 x_Hits)]) Ty.agg31 Ty.sz31 rfl (hcells_cons hc33 (hcells_cons hc34 (hcells_cons hc35 (hcells_cons hc36 hcells_nil))))) ?_
      refine hl_step rfl rfl (hn_alloc Ty.z31 ?_)
      intro e h7 eb20 eh21
      replace H := H e h7 eb20 eh21
      obtain ⟨hw22, H⟩ := H
      refine hl_step rfl rfl (hn_stores (vs := [(.int .u64 x_Hash), (.int .u64 x_At), (.int .u64 x_Version), (.int .u8 x_Hits)]) rfl rfl Ty.sz31 rfl hw22 ?_)
      intro h8 eh23
      replace H := H h8 eh23
      refine hl_nil ?_
      refine seqQ_n ?_
      refine hx_seq ?_
      refine hx_seq ?_
      refine hx_region ?_
      obtain ⟨x_Hash_1, x_At_1, x_Version_1, x_Hits_1, hc29, hc30, hc31, hc32, H⟩ := H
      refine hl_val rfl rfl (v := (.agg #[(.int .u64 x_Hash_1), (.int .u64 x_At_1), (.int .u64 x_Version_1), (.int .u8 x_Hits_1)])) (hv_loads (vs := [(.int .u64 x_Hash_1), (.int .u64 x_At_1), (.int .u64 x_Version_1), (.int .u8 x_Hits_1)]) Ty.agg31 Ty.sz31 rfl (hcells_cons hc29 (hcells_cons hc30 (hcells_cons hc31 (hcells_cons hc32 hcells_nil))))) ?_
      refine hl_step rfl rfl (hs_call Ty.cb58 (vs := [(.agg #[(.int .u64 x_Hash_1), (.int .u64 x_At_1), (.int .u64 x_Version_1), (.int .u8 x_Hits_1)])]) rfl (HC.mono H ?_))
      rintro _ h9 ⟨r, rfl, H⟩
      refine hl_nil ?_
      refine seqQ_n ?_
      refine hx_cond (b := r) rfl (fun hb28 => ?_) (fun hb28 => ?_)
      · replace H := H.1 hb28
        refine hx_exit ?_
        refine seqQ_exit ?_
        refine blockQ_here ?_
        refine seqQ_n ?_
        exact ⟨H, (has_cons rfl (has_cons rfl (has_cons rfl (has_cons rfl has_nil))))⟩
      · replace H := H.2 hb28
        refine hx_skip ?_
        refine seqQ_n ?_
        refine hx_region ?_
        refine hl_val rfl rfl (v := (ptr t_b t_o)) (hv_move rfl) ?_
        obtain ⟨x_Hash_2, x_At_2, x_Version_2, x_Hits_2, hc24, hc25, hc26, hc27, H⟩ := H
        refine hl_val rfl rfl (v := (.agg #[(.int .u64 x_Hash_2), (.int .u64 x_At_2), (.int .u64 x_Version_2), (.int .u8 x_Hits_2)])) (hv_loads (vs := [(.int .u64 x_Hash_2), (.int .u64 x_At_2), (.int .u64 x_Version_2), (.int .u8 x_Hits_2)]) Ty.agg31 Ty.sz31 rfl (hcells_cons hc24 (hcells_cons hc25 (hcells_cons hc26 (hcells_cons hc27 hcells_nil))))) ?_
        refine hl_step rfl rfl (hs_call Ty.cb69 (vs := [(ptr t_b t_o), (.agg #[(.int .u64 x_Hash_2), (.int .u64 x_At_2), (.int .u64 x_Version_2), (.int .u8 x_Hits_2)])]) rfl (HC.mono H ?_))
        rintro _ h10 ⟨rfl, H⟩
        refine hl_nil ?_
        refine blockQ_n ?_
        refine seqQ_n ?_
        exact ⟨H, (has_cons rfl (has_cons rfl (has_cons rfl (has_cons rfl has_nil))))⟩
    · rintro ρ h6 ⟨HA39, hH⟩
      have H := Hy38 h6 HA39; clear Hx37 Hy38
      refine hx_has _ hH ?_
      refine hx_region ?_
      refine hl_val rfl rfl (v := (.int .i64 (IntKind.i64.wrap (v + 1)))) (hv_arith rfl rfl rfl) ?_
      refine hl_val rfl rfl (v := (.int .i64 (IntKind.i64.wrap (v + 1)))) (hv_move rfl) ?_
      refine hl_nil ?_
      refine seqQ_n ?_
      exact ⟨IntKind.i64.wrap (v + 1), H, (has_cons rfl (has_cons rfl (has_cons rfl (has_cons rfl has_nil))))⟩
  · replace H := H.2 hb40
    refine hx_exit ?_
    refine seqQ_exit ?_
    refine seqQ_exit ?_
    refine blockQ_here ?_
    exact endQ_n _ (res_none Try.results68 ) H

/-- slices.Clone[[]cellar/api.Entry,cellar/api.Entry] -/
theorem f65_sh (sv : Option Addr) (s_n : Nat) (s_c : Nat) (h : Heap) (R : Value → Heap → Prop)
    (H : ((sv.isNone = true → R (.slice none 0 0) h) ∧ (sv.isNone = false → (∀ nb h1, nb = Array.size h → h1 = Array.push h (.cells #[] 31) → HAppend Try.prog 47 47 (.slice (some ⟨nb, 0, none⟩) 0 0) (.slice sv s_n s_c) h1 (fun vv h2 => ∃ ap : Option Addr, ∃ ap_n ap_c : Nat, vv = (.slice ap ap_n ap_c) ∧ R (.slice ap ap_n ap_c) h2))))) :
    HC Try.prog 65 #[(.slice sv s_n s_c)] h R := by
  refine hc_of (args := [(.slice sv s_n s_c)]) Try.func65 rfl Try.ntmps65 (Nat.le_of_ble_eq_true rfl) ?_
  refine hx_seq ?_
  refine hx_region ?_
  refine hl_val rfl rfl (v := (.slice none 0 0)) (hv_assign rfl) ?_
  refine hl_nil ?_
  refine seqQ_n ?_
  refine hx_seq ?_
  refine hx_seq ?_
  refine hx_region ?_
  refine hl_val rfl rfl (v := (.slice sv s_n s_c)) (hv_move rfl) ?_
  refine hl_val rfl rfl (v := (.bool sv.isNone)) (hv_sliceNil Ty.u47 rfl rfl) ?_
  refine hl_nil ?_
  refine seqQ_n ?_
  refine hx_cond (b := sv.isNone) rfl (fun hb3 => ?_) (fun hb3 => ?_)
  · replace H := H.1 hb3
    refine hx_seq ?_
    refine hx_region ?_
    refine hl_val rfl rfl (v := (.slice none 0 0)) (hv_assign rfl) ?_
    refine hl_nil ?_
    refine seqQ_n ?_
    refine hx_ret ?_
    refine seqQ_ret ?_
    exact endQ_ret _ (res_one Try.results65 (rv_tmp rfl)) H
  · replace H := H.2 hb3
    refine hx_skip ?_
    refine seqQ_n ?_
    refine hx_seq ?_
    refine hx_region ?_
    refine hl_step rfl rfl (hn_buildSlice (n := 0) (vs := []) (cs := #[]) Ty.u47 Ty.sz31 Ty.z31 rfl rfl (by kernel_rfl) ?_)
    intro nb h1 eb1 eh2
    replace H := H nb h1 eb1 eh2
    refine hl_val rfl rfl (v := (.slice sv s_n s_c)) (hv_move rfl) ?_
    refine hl_step rfl rfl (hs_append rfl rfl (HAppend.mono H ?_))
    rintro _ h2 ⟨ap, ap_n, ap_c, rfl, H⟩
    refine hl_val rfl rfl (v := (.slice ap ap_n ap_c)) (hv_assign rfl) ?_
    refine hl_nil ?_
    refine seqQ_n ?_
    refine hx_ret ?_
    exact endQ_ret _ (res_one Try.results65 (rv_tmp rfl)) H

/-- (*cellar/table.Table).Layout -/
theorem f57_sh (t_b : Nat) (t_o : Nat) (h : Heap) (R : Value → Heap → Prop)
    (H : (∃ r : Bool, HC Try.prog 64 #[(ptr t_b t_o)] h (fun vv h' => vv = (.bool r) ∧ h' = h) ∧ (((!r) = true → R (.slice none 0 0) h) ∧ ((!r) = false → (∃ x : Option Addr, ∃ x_n x_c : Nat, hcell h t_b t_o = some (.slice x x_n x_c) ∧ HC Try.prog 65 #[(.slice x x_n x_c)] h (fun vv h1 => ∃ r_1 : Option Addr, ∃ r_n r_c : Nat, vv = (.slice r_1 r_n r_c) ∧ R (.slice r_1 r_n r_c) h1)))))) :
    HC Try.prog 57 #[(ptr t_b t_o)] h R := by
  refine hc_of (args := [(ptr t_b t_o)]) Try.func57 rfl Try.ntmps57 (Nat.le_of_ble_eq_true rfl) ?_
  refine hx_seq ?_
  refine hx_region ?_
  refine hl_val rfl rfl (v := (.slice none 0 0)) (hv_assign rfl) ?_
  refine hl_nil ?_
  refine seqQ_n ?_
  refine hx_seq ?_
  refine hx_seq ?_
  refine hx_region ?_
  refine hl_val rfl rfl (v := (ptr t_b t_o)) (hv_move rfl) ?_
  obtain ⟨r, hr1, H⟩ := H
  refine hl_val rfl rfl (v := (.bool r)) (hv_call Ty.cb64 (vs := [(ptr t_b t_o)]) rfl hr1) ?_
  refine hl_val rfl rfl (v := (.bool (!r))) (hv_not (b := r) rfl) ?_
  refine hl_nil ?_
  refine seqQ_n ?_
  refine hx_cond (b := !r) rfl (fun hb3 => ?_) (fun hb3 => ?_)
  · replace H := H.1 hb3
    refine hx_seq ?_
    refine hx_region ?_
    refine hl_val rfl rfl (v := (.slice none 0 0)) (hv_assign rfl) ?_
    refine hl_nil ?_
    refine seqQ_n ?_
    refine hx_ret ?_
    refine seqQ_ret ?_
    exact endQ_ret _ (res_one Try.results57 (rv_tmp rfl)) H
  · replace H := H.2 hb3
    refine hx_skip ?_
    refine seqQ_n ?_
    refine hx_seq ?_
    refine hx_region ?_
    refine hl_val rfl rfl (v := (ptr t_b t_o)) (hv_move rfl) ?_
    refine hl_val rfl rfl (v := (ptr t_b t_o)) (hv_nil rfl) ?_
    refine hl_val rfl rfl (v := (ptr t_b t_o)) (hv_field Ty.fld87_0 (b := t_b) (o := t_o) rfl) ?_
    obtain ⟨x, x_n, x_c, hc2, H⟩ := H
    refine hl_val rfl rfl (v := (.slice x x_n x_c)) (hv_load Ty.agg47 rfl hc2) ?_
    refine hl_step rfl rfl (hs_call Ty.cb65 (vs := [(.slice x x_n x_c)]) rfl (HC.mono H ?_))
    rintro _ h1 ⟨r_1, r_n, r_c, rfl, H⟩
    refine hl_val rfl rfl (v := (.slice r_1 r_n r_c)) (hv_assign rfl) ?_
    refine hl_nil ?_
    refine seqQ_n ?_
    refine hx_ret ?_
    exact endQ_ret _ (res_one Try.results57 (rv_tmp rfl)) H

end Go.Proofs.Ytkecmljalcfhoaa
