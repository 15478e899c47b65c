/-
Shallow forms, written by gen.py (a program of this session) out of the print of the program.
-/
import Derived.Test.YtebipjmcckkhcaaMor
import Derived.Test.YtebipjmcckkhcaaProg
namespace Go.Proofs.Ytebipjmcckkhcaa
open Go
set_option maxRecDepth 100000
set_option maxHeartbeats 4000000

theorem Ty.agg24 : aggB Try.prog 24 = some false := by kernel_rfl
theorem Ty.agg31 : aggB Try.prog 31 = some true := by kernel_rfl
theorem Ty.agg35 : aggB Try.prog 35 = some false := by kernel_rfl
theorem Ty.agg60 : aggB Try.prog 60 = some true := by kernel_rfl
theorem Ty.cb13 : CallB Try.prog 13 := fun _ _ => Try.call13 _ _
theorem Ty.cb28 : CallB Try.prog 28 := fun _ _ => Try.call28 _ _
theorem Ty.cb29 : CallB Try.prog 29 := fun _ _ => Try.call29 _ _
theorem Ty.cb30 : CallB Try.prog 30 := fun _ _ => Try.call30 _ _
theorem Ty.cb36 : CallB Try.prog 36 := fun _ _ => Try.call36 _ _
theorem Ty.cb42 : CallB Try.prog 42 := fun _ _ => Try.call42 _ _
theorem Ty.cb43 : CallB Try.prog 43 := fun _ _ => Try.call43 _ _
theorem Ty.cb49 : CallB Try.prog 49 := fun _ _ => Try.call49 _ _
theorem Ty.cb50 : CallB Try.prog 50 := fun _ _ => Try.call50 _ _
theorem Ty.cb51 : CallB Try.prog 51 := fun _ _ => Try.call51 _ _
theorem Ty.cb53 : CallB Try.prog 53 := fun _ _ => Try.call53 _ _
theorem Ty.cb54 : CallB Try.prog 54 := fun _ _ => Try.call54 _ _
theorem Ty.cb55 : CallB Try.prog 55 := fun _ _ => Try.call55 _ _
theorem Ty.cb56 : CallB Try.prog 56 := fun _ _ => Try.call56 _ _
theorem Ty.cb57 : CallB Try.prog 57 := fun _ _ => Try.call57 _ _
theorem Ty.cb58 : CallB Try.prog 58 := fun _ _ => Try.call58 _ _
theorem Ty.cb59 : CallB Try.prog 59 := fun _ _ => Try.call59 _ _
theorem Ty.cb60 : CallB Try.prog 60 := fun _ _ => Try.call60 _ _
theorem Ty.cb62 : CallB Try.prog 62 := fun _ _ => Try.call62 _ _
theorem Ty.el35 : elB Try.prog 35 = some 4 := by kernel_rfl
theorem Ty.fld60_0 : fldB Try.prog 60 0 = some 0 := by kernel_rfl
theorem Ty.mixed : Try.prog.follows .mixedOrders = true := by kernel_rfl
theorem Ty.sz31 : szB Try.prog 31 = some 4 := by kernel_rfl
theorem Ty.sz35 : szB Try.prog 35 = some 1 := by kernel_rfl
theorem Ty.sz60 : szB Try.prog 60 = some 4 := by kernel_rfl
theorem Ty.u29 : Try.prog.underlying 29 = some (.int .u64) := by kernel_rfl
theorem Ty.u3 : Try.prog.underlying 3 = some (.int .i64) := by kernel_rfl
theorem Ty.u35 : Try.prog.underlying 35 = some (.slice 31) := by kernel_rfl
theorem Ty.u5 : Try.prog.underlying 5 = some (.int .u8) := by kernel_rfl
theorem Ty.u74 : Try.prog.underlying 74 = some (.int .u64) := by kernel_rfl
theorem Ty.u9 : Try.prog.underlying 9 = some (.string) := by kernel_rfl
theorem Ty.z31 : zeroB Try.prog 31 (.agg #[(.int .u64 0), (.int .u64 0), (.int .u64 0), (.int .u8 0)]) := by unfold zeroB; kernel_rfl
theorem Ty.z60 : zeroB Try.prog 60 (.agg #[(.slice none 0 0), (.int .i64 0), (.int .i64 0), (.int .i64 0)]) := by unfold zeroB; kernel_rfl

/-- (*cellar/table.Table).All -/
theorem f23_sh (t_b : Nat) (t_o : Nat) (h : Heap) (R : Value → Heap → Prop)
    (H : (∀ t h1, t = Array.size h → h1 = Array.push h (.cells #[(ptr t_b t_o)] 24) → R (.func (.func 41) #[] #[(ptr t 0)]) h1)) :
    HC Try.prog 23 #[(ptr t_b t_o)] h R := by
  refine hc_of (args := [(ptr t_b t_o)]) Try.func23 rfl Try.ntmps23 (Nat.le_of_ble_eq_true rfl) ?_
  refine hx_seq ?_
  refine hx_region ?_
  refine hl_step rfl rfl (hn_box (v := (ptr t_b t_o)) rfl ?_)
  intro t h1 eb1 eh2
  replace H := H t h1 eb1 eh2
  refine hl_val rfl rfl (v := .nilFunc) (hv_assign rfl) ?_
  refine hl_nil ?_
  refine seqQ_n ?_
  refine hx_seq ?_
  refine hx_region ?_
  refine hl_val rfl rfl (v := (.func (.func 41) #[] #[(ptr t 0)])) (hv_makeFunc (fv := []) (cv := [(ptr t 0)]) rfl rfl) ?_
  refine hl_val rfl rfl (v := (.func (.func 41) #[] #[(ptr t 0)])) (hv_assign rfl) ?_
  refine hl_nil ?_
  refine seqQ_n ?_
  refine hx_ret ?_
  exact endQ_ret _ (res_one Try.results23 (rv_tmp rfl)) H

/-- (*cellar/table.Table).Fork -/
theorem f24_sh (t_b : Nat) (t_o : Nat) (h : Heap) (R : Value → Heap → Prop)
    (H : (∃ r : Bool, HC Try.prog 28 #[(ptr t_b t_o)] h (fun vv h' => vv = (.bool r) ∧ h' = h) ∧ (((!r) = true → R (.pointer none) h) ∧ ((!r) = false → (∃ x_slots : Option Addr, ∃ x_slots_n x_slots_c : Nat, ∃ x_bits x_most x_n : Int, hcell h t_b t_o = some (.slice x_slots x_slots_n x_slots_c) ∧ hcell h t_b (t_o + 1) = some (.int .i64 x_bits) ∧ hcell h t_b (t_o + 2) = some (.int .i64 x_most) ∧ hcell h t_b (t_o + 3) = some (.int .i64 x_n) ∧ (∀ out h1, out = Array.size h → h1 = Array.push h (.cells #[(.slice none 0 0), (.int .i64 0), (.int .i64 0), (.int .i64 0)] 60) → (HWs h1 out 0 4 ∧ ∀ h2, h2 = hsets h1 out 0 [(.slice x_slots x_slots_n x_slots_c), (.int .i64 x_bits), (.int .i64 x_most), (.int .i64 x_n)] → (∃ x : Option Addr, ∃ x_n_1 x_c : Nat, hcell h2 t_b t_o = some (.slice x x_n_1 x_c) ∧ HC Try.prog 29 #[(.slice x x_n_1 x_c)] h2 (fun vv h3 => ∃ r_1 : Option Addr, ∃ r_n r_c : Nat, vv = (.slice r_1 r_n r_c) ∧ (HW h3 out 0 ∧ ∀ h4, h4 = hset h3 out 0 (.slice r_1 r_n r_c) → R (ptr out 0) h4)))))))))) :
    HC Try.prog 24 #[(ptr t_b t_o)] h R := by
  refine hc_of (args := [(ptr t_b t_o)]) Try.func24 rfl Try.ntmps24 (Nat.le_of_ble_eq_true rfl) ?_
  refine hx_seq ?_
  refine hx_region ?_
  refine hl_val rfl rfl (v := (.pointer none)) (hv_assign rfl) ?_
  refine hl_nil ?_
  refine seqQ_n ?_
  refine hx_seq ?_
  refine hx_seq ?_
  refine hx_region ?_
  refine hl_val rfl rfl (v := (ptr t_b t_o)) (hv_move rfl) ?_
  obtain ⟨r, hr1, H⟩ := H
  refine hl_val rfl rfl (v := (.bool r)) (hv_call Ty.cb28 (vs := [(ptr t_b t_o)]) rfl hr1) ?_
  refine hl_val rfl rfl (v := (.bool (!r))) (hv_not (b := r) rfl) ?_
  refine hl_nil ?_
  refine seqQ_n ?_
  refine hx_cond (b := !r) rfl (fun hb13 => ?_) (fun hb13 => ?_)
  · replace H := H.1 hb13
    refine hx_seq ?_
    refine hx_region ?_
    refine hl_val rfl rfl (v := (.pointer none)) (hv_assign rfl) ?_
    refine hl_nil ?_
    refine seqQ_n ?_
    refine hx_ret ?_
    refine seqQ_ret ?_
    exact endQ_ret _ (res_one Try.results24 (rv_tmp rfl)) H
  · replace H := H.2 hb13
    refine hx_skip ?_
    refine seqQ_n ?_
    refine hx_seq ?_
    refine hx_region ?_
    refine hl_val rfl rfl (v := (ptr t_b t_o)) (hv_move rfl) ?_
    refine hl_val rfl rfl (v := (ptr t_b t_o)) (hv_nil rfl) ?_
    obtain ⟨x_slots, x_slots_n, x_slots_c, x_bits, x_most, x_n, hc9, hc10, hc11, hc12, H⟩ := H
    refine hl_val rfl rfl (v := (.agg #[(.slice x_slots x_slots_n x_slots_c), (.int .i64 x_bits), (.int .i64 x_most), (.int .i64 x_n)])) (hv_loads (vs := [(.slice x_slots x_slots_n x_slots_c), (.int .i64 x_bits), (.int .i64 x_most), (.int .i64 x_n)]) Ty.agg60 Ty.sz60 rfl (hcells_cons hc9 (hcells_cons hc10 (hcells_cons hc11 (hcells_cons hc12 hcells_nil))))) ?_
    refine hl_step rfl rfl (hn_alloc Ty.z60 ?_)
    intro out h1 eb2 eh3
    replace H := H out h1 eb2 eh3
    obtain ⟨hw4, H⟩ := H
    refine hl_step rfl rfl (hn_stores (vs := [(.slice x_slots x_slots_n x_slots_c), (.int .i64 x_bits), (.int .i64 x_most), (.int .i64 x_n)]) rfl rfl Ty.sz60 rfl hw4 ?_)
    intro h2 eh5
    replace H := H h2 eh5
    refine hl_nil ?_
    refine seqQ_n ?_
    refine hx_seq ?_
    refine hx_region ?_
    refine hl_val rfl rfl (v := (ptr t_b t_o)) (hv_move rfl) ?_
    refine hl_val rfl rfl (v := (ptr t_b t_o)) (hv_nil rfl) ?_
    refine hl_val rfl rfl (v := (ptr t_b t_o)) (hv_field Ty.fld60_0 (b := t_b) (o := t_o) rfl) ?_
    obtain ⟨x, x_n_1, x_c, hc8, H⟩ := H
    refine hl_val rfl rfl (v := (.slice x x_n_1 x_c)) (hv_load Ty.agg35 rfl hc8) ?_
    refine hl_step rfl rfl (hs_call Ty.cb29 (vs := [(.slice x x_n_1 x_c)]) rfl (HC.mono H ?_))
    rintro _ h3 ⟨r_1, r_n, r_c, rfl, H⟩
    refine hl_val rfl rfl (v := (ptr out 0)) (hv_field Ty.fld60_0 (b := out) (o := 0) rfl) ?_
    obtain ⟨hw6, H⟩ := H
    refine hl_step rfl rfl (hn_store (v := (.slice r_1 r_n r_c)) rfl rfl Ty.sz35 rfl hw6 ?_)
    intro h4 eh7
    replace H := H h4 eh7
    refine hl_nil ?_
    refine seqQ_n ?_
    refine hx_seq ?_
    refine hx_region ?_
    refine hl_val rfl rfl (v := (ptr out 0)) (hv_assign rfl) ?_
    refine hl_nil ?_
    refine seqQ_n ?_
    refine hx_ret ?_
    exact endQ_ret _ (res_one Try.results24 (rv_tmp rfl)) H

/-- (*cellar/table.Table).Longest -/
theorem f26_sh (t_b : Nat) (t_o : Nat) (h : Heap) (R : Value → Heap → Prop)
    (H : (∃ r : Bool, HC Try.prog 28 #[(ptr t_b t_o)] h (fun vv h' => vv = (.bool r) ∧ h' = h) ∧ (((!r) = true → R (.int .i64 0) h) ∧ ((!r) = false → (∃ x : Option Addr, ∃ x_n x_c : Nat, hcell h t_b t_o = some (.slice x x_n x_c) ∧ (∃ (I2 : Int → Int → Heap → Prop) (mu3 : Int → Int → Heap → Nat), I2 0 0 h ∧ (∀ (most : Int) (v : Int) (h1 : Heap), I2 most v h1 → (((decide (v < (x_n : Int))) = true → (∃ A7 : Int → Heap → Prop, (∃ x_b x_o : Nat, x = some ⟨x_b, x_o, none⟩ ∧ (0 : Int) ≤ v ∧ v < (x_n : Int) ∧ (∃ x_Hash x_At x_Version x_Hits : Int, hcell h1 x_b (x_o + (Int.toNat v) * 4) = some (.int .u64 x_Hash) ∧ hcell h1 x_b ((x_o + (Int.toNat v) * 4) + 1) = some (.int .u64 x_At) ∧ hcell h1 x_b ((x_o + (Int.toNat v) * 4) + 2) = some (.int .u64 x_Version) ∧ hcell h1 x_b ((x_o + (Int.toNat v) * 4) + 3) = some (.int .u8 x_Hits) ∧ (∀ e h3, e = Array.size h1 → h3 = Array.push h1 (.cells #[(.int .u64 0), (.int .u64 0), (.int .u64 0), (.int .u8 0)] 31) → (HWs h3 e 0 4 ∧ ∀ h4, h4 = hsets h3 e 0 [(.int .u64 x_Hash), (.int .u64 x_At), (.int .u64 x_Version), (.int .u8 x_Hits)] → (∃ x_Hash_1 x_At_1 x_Version_1 x_Hits_1 : Int, hcell h4 e 0 = some (.int .u64 x_Hash_1) ∧ hcell h4 e 1 = some (.int .u64 x_At_1) ∧ hcell h4 e 2 = some (.int .u64 x_Version_1) ∧ hcell h4 e 3 = some (.int .u8 x_Hits_1) ∧ HC Try.prog 30 #[(.agg #[(.int .u64 x_Hash_1), (.int .u64 x_At_1), (.int .u64 x_Version_1), (.int .u8 x_Hits_1)])] h4 (fun vv h5 => ∃ r_1 : Bool, vv = (.bool r_1) ∧ (((!r_1) = true → (∃ r_2 : Int, HC Try.prog 36 #[(ptr t_b t_o), (.int .i64 v)] h5 (fun vv h' => vv = (.int .i64 r_2) ∧ h' = h5) ∧ (A7 (if r_2 > most then r_2 else most) h5))) ∧ ((!r_1) = false → (A7 most h5))))))))) ∧ (∀ (most_1 : Int) (h2 : Heap), A7 most_1 h2 → (I2 most_1 (IntKind.i64.wrap (v + 1)) h2 ∧ mu3 most_1 (IntKind.i64.wrap (v + 1)) h2 < mu3 most v h1)))) ∧ ((decide (v < (x_n : Int))) = false → R (.int .i64 most) h1))))))))) :
    HC Try.prog 26 #[(ptr t_b t_o)] h R := by
  refine hc_of (args := [(ptr t_b t_o)]) Try.func26 rfl Try.ntmps26 (Nat.le_of_ble_eq_true rfl) ?_
  refine hx_seq ?_
  refine hx_region ?_
  refine hl_val rfl rfl (v := (.int .i64 0)) (hv_assign rfl) ?_
  refine hl_nil ?_
  refine seqQ_n ?_
  refine hx_seq ?_
  refine hx_seq ?_
  refine hx_region ?_
  refine hl_val rfl rfl (v := (ptr t_b t_o)) (hv_move rfl) ?_
  obtain ⟨r, hr1, H⟩ := H
  refine hl_val rfl rfl (v := (.bool r)) (hv_call Ty.cb28 (vs := [(ptr t_b t_o)]) rfl hr1) ?_
  refine hl_val rfl rfl (v := (.bool (!r))) (hv_not (b := r) rfl) ?_
  refine hl_nil ?_
  refine seqQ_n ?_
  refine hx_cond (b := !r) rfl (fun hb29 => ?_) (fun hb29 => ?_)
  · replace H := H.1 hb29
    refine hx_seq ?_
    refine hx_region ?_
    refine hl_val rfl rfl (v := (.int .i64 0)) (hv_assign rfl) ?_
    refine hl_nil ?_
    refine seqQ_n ?_
    refine hx_ret ?_
    refine seqQ_ret ?_
    exact endQ_ret _ (res_one Try.results26 (rv_tmp rfl)) H
  · replace H := H.2 hb29
    refine hx_skip ?_
    refine seqQ_n ?_
    refine hx_seq ?_
    refine hx_region ?_
    refine hl_val rfl rfl (v := (.int .i64 0)) (hv_assign rfl) ?_
    refine hl_nil ?_
    refine seqQ_n ?_
    refine hx_seq ?_
    refine hx_seq ?_
    refine hx_region ?_
    refine hl_val rfl rfl (v := (ptr t_b t_o)) (hv_move rfl) ?_
    refine hl_val rfl rfl (v := (ptr t_b t_o)) (hv_nil rfl) ?_
    refine hl_val rfl rfl (v := (ptr t_b t_o)) (hv_field Ty.fld60_0 (b := t_b) (o := t_o) rfl) ?_
    obtain ⟨x, x_n, x_c, hc28, H⟩ := H
    refine hl_val rfl rfl (v := (.slice x x_n x_c)) (hv_load Ty.agg35 rfl hc28) ?_
    refine hl_val rfl rfl (v := (.int .i64 (x_n : Int))) (hv_len (n := x_n) Ty.u35 rfl) ?_
    refine hl_val rfl rfl (v := (.int .i64 0)) (hv_move rfl) ?_
    refine hl_nil ?_
    refine seqQ_n ?_
    refine hx_block ?_
    obtain ⟨I2, mu3, Ha4, Hr5⟩ := H
    refine hx_loopT (σ := Int × Int) (fun s => [(0, (ptr t_b t_o)), (3, (.int .i64 s.1)), (12, (.slice x x_n x_c)), (13, (.int .i64 (x_n : Int))), (14, (.int .i64 s.2))]) (fun s h' => I2 s.1 s.2 h') (fun s h' => mu3 s.1 s.2 h') (0, 0) Ha4 (has_cons rfl (has_cons rfl (has_cons rfl (has_cons rfl (has_cons rfl has_nil))))) ?_
    rintro ⟨most, v⟩ ρ h1 Hi6
    have H := Hr5 most v h1 Hi6
    refine hx_seq ?_
    refine hx_region ?_
    refine hl_val rfl rfl (v := (.bool (decide (v < (x_n : Int))))) (hv_arith rfl rfl rfl) ?_
    refine hl_nil ?_
    refine seqQ_n ?_
    refine hx_seq ?_
    refine hx_cond (b := decide (v < (x_n : Int))) rfl (fun hb27 => ?_) (fun hb27 => ?_)
    · replace H := H.1 hb27
      refine hx_skip ?_
      refine seqQ_n ?_
      obtain ⟨A7, Hx24, Hy25⟩ := H
      refine hx_cut (fun ρ h' => ∃ most_1 : Int, A7 most_1 h' ∧ Has ρ [(0, (ptr t_b t_o)), (3, (.int .i64 most_1)), (12, (.slice x x_n x_c)), (13, (.int .i64 (x_n : Int))), (14, (.int .i64 v))]) ?_ ?_
      · have H := Hx24; clear Hx24 Hy25
        refine hx_block ?_
        refine hx_seq ?_
        refine hx_region ?_
        refine hl_val rfl rfl (v := (.int .i64 v)) (hv_move rfl) ?_
        obtain ⟨x_b, x_o, hqe, hi8, hi9, Hq⟩ := H
        subst hqe
        have H := Hq; clear Hq
        refine hl_val rfl rfl (v := (ptr x_b (x_o + (Int.toNat v) * 4))) (hv_index Ty.el35 rfl rfl hi8 hi9) ?_
        obtain ⟨x_Hash, x_At, x_Version, x_Hits, hc20, hc21, hc22, hc23, H⟩ := H
        refine hl_val rfl rfl (v := (.agg #[(.int .u64 x_Hash), (.int .u64 x_At), (.int .u64 x_Version), (.int .u8 x_Hits)])) (hv_loads (vs := [(.int .u64 x_Hash), (.int .u64 x_At), (.int .u64 x_Version), (.int .u8 x_Hits)]) Ty.agg31 Ty.sz31 rfl (hcells_cons hc20 (hcells_cons hc21 (hcells_cons hc22 (hcells_cons hc23 hcells_nil))))) ?_
        refine hl_step rfl rfl (hn_alloc Ty.z31 ?_)
        intro e h3 eb10 eh11
        replace H := H e h3 eb10 eh11
        refine hl_val rfl rfl (v := (.int .i64 v)) (hv_assign rfl) ?_
        obtain ⟨hw12, H⟩ := H
        refine hl_step rfl rfl (hn_stores (vs := [(.int .u64 x_Hash), (.int .u64 x_At), (.int .u64 x_Version), (.int .u8 x_Hits)]) rfl rfl Ty.sz31 rfl hw12 ?_)
        intro h4 eh13
        replace H := H h4 eh13
        refine hl_nil ?_
        refine seqQ_n ?_
        refine hx_seq ?_
        refine hx_region ?_
        obtain ⟨x_Hash_1, x_At_1, x_Version_1, x_Hits_1, hc16, hc17, hc18, hc19, H⟩ := H
        refine hl_val rfl rfl (v := (.agg #[(.int .u64 x_Hash_1), (.int .u64 x_At_1), (.int .u64 x_Version_1), (.int .u8 x_Hits_1)])) (hv_loads (vs := [(.int .u64 x_Hash_1), (.int .u64 x_At_1), (.int .u64 x_Version_1), (.int .u8 x_Hits_1)]) Ty.agg31 Ty.sz31 rfl (hcells_cons hc16 (hcells_cons hc17 (hcells_cons hc18 (hcells_cons hc19 hcells_nil))))) ?_
        refine hl_step rfl rfl (hs_call Ty.cb30 (vs := [(.agg #[(.int .u64 x_Hash_1), (.int .u64 x_At_1), (.int .u64 x_Version_1), (.int .u8 x_Hits_1)])]) rfl (HC.mono H ?_))
        rintro _ h5 ⟨r_1, rfl, H⟩
        refine hl_val rfl rfl (v := (.bool (!r_1))) (hv_not (b := r_1) rfl) ?_
        refine hl_nil ?_
        refine seqQ_n ?_
        refine hx_cond (b := !r_1) rfl (fun hb15 => ?_) (fun hb15 => ?_)
        · replace H := H.1 hb15
          refine hx_region ?_
          refine hl_val rfl rfl (v := (.int .i64 most)) (hv_move rfl) ?_
          refine hl_val rfl rfl (v := (ptr t_b t_o)) (hv_move rfl) ?_
          refine hl_val rfl rfl (v := (.int .i64 v)) (hv_move rfl) ?_
          obtain ⟨r_2, hr14, H⟩ := H
          refine hl_val rfl rfl (v := (.int .i64 r_2)) (hv_call Ty.cb36 (vs := [(ptr t_b t_o), (.int .i64 v)]) rfl hr14) ?_
          refine hl_val rfl rfl (v := (.int .i64 (if r_2 > most then r_2 else most))) (hv_max rfl rfl) ?_
          refine hl_val rfl rfl (v := (.int .i64 (if r_2 > most then r_2 else most))) (hv_assign rfl) ?_
          refine hl_nil ?_
          refine blockQ_n ?_
          refine seqQ_n ?_
          exact ⟨_, H, (has_cons rfl (has_cons rfl (has_cons rfl (has_cons rfl (has_cons rfl has_nil)))))⟩
        · replace H := H.2 hb15
          refine hx_skip ?_
          refine blockQ_n ?_
          refine seqQ_n ?_
          exact ⟨_, H, (has_cons rfl (has_cons rfl (has_cons rfl (has_cons rfl (has_cons rfl has_nil)))))⟩
      · rintro ρ h2 ⟨most_1, HA26, hH⟩
        have H := Hy25 most_1 h2 HA26; clear Hx24 Hy25
        refine hx_has _ hH ?_
        refine hx_region ?_
        refine hl_val rfl rfl (v := (.int .i64 (IntKind.i64.wrap (v + 1)))) (hv_arith rfl rfl rfl) ?_
        refine hl_val rfl rfl (v := (.int .i64 (IntKind.i64.wrap (v + 1)))) (hv_move rfl) ?_
        refine hl_nil ?_
        refine seqQ_n ?_
        exact ⟨(most_1, IntKind.i64.wrap (v + 1)), H, (has_cons rfl (has_cons rfl (has_cons rfl (has_cons rfl (has_cons rfl has_nil)))))⟩
    · replace H := H.2 hb27
      refine hx_exit ?_
      refine seqQ_exit ?_
      refine seqQ_exit ?_
      refine blockQ_here ?_
      refine seqQ_n ?_
      refine hx_seq ?_
      refine hx_region ?_
      refine hl_val rfl rfl (v := (.int .i64 most)) (hv_move rfl) ?_
      refine hl_val rfl rfl (v := (.int .i64 most)) (hv_assign rfl) ?_
      refine hl_nil ?_
      refine seqQ_n ?_
      refine hx_ret ?_
      exact endQ_ret _ (res_one Try.results26 (rv_tmp rfl)) H

/-- (*cellar/table.Table).All$1 -/
theorem f41_sh (yield : Value) (cap0_b : Nat) (cap0_o : Nat) (h : Heap) (R : Value → Heap → Prop)
    (H : (∃ x : Option Addr, hcell h cap0_b cap0_o = some (.pointer x) ∧ HC Try.prog 13 #[(.pointer x)] h (fun vv h1 => ∃ r : Option Addr, ∃ r_n r_c : Nat, vv = (.slice r r_n r_c) ∧ HC Try.prog 42 #[(.slice r r_n r_c), (.func (.func 30) #[] #[])] h1 (fun vv h2 => ∃ r_1 : Option Addr, ∃ r_n_1 r_c_1 : Nat, vv = (.slice r_1 r_n_1 r_c_1) ∧ HC Try.prog 43 #[(.slice r_1 r_n_1 r_c_1), (.func (.func 44) #[] #[])] h2 (fun vv h3 => vv = (.tuple #[]) ∧ (∃ (I1 : Int → Heap → Prop) (mu2 : Int → Heap → Nat), I1 0 h3 ∧ (∀ (v : Int) (h4 : Heap), I1 v h4 → (((decide (v < (r_n_1 : Int))) = true → (∃ r_1_b r_1_o : Nat, r_1 = some ⟨r_1_b, r_1_o, none⟩ ∧ (0 : Int) ≤ v ∧ v < (r_n_1 : Int) ∧ (∃ x_Hash x_At x_Version x_Hits : Int, hcell h4 r_1_b (r_1_o + (Int.toNat v) * 4) = some (.int .u64 x_Hash) ∧ hcell h4 r_1_b ((r_1_o + (Int.toNat v) * 4) + 1) = some (.int .u64 x_At) ∧ hcell h4 r_1_b ((r_1_o + (Int.toNat v) * 4) + 2) = some (.int .u64 x_Version) ∧ hcell h4 r_1_b ((r_1_o + (Int.toNat v) * 4) + 3) = some (.int .u8 x_Hits) ∧ (∀ e h5, e = Array.size h4 → h5 = Array.push h4 (.cells #[(.int .u64 0), (.int .u64 0), (.int .u64 0), (.int .u8 0)] 31) → (HWs h5 e 0 4 ∧ ∀ h6, h6 = hsets h5 e 0 [(.int .u64 x_Hash), (.int .u64 x_At), (.int .u64 x_Version), (.int .u8 x_Hits)] → (∃ x_Hash_1 x_At_1 x_Version_1 x_Hits_1 : Int, hcell h6 e 0 = some (.int .u64 x_Hash_1) ∧ hcell h6 e 1 = some (.int .u64 x_At_1) ∧ hcell h6 e 2 = some (.int .u64 x_Version_1) ∧ hcell h6 e 3 = some (.int .u8 x_Hits_1) ∧ HCV Try.prog yield [(.agg #[(.int .u64 x_Hash_1), (.int .u64 x_At_1), (.int .u64 x_Version_1), (.int .u8 x_Hits_1)])] h6 (fun vv h7 => ∃ r_2 : Bool, vv = (.bool r_2) ∧ (((!r_2) = true → R (.tuple #[]) h7) ∧ ((!r_2) = false → (I1 (IntKind.i64.wrap (v + 1)) h7 ∧ mu2 (IntKind.i64.wrap (v + 1)) h7 < mu2 v h4)))))))))) ∧ ((decide (v < (r_n_1 : Int))) = false → R (.tuple #[]) h4))))))))) :
    HC Try.prog 41 #[yield, (ptr cap0_b cap0_o)] h R := by
  refine hc_of (args := [yield, (ptr cap0_b cap0_o)]) Try.func41 rfl Try.ntmps41 (Nat.le_of_ble_eq_true rfl) ?_
  refine hx_seq ?_
  refine hx_region ?_
  obtain ⟨x, hc22, H⟩ := H
  refine hl_val rfl rfl (v := (.pointer x)) (hv_load Ty.agg24 rfl hc22) ?_
  refine hl_step rfl rfl (hs_call Ty.cb13 (vs := [(.pointer x)]) rfl (HC.mono H ?_))
  rintro _ h1 ⟨r, r_n, r_c, rfl, H⟩
  refine hl_step rfl rfl (hs_call Ty.cb42 (vs := [(.slice r r_n r_c), (.func (.func 30) #[] #[])]) rfl (HC.mono H ?_))
  rintro _ h2 ⟨r_1, r_n_1, r_c_1, rfl, H⟩
  refine hl_val rfl rfl (v := (.slice r_1 r_n_1 r_c_1)) (hv_assign rfl) ?_
  refine hl_nil ?_
  refine seqQ_n ?_
  refine hx_seq ?_
  refine hx_region ?_
  refine hl_val rfl rfl (v := (.slice r_1 r_n_1 r_c_1)) (hv_move rfl) ?_
  refine hl_step rfl rfl (hs_call Ty.cb43 (vs := [(.slice r_1 r_n_1 r_c_1), (.func (.func 44) #[] #[])]) rfl (HC.mono H ?_))
  rintro _ h3 ⟨rfl, H⟩
  refine hl_nil ?_
  refine seqQ_n ?_
  refine hx_seq ?_
  refine hx_region ?_
  refine hl_val rfl rfl (v := (.slice r_1 r_n_1 r_c_1)) (hv_move rfl) ?_
  refine hl_val rfl rfl (v := (.int .i64 (r_n_1 : Int))) (hv_len (n := r_n_1) Ty.u35 rfl) ?_
  refine hl_val rfl rfl (v := (.int .i64 0)) (hv_move rfl) ?_
  refine hl_nil ?_
  refine seqQ_n ?_
  refine hx_block ?_
  obtain ⟨I1, mu2, Ha3, Hr4⟩ := H
  refine hx_loopT (σ := Int) (fun s => [(0, yield), (11, (.slice r_1 r_n_1 r_c_1)), (12, (.int .i64 (r_n_1 : Int))), (13, (.int .i64 s))]) (fun s h' => I1 s h') (fun s h' => mu2 s h') 0 Ha3 (has_cons rfl (has_cons rfl (has_cons rfl (has_cons rfl has_nil)))) ?_
  rintro v ρ h4 Hi5
  have H := Hr4 v h4 Hi5
  refine hx_seq ?_
  refine hx_region ?_
  refine hl_val rfl rfl (v := (.bool (decide (v < (r_n_1 : Int))))) (hv_arith rfl rfl rfl) ?_
  refine hl_nil ?_
  refine seqQ_n ?_
  refine hx_seq ?_
  refine hx_cond (b := decide (v < (r_n_1 : Int))) rfl (fun hb21 => ?_) (fun hb21 => ?_)
  · replace H := H.1 hb21
    refine hx_skip ?_
    refine seqQ_n ?_
    refine hx_seq ?_
    refine hx_block ?_
    refine hx_seq ?_
    refine hx_region ?_
    obtain ⟨r_1_b, r_1_o, hqe, hi6, hi7, Hq⟩ := H
    subst hqe
    have H := Hq; clear Hq
    refine hl_val rfl rfl (v := (ptr r_1_b (r_1_o + (Int.toNat v) * 4))) (hv_index Ty.el35 rfl rfl hi6 hi7) ?_
    obtain ⟨x_Hash, x_At, x_Version, x_Hits, hc17, hc18, hc19, hc20, H⟩ := H
    refine hl_val rfl rfl (v := (.agg #[(.int .u64 x_Hash), (.int .u64 x_At), (.int .u64 x_Version), (.int .u8 x_Hits)])) (hv_loads (vs := [(.int .u64 x_Hash), (.int .u64 x_At), (.int .u64 x_Version), (.int .u8 x_Hits)]) Ty.agg31 Ty.sz31 rfl (hcells_cons hc17 (hcells_cons hc18 (hcells_cons hc19 (hcells_cons hc20 hcells_nil))))) ?_
    refine hl_step rfl rfl (hn_alloc Ty.z31 ?_)
    intro e h5 eb8 eh9
    replace H := H e h5 eb8 eh9
    obtain ⟨hw10, H⟩ := H
    refine hl_step rfl rfl (hn_stores (vs := [(.int .u64 x_Hash), (.int .u64 x_At), (.int .u64 x_Version), (.int .u8 x_Hits)]) rfl rfl Ty.sz31 rfl hw10 ?_)
    intro h6 eh11
    replace H := H h6 eh11
    refine hl_nil ?_
    refine seqQ_n ?_
    refine hx_seq ?_
    refine hx_region ?_
    refine hl_val rfl rfl (v := yield) (hv_move rfl) ?_
    obtain ⟨x_Hash_1, x_At_1, x_Version_1, x_Hits_1, hc13, hc14, hc15, hc16, H⟩ := H
    refine hl_val rfl rfl (v := (.agg #[(.int .u64 x_Hash_1), (.int .u64 x_At_1), (.int .u64 x_Version_1), (.int .u8 x_Hits_1)])) (hv_loads (vs := [(.int .u64 x_Hash_1), (.int .u64 x_At_1), (.int .u64 x_Version_1), (.int .u8 x_Hits_1)]) Ty.agg31 Ty.sz31 rfl (hcells_cons hc13 (hcells_cons hc14 (hcells_cons hc15 (hcells_cons hc16 hcells_nil))))) ?_
    refine hl_step rfl rfl (hs_callF (vs := [(.agg #[(.int .u64 x_Hash_1), (.int .u64 x_At_1), (.int .u64 x_Version_1), (.int .u8 x_Hits_1)])]) rfl rfl (HCV.mono H ?_))
    rintro _ h7 ⟨r_2, rfl, H⟩
    refine hl_val rfl rfl (v := (.bool (!r_2))) (hv_not (b := r_2) rfl) ?_
    refine hl_nil ?_
    refine seqQ_n ?_
    refine hx_cond (b := !r_2) rfl (fun hb12 => ?_) (fun hb12 => ?_)
    · replace H := H.1 hb12
      refine hx_ret ?_
      refine blockQ_ret ?_
      refine seqQ_ret ?_
      refine seqQ_ret ?_
      refine blockQ_ret ?_
      exact endQ_ret _ (res_none Try.results41 ) H
    · replace H := H.2 hb12
      refine hx_skip ?_
      refine blockQ_n ?_
      refine seqQ_n ?_
      refine hx_region ?_
      refine hl_val rfl rfl (v := (.int .i64 (IntKind.i64.wrap (v + 1)))) (hv_arith rfl rfl rfl) ?_
      refine hl_val rfl rfl (v := (.int .i64 (IntKind.i64.wrap (v + 1)))) (hv_move rfl) ?_
      refine hl_nil ?_
      refine seqQ_n ?_
      exact ⟨IntKind.i64.wrap (v + 1), H, (has_cons rfl (has_cons rfl (has_cons rfl (has_cons rfl has_nil))))⟩
  · replace H := H.2 hb21
    refine hx_exit ?_
    refine seqQ_exit ?_
    refine seqQ_exit ?_
    refine blockQ_here ?_
    exact endQ_n _ (res_none Try.results41 ) H

/-- slices.DeleteFunc[[]cellar/api.Entry,cellar/api.Entry] -/
theorem f42_sh (sv : Option Addr) (s_n : Nat) (s_c : Nat) (del : Value) (h : Heap) (R : Value → Heap → Prop)
    (H : HC Try.prog 49 #[(.slice sv s_n s_c), del] h (fun vv h1 => ∃ r : Int, vv = (.int .i64 r) ∧ (((r == (-1)) = true → R (.slice sv s_n s_c) h1) ∧ ((r == (-1)) = false → (∃ (I1 : Int → Int → Heap → Prop) (mu2 : Int → Int → Heap → Nat), I1 r (IntKind.i64.wrap (r + 1)) h1 ∧ (∀ (i : Int) (j : Int) (h2 : Heap), I1 i j h2 → (((decide (j < (s_n : Int))) = true → (∃ A6 : Int → Heap → Prop, (∃ sv_b sv_o : Nat, sv = some ⟨sv_b, sv_o, none⟩ ∧ (0 : Int) ≤ j ∧ j < (s_n : Int) ∧ (∃ x_Hash x_At x_Version x_Hits : Int, hcell h2 sv_b (sv_o + (Int.toNat j) * 4) = some (.int .u64 x_Hash) ∧ hcell h2 sv_b ((sv_o + (Int.toNat j) * 4) + 1) = some (.int .u64 x_At) ∧ hcell h2 sv_b ((sv_o + (Int.toNat j) * 4) + 2) = some (.int .u64 x_Version) ∧ hcell h2 sv_b ((sv_o + (Int.toNat j) * 4) + 3) = some (.int .u8 x_Hits) ∧ (∀ v h4, v = Array.size h2 → h4 = Array.push h2 (.cells #[(.int .u64 0), (.int .u64 0), (.int .u64 0), (.int .u8 0)] 31) → (HWs h4 v 0 4 ∧ ∀ h5, h5 = hsets h4 v 0 [(.int .u64 x_Hash), (.int .u64 x_At), (.int .u64 x_Version), (.int .u8 x_Hits)] → (∃ x_Hash_1 x_At_1 x_Version_1 x_Hits_1 : Int, hcell h5 v 0 = some (.int .u64 x_Hash_1) ∧ hcell h5 v 1 = some (.int .u64 x_At_1) ∧ hcell h5 v 2 = some (.int .u64 x_Version_1) ∧ hcell h5 v 3 = some (.int .u8 x_Hits_1) ∧ HCV Try.prog del [(.agg #[(.int .u64 x_Hash_1), (.int .u64 x_At_1), (.int .u64 x_Version_1), (.int .u8 x_Hits_1)])] h5 (fun vv h6 => ∃ r_1 : Bool, vv = (.bool r_1) ∧ (((!r_1) = true → (∃ x_Hash_2 x_At_2 x_Version_2 x_Hits_2 : Int, hcell h6 v 0 = some (.int .u64 x_Hash_2) ∧ hcell h6 v 1 = some (.int .u64 x_At_2) ∧ hcell h6 v 2 = some (.int .u64 x_Version_2) ∧ hcell h6 v 3 = some (.int .u8 x_Hits_2) ∧ ((0 : Int) ≤ i ∧ i < (s_n : Int) ∧ (HWs h6 sv_b (sv_o + (Int.toNat i) * 4) 4 ∧ ∀ h7, h7 = hsets h6 sv_b (sv_o + (Int.toNat i) * 4) [(.int .u64 x_Hash_2), (.int .u64 x_At_2), (.int .u64 x_Version_2), (.int .u8 x_Hits_2)] → (A6 (IntKind.i64.wrap (i + 1)) h7))))) ∧ ((!r_1) = false → (A6 i h6))))))))) ∧ (∀ (i_1 : Int) (h3 : Heap), A6 i_1 h3 → (I1 i_1 (IntKind.i64.wrap (j + 1)) h3 ∧ mu2 i_1 (IntKind.i64.wrap (j + 1)) h3 < mu2 i j h2)))) ∧ ((decide (j < (s_n : Int))) = false → (0 ≤ (i : Int) ∧ i ≤ (s_n : Int) ∧ (s_n : Int) ≤ (s_c : Int) ∧ ∀ sl : Option Addr, sl = slA sv (Int.toNat i) 4 s_c → (∃ A37 : Heap → Prop, ((Int.toNat (s_n : Int) - Int.toNat i) = 0 → A37 h2) ∧ ((Int.toNat (s_n : Int) - Int.toNat i) ≠ 0 → ∃ cb co : Nat, sl = some ⟨cb, co, none⟩ ∧ HWs h2 cb co ((Int.toNat (s_n : Int) - Int.toNat i) * 4) ∧ ∀ h8, h8 = hsets h2 cb co (zcells [(.int .u64 0), (.int .u64 0), (.int .u64 0), (.int .u8 0)] (Int.toNat (s_n : Int) - Int.toNat i)) → A37 h8) ∧ ∀ h9, A37 h9 → (0 ≤ (0 : Int) ∧ 0 ≤ i ∧ i ≤ (s_c : Int) ∧ ∀ sl_1 : Option Addr, sl_1 = slA sv (Int.toNat 0) 4 s_c → R (.slice sl_1 (Int.toNat i - Int.toNat 0) (s_c - Int.toNat 0)) h9))))))))))) :
    HC Try.prog 42 #[(.slice sv s_n s_c), del] h R := by
  refine hc_of (args := [(.slice sv s_n s_c), del]) Try.func42 rfl Try.ntmps42 (Nat.le_of_ble_eq_true rfl) ?_
  refine hx_seq ?_
  refine hx_region ?_
  refine hl_val rfl rfl (v := (.slice none 0 0)) (hv_assign rfl) ?_
  refine hl_nil ?_
  refine seqQ_n ?_
  refine hx_seq ?_
  refine hx_region ?_
  refine hl_val rfl rfl (v := (.slice sv s_n s_c)) (hv_move rfl) ?_
  refine hl_val rfl rfl (v := del) (hv_move rfl) ?_
  refine hl_step rfl rfl (hs_call Ty.cb49 (vs := [(.slice sv s_n s_c), del]) rfl (HC.mono H ?_))
  rintro _ h1 ⟨r, rfl, H⟩
  refine hl_val rfl rfl (v := (.int .i64 r)) (hv_assign rfl) ?_
  refine hl_nil ?_
  refine seqQ_n ?_
  refine hx_seq ?_
  refine hx_seq ?_
  refine hx_region ?_
  refine hl_val rfl rfl (v := (.int .i64 r)) (hv_move rfl) ?_
  refine hl_val rfl rfl (v := (.bool (r == (-1)))) (hv_arith rfl rfl rfl) ?_
  refine hl_nil ?_
  refine seqQ_n ?_
  refine hx_cond (b := r == (-1)) rfl (fun hb47 => ?_) (fun hb47 => ?_)
  · replace H := H.1 hb47
    refine hx_seq ?_
    refine hx_region ?_
    refine hl_val rfl rfl (v := (.slice sv s_n s_c)) (hv_move rfl) ?_
    refine hl_val rfl rfl (v := (.slice sv s_n s_c)) (hv_assign rfl) ?_
    refine hl_nil ?_
    refine seqQ_n ?_
    refine hx_ret ?_
    refine seqQ_ret ?_
    exact endQ_ret _ (res_one Try.results42 (rv_tmp rfl)) H
  · replace H := H.2 hb47
    refine hx_skip ?_
    refine seqQ_n ?_
    refine hx_seq ?_
    refine hx_seq ?_
    refine hx_region ?_
    refine hl_val rfl rfl (v := (.int .i64 r)) (hv_move rfl) ?_
    refine hl_val rfl rfl (v := (.int .i64 (IntKind.i64.wrap (r + 1)))) (hv_arith rfl rfl rfl) ?_
    refine hl_val rfl rfl (v := (.int .i64 (IntKind.i64.wrap (r + 1)))) (hv_assign rfl) ?_
    refine hl_nil ?_
    refine seqQ_n ?_
    refine hx_block ?_
    obtain ⟨I1, mu2, Ha3, Hr4⟩ := H
    refine hx_loopT (σ := Int × Int) (fun s => [(0, (.slice sv s_n s_c)), (1, del), (5, (.int .i64 s.1)), (6, (.int .i64 s.2))]) (fun s h' => I1 s.1 s.2 h') (fun s h' => mu2 s.1 s.2 h') (r, IntKind.i64.wrap (r + 1)) Ha3 (has_cons rfl (has_cons rfl (has_cons rfl (has_cons rfl has_nil)))) ?_
    rintro ⟨i, j⟩ ρ h2 Hi5
    have H := Hr4 i j h2 Hi5
    refine hx_seq ?_
    refine hx_seq ?_
    refine hx_region ?_
    refine hl_val rfl rfl (v := (.int .i64 j)) (hv_move rfl) ?_
    refine hl_val rfl rfl (v := (.slice sv s_n s_c)) (hv_move rfl) ?_
    refine hl_val rfl rfl (v := (.int .i64 (s_n : Int))) (hv_len (n := s_n) Ty.u35 rfl) ?_
    refine hl_val rfl rfl (v := (.bool (decide (j < (s_n : Int))))) (hv_arith rfl rfl rfl) ?_
    refine hl_nil ?_
    refine seqQ_n ?_
    refine hx_cond (b := decide (j < (s_n : Int))) rfl (fun hb46 => ?_) (fun hb46 => ?_)
    · replace H := H.1 hb46
      refine hx_skip ?_
      refine seqQ_n ?_
      obtain ⟨A6, Hx30, Hy31⟩ := H
      refine hx_cut (fun ρ h' => ∃ i_1 : Int, A6 i_1 h' ∧ Has ρ [(0, (.slice sv s_n s_c)), (1, del), (5, (.int .i64 i_1)), (6, (.int .i64 j))]) ?_ ?_
      · have H := Hx30; clear Hx30 Hy31
        refine hx_block ?_
        refine hx_seq ?_
        refine hx_region ?_
        refine hl_val rfl rfl (v := (.slice sv s_n s_c)) (hv_move rfl) ?_
        refine hl_val rfl rfl (v := (.int .i64 j)) (hv_move rfl) ?_
        obtain ⟨sv_b, sv_o, hqe, hi7, hi8, Hq⟩ := H
        subst hqe
        have H := Hq; clear Hq
        refine hl_val rfl rfl (v := (ptr sv_b (sv_o + (Int.toNat j) * 4))) (hv_index Ty.el35 rfl rfl hi7 hi8) ?_
        obtain ⟨x_Hash, x_At, x_Version, x_Hits, hc26, hc27, hc28, hc29, H⟩ := H
        refine hl_val rfl rfl (v := (.agg #[(.int .u64 x_Hash), (.int .u64 x_At), (.int .u64 x_Version), (.int .u8 x_Hits)])) (hv_loads (vs := [(.int .u64 x_Hash), (.int .u64 x_At), (.int .u64 x_Version), (.int .u8 x_Hits)]) Ty.agg31 Ty.sz31 rfl (hcells_cons hc26 (hcells_cons hc27 (hcells_cons hc28 (hcells_cons hc29 hcells_nil))))) ?_
        refine hl_step rfl rfl (hn_alloc Ty.z31 ?_)
        intro v h4 eb9 eh10
        replace H := H v h4 eb9 eh10
        obtain ⟨hw11, H⟩ := H
        refine hl_step rfl rfl (hn_stores (vs := [(.int .u64 x_Hash), (.int .u64 x_At), (.int .u64 x_Version), (.int .u8 x_Hits)]) rfl rfl Ty.sz31 rfl hw11 ?_)
        intro h5 eh12
        replace H := H h5 eh12
        refine hl_nil ?_
        refine seqQ_n ?_
        refine hx_seq ?_
        refine hx_region ?_
        refine hl_val rfl rfl (v := del) (hv_move rfl) ?_
        obtain ⟨x_Hash_1, x_At_1, x_Version_1, x_Hits_1, hc22, hc23, hc24, hc25, H⟩ := H
        refine hl_val rfl rfl (v := (.agg #[(.int .u64 x_Hash_1), (.int .u64 x_At_1), (.int .u64 x_Version_1), (.int .u8 x_Hits_1)])) (hv_loads (vs := [(.int .u64 x_Hash_1), (.int .u64 x_At_1), (.int .u64 x_Version_1), (.int .u8 x_Hits_1)]) Ty.agg31 Ty.sz31 rfl (hcells_cons hc22 (hcells_cons hc23 (hcells_cons hc24 (hcells_cons hc25 hcells_nil))))) ?_
        refine hl_step rfl rfl (hs_callF (vs := [(.agg #[(.int .u64 x_Hash_1), (.int .u64 x_At_1), (.int .u64 x_Version_1), (.int .u8 x_Hits_1)])]) rfl rfl (HCV.mono H ?_))
        rintro _ h6 ⟨r_1, rfl, H⟩
        refine hl_val rfl rfl (v := (.bool (!r_1))) (hv_not (b := r_1) rfl) ?_
        refine hl_nil ?_
        refine seqQ_n ?_
        refine hx_cond (b := !r_1) rfl (fun hb21 => ?_) (fun hb21 => ?_)
        · replace H := H.1 hb21
          refine hx_seq ?_
          refine hx_region ?_
          refine hl_val rfl rfl (v := (.slice (some ⟨sv_b, sv_o, none⟩) s_n s_c)) (hv_move rfl) ?_
          refine hl_val rfl rfl (v := (.int .i64 i)) (hv_move rfl) ?_
          obtain ⟨x_Hash_2, x_At_2, x_Version_2, x_Hits_2, hc17, hc18, hc19, hc20, H⟩ := H
          refine hl_val rfl rfl (v := (.agg #[(.int .u64 x_Hash_2), (.int .u64 x_At_2), (.int .u64 x_Version_2), (.int .u8 x_Hits_2)])) (hv_loads (vs := [(.int .u64 x_Hash_2), (.int .u64 x_At_2), (.int .u64 x_Version_2), (.int .u8 x_Hits_2)]) Ty.agg31 Ty.sz31 rfl (hcells_cons hc17 (hcells_cons hc18 (hcells_cons hc19 (hcells_cons hc20 hcells_nil))))) ?_
          obtain ⟨hi13, hi14, H⟩ := H
          refine hl_val rfl rfl (v := (ptr sv_b (sv_o + (Int.toNat i) * 4))) (hv_index Ty.el35 rfl rfl hi13 hi14) ?_
          obtain ⟨hw15, H⟩ := H
          refine hl_step rfl rfl (hn_stores (vs := [(.int .u64 x_Hash_2), (.int .u64 x_At_2), (.int .u64 x_Version_2), (.int .u8 x_Hits_2)]) rfl rfl Ty.sz31 rfl hw15 ?_)
          intro h7 eh16
          replace H := H h7 eh16
          refine hl_nil ?_
          refine seqQ_n ?_
          refine hx_region ?_
          refine hl_val rfl rfl (v := (.int .i64 i)) (hv_move rfl) ?_
          refine hl_val rfl rfl (v := (.int .i64 (IntKind.i64.wrap (i + 1)))) (hv_arith rfl rfl rfl) ?_
          refine hl_val rfl rfl (v := (.int .i64 (IntKind.i64.wrap (i + 1)))) (hv_assign rfl) ?_
          refine hl_nil ?_
          refine blockQ_n ?_
          refine seqQ_n ?_
          exact ⟨_, H, (has_cons rfl (has_cons rfl (has_cons rfl (has_cons rfl has_nil))))⟩
        · replace H := H.2 hb21
          refine hx_skip ?_
          refine blockQ_n ?_
          refine seqQ_n ?_
          exact ⟨_, H, (has_cons rfl (has_cons rfl (has_cons rfl (has_cons rfl has_nil))))⟩
      · rintro ρ h3 ⟨i_1, HA32, hH⟩
        have H := Hy31 i_1 h3 HA32; clear Hx30 Hy31
        refine hx_has _ hH ?_
        refine hx_region ?_
        refine hl_val rfl rfl (v := (.int .i64 j)) (hv_move rfl) ?_
        refine hl_val rfl rfl (v := (.int .i64 (IntKind.i64.wrap (j + 1)))) (hv_arith rfl rfl rfl) ?_
        refine hl_val rfl rfl (v := (.int .i64 (IntKind.i64.wrap (j + 1)))) (hv_assign rfl) ?_
        refine hl_nil ?_
        refine seqQ_n ?_
        exact ⟨(i_1, IntKind.i64.wrap (j + 1)), H, (has_cons rfl (has_cons rfl (has_cons rfl (has_cons rfl has_nil))))⟩
    · replace H := H.2 hb46
      refine hx_exit ?_
      refine seqQ_exit ?_
      refine seqQ_exit ?_
      refine blockQ_here ?_
      refine seqQ_n ?_
      refine hx_seq ?_
      refine hx_region ?_
      refine hl_val rfl rfl (v := (.slice sv s_n s_c)) (hv_move rfl) ?_
      refine hl_val rfl rfl (v := (.int .i64 i)) (hv_move rfl) ?_
      obtain ⟨hs33, hs34, hs35, H⟩ := H
      obtain ⟨sl, hq36⟩ : ∃ q, q = slA sv (Int.toNat i) 4 s_c := ⟨_, rfl⟩
      replace H := H sl hq36
      refine hl_val rfl rfl (v := (.slice sl (Int.toNat (s_n : Int) - Int.toNat i) (s_c - Int.toNat i))) (hv_slice (l := i) (r := (s_n : Int)) Ty.u35 Ty.sz31 rfl (sl_some rfl) sh_none hs33 hs34 hs35 hq36) ?_
      obtain ⟨A37, Hz42, Hn43, Hk44⟩ := H
      refine hl_step rfl rfl (HStep.mono (K := fun v h' => v = .tuple #[] ∧ A37 h') (hn_clear (zs := [(.int .u64 0), (.int .u64 0), (.int .u64 0), (.int .u8 0)]) Ty.u35 Ty.z31 rfl (by decide) rfl rfl (fun e => ⟨rfl, Hz42 e⟩) (fun e => let ⟨b, o, e1, e2, e3⟩ := Hn43 e; ⟨b, o, e1, e2, fun h' e4 => ⟨rfl, e3 h' e4⟩⟩)) ?_)
      rintro _ h9 ⟨rfl, HA45⟩
      have H := Hk44 _ HA45
      refine hl_nil ?_
      refine seqQ_n ?_
      refine hx_seq ?_
      refine hx_region ?_
      refine hl_val rfl rfl (v := (.slice sv s_n s_c)) (hv_move rfl) ?_
      refine hl_val rfl rfl (v := (.int .i64 i)) (hv_move rfl) ?_
      obtain ⟨hs38, hs39, hs40, H⟩ := H
      obtain ⟨sl_1, hq41⟩ : ∃ q, q = slA sv (Int.toNat 0) 4 s_c := ⟨_, rfl⟩
      replace H := H sl_1 hq41
      refine hl_val rfl rfl (v := (.slice sl_1 (Int.toNat i - Int.toNat 0) (s_c - Int.toNat 0))) (hv_slice (l := 0) (r := i) Ty.u35 Ty.sz31 rfl sl_none (sh_some rfl) hs38 hs39 hs40 hq41) ?_
      refine hl_val rfl rfl (v := (.slice sl_1 (Int.toNat i - Int.toNat 0) (s_c - Int.toNat 0))) (hv_assign rfl) ?_
      refine hl_nil ?_
      refine seqQ_n ?_
      refine hx_ret ?_
      exact endQ_ret _ (res_one Try.results42 (rv_tmp rfl)) H

/-- slices.IndexFunc[[]cellar/api.Entry,cellar/api.Entry] -/
theorem f49_sh (sv : Option Addr) (s_n : Nat) (s_c : Nat) (f : Value) (h : Heap) (R : Value → Heap → Prop)
    (H : (∃ (I1 : Int → Heap → Prop) (mu2 : Int → Heap → Nat), I1 0 h ∧ (∀ (v : Int) (h1 : Heap), I1 v h1 → (((decide (v < (s_n : Int))) = true → (∃ sv_b sv_o : Nat, sv = some ⟨sv_b, sv_o, none⟩ ∧ (0 : Int) ≤ v ∧ v < (s_n : Int) ∧ (∃ x_Hash x_At x_Version x_Hits : Int, hcell h1 sv_b (sv_o + (Int.toNat v) * 4) = some (.int .u64 x_Hash) ∧ hcell h1 sv_b ((sv_o + (Int.toNat v) * 4) + 1) = some (.int .u64 x_At) ∧ hcell h1 sv_b ((sv_o + (Int.toNat v) * 4) + 2) = some (.int .u64 x_Version) ∧ hcell h1 sv_b ((sv_o + (Int.toNat v) * 4) + 3) = some (.int .u8 x_Hits) ∧ HCV Try.prog f [(.agg #[(.int .u64 x_Hash), (.int .u64 x_At), (.int .u64 x_Version), (.int .u8 x_Hits)])] h1 (fun vv h2 => ∃ r : Bool, vv = (.bool r) ∧ ((r = true → R (.int .i64 v) h2) ∧ (r = false → (I1 (IntKind.i64.wrap (v + 1)) h2 ∧ mu2 (IntKind.i64.wrap (v + 1)) h2 < mu2 v h1))))))) ∧ ((decide (v < (s_n : Int))) = false → R (.int .i64 (-1)) h1))))) :
    HC Try.prog 49 #[(.slice sv s_n s_c), f] h R := by
  refine hc_of (args := [(.slice sv s_n s_c), f]) Try.func49 rfl Try.ntmps49 (Nat.le_of_ble_eq_true rfl) ?_
  refine hx_seq ?_
  refine hx_region ?_
  refine hl_val rfl rfl (v := (.int .i64 0)) (hv_assign rfl) ?_
  refine hl_nil ?_
  refine seqQ_n ?_
  refine hx_seq ?_
  refine hx_seq ?_
  refine hx_region ?_
  refine hl_val rfl rfl (v := (.slice sv s_n s_c)) (hv_move rfl) ?_
  refine hl_val rfl rfl (v := (.int .i64 (s_n : Int))) (hv_len (n := s_n) Ty.u35 rfl) ?_
  refine hl_val rfl rfl (v := (.int .i64 0)) (hv_move rfl) ?_
  refine hl_nil ?_
  refine seqQ_n ?_
  refine hx_block ?_
  obtain ⟨I1, mu2, Ha3, Hr4⟩ := H
  refine hx_loopT (σ := Int) (fun s => [(0, (.slice sv s_n s_c)), (1, f), (7, (.int .i64 (s_n : Int))), (8, (.int .i64 s))]) (fun s h' => I1 s h') (fun s h' => mu2 s h') 0 Ha3 (has_cons rfl (has_cons rfl (has_cons rfl (has_cons rfl has_nil)))) ?_
  rintro v ρ h1 Hi5
  have H := Hr4 v h1 Hi5
  refine hx_seq ?_
  refine hx_region ?_
  refine hl_val rfl rfl (v := (.bool (decide (v < (s_n : Int))))) (hv_arith rfl rfl rfl) ?_
  refine hl_nil ?_
  refine seqQ_n ?_
  refine hx_seq ?_
  refine hx_cond (b := decide (v < (s_n : Int))) rfl (fun hb13 => ?_) (fun hb13 => ?_)
  · replace H := H.1 hb13
    refine hx_skip ?_
    refine seqQ_n ?_
    refine hx_seq ?_
    refine hx_block ?_
    refine hx_seq ?_
    refine hx_region ?_
    refine hl_val rfl rfl (v := (.int .i64 v)) (hv_move rfl) ?_
    refine hl_val rfl rfl (v := (.int .i64 v)) (hv_assign rfl) ?_
    refine hl_nil ?_
    refine seqQ_n ?_
    refine hx_seq ?_
    refine hx_region ?_
    refine hl_val rfl rfl (v := f) (hv_move rfl) ?_
    refine hl_val rfl rfl (v := (.slice sv s_n s_c)) (hv_move rfl) ?_
    refine hl_val rfl rfl (v := (.int .i64 v)) (hv_move rfl) ?_
    obtain ⟨sv_b, sv_o, hqe, hi6, hi7, Hq⟩ := H
    subst hqe
    have H := Hq; clear Hq
    refine hl_val rfl rfl (v := (ptr sv_b (sv_o + (Int.toNat v) * 4))) (hv_index Ty.el35 rfl rfl hi6 hi7) ?_
    obtain ⟨x_Hash, x_At, x_Version, x_Hits, hc9, hc10, hc11, hc12, H⟩ := H
    refine hl_val rfl rfl (v := (.agg #[(.int .u64 x_Hash), (.int .u64 x_At), (.int .u64 x_Version), (.int .u8 x_Hits)])) (hv_loads (vs := [(.int .u64 x_Hash), (.int .u64 x_At), (.int .u64 x_Version), (.int .u8 x_Hits)]) Ty.agg31 Ty.sz31 rfl (hcells_cons hc9 (hcells_cons hc10 (hcells_cons hc11 (hcells_cons hc12 hcells_nil))))) ?_
    refine hl_step rfl rfl (hs_callF (vs := [(.agg #[(.int .u64 x_Hash), (.int .u64 x_At), (.int .u64 x_Version), (.int .u8 x_Hits)])]) rfl rfl (HCV.mono H ?_))
    rintro _ h2 ⟨r, rfl, H⟩
    refine hl_nil ?_
    refine seqQ_n ?_
    refine hx_cond (b := r) rfl (fun hb8 => ?_) (fun hb8 => ?_)
    · replace H := H.1 hb8
      refine hx_seq ?_
      refine hx_region ?_
      refine hl_val rfl rfl (v := (.int .i64 v)) (hv_move rfl) ?_
      refine hl_val rfl rfl (v := (.int .i64 v)) (hv_assign rfl) ?_
      refine hl_nil ?_
      refine seqQ_n ?_
      refine hx_ret ?_
      refine blockQ_ret ?_
      refine seqQ_ret ?_
      refine seqQ_ret ?_
      refine blockQ_ret ?_
      refine seqQ_ret ?_
      exact endQ_ret _ (res_one Try.results49 (rv_tmp rfl)) H
    · replace H := H.2 hb8
      refine hx_skip ?_
      refine blockQ_n ?_
      refine seqQ_n ?_
      refine hx_region ?_
      refine hl_val rfl rfl (v := (.int .i64 (IntKind.i64.wrap (v + 1)))) (hv_arith rfl rfl rfl) ?_
      refine hl_val rfl rfl (v := (.int .i64 (IntKind.i64.wrap (v + 1)))) (hv_move rfl) ?_
      refine hl_nil ?_
      refine seqQ_n ?_
      exact ⟨IntKind.i64.wrap (v + 1), H, (has_cons rfl (has_cons rfl (has_cons rfl (has_cons rfl has_nil))))⟩
  · replace H := H.2 hb13
    refine hx_exit ?_
    refine seqQ_exit ?_
    refine seqQ_exit ?_
    refine blockQ_here ?_
    refine seqQ_n ?_
    refine hx_seq ?_
    refine hx_region ?_
    refine hl_val rfl rfl (v := (.int .i64 (-1))) (hv_assign rfl) ?_
    refine hl_nil ?_
    refine seqQ_n ?_
    refine hx_ret ?_
    exact endQ_ret _ (res_one Try.results49 (rv_tmp rfl)) H

/-- slices.SortFunc[[]cellar/api.Entry,cellar/api.Entry] -/
theorem f43_sh (x : Option Addr) (x_n : Nat) (x_c : Nat) (cmp : Value) (h : Heap) (R : Value → Heap → Prop)
    (H : HC Try.prog 51 #[(.int .u64 (IntKind.u64.wrap (x_n : Int)))] h (fun vv h1 => ∃ r : Int, vv = (.int .i64 r) ∧ HC Try.prog 50 #[(.slice x x_n x_c), (.int .i64 0), (.int .i64 (x_n : Int)), (.int .i64 r), cmp] h1 (fun vv h2 => vv = (.tuple #[]) ∧ R (.tuple #[]) h2))) :
    HC Try.prog 43 #[(.slice x x_n x_c), cmp] h R := by
  refine hc_of (args := [(.slice x x_n x_c), cmp]) Try.func43 rfl Try.ntmps43 (Nat.le_of_ble_eq_true rfl) ?_
  refine hx_seq ?_
  refine hx_region ?_
  refine hl_val rfl rfl (v := (.slice x x_n x_c)) (hv_move rfl) ?_
  refine hl_val rfl rfl (v := (.int .i64 (x_n : Int))) (hv_len (n := x_n) Ty.u35 rfl) ?_
  refine hl_val rfl rfl (v := (.int .i64 (x_n : Int))) (hv_assign rfl) ?_
  refine hl_nil ?_
  refine seqQ_n ?_
  refine hx_region ?_
  refine hl_val rfl rfl (v := (.slice x x_n x_c)) (hv_move rfl) ?_
  refine hl_val rfl rfl (v := (.int .i64 (x_n : Int))) (hv_move rfl) ?_
  refine hl_val rfl rfl (v := (.int .i64 (x_n : Int))) (hv_move rfl) ?_
  refine hl_val rfl rfl (v := (.int .u64 (IntKind.u64.wrap (x_n : Int)))) (hv_convInt Ty.u3 Ty.u74 rfl) ?_
  refine hl_step rfl rfl (hs_call Ty.cb51 (vs := [(.int .u64 (IntKind.u64.wrap (x_n : Int)))]) rfl (HC.mono H ?_))
  rintro _ h1 ⟨r, rfl, H⟩
  refine hl_val rfl rfl (v := cmp) (hv_move rfl) ?_
  refine hl_step rfl rfl (hs_call Ty.cb50 (vs := [(.slice x x_n x_c), (.int .i64 0), (.int .i64 (x_n : Int)), (.int .i64 r), cmp]) rfl (HC.mono H ?_))
  rintro _ h2 ⟨rfl, H⟩
  refine hl_nil ?_
  exact endQ_n _ (res_none Try.results43 ) H

/-- slices.pdqsortCmpFunc[cellar/api.Entry] -/
theorem f50_sh (data : Option Addr) (data_n : Nat) (data_c : Nat) (a : Int) (b : Int) (limit : Int) (cmp : Value) (h : Heap) (R : Value → Heap → Prop)
    (H : (∃ (I1 : Int → Int → Int → Bool → Bool → Heap → Prop) (mu2 : Int → Int → Int → Bool → Bool → Heap → Nat), I1 a b limit true true h ∧ (∀ (a_1 : Int) (b_1 : Int) (limit_1 : Int) (wasBalanced : Bool) (wasPartitioned : Bool) (h1 : Heap), I1 a_1 b_1 limit_1 wasBalanced wasPartitioned h1 → (((decide ((IntKind.i64.wrap (b_1 - a_1)) ≤ 12)) = true → HC Try.prog 53 #[(.slice data data_n data_c), (.int .i64 a_1), (.int .i64 b_1), cmp] h1 (fun vv h2 => vv = (.tuple #[]) ∧ R (.tuple #[]) h2)) ∧ ((decide ((IntKind.i64.wrap (b_1 - a_1)) ≤ 12)) = false → (((limit_1 == 0) = true → HC Try.prog 54 #[(.slice data data_n data_c), (.int .i64 a_1), (.int .i64 b_1), cmp] h1 (fun vv h3 => vv = (.tuple #[]) ∧ R (.tuple #[]) h3)) ∧ ((limit_1 == 0) = false → (∃ A6 : Int → Heap → Prop, (((!wasBalanced) = true → HC Try.prog 55 #[(.slice data data_n data_c), (.int .i64 a_1), (.int .i64 b_1), cmp] h1 (fun vv h5 => vv = (.tuple #[]) ∧ (A6 (IntKind.i64.wrap (limit_1 - 1)) h5))) ∧ ((!wasBalanced) = false → (A6 limit_1 h1))) ∧ (∀ (limit_2 : Int) (h4 : Heap), A6 limit_2 h4 → HC Try.prog 56 #[(.slice data data_n data_c), (.int .i64 a_1), (.int .i64 b_1), cmp] h4 (fun vv h6 => ∃ r0 r1 : Int, vv = (.tuple #[(.int .i64 r0), (.int .i64 r1)]) ∧ (∃ A8 : Int → Int → Heap → Prop, (((r1 == 2) = true → HC Try.prog 57 #[(.slice data data_n data_c), (.int .i64 a_1), (.int .i64 b_1), cmp] h6 (fun vv h8 => vv = (.tuple #[]) ∧ (A8 (IntKind.i64.wrap ((IntKind.i64.wrap (b_1 - 1)) - (IntKind.i64.wrap (r0 - a_1)))) 1 h8))) ∧ ((r1 == 2) = false → (A8 r0 r1 h6))) ∧ (∀ (pivot : Int) (hint : Int) (h7 : Heap), A8 pivot hint h7 → (∃ A10 : Heap → Prop, (∃ j : Bool, ((wasBalanced = true → ((wasPartitioned = true → (j = (hint == 1))) ∧ (wasPartitioned = false → (j = false)))) ∧ (wasBalanced = false → (j = false))) ∧ ((j = true → HC Try.prog 58 #[(.slice data data_n data_c), (.int .i64 a_1), (.int .i64 b_1), cmp] h7 (fun vv h10 => ∃ r : Bool, vv = (.bool r) ∧ ((r = true → R (.tuple #[]) h10) ∧ (r = false → (A10 h10))))) ∧ (j = false → (A10 h7)))) ∧ (∀ (h9 : Heap), A10 h9 → (∃ A17 : Bool → Heap → Prop, (((decide (a_1 > 0)) = true → (∃ data_b data_o : Nat, data = some ⟨data_b, data_o, none⟩ ∧ (0 : Int) ≤ IntKind.i64.wrap (a_1 - 1) ∧ IntKind.i64.wrap (a_1 - 1) < (data_n : Int) ∧ (∃ x_Hash x_At x_Version x_Hits : Int, hcell h9 data_b (data_o + (Int.toNat (IntKind.i64.wrap (a_1 - 1))) * 4) = some (.int .u64 x_Hash) ∧ hcell h9 data_b ((data_o + (Int.toNat (IntKind.i64.wrap (a_1 - 1))) * 4) + 1) = some (.int .u64 x_At) ∧ hcell h9 data_b ((data_o + (Int.toNat (IntKind.i64.wrap (a_1 - 1))) * 4) + 2) = some (.int .u64 x_Version) ∧ hcell h9 data_b ((data_o + (Int.toNat (IntKind.i64.wrap (a_1 - 1))) * 4) + 3) = some (.int .u8 x_Hits) ∧ ((0 : Int) ≤ pivot ∧ pivot < (data_n : Int) ∧ (∃ x_Hash_1 x_At_1 x_Version_1 x_Hits_1 : Int, hcell h9 data_b (data_o + (Int.toNat pivot) * 4) = some (.int .u64 x_Hash_1) ∧ hcell h9 data_b ((data_o + (Int.toNat pivot) * 4) + 1) = some (.int .u64 x_At_1) ∧ hcell h9 data_b ((data_o + (Int.toNat pivot) * 4) + 2) = some (.int .u64 x_Version_1) ∧ hcell h9 data_b ((data_o + (Int.toNat pivot) * 4) + 3) = some (.int .u8 x_Hits_1) ∧ HCV Try.prog cmp [(.agg #[(.int .u64 x_Hash), (.int .u64 x_At), (.int .u64 x_Version), (.int .u8 x_Hits)]), (.agg #[(.int .u64 x_Hash_1), (.int .u64 x_At_1), (.int .u64 x_Version_1), (.int .u8 x_Hits_1)])] h9 (fun vv h12 => ∃ r_1 : Int, vv = (.int .i64 r_1) ∧ (A17 (!(decide (r_1 < 0))) h12))))))) ∧ ((decide (a_1 > 0)) = false → (A17 false h9))) ∧ (∀ (j_1 : Bool) (h11 : Heap), A17 j_1 h11 → ((j_1 = true → HC Try.prog 59 #[(.slice data data_n data_c), (.int .i64 a_1), (.int .i64 b_1), (.int .i64 pivot), cmp] h11 (fun vv h13 => ∃ r_2 : Int, vv = (.int .i64 r_2) ∧ (I1 r_2 b_1 limit_2 wasBalanced wasPartitioned h13 ∧ mu2 r_2 b_1 limit_2 wasBalanced wasPartitioned h13 < mu2 a_1 b_1 limit_1 wasBalanced wasPartitioned h1))) ∧ (j_1 = false → HC Try.prog 60 #[(.slice data data_n data_c), (.int .i64 a_1), (.int .i64 b_1), (.int .i64 pivot), cmp] h11 (fun vv h14 => ∃ r0_1 : Int, ∃ r1_1 : Bool, vv = (.tuple #[(.int .i64 r0_1), (.bool r1_1)]) ∧ (((decide ((IntKind.i64.wrap (r0_1 - a_1)) < (IntKind.i64.wrap (b_1 - r0_1)))) = true → HC Try.prog 50 #[(.slice data data_n data_c), (.int .i64 a_1), (.int .i64 r0_1), (.int .i64 limit_2), cmp] h14 (fun vv h15 => vv = (.tuple #[]) ∧ (I1 (IntKind.i64.wrap (r0_1 + 1)) b_1 limit_2 (decide ((IntKind.i64.wrap (r0_1 - a_1)) ≥ (IntKind.i64.wrap (Int.tdiv (IntKind.i64.wrap (b_1 - a_1)) 8)))) r1_1 h15 ∧ mu2 (IntKind.i64.wrap (r0_1 + 1)) b_1 limit_2 (decide ((IntKind.i64.wrap (r0_1 - a_1)) ≥ (IntKind.i64.wrap (Int.tdiv (IntKind.i64.wrap (b_1 - a_1)) 8)))) r1_1 h15 < mu2 a_1 b_1 limit_1 wasBalanced wasPartitioned h1))) ∧ ((decide ((IntKind.i64.wrap (r0_1 - a_1)) < (IntKind.i64.wrap (b_1 - r0_1)))) = false → HC Try.prog 50 #[(.slice data data_n data_c), (.int .i64 (IntKind.i64.wrap (r0_1 + 1))), (.int .i64 b_1), (.int .i64 limit_2), cmp] h14 (fun vv h16 => vv = (.tuple #[]) ∧ (I1 a_1 r0_1 limit_2 (decide ((IntKind.i64.wrap (b_1 - r0_1)) ≥ (IntKind.i64.wrap (Int.tdiv (IntKind.i64.wrap (b_1 - a_1)) 8)))) r1_1 h16 ∧ mu2 a_1 r0_1 limit_2 (decide ((IntKind.i64.wrap (b_1 - r0_1)) ≥ (IntKind.i64.wrap (Int.tdiv (IntKind.i64.wrap (b_1 - a_1)) 8)))) r1_1 h16 < mu2 a_1 b_1 limit_1 wasBalanced wasPartitioned h1))))))))))))))))))))))) :
    HC Try.prog 50 #[(.slice data data_n data_c), (.int .i64 a), (.int .i64 b), (.int .i64 limit), cmp] h R := by
  refine hc_of (args := [(.slice data data_n data_c), (.int .i64 a), (.int .i64 b), (.int .i64 limit), cmp]) Try.func50 rfl Try.ntmps50 (Nat.le_of_ble_eq_true rfl) ?_
  refine hx_seq ?_
  refine hx_region ?_
  refine hl_val rfl rfl (v := (.bool true)) (hv_assign rfl) ?_
  refine hl_nil ?_
  refine seqQ_n ?_
  refine hx_seq ?_
  refine hx_region ?_
  refine hl_val rfl rfl (v := (.bool true)) (hv_assign rfl) ?_
  refine hl_nil ?_
  refine seqQ_n ?_
  refine hx_block ?_
  obtain ⟨I1, mu2, Ha3, Hr4⟩ := H
  refine hx_loopT (σ := Int × Int × Int × Bool × Bool) (fun s => [(0, (.slice data data_n data_c)), (1, (.int .i64 s.1)), (2, (.int .i64 s.2.1)), (3, (.int .i64 s.2.2.1)), (4, cmp), (10, (.bool s.2.2.2.1)), (11, (.bool s.2.2.2.2))]) (fun s h' => I1 s.1 s.2.1 s.2.2.1 s.2.2.2.1 s.2.2.2.2 h') (fun s h' => mu2 s.1 s.2.1 s.2.2.1 s.2.2.2.1 s.2.2.2.2 h') (a, b, limit, true, true) Ha3 (has_cons rfl (has_cons rfl (has_cons rfl (has_cons rfl (has_cons rfl (has_cons rfl (has_cons rfl has_nil))))))) ?_
  rintro ⟨a_1, b_1, limit_1, wasBalanced, wasPartitioned⟩ ρ h1 Hi5
  have H := Hr4 a_1 b_1 limit_1 wasBalanced wasPartitioned h1 Hi5
  refine hx_block ?_
  refine hx_seq ?_
  refine hx_region ?_
  refine hl_val rfl rfl (v := (.int .i64 b_1)) (hv_move rfl) ?_
  refine hl_val rfl rfl (v := (.int .i64 a_1)) (hv_move rfl) ?_
  refine hl_val rfl rfl (v := (.int .i64 (IntKind.i64.wrap (b_1 - a_1)))) (hv_arith rfl rfl rfl) ?_
  refine hl_val rfl rfl (v := (.int .i64 (IntKind.i64.wrap (b_1 - a_1)))) (hv_assign rfl) ?_
  refine hl_nil ?_
  refine seqQ_n ?_
  refine hx_seq ?_
  refine hx_seq ?_
  refine hx_region ?_
  refine hl_val rfl rfl (v := (.int .i64 (IntKind.i64.wrap (b_1 - a_1)))) (hv_move rfl) ?_
  refine hl_val rfl rfl (v := (.bool (decide ((IntKind.i64.wrap (b_1 - a_1)) ≤ 12)))) (hv_arith rfl rfl rfl) ?_
  refine hl_nil ?_
  refine seqQ_n ?_
  refine hx_cond (b := decide ((IntKind.i64.wrap (b_1 - a_1)) ≤ 12)) rfl (fun hb46 => ?_) (fun hb46 => ?_)
  · replace H := H.1 hb46
    refine hx_seq ?_
    refine hx_region ?_
    refine hl_val rfl rfl (v := (.slice data data_n data_c)) (hv_move rfl) ?_
    refine hl_val rfl rfl (v := (.int .i64 a_1)) (hv_move rfl) ?_
    refine hl_val rfl rfl (v := (.int .i64 b_1)) (hv_move rfl) ?_
    refine hl_val rfl rfl (v := cmp) (hv_move rfl) ?_
    refine hl_step rfl rfl (hs_call Ty.cb53 (vs := [(.slice data data_n data_c), (.int .i64 a_1), (.int .i64 b_1), cmp]) rfl (HC.mono H ?_))
    rintro _ h2 ⟨rfl, H⟩
    refine hl_nil ?_
    refine seqQ_n ?_
    refine hx_ret ?_
    refine seqQ_ret ?_
    refine blockQ_ret ?_
    refine seqQ_ret ?_
    refine blockQ_ret ?_
    exact endQ_ret _ (res_none Try.results50 ) H
  · replace H := H.2 hb46
    refine hx_skip ?_
    refine seqQ_n ?_
    refine hx_seq ?_
    refine hx_seq ?_
    refine hx_region ?_
    refine hl_val rfl rfl (v := (.int .i64 limit_1)) (hv_move rfl) ?_
    refine hl_val rfl rfl (v := (.bool (limit_1 == 0))) (hv_arith rfl rfl rfl) ?_
    refine hl_nil ?_
    refine seqQ_n ?_
    refine hx_cond (b := limit_1 == 0) rfl (fun hb45 => ?_) (fun hb45 => ?_)
    · replace H := H.1 hb45
      refine hx_seq ?_
      refine hx_region ?_
      refine hl_val rfl rfl (v := (.slice data data_n data_c)) (hv_move rfl) ?_
      refine hl_val rfl rfl (v := (.int .i64 a_1)) (hv_move rfl) ?_
      refine hl_val rfl rfl (v := (.int .i64 b_1)) (hv_move rfl) ?_
      refine hl_val rfl rfl (v := cmp) (hv_move rfl) ?_
      refine hl_step rfl rfl (hs_call Ty.cb54 (vs := [(.slice data data_n data_c), (.int .i64 a_1), (.int .i64 b_1), cmp]) rfl (HC.mono H ?_))
      rintro _ h3 ⟨rfl, H⟩
      refine hl_nil ?_
      refine seqQ_n ?_
      refine hx_ret ?_
      refine seqQ_ret ?_
      refine blockQ_ret ?_
      refine seqQ_ret ?_
      refine blockQ_ret ?_
      exact endQ_ret _ (res_none Try.results50 ) H
    · replace H := H.2 hb45
      refine hx_skip ?_
      refine seqQ_n ?_
      obtain ⟨A6, Hx42, Hy43⟩ := H
      refine hx_cut (fun ρ h' => ∃ limit_2 : Int, A6 limit_2 h' ∧ Has ρ [(0, (.slice data data_n data_c)), (1, (.int .i64 a_1)), (2, (.int .i64 b_1)), (3, (.int .i64 limit_2)), (4, cmp), (10, (.bool wasBalanced)), (11, (.bool wasPartitioned)), (12, (.int .i64 (IntKind.i64.wrap (b_1 - a_1))))]) ?_ ?_
      · have H := Hx42; clear Hx42 Hy43
        refine hx_seq ?_
        refine hx_region ?_
        refine hl_val rfl rfl (v := (.bool wasBalanced)) (hv_move rfl) ?_
        refine hl_val rfl rfl (v := (.bool (!wasBalanced))) (hv_not (b := wasBalanced) rfl) ?_
        refine hl_nil ?_
        refine seqQ_n ?_
        refine hx_cond (b := !wasBalanced) rfl (fun hb7 => ?_) (fun hb7 => ?_)
        · replace H := H.1 hb7
          refine hx_seq ?_
          refine hx_region ?_
          refine hl_val rfl rfl (v := (.slice data data_n data_c)) (hv_move rfl) ?_
          refine hl_val rfl rfl (v := (.int .i64 a_1)) (hv_move rfl) ?_
          refine hl_val rfl rfl (v := (.int .i64 b_1)) (hv_move rfl) ?_
          refine hl_val rfl rfl (v := cmp) (hv_move rfl) ?_
          refine hl_step rfl rfl (hs_call Ty.cb55 (vs := [(.slice data data_n data_c), (.int .i64 a_1), (.int .i64 b_1), cmp]) rfl (HC.mono H ?_))
          rintro _ h5 ⟨rfl, H⟩
          refine hl_nil ?_
          refine seqQ_n ?_
          refine hx_region ?_
          refine hl_val rfl rfl (v := (.int .i64 limit_1)) (hv_move rfl) ?_
          refine hl_val rfl rfl (v := (.int .i64 (IntKind.i64.wrap (limit_1 - 1)))) (hv_arith rfl rfl rfl) ?_
          refine hl_val rfl rfl (v := (.int .i64 (IntKind.i64.wrap (limit_1 - 1)))) (hv_assign rfl) ?_
          refine hl_nil ?_
          refine seqQ_n ?_
          exact ⟨_, H, (has_cons rfl (has_cons rfl (has_cons rfl (has_cons rfl (has_cons rfl (has_cons rfl (has_cons rfl (has_cons rfl has_nil))))))))⟩
        · replace H := H.2 hb7
          refine hx_skip ?_
          refine seqQ_n ?_
          exact ⟨_, H, (has_cons rfl (has_cons rfl (has_cons rfl (has_cons rfl (has_cons rfl (has_cons rfl (has_cons rfl (has_cons rfl has_nil))))))))⟩
      · rintro ρ h4 ⟨limit_2, HA44, hH⟩
        have H := Hy43 limit_2 h4 HA44; clear Hx42 Hy43
        refine hx_has _ hH ?_
        refine hx_seq ?_
        refine hx_region ?_
        refine hl_val rfl rfl (v := (.slice data data_n data_c)) (hv_move rfl) ?_
        refine hl_val rfl rfl (v := (.int .i64 a_1)) (hv_move rfl) ?_
        refine hl_val rfl rfl (v := (.int .i64 b_1)) (hv_move rfl) ?_
        refine hl_val rfl rfl (v := cmp) (hv_move rfl) ?_
        refine hl_step rfl rfl (hs_call Ty.cb56 (vs := [(.slice data data_n data_c), (.int .i64 a_1), (.int .i64 b_1), cmp]) rfl (HC.mono H ?_))
        rintro _ h6 ⟨r0, r1, rfl, H⟩
        refine hl_val rfl rfl (v := (.tuple #[(.int .i64 r0), (.int .i64 r1)])) (hv_move rfl) ?_
        refine hl_val rfl rfl (v := (.int .i64 r0)) (hv_extract (vs := #[(.int .i64 r0), (.int .i64 r1)]) rfl rfl) ?_
        refine hl_val rfl rfl (v := (.int .i64 r1)) (hv_extract (vs := #[(.int .i64 r0), (.int .i64 r1)]) rfl rfl) ?_
        refine hl_val rfl rfl (v := (.int .i64 r0)) (hv_assign rfl) ?_
        refine hl_val rfl rfl (v := (.int .i64 r1)) (hv_assign rfl) ?_
        refine hl_nil ?_
        refine seqQ_n ?_
        obtain ⟨A8, Hx39, Hy40⟩ := H
        refine hx_cut (fun ρ h' => ∃ pivot hint : Int, A8 pivot hint h' ∧ Has ρ [(0, (.slice data data_n data_c)), (1, (.int .i64 a_1)), (2, (.int .i64 b_1)), (3, (.int .i64 limit_2)), (4, cmp), (10, (.bool wasBalanced)), (11, (.bool wasPartitioned)), (12, (.int .i64 (IntKind.i64.wrap (b_1 - a_1)))), (13, (.int .i64 pivot)), (14, (.int .i64 hint))]) ?_ ?_
        · have H := Hx39; clear Hx39 Hy40
          refine hx_seq ?_
          refine hx_region ?_
          refine hl_val rfl rfl (v := (.int .i64 r1)) (hv_move rfl) ?_
          refine hl_val rfl rfl (v := (.bool (r1 == 2))) (hv_arith rfl rfl rfl) ?_
          refine hl_nil ?_
          refine seqQ_n ?_
          refine hx_cond (b := r1 == 2) rfl (fun hb9 => ?_) (fun hb9 => ?_)
          · replace H := H.1 hb9
            refine hx_seq ?_
            refine hx_region ?_
            refine hl_val rfl rfl (v := (.slice data data_n data_c)) (hv_move rfl) ?_
            refine hl_val rfl rfl (v := (.int .i64 a_1)) (hv_move rfl) ?_
            refine hl_val rfl rfl (v := (.int .i64 b_1)) (hv_move rfl) ?_
            refine hl_val rfl rfl (v := cmp) (hv_move rfl) ?_
            refine hl_step rfl rfl (hs_call Ty.cb57 (vs := [(.slice data data_n data_c), (.int .i64 a_1), (.int .i64 b_1), cmp]) rfl (HC.mono H ?_))
            rintro _ h8 ⟨rfl, H⟩
            refine hl_nil ?_
            refine seqQ_n ?_
            refine hx_seq ?_
            refine hx_region ?_
            refine hl_val rfl rfl (v := (.int .i64 b_1)) (hv_move rfl) ?_
            refine hl_val rfl rfl (v := (.int .i64 (IntKind.i64.wrap (b_1 - 1)))) (hv_arith rfl rfl rfl) ?_
            refine hl_val rfl rfl (v := (.int .i64 r0)) (hv_move rfl) ?_
            refine hl_val rfl rfl (v := (.int .i64 a_1)) (hv_move rfl) ?_
            refine hl_val rfl rfl (v := (.int .i64 (IntKind.i64.wrap (r0 - a_1)))) (hv_arith rfl rfl rfl) ?_
            refine hl_val rfl rfl (v := (.int .i64 (IntKind.i64.wrap ((IntKind.i64.wrap (b_1 - 1)) - (IntKind.i64.wrap (r0 - a_1)))))) (hv_arith rfl rfl rfl) ?_
            refine hl_val rfl rfl (v := (.int .i64 (IntKind.i64.wrap ((IntKind.i64.wrap (b_1 - 1)) - (IntKind.i64.wrap (r0 - a_1)))))) (hv_assign rfl) ?_
            refine hl_nil ?_
            refine seqQ_n ?_
            refine hx_region ?_
            refine hl_val rfl rfl (v := (.int .i64 1)) (hv_assign rfl) ?_
            refine hl_nil ?_
            refine seqQ_n ?_
            exact ⟨_, _, H, (has_cons rfl (has_cons rfl (has_cons rfl (has_cons rfl (has_cons rfl (has_cons rfl (has_cons rfl (has_cons rfl (has_cons rfl (has_cons rfl has_nil))))))))))⟩
          · replace H := H.2 hb9
            refine hx_skip ?_
            refine seqQ_n ?_
            exact ⟨_, _, H, (has_cons rfl (has_cons rfl (has_cons rfl (has_cons rfl (has_cons rfl (has_cons rfl (has_cons rfl (has_cons rfl (has_cons rfl (has_cons rfl has_nil))))))))))⟩
        · rintro ρ h7 ⟨pivot, hint, HA41, hH⟩
          have H := Hy40 pivot hint h7 HA41; clear Hx39 Hy40
          refine hx_has _ hH ?_
          obtain ⟨A10, Hx36, Hy37⟩ := H
          refine hx_cut (fun ρ h' => A10 h' ∧ Has ρ [(0, (.slice data data_n data_c)), (1, (.int .i64 a_1)), (2, (.int .i64 b_1)), (3, (.int .i64 limit_2)), (4, cmp), (10, (.bool wasBalanced)), (11, (.bool wasPartitioned)), (12, (.int .i64 (IntKind.i64.wrap (b_1 - a_1)))), (13, (.int .i64 pivot))]) ?_ ?_
          · have H := Hx36; clear Hx36 Hy37
            obtain ⟨j, Hx15, Hy16⟩ := H
            refine hx_cut (fun ρ h' => h7 = h' ∧ Has ρ [(0, (.slice data data_n data_c)), (1, (.int .i64 a_1)), (2, (.int .i64 b_1)), (3, (.int .i64 limit_2)), (4, cmp), (10, (.bool wasBalanced)), (11, (.bool wasPartitioned)), (12, (.int .i64 (IntKind.i64.wrap (b_1 - a_1)))), (13, (.int .i64 pivot)), (75, (.bool j))]) ?_ ?_
            · have H := Hx15; clear Hx15 Hy16
              refine hx_region ?_
              refine hl_val rfl rfl (v := (.bool wasBalanced)) (hv_move rfl) ?_
              refine hl_val rfl rfl (v := (.bool wasBalanced)) (hv_move rfl) ?_
              rcases bool_or (wasBalanced) with hg11 | hg11
              · replace H := H.1 hg11
                refine hl_yes (wanted_y rfl rfl rfl hg11) rfl (HStep.of_val (v := (.bool wasPartitioned)) (hv_move rfl) ?_)
                refine hl_val rfl rfl (v := (.bool wasPartitioned)) (hv_pick_t rfl hg11 rfl) ?_
                refine hl_val rfl rfl (v := (.bool wasPartitioned)) (hv_move rfl) ?_
                rcases bool_or (wasPartitioned) with hg12 | hg12
                · replace H := H.1 hg12
                  refine hl_yes (wanted_y rfl rfl rfl hg12) rfl (HStep.of_val (v := (.int .i64 hint)) (hv_move rfl) ?_)
                  refine hl_yes (wanted_y rfl rfl rfl hg12) rfl (HStep.of_val (v := (.bool (hint == 1))) (hv_arith rfl rfl rfl) ?_)
                  refine hl_val rfl rfl (v := (.bool (hint == 1))) (hv_pick_t rfl hg12 rfl) ?_
                  refine hl_nil ?_
                  refine seqQ_n ?_
                  obtain rfl := H
                  exact ⟨rfl, (has_cons rfl (has_cons rfl (has_cons rfl (has_cons rfl (has_cons rfl (has_cons rfl (has_cons rfl (has_cons rfl (has_cons rfl (has_cons rfl has_nil))))))))))⟩
                · replace H := H.2 hg12
                  refine hl_no (wanted_n rfl rfl rfl hg12) rfl ?_
                  refine hl_no (wanted_n rfl rfl rfl hg12) rfl ?_
                  refine hl_val rfl rfl (v := (.bool false)) (hv_pick_f rfl hg12 rfl) ?_
                  refine hl_nil ?_
                  refine seqQ_n ?_
                  obtain rfl := H
                  exact ⟨rfl, (has_cons rfl (has_cons rfl (has_cons rfl (has_cons rfl (has_cons rfl (has_cons rfl (has_cons rfl (has_cons rfl (has_cons rfl (has_cons rfl has_nil))))))))))⟩
              · replace H := H.2 hg11
                refine hl_no (wanted_n rfl rfl rfl hg11) rfl ?_
                refine hl_val rfl rfl (v := (.bool false)) (hv_pick_f rfl hg11 rfl) ?_
                refine hl_val rfl rfl (v := (.bool false)) (hv_move rfl) ?_
                refine hl_no (wanted_n rfl rfl (c := false) rfl rfl) rfl ?_
                refine hl_no (wanted_n rfl rfl (c := false) rfl rfl) rfl ?_
                refine hl_val rfl rfl (v := (.bool false)) (hv_pick (t := false) rfl rfl) ?_
                refine hl_nil ?_
                refine seqQ_n ?_
                obtain rfl := H
                exact ⟨rfl, (has_cons rfl (has_cons rfl (has_cons rfl (has_cons rfl (has_cons rfl (has_cons rfl (has_cons rfl (has_cons rfl (has_cons rfl (has_cons rfl has_nil))))))))))⟩
            · have H := Hy16; clear Hx15 Hy16
              rintro ρ _ ⟨rfl, hH⟩
              refine hx_has _ hH ?_
              refine hx_cond (b := j) rfl (fun hb14 => ?_) (fun hb14 => ?_)
              · replace H := H.1 hb14
                refine hx_seq ?_
                refine hx_region ?_
                refine hl_val rfl rfl (v := (.slice data data_n data_c)) (hv_move rfl) ?_
                refine hl_val rfl rfl (v := (.int .i64 a_1)) (hv_move rfl) ?_
                refine hl_val rfl rfl (v := (.int .i64 b_1)) (hv_move rfl) ?_
                refine hl_val rfl rfl (v := cmp) (hv_move rfl) ?_
                refine hl_step rfl rfl (hs_call Ty.cb58 (vs := [(.slice data data_n data_c), (.int .i64 a_1), (.int .i64 b_1), cmp]) rfl (HC.mono H ?_))
                rintro _ h10 ⟨r, rfl, H⟩
                refine hl_nil ?_
                refine seqQ_n ?_
                refine hx_cond (b := r) rfl (fun hb13 => ?_) (fun hb13 => ?_)
                · replace H := H.1 hb13
                  refine hx_ret ?_
                  refine seqQ_ret ?_
                  refine blockQ_ret ?_
                  refine seqQ_ret ?_
                  refine blockQ_ret ?_
                  exact endQ_ret _ (res_none Try.results50 ) H
                · replace H := H.2 hb13
                  refine hx_skip ?_
                  refine seqQ_n ?_
                  exact ⟨H, (has_cons rfl (has_cons rfl (has_cons rfl (has_cons rfl (has_cons rfl (has_cons rfl (has_cons rfl (has_cons rfl (has_cons rfl has_nil)))))))))⟩
              · replace H := H.2 hb14
                refine hx_skip ?_
                refine seqQ_n ?_
                exact ⟨H, (has_cons rfl (has_cons rfl (has_cons rfl (has_cons rfl (has_cons rfl (has_cons rfl (has_cons rfl (has_cons rfl (has_cons rfl has_nil)))))))))⟩
          · rintro ρ h9 ⟨HA38, hH⟩
            have H := Hy37 h9 HA38; clear Hx36 Hy37
            refine hx_has _ hH ?_
            refine hx_seq ?_
            obtain ⟨A17, Hx33, Hy34⟩ := H
            refine hx_cut (fun ρ h' => ∃ j_1 : Bool, A17 j_1 h' ∧ Has ρ [(0, (.slice data data_n data_c)), (1, (.int .i64 a_1)), (2, (.int .i64 b_1)), (3, (.int .i64 limit_2)), (4, cmp), (10, (.bool wasBalanced)), (11, (.bool wasPartitioned)), (12, (.int .i64 (IntKind.i64.wrap (b_1 - a_1)))), (13, (.int .i64 pivot)), (97, (.bool j_1))]) ?_ ?_
            · have H := Hx33; clear Hx33 Hy34
              refine hx_draw Ty.mixed [.pure, .pure, .pure, .pure, .pure, .pure, .pure, .pure, .read, .pure, .pure, .pure, .read, .wild, .pure, .pure, .pure] [0, 1, 2, 3, 4, 5, 6, 7, 8, 9, 10, 11, 12, 13, 14, 15, 16] (by kernel_rfl) ?_
              refine hp_pure (i := 0) rfl (wanted_0 rfl) rfl (.int .i64 a_1) (fun _ => hv_move rfl) ?_
              refine hp_pure (i := 1) rfl (wanted_0 rfl) rfl (.bool (decide (a_1 > 0))) (fun _ => hv_arith rfl rfl rfl) ?_
              refine hp_pure (i := 2) rfl (wanted_0 rfl) rfl (.bool (decide (a_1 > 0))) (fun _ => hv_move rfl) ?_
              rcases bool_or (decide (a_1 > 0)) with hg18 | hg18
              · replace H := H.1 hg18
                refine hp_pure (i := 3) rfl (wanted_y rfl rfl rfl hg18) rfl cmp (fun _ => hv_move rfl) ?_
                refine hp_pure (i := 4) rfl (wanted_y rfl rfl rfl hg18) rfl (.slice data data_n data_c) (fun _ => hv_move rfl) ?_
                refine hp_pure (i := 5) rfl (wanted_y rfl rfl rfl hg18) rfl (.int .i64 a_1) (fun _ => hv_move rfl) ?_
                refine hp_pure (i := 6) rfl (wanted_y rfl rfl rfl hg18) rfl (.int .i64 (IntKind.i64.wrap (a_1 - 1))) (fun _ => hv_arith rfl rfl rfl) ?_
                obtain ⟨data_b, data_o, hqe, hi19, hi20, Hq⟩ := H
                subst hqe
                have H := Hq; clear Hq
                refine hp_pure (i := 7) rfl (wanted_y rfl rfl rfl hg18) rfl (ptr data_b (data_o + (Int.toNat (IntKind.i64.wrap (a_1 - 1))) * 4)) (fun _ => hv_index Ty.el35 rfl rfl hi19 hi20) ?_
                obtain ⟨x_Hash, x_At, x_Version, x_Hits, hc27, hc28, hc29, hc30, H⟩ := H
                refine hp_read (i := 8) rfl (wanted_y rfl rfl rfl hg18) rfl (.agg #[(.int .u64 x_Hash), (.int .u64 x_At), (.int .u64 x_Version), (.int .u8 x_Hits)]) (fun _ he => hv_loads (vs := [(.int .u64 x_Hash), (.int .u64 x_At), (.int .u64 x_Version), (.int .u8 x_Hits)]) Ty.agg31 Ty.sz31 rfl (hcells_cons (he.cell hc27) (hcells_cons (he.cell hc28) (hcells_cons (he.cell hc29) (hcells_cons (he.cell hc30) hcells_nil))))) ?_
                refine hp_pure (i := 9) rfl (wanted_y rfl rfl rfl hg18) rfl (.slice (some ⟨data_b, data_o, none⟩) data_n data_c) (fun _ => hv_move rfl) ?_
                refine hp_pure (i := 10) rfl (wanted_y rfl rfl rfl hg18) rfl (.int .i64 pivot) (fun _ => hv_move rfl) ?_
                obtain ⟨hi21, hi22, H⟩ := H
                refine hp_pure (i := 11) rfl (wanted_y rfl rfl rfl hg18) rfl (ptr data_b (data_o + (Int.toNat pivot) * 4)) (fun _ => hv_index Ty.el35 rfl rfl hi21 hi22) ?_
                obtain ⟨x_Hash_1, x_At_1, x_Version_1, x_Hits_1, hc23, hc24, hc25, hc26, H⟩ := H
                refine hp_read (i := 12) rfl (wanted_y rfl rfl rfl hg18) rfl (.agg #[(.int .u64 x_Hash_1), (.int .u64 x_At_1), (.int .u64 x_Version_1), (.int .u8 x_Hits_1)]) (fun _ he => hv_loads (vs := [(.int .u64 x_Hash_1), (.int .u64 x_At_1), (.int .u64 x_Version_1), (.int .u8 x_Hits_1)]) Ty.agg31 Ty.sz31 rfl (hcells_cons (he.cell hc23) (hcells_cons (he.cell hc24) (hcells_cons (he.cell hc25) (hcells_cons (he.cell hc26) hcells_nil))))) ?_
                refine hp_wild (i := 13) rfl (wanted_y rfl rfl rfl hg18) rfl (hs_callF (vs := [(.agg #[(.int .u64 x_Hash), (.int .u64 x_At), (.int .u64 x_Version), (.int .u8 x_Hits)]), (.agg #[(.int .u64 x_Hash_1), (.int .u64 x_At_1), (.int .u64 x_Version_1), (.int .u8 x_Hits_1)])]) rfl rfl (HCV.mono H ?_))
                rintro _ h12 ⟨r_1, rfl, H⟩
                refine hp_pure (i := 14) rfl (wanted_y rfl rfl rfl hg18) rfl (.bool (decide (r_1 < 0))) (fun _ => hv_arith rfl rfl rfl) ?_
                refine hp_pure (i := 15) rfl (wanted_y rfl rfl rfl hg18) rfl (.bool (!(decide (r_1 < 0)))) (fun _ => hv_not (b := decide (r_1 < 0)) rfl) ?_
                refine hp_pure (i := 16) rfl (wanted_0 rfl) rfl (.bool (!(decide (r_1 < 0)))) (fun _ => hv_pick_t rfl hg18 rfl) ?_
                refine hp_nil ?_
                refine seqQ_n ?_
                exact ⟨_, H, (has_cons rfl (has_cons rfl (has_cons rfl (has_cons rfl (has_cons rfl (has_cons rfl (has_cons rfl (has_cons rfl (has_cons rfl (has_cons rfl has_nil))))))))))⟩
              · replace H := H.2 hg18
                refine hp_no (i := 3) rfl (wanted_n rfl rfl rfl hg18) ?_
                refine hp_no (i := 4) rfl (wanted_n rfl rfl rfl hg18) ?_
                refine hp_no (i := 5) rfl (wanted_n rfl rfl rfl hg18) ?_
                refine hp_no (i := 6) rfl (wanted_n rfl rfl rfl hg18) ?_
                refine hp_no (i := 7) rfl (wanted_n rfl rfl rfl hg18) ?_
                refine hp_no (i := 8) rfl (wanted_n rfl rfl rfl hg18) ?_
                refine hp_no (i := 9) rfl (wanted_n rfl rfl rfl hg18) ?_
                refine hp_no (i := 10) rfl (wanted_n rfl rfl rfl hg18) ?_
                refine hp_no (i := 11) rfl (wanted_n rfl rfl rfl hg18) ?_
                refine hp_no (i := 12) rfl (wanted_n rfl rfl rfl hg18) ?_
                refine hp_no (i := 13) rfl (wanted_n rfl rfl rfl hg18) ?_
                refine hp_no (i := 14) rfl (wanted_n rfl rfl rfl hg18) ?_
                refine hp_no (i := 15) rfl (wanted_n rfl rfl rfl hg18) ?_
                refine hp_pure (i := 16) rfl (wanted_0 rfl) rfl (.bool false) (fun _ => hv_pick_f rfl hg18 rfl) ?_
                refine hp_nil ?_
                refine seqQ_n ?_
                exact ⟨_, H, (has_cons rfl (has_cons rfl (has_cons rfl (has_cons rfl (has_cons rfl (has_cons rfl (has_cons rfl (has_cons rfl (has_cons rfl (has_cons rfl has_nil))))))))))⟩
            · rintro ρ h11 ⟨j_1, HA35, hH⟩
              have H := Hy34 j_1 h11 HA35; clear Hx33 Hy34
              refine hx_has _ hH ?_
              refine hx_cond (b := j_1) rfl (fun hb32 => ?_) (fun hb32 => ?_)
              · replace H := H.1 hb32
                refine hx_seq ?_
                refine hx_region ?_
                refine hl_val rfl rfl (v := (.slice data data_n data_c)) (hv_move rfl) ?_
                refine hl_val rfl rfl (v := (.int .i64 a_1)) (hv_move rfl) ?_
                refine hl_val rfl rfl (v := (.int .i64 b_1)) (hv_move rfl) ?_
                refine hl_val rfl rfl (v := (.int .i64 pivot)) (hv_move rfl) ?_
                refine hl_val rfl rfl (v := cmp) (hv_move rfl) ?_
                refine hl_step rfl rfl (hs_call Ty.cb59 (vs := [(.slice data data_n data_c), (.int .i64 a_1), (.int .i64 b_1), (.int .i64 pivot), cmp]) rfl (HC.mono H ?_))
                rintro _ h13 ⟨r_2, rfl, H⟩
                refine hl_val rfl rfl (v := (.int .i64 r_2)) (hv_assign rfl) ?_
                refine hl_nil ?_
                refine seqQ_n ?_
                refine hx_seq ?_
                refine hx_region ?_
                refine hl_val rfl rfl (v := (.int .i64 r_2)) (hv_move rfl) ?_
                refine hl_val rfl rfl (v := (.int .i64 r_2)) (hv_assign rfl) ?_
                refine hl_nil ?_
                refine seqQ_n ?_
                refine hx_exit ?_
                refine seqQ_exit ?_
                refine blockQ_here ?_
                refine seqQ_n ?_
                exact ⟨(r_2, b_1, limit_2, wasBalanced, wasPartitioned), H, (has_cons rfl (has_cons rfl (has_cons rfl (has_cons rfl (has_cons rfl (has_cons rfl (has_cons rfl has_nil)))))))⟩
              · replace H := H.2 hb32
                refine hx_skip ?_
                refine seqQ_n ?_
                refine hx_seq ?_
                refine hx_region ?_
                refine hl_val rfl rfl (v := (.slice data data_n data_c)) (hv_move rfl) ?_
                refine hl_val rfl rfl (v := (.int .i64 a_1)) (hv_move rfl) ?_
                refine hl_val rfl rfl (v := (.int .i64 b_1)) (hv_move rfl) ?_
                refine hl_val rfl rfl (v := (.int .i64 pivot)) (hv_move rfl) ?_
                refine hl_val rfl rfl (v := cmp) (hv_move rfl) ?_
                refine hl_step rfl rfl (hs_call Ty.cb60 (vs := [(.slice data data_n data_c), (.int .i64 a_1), (.int .i64 b_1), (.int .i64 pivot), cmp]) rfl (HC.mono H ?_))
                rintro _ h14 ⟨r0_1, r1_1, rfl, H⟩
                refine hl_val rfl rfl (v := (.tuple #[(.int .i64 r0_1), (.bool r1_1)])) (hv_move rfl) ?_
                refine hl_val rfl rfl (v := (.int .i64 r0_1)) (hv_extract (vs := #[(.int .i64 r0_1), (.bool r1_1)]) rfl rfl) ?_
                refine hl_val rfl rfl (v := (.bool r1_1)) (hv_extract (vs := #[(.int .i64 r0_1), (.bool r1_1)]) rfl rfl) ?_
                refine hl_val rfl rfl (v := (.int .i64 r0_1)) (hv_assign rfl) ?_
                refine hl_val rfl rfl (v := (.bool r1_1)) (hv_assign rfl) ?_
                refine hl_nil ?_
                refine seqQ_n ?_
                refine hx_seq ?_
                refine hx_region ?_
                refine hl_val rfl rfl (v := (.bool r1_1)) (hv_move rfl) ?_
                refine hl_val rfl rfl (v := (.bool r1_1)) (hv_assign rfl) ?_
                refine hl_nil ?_
                refine seqQ_n ?_
                refine hx_seq ?_
                refine hx_region ?_
                refine hl_val rfl rfl (v := (.int .i64 r0_1)) (hv_move rfl) ?_
                refine hl_val rfl rfl (v := (.int .i64 a_1)) (hv_move rfl) ?_
                refine hl_val rfl rfl (v := (.int .i64 (IntKind.i64.wrap (r0_1 - a_1)))) (hv_arith rfl rfl rfl) ?_
                refine hl_val rfl rfl (v := (.int .i64 b_1)) (hv_move rfl) ?_
                refine hl_val rfl rfl (v := (.int .i64 r0_1)) (hv_move rfl) ?_
                refine hl_val rfl rfl (v := (.int .i64 (IntKind.i64.wrap (b_1 - r0_1)))) (hv_arith rfl rfl rfl) ?_
                refine hl_val rfl rfl (v := (.int .i64 (IntKind.i64.wrap (r0_1 - a_1)))) (hv_assign rfl) ?_
                refine hl_val rfl rfl (v := (.int .i64 (IntKind.i64.wrap (b_1 - r0_1)))) (hv_assign rfl) ?_
                refine hl_nil ?_
                refine seqQ_n ?_
                refine hx_seq ?_
                refine hx_region ?_
                refine hl_val rfl rfl (v := (.int .i64 (IntKind.i64.wrap (b_1 - a_1)))) (hv_move rfl) ?_
                refine hl_val rfl rfl (v := (.int .i64 (IntKind.i64.wrap (Int.tdiv (IntKind.i64.wrap (b_1 - a_1)) 8)))) (hv_quo rfl rfl (by decide)) ?_
                refine hl_val rfl rfl (v := (.int .i64 (IntKind.i64.wrap (Int.tdiv (IntKind.i64.wrap (b_1 - a_1)) 8)))) (hv_assign rfl) ?_
                refine hl_nil ?_
                refine seqQ_n ?_
                refine hx_seq ?_
                refine hx_region ?_
                refine hl_val rfl rfl (v := (.int .i64 (IntKind.i64.wrap (r0_1 - a_1)))) (hv_move rfl) ?_
                refine hl_val rfl rfl (v := (.int .i64 (IntKind.i64.wrap (b_1 - r0_1)))) (hv_move rfl) ?_
                refine hl_val rfl rfl (v := (.bool (decide ((IntKind.i64.wrap (r0_1 - a_1)) < (IntKind.i64.wrap (b_1 - r0_1)))))) (hv_arith rfl rfl rfl) ?_
                refine hl_nil ?_
                refine seqQ_n ?_
                refine hx_cond (b := decide ((IntKind.i64.wrap (r0_1 - a_1)) < (IntKind.i64.wrap (b_1 - r0_1)))) rfl (fun hb31 => ?_) (fun hb31 => ?_)
                · replace H := H.1 hb31
                  refine hx_seq ?_
                  refine hx_region ?_
                  refine hl_val rfl rfl (v := (.int .i64 (IntKind.i64.wrap (r0_1 - a_1)))) (hv_move rfl) ?_
                  refine hl_val rfl rfl (v := (.int .i64 (IntKind.i64.wrap (Int.tdiv (IntKind.i64.wrap (b_1 - a_1)) 8)))) (hv_move rfl) ?_
                  refine hl_val rfl rfl (v := (.bool (decide ((IntKind.i64.wrap (r0_1 - a_1)) ≥ (IntKind.i64.wrap (Int.tdiv (IntKind.i64.wrap (b_1 - a_1)) 8)))))) (hv_arith rfl rfl rfl) ?_
                  refine hl_val rfl rfl (v := (.bool (decide ((IntKind.i64.wrap (r0_1 - a_1)) ≥ (IntKind.i64.wrap (Int.tdiv (IntKind.i64.wrap (b_1 - a_1)) 8)))))) (hv_assign rfl) ?_
                  refine hl_nil ?_
                  refine seqQ_n ?_
                  refine hx_seq ?_
                  refine hx_region ?_
                  refine hl_val rfl rfl (v := (.slice data data_n data_c)) (hv_move rfl) ?_
                  refine hl_val rfl rfl (v := (.int .i64 a_1)) (hv_move rfl) ?_
                  refine hl_val rfl rfl (v := (.int .i64 r0_1)) (hv_move rfl) ?_
                  refine hl_val rfl rfl (v := (.int .i64 limit_2)) (hv_move rfl) ?_
                  refine hl_val rfl rfl (v := cmp) (hv_move rfl) ?_
                  refine hl_step rfl rfl (hs_call Ty.cb50 (vs := [(.slice data data_n data_c), (.int .i64 a_1), (.int .i64 r0_1), (.int .i64 limit_2), cmp]) rfl (HC.mono H ?_))
                  rintro _ h15 ⟨rfl, H⟩
                  refine hl_nil ?_
                  refine seqQ_n ?_
                  refine hx_region ?_
                  refine hl_val rfl rfl (v := (.int .i64 r0_1)) (hv_move rfl) ?_
                  refine hl_val rfl rfl (v := (.int .i64 (IntKind.i64.wrap (r0_1 + 1)))) (hv_arith rfl rfl rfl) ?_
                  refine hl_val rfl rfl (v := (.int .i64 (IntKind.i64.wrap (r0_1 + 1)))) (hv_assign rfl) ?_
                  refine hl_nil ?_
                  refine blockQ_n ?_
                  refine seqQ_n ?_
                  exact ⟨(IntKind.i64.wrap (r0_1 + 1), b_1, limit_2, decide ((IntKind.i64.wrap (r0_1 - a_1)) ≥ (IntKind.i64.wrap (Int.tdiv (IntKind.i64.wrap (b_1 - a_1)) 8))), r1_1), H, (has_cons rfl (has_cons rfl (has_cons rfl (has_cons rfl (has_cons rfl (has_cons rfl (has_cons rfl has_nil)))))))⟩
                · replace H := H.2 hb31
                  refine hx_seq ?_
                  refine hx_region ?_
                  refine hl_val rfl rfl (v := (.int .i64 (IntKind.i64.wrap (b_1 - r0_1)))) (hv_move rfl) ?_
                  refine hl_val rfl rfl (v := (.int .i64 (IntKind.i64.wrap (Int.tdiv (IntKind.i64.wrap (b_1 - a_1)) 8)))) (hv_move rfl) ?_
                  refine hl_val rfl rfl (v := (.bool (decide ((IntKind.i64.wrap (b_1 - r0_1)) ≥ (IntKind.i64.wrap (Int.tdiv (IntKind.i64.wrap (b_1 - a_1)) 8)))))) (hv_arith rfl rfl rfl) ?_
                  refine hl_val rfl rfl (v := (.bool (decide ((IntKind.i64.wrap (b_1 - r0_1)) ≥ (IntKind.i64.wrap (Int.tdiv (IntKind.i64.wrap (b_1 - a_1)) 8)))))) (hv_assign rfl) ?_
                  refine hl_nil ?_
                  refine seqQ_n ?_
                  refine hx_seq ?_
                  refine hx_region ?_
                  refine hl_val rfl rfl (v := (.slice data data_n data_c)) (hv_move rfl) ?_
                  refine hl_val rfl rfl (v := (.int .i64 r0_1)) (hv_move rfl) ?_
                  refine hl_val rfl rfl (v := (.int .i64 (IntKind.i64.wrap (r0_1 + 1)))) (hv_arith rfl rfl rfl) ?_
                  refine hl_val rfl rfl (v := (.int .i64 b_1)) (hv_move rfl) ?_
                  refine hl_val rfl rfl (v := (.int .i64 limit_2)) (hv_move rfl) ?_
                  refine hl_val rfl rfl (v := cmp) (hv_move rfl) ?_
                  refine hl_step rfl rfl (hs_call Ty.cb50 (vs := [(.slice data data_n data_c), (.int .i64 (IntKind.i64.wrap (r0_1 + 1))), (.int .i64 b_1), (.int .i64 limit_2), cmp]) rfl (HC.mono H ?_))
                  rintro _ h16 ⟨rfl, H⟩
                  refine hl_nil ?_
                  refine seqQ_n ?_
                  refine hx_region ?_
                  refine hl_val rfl rfl (v := (.int .i64 r0_1)) (hv_move rfl) ?_
                  refine hl_val rfl rfl (v := (.int .i64 r0_1)) (hv_assign rfl) ?_
                  refine hl_nil ?_
                  refine blockQ_n ?_
                  refine seqQ_n ?_
                  exact ⟨(a_1, r0_1, limit_2, decide ((IntKind.i64.wrap (b_1 - r0_1)) ≥ (IntKind.i64.wrap (Int.tdiv (IntKind.i64.wrap (b_1 - a_1)) 8))), r1_1), H, (has_cons rfl (has_cons rfl (has_cons rfl (has_cons rfl (has_cons rfl (has_cons rfl (has_cons rfl has_nil)))))))⟩

/-- math/bits.Len -/
theorem f51_sh (x : Int) (h : Heap) (R : Value → Heap → Prop)
    (H : HC Try.prog 62 #[(.int .u64 x)] h (fun vv h1 => ∃ r : Int, vv = (.int .i64 r) ∧ R (.int .i64 r) h1)) :
    HC Try.prog 51 #[(.int .u64 x)] h R := by
  refine hc_of (args := [(.int .u64 x)]) Try.func51 rfl Try.ntmps51 (Nat.le_of_ble_eq_true rfl) ?_
  refine hx_seq ?_
  refine hx_region ?_
  refine hl_val rfl rfl (v := (.int .i64 0)) (hv_assign rfl) ?_
  refine hl_nil ?_
  refine seqQ_n ?_
  refine hx_seq ?_
  refine hx_cond (b := false) rfl (fun hb => by cases hb) (fun _ => ?_)
  refine hx_skip ?_
  refine seqQ_n ?_
  refine hx_seq ?_
  refine hx_region ?_
  refine hl_val rfl rfl (v := (.int .u64 x)) (hv_move rfl) ?_
  refine hl_step rfl rfl (hs_call Ty.cb62 (vs := [(.int .u64 x)]) rfl (HC.mono H ?_))
  rintro _ h1 ⟨r, rfl, H⟩
  refine hl_val rfl rfl (v := (.int .i64 r)) (hv_assign rfl) ?_
  refine hl_nil ?_
  refine seqQ_n ?_
  refine hx_ret ?_
  exact endQ_ret _ (res_one Try.results51 (rv_tmp rfl)) H

/-- math/bits.Len64 -/
theorem f62_sh (x : Int) (h : Heap) (R : Value → Heap → Prop)
    (H : (∃ x_1 n : Int, (((decide (x ≥ 4294967296)) = true → (x_1 = (Int.fdiv x (2 ^ min (Int.toNat 32) 64)) ∧ n = 32)) ∧ ((decide (x ≥ 4294967296)) = false → (x_1 = x ∧ n = 0))) ∧ (∃ x_2 n_1 : Int, (((decide (x_1 ≥ 65536)) = true → (x_2 = (Int.fdiv x_1 (2 ^ min (Int.toNat 16) 64)) ∧ n_1 = (IntKind.i64.wrap (n + 16)))) ∧ ((decide (x_1 ≥ 65536)) = false → (x_2 = x_1 ∧ n_1 = n))) ∧ (∃ x_3 n_2 : Int, (((decide (x_2 ≥ 256)) = true → (x_3 = (Int.fdiv x_2 (2 ^ min (Int.toNat 8) 64)) ∧ n_2 = (IntKind.i64.wrap (n_1 + 8)))) ∧ ((decide (x_2 ≥ 256)) = false → (x_3 = x_2 ∧ n_2 = n_1))) ∧ ((0 : Int) ≤ IntKind.u8.wrap x_3 ∧ ∃ u : UInt8, (ByteArray.mk #[0, 1, 2, 2, 3, 3, 3, 3, 4, 4, 4, 4, 4, 4, 4, 4, 5, 5, 5, 5, 5, 5, 5, 5, 5, 5, 5, 5, 5, 5, 5, 5, 6, 6, 6, 6, 6, 6, 6, 6, 6, 6, 6, 6, 6, 6, 6, 6, 6, 6, 6, 6, 6, 6, 6, 6, 6, 6, 6, 6, 6, 6, 6, 6, 7, 7, 7, 7, 7, 7, 7, 7, 7, 7, 7, 7, 7, 7, 7, 7, 7, 7, 7, 7, 7, 7, 7, 7, 7, 7, 7, 7, 7, 7, 7, 7, 7, 7, 7, 7, 7, 7, 7, 7, 7, 7, 7, 7, 7, 7, 7, 7, 7, 7, 7, 7, 7, 7, 7, 7, 7, 7, 7, 7, 7, 7, 7, 7, 8, 8, 8, 8, 8, 8, 8, 8, 8, 8, 8, 8, 8, 8, 8, 8, 8, 8, 8, 8, 8, 8, 8, 8, 8, 8, 8, 8, 8, 8, 8, 8, 8, 8, 8, 8, 8, 8, 8, 8, 8, 8, 8, 8, 8, 8, 8, 8, 8, 8, 8, 8, 8, 8, 8, 8, 8, 8, 8, 8, 8, 8, 8, 8, 8, 8, 8, 8, 8, 8, 8, 8, 8, 8, 8, 8, 8, 8, 8, 8, 8, 8, 8, 8, 8, 8, 8, 8, 8, 8, 8, 8, 8, 8, 8, 8, 8, 8, 8, 8, 8, 8, 8, 8, 8, 8, 8, 8, 8, 8, 8, 8, 8, 8, 8, 8, 8, 8, 8, 8, 8, 8, 8, 8, 8, 8, 8, 8])[Int.toNat (IntKind.u8.wrap x_3)]? = some u ∧ R (.int .i64 (IntKind.i64.wrap (n_2 + (IntKind.i64.wrap (UInt8.toNat u : Int))))) h))))) :
    HC Try.prog 62 #[(.int .u64 x)] h R := by
  refine hc_of (args := [(.int .u64 x)]) Try.func62 rfl Try.ntmps62 (Nat.le_of_ble_eq_true rfl) ?_
  refine hx_seq ?_
  refine hx_region ?_
  refine hl_val rfl rfl (v := (.int .i64 0)) (hv_assign rfl) ?_
  refine hl_nil ?_
  refine seqQ_n ?_
  obtain ⟨x_1, n, Hx10, Hy11⟩ := H
  refine hx_cut (fun ρ h' => h = h' ∧ Has ρ [(0, (.int .u64 x_1)), (2, (.int .i64 n))]) ?_ ?_
  · have H := Hx10; clear Hx10 Hy11
    refine hx_seq ?_
    refine hx_region ?_
    refine hl_val rfl rfl (v := (.int .u64 x)) (hv_move rfl) ?_
    refine hl_val rfl rfl (v := (.bool (decide (x ≥ 4294967296)))) (hv_arith rfl rfl rfl) ?_
    refine hl_nil ?_
    refine seqQ_n ?_
    refine hx_cond (b := decide (x ≥ 4294967296)) rfl (fun hb1 => ?_) (fun hb1 => ?_)
    · replace H := H.1 hb1
      refine hx_seq ?_
      refine hx_region ?_
      refine hl_val rfl rfl (v := (.int .u64 x)) (hv_move rfl) ?_
      refine hl_val rfl rfl (v := (.int .u64 (Int.fdiv x (2 ^ min (Int.toNat 32) 64)))) (hv_shift rfl rfl (by decide) rfl) ?_
      refine hl_val rfl rfl (v := (.int .u64 (Int.fdiv x (2 ^ min (Int.toNat 32) 64)))) (hv_assign rfl) ?_
      refine hl_nil ?_
      refine seqQ_n ?_
      refine hx_region ?_
      refine hl_val rfl rfl (v := (.int .i64 32)) (hv_assign rfl) ?_
      refine hl_nil ?_
      refine seqQ_n ?_
      obtain ⟨rfl, rfl⟩ := H
      exact ⟨rfl, (has_cons rfl (has_cons rfl has_nil))⟩
    · replace H := H.2 hb1
      refine hx_skip ?_
      refine seqQ_n ?_
      obtain ⟨rfl, rfl⟩ := H
      exact ⟨rfl, (has_cons rfl (has_cons rfl has_nil))⟩
  · have H := Hy11; clear Hx10 Hy11
    rintro ρ _ ⟨rfl, hH⟩
    refine hx_has _ hH ?_
    obtain ⟨x_2, n_1, Hx8, Hy9⟩ := H
    refine hx_cut (fun ρ h' => h = h' ∧ Has ρ [(0, (.int .u64 x_2)), (2, (.int .i64 n_1))]) ?_ ?_
    · have H := Hx8; clear Hx8 Hy9
      refine hx_seq ?_
      refine hx_region ?_
      refine hl_val rfl rfl (v := (.int .u64 x_1)) (hv_move rfl) ?_
      refine hl_val rfl rfl (v := (.bool (decide (x_1 ≥ 65536)))) (hv_arith rfl rfl rfl) ?_
      refine hl_nil ?_
      refine seqQ_n ?_
      refine hx_cond (b := decide (x_1 ≥ 65536)) rfl (fun hb2 => ?_) (fun hb2 => ?_)
      · replace H := H.1 hb2
        refine hx_seq ?_
        refine hx_region ?_
        refine hl_val rfl rfl (v := (.int .u64 x_1)) (hv_move rfl) ?_
        refine hl_val rfl rfl (v := (.int .u64 (Int.fdiv x_1 (2 ^ min (Int.toNat 16) 64)))) (hv_shift rfl rfl (by decide) rfl) ?_
        refine hl_val rfl rfl (v := (.int .u64 (Int.fdiv x_1 (2 ^ min (Int.toNat 16) 64)))) (hv_assign rfl) ?_
        refine hl_nil ?_
        refine seqQ_n ?_
        refine hx_region ?_
        refine hl_val rfl rfl (v := (.int .i64 n)) (hv_move rfl) ?_
        refine hl_val rfl rfl (v := (.int .i64 (IntKind.i64.wrap (n + 16)))) (hv_arith rfl rfl rfl) ?_
        refine hl_val rfl rfl (v := (.int .i64 (IntKind.i64.wrap (n + 16)))) (hv_assign rfl) ?_
        refine hl_nil ?_
        refine seqQ_n ?_
        obtain ⟨rfl, rfl⟩ := H
        exact ⟨rfl, (has_cons rfl (has_cons rfl has_nil))⟩
      · replace H := H.2 hb2
        refine hx_skip ?_
        refine seqQ_n ?_
        obtain ⟨rfl, rfl⟩ := H
        exact ⟨rfl, (has_cons rfl (has_cons rfl has_nil))⟩
    · have H := Hy9; clear Hx8 Hy9
      rintro ρ _ ⟨rfl, hH⟩
      refine hx_has _ hH ?_
      obtain ⟨x_3, n_2, Hx6, Hy7⟩ := H
      refine hx_cut (fun ρ h' => h = h' ∧ Has ρ [(0, (.int .u64 x_3)), (2, (.int .i64 n_2))]) ?_ ?_
      · have H := Hx6; clear Hx6 Hy7
        refine hx_seq ?_
        refine hx_region ?_
        refine hl_val rfl rfl (v := (.int .u64 x_2)) (hv_move rfl) ?_
        refine hl_val rfl rfl (v := (.bool (decide (x_2 ≥ 256)))) (hv_arith rfl rfl rfl) ?_
        refine hl_nil ?_
        refine seqQ_n ?_
        refine hx_cond (b := decide (x_2 ≥ 256)) rfl (fun hb3 => ?_) (fun hb3 => ?_)
        · replace H := H.1 hb3
          refine hx_seq ?_
          refine hx_region ?_
          refine hl_val rfl rfl (v := (.int .u64 x_2)) (hv_move rfl) ?_
          refine hl_val rfl rfl (v := (.int .u64 (Int.fdiv x_2 (2 ^ min (Int.toNat 8) 64)))) (hv_shift rfl rfl (by decide) rfl) ?_
          refine hl_val rfl rfl (v := (.int .u64 (Int.fdiv x_2 (2 ^ min (Int.toNat 8) 64)))) (hv_assign rfl) ?_
          refine hl_nil ?_
          refine seqQ_n ?_
          refine hx_region ?_
          refine hl_val rfl rfl (v := (.int .i64 n_1)) (hv_move rfl) ?_
          refine hl_val rfl rfl (v := (.int .i64 (IntKind.i64.wrap (n_1 + 8)))) (hv_arith rfl rfl rfl) ?_
          refine hl_val rfl rfl (v := (.int .i64 (IntKind.i64.wrap (n_1 + 8)))) (hv_assign rfl) ?_
          refine hl_nil ?_
          refine seqQ_n ?_
          obtain ⟨rfl, rfl⟩ := H
          exact ⟨rfl, (has_cons rfl (has_cons rfl has_nil))⟩
        · replace H := H.2 hb3
          refine hx_skip ?_
          refine seqQ_n ?_
          obtain ⟨rfl, rfl⟩ := H
          exact ⟨rfl, (has_cons rfl (has_cons rfl has_nil))⟩
      · have H := Hy7; clear Hx6 Hy7
        rintro ρ _ ⟨rfl, hH⟩
        refine hx_has _ hH ?_
        refine hx_seq ?_
        refine hx_region ?_
        refine hl_val rfl rfl (v := (.int .i64 n_2)) (hv_move rfl) ?_
        refine hl_val rfl rfl (v := (.int .u64 x_3)) (hv_move rfl) ?_
        refine hl_val rfl rfl (v := (.int .u8 (IntKind.u8.wrap x_3))) (hv_convInt Ty.u29 Ty.u5 rfl) ?_
        obtain ⟨hi5, u, hu4, H⟩ := H
        refine hl_val rfl rfl (v := (.int .u8 (UInt8.toNat u : Int))) (hv_indexStr Ty.u9 rfl rfl hi5 hu4) ?_
        refine hl_val rfl rfl (v := (.int .i64 (IntKind.i64.wrap (UInt8.toNat u : Int)))) (hv_convInt Ty.u5 Ty.u3 rfl) ?_
        refine hl_val rfl rfl (v := (.int .i64 (IntKind.i64.wrap (n_2 + (IntKind.i64.wrap (UInt8.toNat u : Int)))))) (hv_arith rfl rfl rfl) ?_
        refine hl_val rfl rfl (v := (.int .i64 (IntKind.i64.wrap (n_2 + (IntKind.i64.wrap (UInt8.toNat u : Int)))))) (hv_assign rfl) ?_
        refine hl_nil ?_
        refine seqQ_n ?_
        refine hx_ret ?_
        exact endQ_ret _ (res_one Try.results62 (rv_tmp rfl)) H

/-- slices.insertionSortCmpFunc[cellar/api.Entry] -/
theorem f53_sh (data : Option Addr) (data_n : Nat) (data_c : Nat) (a : Int) (b : Int) (cmp : Value) (h : Heap) (R : Value → Heap → Prop)
    (H : (∃ (I1 : Int → Heap → Prop) (mu2 : Int → Heap → Nat), I1 (IntKind.i64.wrap (a + 1)) h ∧ (∀ (i : Int) (h1 : Heap), I1 i h1 → (((decide (i < b)) = true → (∃ (I6 : Int → Heap → Prop) (mu7 : Int → Heap → Nat), I6 i h1 ∧ (∀ (j : Int) (h2 : Heap), I6 j h2 → (∃ A11 : Bool → Heap → Prop, (((decide (j > a)) = true → (∃ data_b data_o : Nat, data = some ⟨data_b, data_o, none⟩ ∧ (0 : Int) ≤ j ∧ j < (data_n : Int) ∧ (∃ x_Hash x_At x_Version x_Hits : Int, hcell h2 data_b (data_o + (Int.toNat j) * 4) = some (.int .u64 x_Hash) ∧ hcell h2 data_b ((data_o + (Int.toNat j) * 4) + 1) = some (.int .u64 x_At) ∧ hcell h2 data_b ((data_o + (Int.toNat j) * 4) + 2) = some (.int .u64 x_Version) ∧ hcell h2 data_b ((data_o + (Int.toNat j) * 4) + 3) = some (.int .u8 x_Hits) ∧ ((0 : Int) ≤ IntKind.i64.wrap (j - 1) ∧ IntKind.i64.wrap (j - 1) < (data_n : Int) ∧ (∃ x_Hash_1 x_At_1 x_Version_1 x_Hits_1 : Int, hcell h2 data_b (data_o + (Int.toNat (IntKind.i64.wrap (j - 1))) * 4) = some (.int .u64 x_Hash_1) ∧ hcell h2 data_b ((data_o + (Int.toNat (IntKind.i64.wrap (j - 1))) * 4) + 1) = some (.int .u64 x_At_1) ∧ hcell h2 data_b ((data_o + (Int.toNat (IntKind.i64.wrap (j - 1))) * 4) + 2) = some (.int .u64 x_Version_1) ∧ hcell h2 data_b ((data_o + (Int.toNat (IntKind.i64.wrap (j - 1))) * 4) + 3) = some (.int .u8 x_Hits_1) ∧ HCV Try.prog cmp [(.agg #[(.int .u64 x_Hash), (.int .u64 x_At), (.int .u64 x_Version), (.int .u8 x_Hits)]), (.agg #[(.int .u64 x_Hash_1), (.int .u64 x_At_1), (.int .u64 x_Version_1), (.int .u8 x_Hits_1)])] h2 (fun vv h4 => ∃ r : Int, vv = (.int .i64 r) ∧ (A11 (decide (r < 0)) h4))))))) ∧ ((decide (j > a)) = false → (A11 false h2))) ∧ (∀ (j_1 : Bool) (h3 : Heap), A11 j_1 h3 → ((j_1 = true → (∃ data_b_1 data_o_1 : Nat, data = some ⟨data_b_1, data_o_1, none⟩ ∧ (0 : Int) ≤ IntKind.i64.wrap (j - 1) ∧ IntKind.i64.wrap (j - 1) < (data_n : Int) ∧ (∃ x_Hash_2 x_At_2 x_Version_2 x_Hits_2 : Int, hcell h3 data_b_1 (data_o_1 + (Int.toNat (IntKind.i64.wrap (j - 1))) * 4) = some (.int .u64 x_Hash_2) ∧ hcell h3 data_b_1 ((data_o_1 + (Int.toNat (IntKind.i64.wrap (j - 1))) * 4) + 1) = some (.int .u64 x_At_2) ∧ hcell h3 data_b_1 ((data_o_1 + (Int.toNat (IntKind.i64.wrap (j - 1))) * 4) + 2) = some (.int .u64 x_Version_2) ∧ hcell h3 data_b_1 ((data_o_1 + (Int.toNat (IntKind.i64.wrap (j - 1))) * 4) + 3) = some (.int .u8 x_Hits_2) ∧ ((0 : Int) ≤ j ∧ j < (data_n : Int) ∧ (∃ x_Hash_3 x_At_3 x_Version_3 x_Hits_3 : Int, hcell h3 data_b_1 (data_o_1 + (Int.toNat j) * 4) = some (.int .u64 x_Hash_3) ∧ hcell h3 data_b_1 ((data_o_1 + (Int.toNat j) * 4) + 1) = some (.int .u64 x_At_3) ∧ hcell h3 data_b_1 ((data_o_1 + (Int.toNat j) * 4) + 2) = some (.int .u64 x_Version_3) ∧ hcell h3 data_b_1 ((data_o_1 + (Int.toNat j) * 4) + 3) = some (.int .u8 x_Hits_3) ∧ ((0 : Int) ≤ j ∧ j < (data_n : Int) ∧ (HWs h3 data_b_1 (data_o_1 + (Int.toNat j) * 4) 4 ∧ ∀ h5, h5 = hsets h3 data_b_1 (data_o_1 + (Int.toNat j) * 4) [(.int .u64 x_Hash_2), (.int .u64 x_At_2), (.int .u64 x_Version_2), (.int .u8 x_Hits_2)] → ((0 : Int) ≤ IntKind.i64.wrap (j - 1) ∧ IntKind.i64.wrap (j - 1) < (data_n : Int) ∧ (HWs h5 data_b_1 (data_o_1 + (Int.toNat (IntKind.i64.wrap (j - 1))) * 4) 4 ∧ ∀ h6, h6 = hsets h5 data_b_1 (data_o_1 + (Int.toNat (IntKind.i64.wrap (j - 1))) * 4) [(.int .u64 x_Hash_3), (.int .u64 x_At_3), (.int .u64 x_Version_3), (.int .u8 x_Hits_3)] → (I6 (IntKind.i64.wrap (j - 1)) h6 ∧ mu7 (IntKind.i64.wrap (j - 1)) h6 < mu7 j h2)))))))))) ∧ (j_1 = false → (I1 (IntKind.i64.wrap (i + 1)) h3 ∧ mu2 (IntKind.i64.wrap (i + 1)) h3 < mu2 i h1)))))))) ∧ ((decide (i < b)) = false → R (.tuple #[]) h1))))) :
    HC Try.prog 53 #[(.slice data data_n data_c), (.int .i64 a), (.int .i64 b), cmp] h R := by
  refine hc_of (args := [(.slice data data_n data_c), (.int .i64 a), (.int .i64 b), cmp]) Try.func53 rfl Try.ntmps53 (Nat.le_of_ble_eq_true rfl) ?_
  refine hx_seq ?_
  refine hx_region ?_
  refine hl_val rfl rfl (v := (.int .i64 a)) (hv_move rfl) ?_
  refine hl_val rfl rfl (v := (.int .i64 (IntKind.i64.wrap (a + 1)))) (hv_arith rfl rfl rfl) ?_
  refine hl_val rfl rfl (v := (.int .i64 (IntKind.i64.wrap (a + 1)))) (hv_assign rfl) ?_
  refine hl_nil ?_
  refine seqQ_n ?_
  refine hx_block ?_
  obtain ⟨I1, mu2, Ha3, Hr4⟩ := H
  refine hx_loopT (σ := Int) (fun s => [(0, (.slice data data_n data_c)), (1, (.int .i64 a)), (2, (.int .i64 b)), (3, cmp), (8, (.int .i64 s))]) (fun s h' => I1 s h') (fun s h' => mu2 s h') (IntKind.i64.wrap (a + 1)) Ha3 (has_cons rfl (has_cons rfl (has_cons rfl (has_cons rfl (has_cons rfl has_nil))))) ?_
  rintro i ρ h1 Hi5
  have H := Hr4 i h1 Hi5
  refine hx_seq ?_
  refine hx_seq ?_
  refine hx_region ?_
  refine hl_val rfl rfl (v := (.int .i64 i)) (hv_move rfl) ?_
  refine hl_val rfl rfl (v := (.int .i64 b)) (hv_move rfl) ?_
  refine hl_val rfl rfl (v := (.bool (decide (i < b)))) (hv_arith rfl rfl rfl) ?_
  refine hl_nil ?_
  refine seqQ_n ?_
  refine hx_cond (b := decide (i < b)) rfl (fun hb49 => ?_) (fun hb49 => ?_)
  · replace H := H.1 hb49
    refine hx_skip ?_
    refine seqQ_n ?_
    refine hx_seq ?_
    refine hx_block ?_
    refine hx_seq ?_
    refine hx_region ?_
    refine hl_val rfl rfl (v := (.int .i64 i)) (hv_move rfl) ?_
    refine hl_val rfl rfl (v := (.int .i64 i)) (hv_assign rfl) ?_
    refine hl_nil ?_
    refine seqQ_n ?_
    refine hx_block ?_
    obtain ⟨I6, mu7, Ha8, Hr9⟩ := H
    refine hx_loopT (σ := Int) (fun s => [(0, (.slice data data_n data_c)), (1, (.int .i64 a)), (2, (.int .i64 b)), (3, cmp), (8, (.int .i64 i)), (9, (.int .i64 s))]) (fun s h' => I6 s h') (fun s h' => mu7 s h') i Ha8 (has_cons rfl (has_cons rfl (has_cons rfl (has_cons rfl (has_cons rfl (has_cons rfl has_nil)))))) ?_
    rintro j ρ h2 Hi10
    have H := Hr9 j h2 Hi10
    refine hx_seq ?_
    obtain ⟨A11, Hx46, Hy47⟩ := H
    refine hx_cut (fun ρ h' => ∃ j_1 : Bool, A11 j_1 h' ∧ Has ρ [(0, (.slice data data_n data_c)), (1, (.int .i64 a)), (2, (.int .i64 b)), (3, cmp), (8, (.int .i64 i)), (9, (.int .i64 j)), (34, (.bool j_1))]) ?_ ?_
    · have H := Hx46; clear Hx46 Hy47
      refine hx_draw Ty.mixed [.pure, .pure, .pure, .pure, .pure, .pure, .pure, .pure, .read, .pure, .pure, .pure, .pure, .read, .wild, .pure, .pure] [0, 1, 2, 3, 4, 5, 6, 7, 8, 9, 10, 11, 12, 13, 14, 15, 16] (by kernel_rfl) ?_
      refine hp_pure (i := 0) rfl (wanted_0 rfl) rfl (.int .i64 j) (fun _ => hv_move rfl) ?_
      refine hp_pure (i := 1) rfl (wanted_0 rfl) rfl (.int .i64 a) (fun _ => hv_move rfl) ?_
      refine hp_pure (i := 2) rfl (wanted_0 rfl) rfl (.bool (decide (j > a))) (fun _ => hv_arith rfl rfl rfl) ?_
      refine hp_pure (i := 3) rfl (wanted_0 rfl) rfl (.bool (decide (j > a))) (fun _ => hv_move rfl) ?_
      rcases bool_or (decide (j > a)) with hg12 | hg12
      · replace H := H.1 hg12
        refine hp_pure (i := 4) rfl (wanted_y rfl rfl rfl hg12) rfl cmp (fun _ => hv_move rfl) ?_
        refine hp_pure (i := 5) rfl (wanted_y rfl rfl rfl hg12) rfl (.slice data data_n data_c) (fun _ => hv_move rfl) ?_
        refine hp_pure (i := 6) rfl (wanted_y rfl rfl rfl hg12) rfl (.int .i64 j) (fun _ => hv_move rfl) ?_
        obtain ⟨data_b, data_o, hqe, hi13, hi14, Hq⟩ := H
        subst hqe
        have H := Hq; clear Hq
        refine hp_pure (i := 7) rfl (wanted_y rfl rfl rfl hg12) rfl (ptr data_b (data_o + (Int.toNat j) * 4)) (fun _ => hv_index Ty.el35 rfl rfl hi13 hi14) ?_
        obtain ⟨x_Hash, x_At, x_Version, x_Hits, hc21, hc22, hc23, hc24, H⟩ := H
        refine hp_read (i := 8) rfl (wanted_y rfl rfl rfl hg12) rfl (.agg #[(.int .u64 x_Hash), (.int .u64 x_At), (.int .u64 x_Version), (.int .u8 x_Hits)]) (fun _ he => hv_loads (vs := [(.int .u64 x_Hash), (.int .u64 x_At), (.int .u64 x_Version), (.int .u8 x_Hits)]) Ty.agg31 Ty.sz31 rfl (hcells_cons (he.cell hc21) (hcells_cons (he.cell hc22) (hcells_cons (he.cell hc23) (hcells_cons (he.cell hc24) hcells_nil))))) ?_
        refine hp_pure (i := 9) rfl (wanted_y rfl rfl rfl hg12) rfl (.slice (some ⟨data_b, data_o, none⟩) data_n data_c) (fun _ => hv_move rfl) ?_
        refine hp_pure (i := 10) rfl (wanted_y rfl rfl rfl hg12) rfl (.int .i64 j) (fun _ => hv_move rfl) ?_
        refine hp_pure (i := 11) rfl (wanted_y rfl rfl rfl hg12) rfl (.int .i64 (IntKind.i64.wrap (j - 1))) (fun _ => hv_arith rfl rfl rfl) ?_
        obtain ⟨hi15, hi16, H⟩ := H
        refine hp_pure (i := 12) rfl (wanted_y rfl rfl rfl hg12) rfl (ptr data_b (data_o + (Int.toNat (IntKind.i64.wrap (j - 1))) * 4)) (fun _ => hv_index Ty.el35 rfl rfl hi15 hi16) ?_
        obtain ⟨x_Hash_1, x_At_1, x_Version_1, x_Hits_1, hc17, hc18, hc19, hc20, H⟩ := H
        refine hp_read (i := 13) rfl (wanted_y rfl rfl rfl hg12) rfl (.agg #[(.int .u64 x_Hash_1), (.int .u64 x_At_1), (.int .u64 x_Version_1), (.int .u8 x_Hits_1)]) (fun _ he => hv_loads (vs := [(.int .u64 x_Hash_1), (.int .u64 x_At_1), (.int .u64 x_Version_1), (.int .u8 x_Hits_1)]) Ty.agg31 Ty.sz31 rfl (hcells_cons (he.cell hc17) (hcells_cons (he.cell hc18) (hcells_cons (he.cell hc19) (hcells_cons (he.cell hc20) hcells_nil))))) ?_
        refine hp_wild (i := 14) rfl (wanted_y rfl rfl rfl hg12) rfl (hs_callF (vs := [(.agg #[(.int .u64 x_Hash), (.int .u64 x_At), (.int .u64 x_Version), (.int .u8 x_Hits)]), (.agg #[(.int .u64 x_Hash_1), (.int .u64 x_At_1), (.int .u64 x_Version_1), (.int .u8 x_Hits_1)])]) rfl rfl (HCV.mono H ?_))
        rintro _ h4 ⟨r, rfl, H⟩
        refine hp_pure (i := 15) rfl (wanted_y rfl rfl rfl hg12) rfl (.bool (decide (r < 0))) (fun _ => hv_arith rfl rfl rfl) ?_
        refine hp_pure (i := 16) rfl (wanted_0 rfl) rfl (.bool (decide (r < 0))) (fun _ => hv_pick_t rfl hg12 rfl) ?_
        refine hp_nil ?_
        refine seqQ_n ?_
        exact ⟨_, H, (has_cons rfl (has_cons rfl (has_cons rfl (has_cons rfl (has_cons rfl (has_cons rfl (has_cons rfl has_nil)))))))⟩
      · replace H := H.2 hg12
        refine hp_no (i := 4) rfl (wanted_n rfl rfl rfl hg12) ?_
        refine hp_no (i := 5) rfl (wanted_n rfl rfl rfl hg12) ?_
        refine hp_no (i := 6) rfl (wanted_n rfl rfl rfl hg12) ?_
        refine hp_no (i := 7) rfl (wanted_n rfl rfl rfl hg12) ?_
        refine hp_no (i := 8) rfl (wanted_n rfl rfl rfl hg12) ?_
        refine hp_no (i := 9) rfl (wanted_n rfl rfl rfl hg12) ?_
        refine hp_no (i := 10) rfl (wanted_n rfl rfl rfl hg12) ?_
        refine hp_no (i := 11) rfl (wanted_n rfl rfl rfl hg12) ?_
        refine hp_no (i := 12) rfl (wanted_n rfl rfl rfl hg12) ?_
        refine hp_no (i := 13) rfl (wanted_n rfl rfl rfl hg12) ?_
        refine hp_no (i := 14) rfl (wanted_n rfl rfl rfl hg12) ?_
        refine hp_no (i := 15) rfl (wanted_n rfl rfl rfl hg12) ?_
        refine hp_pure (i := 16) rfl (wanted_0 rfl) rfl (.bool false) (fun _ => hv_pick_f rfl hg12 rfl) ?_
        refine hp_nil ?_
        refine seqQ_n ?_
        exact ⟨_, H, (has_cons rfl (has_cons rfl (has_cons rfl (has_cons rfl (has_cons rfl (has_cons rfl (has_cons rfl has_nil)))))))⟩
    · rintro ρ h3 ⟨j_1, HA48, hH⟩
      have H := Hy47 j_1 h3 HA48; clear Hx46 Hy47
      refine hx_has _ hH ?_
      refine hx_cond (b := j_1) rfl (fun hb45 => ?_) (fun hb45 => ?_)
      · replace H := H.1 hb45
        refine hx_skip ?_
        refine seqQ_n ?_
        refine hx_seq ?_
        refine hx_block ?_
        refine hx_draw Ty.mixed [.pure, .pure, .pure, .pure, .pure, .pure, .pure, .pure, .pure, .read, .pure, .pure, .pure, .read, .pure, .wild, .pure, .wild] [0, 1, 2, 3, 4, 5, 6, 7, 8, 9, 10, 11, 12, 13, 14, 15, 16, 17] (by kernel_rfl) ?_
        refine hp_pure (i := 0) rfl (wanted_0 rfl) rfl (.slice data data_n data_c) (fun _ => hv_move rfl) ?_
        refine hp_pure (i := 1) rfl (wanted_0 rfl) rfl (.int .i64 j) (fun _ => hv_move rfl) ?_
        refine hp_pure (i := 2) rfl (wanted_0 rfl) rfl (.slice data data_n data_c) (fun _ => hv_move rfl) ?_
        refine hp_pure (i := 3) rfl (wanted_0 rfl) rfl (.int .i64 j) (fun _ => hv_move rfl) ?_
        refine hp_pure (i := 4) rfl (wanted_0 rfl) rfl (.int .i64 (IntKind.i64.wrap (j - 1))) (fun _ => hv_arith rfl rfl rfl) ?_
        refine hp_pure (i := 5) rfl (wanted_0 rfl) rfl (.slice data data_n data_c) (fun _ => hv_move rfl) ?_
        refine hp_pure (i := 6) rfl (wanted_0 rfl) rfl (.int .i64 j) (fun _ => hv_move rfl) ?_
        refine hp_pure (i := 7) rfl (wanted_0 rfl) rfl (.int .i64 (IntKind.i64.wrap (j - 1))) (fun _ => hv_arith rfl rfl rfl) ?_
        obtain ⟨data_b_1, data_o_1, hqe, hi25, hi26, Hq⟩ := H
        subst hqe
        have H := Hq; clear Hq
        refine hp_pure (i := 8) rfl (wanted_0 rfl) rfl (ptr data_b_1 (data_o_1 + (Int.toNat (IntKind.i64.wrap (j - 1))) * 4)) (fun _ => hv_index Ty.el35 rfl rfl hi25 hi26) ?_
        obtain ⟨x_Hash_2, x_At_2, x_Version_2, x_Hits_2, hc41, hc42, hc43, hc44, H⟩ := H
        refine hp_read (i := 9) rfl (wanted_0 rfl) rfl (.agg #[(.int .u64 x_Hash_2), (.int .u64 x_At_2), (.int .u64 x_Version_2), (.int .u8 x_Hits_2)]) (fun _ he => hv_loads (vs := [(.int .u64 x_Hash_2), (.int .u64 x_At_2), (.int .u64 x_Version_2), (.int .u8 x_Hits_2)]) Ty.agg31 Ty.sz31 rfl (hcells_cons (he.cell hc41) (hcells_cons (he.cell hc42) (hcells_cons (he.cell hc43) (hcells_cons (he.cell hc44) hcells_nil))))) ?_
        refine hp_pure (i := 10) rfl (wanted_0 rfl) rfl (.slice (some ⟨data_b_1, data_o_1, none⟩) data_n data_c) (fun _ => hv_move rfl) ?_
        refine hp_pure (i := 11) rfl (wanted_0 rfl) rfl (.int .i64 j) (fun _ => hv_move rfl) ?_
        obtain ⟨hi27, hi28, H⟩ := H
        refine hp_pure (i := 12) rfl (wanted_0 rfl) rfl (ptr data_b_1 (data_o_1 + (Int.toNat j) * 4)) (fun _ => hv_index Ty.el35 rfl rfl hi27 hi28) ?_
        obtain ⟨x_Hash_3, x_At_3, x_Version_3, x_Hits_3, hc37, hc38, hc39, hc40, H⟩ := H
        refine hp_read (i := 13) rfl (wanted_0 rfl) rfl (.agg #[(.int .u64 x_Hash_3), (.int .u64 x_At_3), (.int .u64 x_Version_3), (.int .u8 x_Hits_3)]) (fun _ he => hv_loads (vs := [(.int .u64 x_Hash_3), (.int .u64 x_At_3), (.int .u64 x_Version_3), (.int .u8 x_Hits_3)]) Ty.agg31 Ty.sz31 rfl (hcells_cons (he.cell hc37) (hcells_cons (he.cell hc38) (hcells_cons (he.cell hc39) (hcells_cons (he.cell hc40) hcells_nil))))) ?_
        obtain ⟨hi29, hi30, H⟩ := H
        refine hp_pure (i := 14) rfl (wanted_0 rfl) rfl (ptr data_b_1 (data_o_1 + (Int.toNat j) * 4)) (fun _ => hv_index Ty.el35 rfl rfl hi29 hi30) ?_
        obtain ⟨hw31, H⟩ := H
        refine hp_wild (i := 15) rfl (wanted_0 rfl) rfl (hn_stores (vs := [(.int .u64 x_Hash_2), (.int .u64 x_At_2), (.int .u64 x_Version_2), (.int .u8 x_Hits_2)]) rfl rfl Ty.sz31 rfl hw31 ?_)
        intro h5 eh32
        replace H := H h5 eh32
        obtain ⟨hi33, hi34, H⟩ := H
        refine hp_pure (i := 16) rfl (wanted_0 rfl) rfl (ptr data_b_1 (data_o_1 + (Int.toNat (IntKind.i64.wrap (j - 1))) * 4)) (fun _ => hv_index Ty.el35 rfl rfl hi33 hi34) ?_
        obtain ⟨hw35, H⟩ := H
        refine hp_wild (i := 17) rfl (wanted_0 rfl) rfl (hn_stores (vs := [(.int .u64 x_Hash_3), (.int .u64 x_At_3), (.int .u64 x_Version_3), (.int .u8 x_Hits_3)]) rfl rfl Ty.sz31 rfl hw35 ?_)
        intro h6 eh36
        replace H := H h6 eh36
        refine hp_nil ?_
        refine blockQ_n ?_
        refine seqQ_n ?_
        refine hx_region ?_
        refine hl_val rfl rfl (v := (.int .i64 j)) (hv_move rfl) ?_
        refine hl_val rfl rfl (v := (.int .i64 (IntKind.i64.wrap (j - 1)))) (hv_arith rfl rfl rfl) ?_
        refine hl_val rfl rfl (v := (.int .i64 (IntKind.i64.wrap (j - 1)))) (hv_assign rfl) ?_
        refine hl_nil ?_
        refine seqQ_n ?_
        exact ⟨IntKind.i64.wrap (j - 1), H, (has_cons rfl (has_cons rfl (has_cons rfl (has_cons rfl (has_cons rfl (has_cons rfl has_nil))))))⟩
      · replace H := H.2 hb45
        refine hx_exit ?_
        refine seqQ_exit ?_
        refine seqQ_exit ?_
        refine blockQ_here ?_
        refine blockQ_n ?_
        refine seqQ_n ?_
        refine hx_region ?_
        refine hl_val rfl rfl (v := (.int .i64 i)) (hv_move rfl) ?_
        refine hl_val rfl rfl (v := (.int .i64 (IntKind.i64.wrap (i + 1)))) (hv_arith rfl rfl rfl) ?_
        refine hl_val rfl rfl (v := (.int .i64 (IntKind.i64.wrap (i + 1)))) (hv_assign rfl) ?_
        refine hl_nil ?_
        refine seqQ_n ?_
        exact ⟨IntKind.i64.wrap (i + 1), H, (has_cons rfl (has_cons rfl (has_cons rfl (has_cons rfl (has_cons rfl has_nil)))))⟩
  · replace H := H.2 hb49
    refine hx_exit ?_
    refine seqQ_exit ?_
    refine seqQ_exit ?_
    refine blockQ_here ?_
    exact endQ_n _ (res_none Try.results53 ) H

end Go.Proofs.Ytebipjmcckkhcaa
