/-
Shallow forms, written by gen2.py (a program of ours) out of the print of the program.
-/
import Derived.Test.YtebipjmcckkhcaaShP
import Derived.Test.YtebipjmcckkhcaaPrv
import Derived.Test.YtebipjmcckkhcaaSrt
import Derived.Test.YtebipjmcckkhcaaRng
import Derived.Test.YtebipjmcckkhcaaMor
import Derived.Test.YtebipjmcckkhcaaProg
namespace Go.Proofs.Ytebipjmcckkhcaa
open Go
set_option maxRecDepth 100000
set_option maxHeartbeats 4000000

theorem TyShQ.agg24 : aggB Try.prog 24 = some false := by kernel_rfl
theorem TyShQ.agg29 : aggB Try.prog 29 = some false := by kernel_rfl
theorem TyShQ.agg3 : aggB Try.prog 3 = some false := by kernel_rfl
theorem TyShQ.agg31 : aggB Try.prog 31 = some true := by kernel_rfl
theorem TyShQ.agg35 : aggB Try.prog 35 = some false := by kernel_rfl
theorem TyShQ.agg60 : aggB Try.prog 60 = some true := by kernel_rfl
theorem TyShQ.by31 : byB Try.prog 31 = some 32 := by kernel_rfl
theorem TyShQ.cb13 : CallB Try.prog 13 := fun _ _ => Try.call13 _ _
theorem TyShQ.cb14 : CallB Try.prog 14 := fun _ _ => Try.call14 _ _
theorem TyShQ.cb15 : CallB Try.prog 15 := fun _ _ => Try.call15 _ _
theorem TyShQ.cb16 : CallB Try.prog 16 := fun _ _ => Try.call16 _ _
theorem TyShQ.cb17 : CallB Try.prog 17 := fun _ _ => Try.call17 _ _
theorem TyShQ.cb18 : CallB Try.prog 18 := fun _ _ => Try.call18 _ _
theorem TyShQ.cb19 : CallB Try.prog 19 := fun _ _ => Try.call19 _ _
theorem TyShQ.cb20 : CallB Try.prog 20 := fun _ _ => Try.call20 _ _
theorem TyShQ.cb23 : CallB Try.prog 23 := fun _ _ => Try.call23 _ _
theorem TyShQ.cb25 : CallB Try.prog 25 := fun _ _ => Try.call25 _ _
theorem TyShQ.cb26 : CallB Try.prog 26 := fun _ _ => Try.call26 _ _
theorem TyShQ.cb27 : CallB Try.prog 27 := fun _ _ => Try.call27 _ _
theorem TyShQ.cb28 : CallB Try.prog 28 := fun _ _ => Try.call28 _ _
theorem TyShQ.cb29 : CallB Try.prog 29 := fun _ _ => Try.call29 _ _
theorem TyShQ.cb30 : CallB Try.prog 30 := fun _ _ => Try.call30 _ _
theorem TyShQ.cb36 : CallB Try.prog 36 := fun _ _ => Try.call36 _ _
theorem TyShQ.cb37 : CallB Try.prog 37 := fun _ _ => Try.call37 _ _
theorem TyShQ.cb38 : CallB Try.prog 38 := fun _ _ => Try.call38 _ _
theorem TyShQ.cb39 : CallB Try.prog 39 := fun _ _ => Try.call39 _ _
theorem TyShQ.cb40 : CallB Try.prog 40 := fun _ _ => Try.call40 _ _
theorem TyShQ.cb42 : CallB Try.prog 42 := fun _ _ => Try.call42 _ _
theorem TyShQ.cb43 : CallB Try.prog 43 := fun _ _ => Try.call43 _ _
theorem TyShQ.cb46 : CallB Try.prog 46 := fun _ _ => Try.call46 _ _
theorem TyShQ.cb49 : CallB Try.prog 49 := fun _ _ => Try.call49 _ _
theorem TyShQ.el35 : elB Try.prog 35 = some 4 := by kernel_rfl
theorem TyShQ.fld31_0 : fldB Try.prog 31 0 = some 0 := by kernel_rfl
theorem TyShQ.fld31_1 : fldB Try.prog 31 1 = some 1 := by kernel_rfl
theorem TyShQ.fld33_0 : fldB Try.prog 33 0 = some 0 := by kernel_rfl
theorem TyShQ.fld33_1 : fldB Try.prog 33 1 = some 1 := by kernel_rfl
theorem TyShQ.fld55_0 : fldB Try.prog 55 0 = some 0 := by kernel_rfl
theorem TyShQ.fld55_2 : fldB Try.prog 55 2 = some 2 := by kernel_rfl
theorem TyShQ.fld60_0 : fldB Try.prog 60 0 = some 0 := by kernel_rfl
theorem TyShQ.mixed : Try.prog.follows .mixedOrders = true := by kernel_rfl
theorem TyShQ.se31 : seB Try.prog 31 = some [(29, 0), (29, 1), (29, 2), (5, 3)] := by kernel_rfl
theorem TyShQ.sz29 : szB Try.prog 29 = some 1 := by kernel_rfl
theorem TyShQ.sz31 : szB Try.prog 31 = some 4 := by kernel_rfl
theorem TyShQ.sz35 : szB Try.prog 35 = some 1 := by kernel_rfl
theorem TyShQ.sz60 : szB Try.prog 60 = some 4 := by kernel_rfl
theorem TyShQ.u35 : Try.prog.underlying 35 = some (.slice 31) := by kernel_rfl
theorem TyShQ.u4 : Try.prog.underlying 4 = some (.bool) := by kernel_rfl
theorem TyShQ.z31 : zeroB Try.prog 31 (.agg #[(.int .u64 0), (.int .u64 0), (.int .u64 0), (.int .u8 0)]) := by unfold zeroB; kernel_rfl
theorem TyShQ.z35 : zeroB Try.prog 35 (.slice none 0 0) := by unfold zeroB; kernel_rfl
theorem TyShQ.z60 : zeroB Try.prog 60 (.agg #[(.slice none 0 0), (.int .i64 0), (.int .i64 0), (.int .i64 0)]) := by unfold zeroB; kernel_rfl

/-- (*cellar/cellarref11.Table).Layout -/
theorem f25_sh (t_b : Nat) (t_o : Nat) (h : Heap) (R : Value → Heap → Prop)
    (H : (∃ x : Int, hcell h t_b t_o = some (.int .i64 x) ∧ ((0 : Int) ≤ x ∧ ((0 : Int) ≤ IntKind.i64.wrap (1 * 2 ^ min (Int.toNat x) 64) ∧ 32 * (IntKind.i64.wrap (1 * 2 ^ min (Int.toNat x) 64)) ≤ 140737488355328 ∧ IntKind.i64.wrap (1 * 2 ^ min (Int.toNat x) 64) ≤ 140737488355328 ∧ ∀ nb h1, nb = Array.size h → h1 = Array.push h (.cells (zcells [(.int .u64 0), (.int .u64 0), (.int .u64 0), (.int .u8 0)] (Int.toNat (IntKind.i64.wrap (1 * 2 ^ min (Int.toNat x) 64)))).toArray 31) → (∃ (I8 : Int → Heap → Prop) (mu9 : Int → Heap → Nat), I8 0 h1 ∧ (∀ (i : Int) (h2 : Heap), I8 i h2 → (∃ x_1 : Option Addr, ∃ x_n x_c : Nat, hcell h2 t_b (t_o + 2) = some (.slice x_1 x_n x_c) ∧ (((decide (i < (x_n : Int))) = true → (∃ x_1_b x_1_o : Nat, x_1 = some ⟨x_1_b, x_1_o, none⟩ ∧ (0 : Int) ≤ i ∧ i < (x_n : Int) ∧ (∃ x_Hash x_At x_Version x_Hits : Int, hcell h2 x_1_b (x_1_o + (Int.toNat i) * 4) = some (.int .u64 x_Hash) ∧ hcell h2 x_1_b ((x_1_o + (Int.toNat i) * 4) + 1) = some (.int .u64 x_At) ∧ hcell h2 x_1_b ((x_1_o + (Int.toNat i) * 4) + 2) = some (.int .u64 x_Version) ∧ hcell h2 x_1_b ((x_1_o + (Int.toNat i) * 4) + 3) = some (.int .u8 x_Hits) ∧ (∀ (e : Nat) (h4 : Heap), Array.size h2 ≤ e → e < Array.size h4 → Ext h2 h4 → (∃ r : Int, HC Try.prog 46 #[(ptr t_b t_o), (.int .u64 x_Hash)] h4 (fun vv h' => vv = (.int .i64 r) ∧ h' = h4) ∧ (∃ (I30 : Int → Int → Int → Int → Int → Int → Heap → Prop) (mu31 : Int → Int → Int → Int → Int → Int → Heap → Nat), I30 r 0 x_Hash x_At x_Version x_Hits h4 ∧ (∀ (atv : Int) (far : Int) (ec : Int) (ec_1 : Int) (ec_2 : Int) (ec_3 : Int) (h5 : Heap), I30 atv far ec ec_1 ec_2 ec_3 h5 → ((0 : Int) ≤ atv ∧ atv < (((Int.toNat (IntKind.i64.wrap (1 * 2 ^ min (Int.toNat x) 64))) : Nat) : Int) ∧ (∃ x_2 : Int, hcell h5 nb ((0 + (Int.toNat atv) * 4) + 1) = some (.int .u64 x_2) ∧ (((x_2 != 0) = true → (∃ x_Hash_1 x_At_1 x_Version_1 x_Hits_1 : Int, hcell h5 nb (0 + (Int.toNat atv) * 4) = some (.int .u64 x_Hash_1) ∧ hcell h5 nb ((0 + (Int.toNat atv) * 4) + 1) = some (.int .u64 x_At_1) ∧ hcell h5 nb ((0 + (Int.toNat atv) * 4) + 2) = some (.int .u64 x_Version_1) ∧ hcell h5 nb ((0 + (Int.toNat atv) * 4) + 3) = some (.int .u8 x_Hits_1) ∧ (∀ (o : Nat) (h7 : Heap), Array.size h5 ≤ o → o < Array.size h7 → Ext h5 h7 → (∃ r_1 : Int, HC Try.prog 46 #[(ptr t_b t_o), (.int .u64 x_Hash_1)] h7 (fun vv h' => vv = (.int .i64 r_1) ∧ h' = h7) ∧ (IntKind.i64.wrap (1 * 2 ^ min (Int.toNat x) 64) ≠ 0 ∧ (∃ A57 : Int → Int → Int → Int → Int → Heap → Prop, ((((decide ((Int.tmod (IntKind.i64.wrap ((IntKind.i64.wrap (atv - r_1)) + (IntKind.i64.wrap (1 * 2 ^ min (Int.toNat x) 64)))) (IntKind.i64.wrap (1 * 2 ^ min (Int.toNat x) 64))) < far)) || (((Int.tmod (IntKind.i64.wrap ((IntKind.i64.wrap (atv - r_1)) + (IntKind.i64.wrap (1 * 2 ^ min (Int.toNat x) 64)))) (IntKind.i64.wrap (1 * 2 ^ min (Int.toNat x) 64))) == far) && (decide (x_Hash_1 > ec)))) = true → (HWs h7 nb (0 + (Int.toNat atv) * 4) 4 ∧ Off nb [e, o] ∧ ∀ h9, h9 = hsets h7 nb (0 + (Int.toNat atv) * 4) [(.int .u64 ec), (.int .u64 ec_1), (.int .u64 ec_2), (.int .u8 ec_3)] → (∀ h10, Fr (fun i => i = e) h9 h10 → (A57 (Int.tmod (IntKind.i64.wrap ((IntKind.i64.wrap (atv - r_1)) + (IntKind.i64.wrap (1 * 2 ^ min (Int.toNat x) 64)))) (IntKind.i64.wrap (1 * 2 ^ min (Int.toNat x) 64))) x_Hash_1 x_At_1 x_Version_1 x_Hits_1 h10)))) ∧ (((decide ((Int.tmod (IntKind.i64.wrap ((IntKind.i64.wrap (atv - r_1)) + (IntKind.i64.wrap (1 * 2 ^ min (Int.toNat x) 64)))) (IntKind.i64.wrap (1 * 2 ^ min (Int.toNat x) 64))) < far)) || (((Int.tmod (IntKind.i64.wrap ((IntKind.i64.wrap (atv - r_1)) + (IntKind.i64.wrap (1 * 2 ^ min (Int.toNat x) 64)))) (IntKind.i64.wrap (1 * 2 ^ min (Int.toNat x) 64))) == far) && (decide (x_Hash_1 > ec)))) = false → (A57 far ec ec_1 ec_2 ec_3 h7))) ∧ (∀ (far_1 : Int) (ec_4 : Int) (ec_5 : Int) (ec_6 : Int) (ec_7 : Int) (h8 : Heap), A57 far_1 ec_4 ec_5 ec_6 ec_7 h8 → (IntKind.i64.wrap (1 * 2 ^ min (Int.toNat x) 64) ≠ 0 ∧ (I30 (Int.tmod (IntKind.i64.wrap (atv + 1)) (IntKind.i64.wrap (1 * 2 ^ min (Int.toNat x) 64))) (IntKind.i64.wrap (far_1 + 1)) ec_4 ec_5 ec_6 ec_7 h8 ∧ mu31 (Int.tmod (IntKind.i64.wrap (atv + 1)) (IntKind.i64.wrap (1 * 2 ^ min (Int.toNat x) 64))) (IntKind.i64.wrap (far_1 + 1)) ec_4 ec_5 ec_6 ec_7 h8 < mu31 atv far ec ec_1 ec_2 ec_3 h5))))))))) ∧ ((x_2 != 0) = false → (HWs h5 nb (0 + (Int.toNat atv) * 4) 4 ∧ ∀ h11, h11 = hsets h5 nb (0 + (Int.toNat atv) * 4) [(.int .u64 ec), (.int .u64 ec_1), (.int .u64 ec_2), (.int .u8 ec_3)] → (I8 (IntKind.i64.wrap (i + 1)) h11 ∧ mu9 (IntKind.i64.wrap (i + 1)) h11 < mu9 i h2))))))))))))) ∧ ((decide (i < (x_n : Int))) = false → R (.slice (some ⟨nb, 0, none⟩) (Int.toNat (IntKind.i64.wrap (1 * 2 ^ min (Int.toNat x) 64))) (Int.toNat (IntKind.i64.wrap (1 * 2 ^ min (Int.toNat x) 64)))) h2))))))))) :
    HC Try.prog 25 #[(ptr t_b t_o)] h R := by
  refine hc_of (args := [(ptr t_b t_o)]) Try.func25 rfl Try.ntmps25 (Nat.le_of_ble_eq_true rfl) ?_
  refine hx_seq ?_
  refine hx_region ?_
  refine hl_val rfl rfl (v := (.slice none 0 0)) (hv_assign rfl) ?_
  refine hl_nil ?_
  refine seqQ_n ?_
  refine hx_seq ?_
  refine hx_region ?_
  refine hl_val rfl rfl (v := (ptr t_b t_o)) (hv_move rfl) ?_
  refine hl_val rfl rfl (v := (ptr t_b t_o)) (hv_nil rfl) ?_
  refine hl_val rfl rfl (v := (ptr t_b t_o)) (hv_field TyShQ.fld55_0 (b := t_b) (o := t_o) rfl) ?_
  obtain ⟨x, hc1, H⟩ := H
  refine hl_val rfl rfl (v := (.int .i64 x)) (hv_load TyShQ.agg3 rfl hc1) ?_
  obtain ⟨hz76, H⟩ := H
  refine hl_val rfl rfl (v := (.int .i64 (IntKind.i64.wrap (1 * 2 ^ min (Int.toNat x) 64)))) (hv_shift rfl rfl hz76 rfl) ?_
  refine hl_val rfl rfl (v := (.int .i64 (IntKind.i64.wrap (1 * 2 ^ min (Int.toNat x) 64)))) (hv_assign rfl) ?_
  refine hl_nil ?_
  refine seqQ_n ?_
  refine hx_seq ?_
  refine hx_region ?_
  refine hl_val rfl rfl (v := (.int .i64 (IntKind.i64.wrap (1 * 2 ^ min (Int.toNat x) 64)))) (hv_move rfl) ?_
  obtain ⟨hm2, hm3, hm4, H⟩ := H
  refine hl_step rfl rfl (hn_make (z := (.agg #[(.int .u64 0), (.int .u64 0), (.int .u64 0), (.int .u8 0)])) (zs := [(.int .u64 0), (.int .u64 0), (.int .u64 0), (.int .u8 0)]) (n := IntKind.i64.wrap (1 * 2 ^ min (Int.toNat x) 64)) TyShQ.u35 TyShQ.sz31 TyShQ.by31 TyShQ.z31 rfl rfl hm2 hm3 hm4 rfl rfl ?_)
  intro nb h1 eb5 eh6
  replace H := H nb h1 eb5 eh6
  have xx7 : Ext h h1 := by rw [eh6]; exact Ext.push _ _
  refine hl_val rfl rfl (v := (.slice (some ⟨nb, 0, none⟩) (Int.toNat (IntKind.i64.wrap (1 * 2 ^ min (Int.toNat x) 64))) (Int.toNat (IntKind.i64.wrap (1 * 2 ^ min (Int.toNat x) 64))))) (hv_assign rfl) ?_
  refine hl_nil ?_
  refine seqQ_n ?_
  refine hx_seq ?_
  refine hx_seq ?_
  refine hx_region ?_
  refine hl_val rfl rfl (v := (.int .i64 0)) (hv_assign rfl) ?_
  refine hl_nil ?_
  refine seqQ_n ?_
  refine hx_block ?_
  obtain ⟨I8, mu9, Ha10, Hr11⟩ := H
  refine hx_loopT (σ := Int) (fun s => [(0, (ptr t_b t_o)), (3, (.int .i64 (IntKind.i64.wrap (1 * 2 ^ min (Int.toNat x) 64)))), (4, (.slice (some ⟨nb, 0, none⟩) (Int.toNat (IntKind.i64.wrap (1 * 2 ^ min (Int.toNat x) 64))) (Int.toNat (IntKind.i64.wrap (1 * 2 ^ min (Int.toNat x) 64))))), (5, (.int .i64 s))]) (fun s h' => I8 s h' ∧ True) (fun s h' => mu9 s h') 0 ⟨Ha10, trivial⟩ (has_cons rfl (has_cons rfl (has_cons rfl (has_cons rfl has_nil)))) ?_
  rintro i ρ h2 ⟨Hi12, -⟩
  have H := Hr11 i h2 Hi12
  refine hx_seq ?_
  refine hx_seq ?_
  refine hx_region ?_
  refine hl_val rfl rfl (v := (.int .i64 i)) (hv_move rfl) ?_
  refine hl_val rfl rfl (v := (ptr t_b t_o)) (hv_move rfl) ?_
  refine hl_val rfl rfl (v := (ptr t_b t_o)) (hv_nil rfl) ?_
  refine hl_val rfl rfl (v := (ptr t_b (t_o + 2))) (hv_field TyShQ.fld55_2 (b := t_b) (o := t_o) rfl) ?_
  obtain ⟨x_1, x_n, x_c, hc13, H⟩ := H
  refine hl_val rfl rfl (v := (.slice x_1 x_n x_c)) (hv_load TyShQ.agg35 rfl hc13) ?_
  refine hl_val rfl rfl (v := (.int .i64 (x_n : Int))) (hv_len (n := x_n) TyShQ.u35 rfl) ?_
  refine hl_val rfl rfl (v := (.bool (decide (i < (x_n : Int))))) (hv_arith rfl rfl rfl) ?_
  refine hl_nil ?_
  refine seqQ_n ?_
  refine hx_cond (b := decide (i < (x_n : Int))) rfl (fun hb14 => ?_) (fun hb14 => ?_)
  · replace H := H.1 hb14
    refine hx_skip ?_
    refine seqQ_n ?_
    refine hx_seq ?_
    refine hx_block ?_
    refine hx_seq ?_
    refine hx_region ?_
    refine hl_val rfl rfl (v := (ptr t_b t_o)) (hv_move rfl) ?_
    refine hl_val rfl rfl (v := (ptr t_b t_o)) (hv_nil rfl) ?_
    refine hl_val rfl rfl (v := (ptr t_b (t_o + 2))) (hv_field TyShQ.fld55_2 (b := t_b) (o := t_o) rfl) ?_
    refine hl_val rfl rfl (v := (.slice x_1 x_n x_c)) (hv_load TyShQ.agg35 rfl hc13) ?_
    refine hl_val rfl rfl (v := (.int .i64 i)) (hv_move rfl) ?_
    obtain ⟨x_1_b, x_1_o, hqe, hi15, hi16, Hq⟩ := H
    subst hqe
    have H := Hq; clear Hq
    refine hl_val rfl rfl (v := (ptr x_1_b (x_1_o + (Int.toNat i) * 4))) (hv_index TyShQ.el35 rfl rfl hi15 hi16) ?_
    obtain ⟨x_Hash, x_At, x_Version, x_Hits, hc17, hc18, hc19, hc20, H⟩ := H
    refine hl_val rfl rfl (v := (.agg #[(.int .u64 x_Hash), (.int .u64 x_At), (.int .u64 x_Version), (.int .u8 x_Hits)])) (hv_loads (vs := [(.int .u64 x_Hash), (.int .u64 x_At), (.int .u64 x_Version), (.int .u8 x_Hits)]) TyShQ.agg31 TyShQ.sz31 rfl (hcells_cons hc17 (hcells_cons hc18 (hcells_cons hc19 (hcells_cons hc20 hcells_nil))))) ?_
    refine hl_step rfl rfl (hn_alloc TyShQ.z31 ?_)
    intro e h3 eb21 eh22
    have xx23 : Ext h2 h3 := by rw [eh22]; exact Ext.push _ _
    have lo25 : Array.size h2 ≤ e := Nat.le_of_eq (Eq.symm eb21)
    have hr24 : h3[e]? = some (.cells #[(.int .u64 0), (.int .u64 0), (.int .u64 0), (.int .u8 0)] 31 (0, 0)) := by rw [eh22]; exact push_new eb21
    refine hl_step rfl rfl (hn_stores (vs := [(.int .u64 x_Hash), (.int .u64 x_At), (.int .u64 x_Version), (.int .u8 x_Hits)]) rfl rfl TyShQ.sz31 rfl (HWs_row hr24 (by simp)) ?_)
    intro h4 eh26
    have hr24' : h4[e]? = some (.cells #[(.int .u64 x_Hash), (.int .u64 x_At), (.int .u64 x_Version), (.int .u8 x_Hits)] 31 (0, 0)) := row_hsets_eq eh26 hr24 rfl
    have xv27 := ext_hsets eh26 xx23 lo25
    refine hl_nil ?_
    refine seqQ_n ?_
    refine hx_seq ?_
    refine hx_region ?_
    refine hl_val rfl rfl (v := (ptr t_b t_o)) (hv_move rfl) ?_
    refine hl_val rfl rfl (v := (ptr e 0)) (hv_field TyShQ.fld31_0 (b := e) (o := 0) rfl) ?_
    refine hl_val rfl rfl (v := (.int .u64 x_Hash)) (hv_load TyShQ.agg29 rfl (rowcell hr24' rfl)) ?_
    replace H := H e h4 lo25 (row_lt hr24') xv27
    obtain ⟨r, hr28, H⟩ := H
    refine hl_val rfl rfl (v := (.int .i64 r)) (hv_call TyShQ.cb46 (vs := [(ptr t_b t_o), (.int .u64 x_Hash)]) rfl hr28) ?_
    refine hl_val rfl rfl (v := (.int .i64 r)) (hv_assign rfl) ?_
    refine hl_nil ?_
    refine seqQ_n ?_
    refine hx_seq ?_
    refine hx_region ?_
    refine hl_val rfl rfl (v := (.int .i64 0)) (hv_assign rfl) ?_
    refine hl_nil ?_
    refine seqQ_n ?_
    refine hx_seq ?_
    refine hx_block ?_
    obtain ⟨I30, mu31, Ha32, Hr33⟩ := H
    refine hx_loopT (σ := Int × Int × Int × Int × Int × Int) (fun s => [(0, (ptr t_b t_o)), (3, (.int .i64 (IntKind.i64.wrap (1 * 2 ^ min (Int.toNat x) 64)))), (4, (.slice (some ⟨nb, 0, none⟩) (Int.toNat (IntKind.i64.wrap (1 * 2 ^ min (Int.toNat x) 64))) (Int.toNat (IntKind.i64.wrap (1 * 2 ^ min (Int.toNat x) 64))))), (5, (.int .i64 i)), (6, (ptr e 0)), (7, (.int .i64 s.1)), (8, (.int .i64 s.2.1))]) (fun s h' => I30 s.1 s.2.1 s.2.2.1 s.2.2.2.1 s.2.2.2.2.1 s.2.2.2.2.2 h' ∧ h'[e]? = some (.cells #[(.int .u64 s.2.2.1), (.int .u64 s.2.2.2.1), (.int .u64 s.2.2.2.2.1), (.int .u8 s.2.2.2.2.2)] 31 (0, 0)) ∧ True) (fun s h' => mu31 s.1 s.2.1 s.2.2.1 s.2.2.2.1 s.2.2.2.2.1 s.2.2.2.2.2 h') (r, 0, x_Hash, x_At, x_Version, x_Hits) ⟨Ha32, hr24', trivial⟩ (has_cons rfl (has_cons rfl (has_cons rfl (has_cons rfl (has_cons rfl (has_cons rfl (has_cons rfl has_nil))))))) ?_
    rintro ⟨atv, far, ec, ec_1, ec_2, ec_3⟩ ρ h5 ⟨Hi34, hr29, -⟩
    have H := Hr33 atv far ec ec_1 ec_2 ec_3 h5 Hi34
    refine hx_seq ?_
    refine hx_seq ?_
    refine hx_region ?_
    refine hl_val rfl rfl (v := (.slice (some ⟨nb, 0, none⟩) (Int.toNat (IntKind.i64.wrap (1 * 2 ^ min (Int.toNat x) 64))) (Int.toNat (IntKind.i64.wrap (1 * 2 ^ min (Int.toNat x) 64))))) (hv_move rfl) ?_
    refine hl_val rfl rfl (v := (.int .i64 atv)) (hv_move rfl) ?_
    obtain ⟨hi35, hi36, H⟩ := H
    refine hl_val rfl rfl (v := (ptr nb (0 + (Int.toNat atv) * 4))) (hv_index TyShQ.el35 rfl rfl hi35 hi36) ?_
    refine hl_val rfl rfl (v := (ptr nb ((0 + (Int.toNat atv) * 4) + 1))) (hv_field TyShQ.fld31_1 (b := nb) (o := 0 + (Int.toNat atv) * 4) rfl) ?_
    obtain ⟨x_2, hc37, H⟩ := H
    refine hl_val rfl rfl (v := (.int .u64 x_2)) (hv_load TyShQ.agg29 rfl hc37) ?_
    refine hl_val rfl rfl (v := (.bool (x_2 != 0))) (hv_arith rfl rfl rfl) ?_
    refine hl_nil ?_
    refine seqQ_n ?_
    refine hx_cond (b := x_2 != 0) rfl (fun hb38 => ?_) (fun hb38 => ?_)
    · replace H := H.1 hb38
      refine hx_skip ?_
      refine seqQ_n ?_
      refine hx_block ?_
      refine hx_seq ?_
      refine hx_region ?_
      refine hl_val rfl rfl (v := (.slice (some ⟨nb, 0, none⟩) (Int.toNat (IntKind.i64.wrap (1 * 2 ^ min (Int.toNat x) 64))) (Int.toNat (IntKind.i64.wrap (1 * 2 ^ min (Int.toNat x) 64))))) (hv_move rfl) ?_
      refine hl_val rfl rfl (v := (.int .i64 atv)) (hv_move rfl) ?_
      refine hl_val rfl rfl (v := (ptr nb (0 + (Int.toNat atv) * 4))) (hv_index TyShQ.el35 rfl rfl hi35 hi36) ?_
      obtain ⟨x_Hash_1, x_At_1, x_Version_1, x_Hits_1, hc41, hc42, hc43, hc44, H⟩ := H
      refine hl_val rfl rfl (v := (.agg #[(.int .u64 x_Hash_1), (.int .u64 x_At_1), (.int .u64 x_Version_1), (.int .u8 x_Hits_1)])) (hv_loads (vs := [(.int .u64 x_Hash_1), (.int .u64 x_At_1), (.int .u64 x_Version_1), (.int .u8 x_Hits_1)]) TyShQ.agg31 TyShQ.sz31 rfl (hcells_cons hc41 (hcells_cons hc42 (hcells_cons hc43 (hcells_cons hc44 hcells_nil))))) ?_
      refine hl_step rfl rfl (hn_alloc TyShQ.z31 ?_)
      intro o h6 eb45 eh46
      have xx47 : Ext h5 h6 := by rw [eh46]; exact Ext.push _ _
      have ne50 := Nat.ne_of_lt (Nat.lt_of_lt_of_eq (row_lt hr29) (Eq.symm eb45))
      have lo49 : Array.size h5 ≤ o := Nat.le_of_eq (Eq.symm eb45)
      have hr48 : h6[o]? = some (.cells #[(.int .u64 0), (.int .u64 0), (.int .u64 0), (.int .u8 0)] 31 (0, 0)) := by rw [eh46]; exact push_new eb45
      replace hr29 := Ext.row xx47 hr29
      refine hl_step rfl rfl (hn_stores (vs := [(.int .u64 x_Hash_1), (.int .u64 x_At_1), (.int .u64 x_Version_1), (.int .u8 x_Hits_1)]) rfl rfl TyShQ.sz31 rfl (HWs_row hr48 (by simp)) ?_)
      intro h7 eh51
      replace hr29 := row_hsets_ne eh51 ne50 hr29
      have hr48' : h7[o]? = some (.cells #[(.int .u64 x_Hash_1), (.int .u64 x_At_1), (.int .u64 x_Version_1), (.int .u8 x_Hits_1)] 31 (0, 0)) := row_hsets_eq eh51 hr48 rfl
      have xv52 := ext_hsets eh51 xx47 lo49
      refine hl_nil ?_
      refine seqQ_n ?_
      refine hx_seq ?_
      refine hx_region ?_
      refine hl_val rfl rfl (v := (.int .i64 atv)) (hv_move rfl) ?_
      refine hl_val rfl rfl (v := (ptr t_b t_o)) (hv_move rfl) ?_
      refine hl_val rfl rfl (v := (ptr o 0)) (hv_field TyShQ.fld31_0 (b := o) (o := 0) rfl) ?_
      refine hl_val rfl rfl (v := (.int .u64 x_Hash_1)) (hv_load TyShQ.agg29 rfl (rowcell hr48' rfl)) ?_
      replace H := H o h7 lo49 (row_lt hr48') xv52
      obtain ⟨r_1, hr53, H⟩ := H
      refine hl_val rfl rfl (v := (.int .i64 r_1)) (hv_call TyShQ.cb46 (vs := [(ptr t_b t_o), (.int .u64 x_Hash_1)]) rfl hr53) ?_
      refine hl_val rfl rfl (v := (.int .i64 (IntKind.i64.wrap (atv - r_1)))) (hv_arith rfl rfl rfl) ?_
      refine hl_val rfl rfl (v := (.int .i64 (IntKind.i64.wrap (1 * 2 ^ min (Int.toNat x) 64)))) (hv_move rfl) ?_
      refine hl_val rfl rfl (v := (.int .i64 (IntKind.i64.wrap ((IntKind.i64.wrap (atv - r_1)) + (IntKind.i64.wrap (1 * 2 ^ min (Int.toNat x) 64)))))) (hv_arith rfl rfl rfl) ?_
      refine hl_val rfl rfl (v := (.int .i64 (IntKind.i64.wrap (1 * 2 ^ min (Int.toNat x) 64)))) (hv_move rfl) ?_
      obtain ⟨hz71, H⟩ := H
      refine hl_val rfl rfl (v := (.int .i64 (Int.tmod (IntKind.i64.wrap ((IntKind.i64.wrap (atv - r_1)) + (IntKind.i64.wrap (1 * 2 ^ min (Int.toNat x) 64)))) (IntKind.i64.wrap (1 * 2 ^ min (Int.toNat x) 64))))) (hv_rem rfl rfl hz71) ?_
      refine hl_val rfl rfl (v := (.int .i64 (Int.tmod (IntKind.i64.wrap ((IntKind.i64.wrap (atv - r_1)) + (IntKind.i64.wrap (1 * 2 ^ min (Int.toNat x) 64)))) (IntKind.i64.wrap (1 * 2 ^ min (Int.toNat x) 64))))) (hv_assign rfl) ?_
      refine hl_nil ?_
      refine seqQ_n ?_
      obtain ⟨A57, Hx54, Hy55⟩ := H
      refine hx_cut (fun ρ h' => ∃ far_1 ec_4 ec_5 ec_6 ec_7 : Int, (A57 far_1 ec_4 ec_5 ec_6 ec_7 h' ∧ h'[e]? = some (.cells #[(.int .u64 ec_4), (.int .u64 ec_5), (.int .u64 ec_6), (.int .u8 ec_7)] 31 (0, 0)) ∧ True) ∧ Has ρ [(0, (ptr t_b t_o)), (3, (.int .i64 (IntKind.i64.wrap (1 * 2 ^ min (Int.toNat x) 64)))), (4, (.slice (some ⟨nb, 0, none⟩) (Int.toNat (IntKind.i64.wrap (1 * 2 ^ min (Int.toNat x) 64))) (Int.toNat (IntKind.i64.wrap (1 * 2 ^ min (Int.toNat x) 64))))), (5, (.int .i64 i)), (6, (ptr e 0)), (7, (.int .i64 atv)), (8, (.int .i64 far_1))]) ?_ ?_
      · have H := Hx54; clear Hx54 Hy55
        refine hx_cut (fun ρ h' => h7 = h' ∧ Has ρ [(0, (ptr t_b t_o)), (3, (.int .i64 (IntKind.i64.wrap (1 * 2 ^ min (Int.toNat x) 64)))), (4, (.slice (some ⟨nb, 0, none⟩) (Int.toNat (IntKind.i64.wrap (1 * 2 ^ min (Int.toNat x) 64))) (Int.toNat (IntKind.i64.wrap (1 * 2 ^ min (Int.toNat x) 64))))), (5, (.int .i64 i)), (6, (ptr e 0)), (7, (.int .i64 atv)), (8, (.int .i64 far)), (9, (ptr o 0)), (10, (.int .i64 (Int.tmod (IntKind.i64.wrap ((IntKind.i64.wrap (atv - r_1)) + (IntKind.i64.wrap (1 * 2 ^ min (Int.toNat x) 64)))) (IntKind.i64.wrap (1 * 2 ^ min (Int.toNat x) 64))))), (72, (.bool ((decide ((Int.tmod (IntKind.i64.wrap ((IntKind.i64.wrap (atv - r_1)) + (IntKind.i64.wrap (1 * 2 ^ min (Int.toNat x) 64)))) (IntKind.i64.wrap (1 * 2 ^ min (Int.toNat x) 64))) < far)) || (((Int.tmod (IntKind.i64.wrap ((IntKind.i64.wrap (atv - r_1)) + (IntKind.i64.wrap (1 * 2 ^ min (Int.toNat x) 64)))) (IntKind.i64.wrap (1 * 2 ^ min (Int.toNat x) 64))) == far) && (decide (x_Hash_1 > ec))))))]) ?_ ?_
        · refine hx_region ?_
          refine hl_val rfl rfl (v := (.int .i64 (Int.tmod (IntKind.i64.wrap ((IntKind.i64.wrap (atv - r_1)) + (IntKind.i64.wrap (1 * 2 ^ min (Int.toNat x) 64)))) (IntKind.i64.wrap (1 * 2 ^ min (Int.toNat x) 64))))) (hv_move rfl) ?_
          refine hl_val rfl rfl (v := (.int .i64 far)) (hv_move rfl) ?_
          refine hl_val rfl rfl (v := (.bool (decide ((Int.tmod (IntKind.i64.wrap ((IntKind.i64.wrap (atv - r_1)) + (IntKind.i64.wrap (1 * 2 ^ min (Int.toNat x) 64)))) (IntKind.i64.wrap (1 * 2 ^ min (Int.toNat x) 64))) < far)))) (hv_arith rfl rfl rfl) ?_
          refine hl_val rfl rfl (v := (.bool (decide ((Int.tmod (IntKind.i64.wrap ((IntKind.i64.wrap (atv - r_1)) + (IntKind.i64.wrap (1 * 2 ^ min (Int.toNat x) 64)))) (IntKind.i64.wrap (1 * 2 ^ min (Int.toNat x) 64))) < far)))) (hv_move rfl) ?_
          rcases bool_or (decide ((Int.tmod (IntKind.i64.wrap ((IntKind.i64.wrap (atv - r_1)) + (IntKind.i64.wrap (1 * 2 ^ min (Int.toNat x) 64)))) (IntKind.i64.wrap (1 * 2 ^ min (Int.toNat x) 64))) < far)) with hg61 | hg61
          · refine hl_no (wanted_n rfl rfl rfl hg61) rfl ?_
            refine hl_no (wanted_n rfl rfl rfl hg61) rfl ?_
            refine hl_no (wanted_n rfl rfl rfl hg61) rfl ?_
            refine hl_no (wanted_n rfl rfl rfl hg61) rfl ?_
            refine hl_no (wanted_u rfl rfl rfl) rfl ?_
            refine hl_no (wanted_u rfl rfl rfl) rfl ?_
            refine hl_no (wanted_u rfl rfl rfl) rfl ?_
            refine hl_no (wanted_u rfl rfl rfl) rfl ?_
            refine hl_no (wanted_u rfl rfl rfl) rfl ?_
            refine hl_no (wanted_n rfl rfl rfl hg61) rfl ?_
            refine hl_val rfl rfl (v := (.bool true)) (hv_pick_t rfl hg61 rfl) ?_
            refine hl_nil ?_
            refine seqQ_n ?_
            exact ⟨rfl, (has_cons rfl (has_cons rfl (has_cons rfl (has_cons rfl (has_cons rfl (has_cons rfl (has_cons rfl (has_cons rfl (has_cons rfl (has_cons (show ((.bool true) : Value) = (.bool ((decide ((Int.tmod (IntKind.i64.wrap ((IntKind.i64.wrap (atv - r_1)) + (IntKind.i64.wrap (1 * 2 ^ min (Int.toNat x) 64)))) (IntKind.i64.wrap (1 * 2 ^ min (Int.toNat x) 64))) < far)) || (((Int.tmod (IntKind.i64.wrap ((IntKind.i64.wrap (atv - r_1)) + (IntKind.i64.wrap (1 * 2 ^ min (Int.toNat x) 64)))) (IntKind.i64.wrap (1 * 2 ^ min (Int.toNat x) 64))) == far) && (decide (x_Hash_1 > ec))))) from (by first | rfl | (try rw [hg61]; all_goals first | rfl | (simp only [Bool.true_or, Bool.or_true, Bool.false_or, Bool.or_false, Bool.true_and, Bool.and_true, Bool.false_and, Bool.and_false, Bool.not_true, Bool.not_false, Bool.cond_true, Bool.cond_false]; done)) | simp [hg61])) has_nil))))))))))⟩
          · refine hl_yes (wanted_y rfl rfl rfl hg61) rfl (HStep.of_val (v := (.int .i64 (Int.tmod (IntKind.i64.wrap ((IntKind.i64.wrap (atv - r_1)) + (IntKind.i64.wrap (1 * 2 ^ min (Int.toNat x) 64)))) (IntKind.i64.wrap (1 * 2 ^ min (Int.toNat x) 64))))) (hv_move rfl) ?_)
            refine hl_yes (wanted_y rfl rfl rfl hg61) rfl (HStep.of_val (v := (.int .i64 far)) (hv_move rfl) ?_)
            refine hl_yes (wanted_y rfl rfl rfl hg61) rfl (HStep.of_val (v := (.bool ((Int.tmod (IntKind.i64.wrap ((IntKind.i64.wrap (atv - r_1)) + (IntKind.i64.wrap (1 * 2 ^ min (Int.toNat x) 64)))) (IntKind.i64.wrap (1 * 2 ^ min (Int.toNat x) 64))) == far))) (hv_arith rfl rfl rfl) ?_)
            refine hl_yes (wanted_y rfl rfl rfl hg61) rfl (HStep.of_val (v := (.bool ((Int.tmod (IntKind.i64.wrap ((IntKind.i64.wrap (atv - r_1)) + (IntKind.i64.wrap (1 * 2 ^ min (Int.toNat x) 64)))) (IntKind.i64.wrap (1 * 2 ^ min (Int.toNat x) 64))) == far))) (hv_move rfl) ?_)
            rcases bool_or ((Int.tmod (IntKind.i64.wrap ((IntKind.i64.wrap (atv - r_1)) + (IntKind.i64.wrap (1 * 2 ^ min (Int.toNat x) 64)))) (IntKind.i64.wrap (1 * 2 ^ min (Int.toNat x) 64))) == far) with hg62 | hg62
            · refine hl_yes (wanted_y rfl rfl rfl hg62) rfl (HStep.of_val (v := (ptr o 0)) (hv_field TyShQ.fld31_0 (b := o) (o := 0) rfl) ?_)
              refine hl_yes (wanted_y rfl rfl rfl hg62) rfl (HStep.of_val (v := (.int .u64 x_Hash_1)) (hv_load TyShQ.agg29 rfl (rowcell hr48' rfl)) ?_)
              refine hl_yes (wanted_y rfl rfl rfl hg62) rfl (HStep.of_val (v := (ptr e 0)) (hv_field TyShQ.fld31_0 (b := e) (o := 0) rfl) ?_)
              refine hl_yes (wanted_y rfl rfl rfl hg62) rfl (HStep.of_val (v := (.int .u64 ec)) (hv_load TyShQ.agg29 rfl (rowcell hr29 rfl)) ?_)
              refine hl_yes (wanted_y rfl rfl rfl hg62) rfl (HStep.of_val (v := (.bool (decide (x_Hash_1 > ec)))) (hv_arith rfl rfl rfl) ?_)
              refine hl_yes (wanted_y rfl rfl rfl hg61) rfl (HStep.of_val (v := (.bool (decide (x_Hash_1 > ec)))) (hv_pick_t rfl hg62 rfl) ?_)
              refine hl_val rfl rfl (v := (.bool (decide (x_Hash_1 > ec)))) (hv_pick_f rfl hg61 rfl) ?_
              refine hl_nil ?_
              refine seqQ_n ?_
              exact ⟨rfl, (has_cons rfl (has_cons rfl (has_cons rfl (has_cons rfl (has_cons rfl (has_cons rfl (has_cons rfl (has_cons rfl (has_cons rfl (has_cons (show ((.bool (decide (x_Hash_1 > ec))) : Value) = (.bool ((decide ((Int.tmod (IntKind.i64.wrap ((IntKind.i64.wrap (atv - r_1)) + (IntKind.i64.wrap (1 * 2 ^ min (Int.toNat x) 64)))) (IntKind.i64.wrap (1 * 2 ^ min (Int.toNat x) 64))) < far)) || (((Int.tmod (IntKind.i64.wrap ((IntKind.i64.wrap (atv - r_1)) + (IntKind.i64.wrap (1 * 2 ^ min (Int.toNat x) 64)))) (IntKind.i64.wrap (1 * 2 ^ min (Int.toNat x) 64))) == far) && (decide (x_Hash_1 > ec))))) from (by first | rfl | (try rw [hg61]; try rw [hg62]; all_goals first | rfl | (simp only [Bool.true_or, Bool.or_true, Bool.false_or, Bool.or_false, Bool.true_and, Bool.and_true, Bool.false_and, Bool.and_false, Bool.not_true, Bool.not_false, Bool.cond_true, Bool.cond_false]; done)) | simp [hg61, hg62])) has_nil))))))))))⟩
            · refine hl_no (wanted_n rfl rfl rfl hg62) rfl ?_
              refine hl_no (wanted_n rfl rfl rfl hg62) rfl ?_
              refine hl_no (wanted_n rfl rfl rfl hg62) rfl ?_
              refine hl_no (wanted_n rfl rfl rfl hg62) rfl ?_
              refine hl_no (wanted_n rfl rfl rfl hg62) rfl ?_
              refine hl_yes (wanted_y rfl rfl rfl hg61) rfl (HStep.of_val (v := (.bool false)) (hv_pick_f rfl hg62 rfl) ?_)
              refine hl_val rfl rfl (v := (.bool false)) (hv_pick_f rfl hg61 rfl) ?_
              refine hl_nil ?_
              refine seqQ_n ?_
              exact ⟨rfl, (has_cons rfl (has_cons rfl (has_cons rfl (has_cons rfl (has_cons rfl (has_cons rfl (has_cons rfl (has_cons rfl (has_cons rfl (has_cons (show ((.bool false) : Value) = (.bool ((decide ((Int.tmod (IntKind.i64.wrap ((IntKind.i64.wrap (atv - r_1)) + (IntKind.i64.wrap (1 * 2 ^ min (Int.toNat x) 64)))) (IntKind.i64.wrap (1 * 2 ^ min (Int.toNat x) 64))) < far)) || (((Int.tmod (IntKind.i64.wrap ((IntKind.i64.wrap (atv - r_1)) + (IntKind.i64.wrap (1 * 2 ^ min (Int.toNat x) 64)))) (IntKind.i64.wrap (1 * 2 ^ min (Int.toNat x) 64))) == far) && (decide (x_Hash_1 > ec))))) from (by first | rfl | (try rw [hg61]; try rw [hg62]; all_goals first | rfl | (simp only [Bool.true_or, Bool.or_true, Bool.false_or, Bool.or_false, Bool.true_and, Bool.and_true, Bool.false_and, Bool.and_false, Bool.not_true, Bool.not_false, Bool.cond_true, Bool.cond_false]; done)) | simp [hg61, hg62])) has_nil))))))))))⟩
        · rintro ρ _ ⟨rfl, hH⟩
          refine hx_has _ hH ?_
          refine hx_cond (b := ((decide ((Int.tmod (IntKind.i64.wrap ((IntKind.i64.wrap (atv - r_1)) + (IntKind.i64.wrap (1 * 2 ^ min (Int.toNat x) 64)))) (IntKind.i64.wrap (1 * 2 ^ min (Int.toNat x) 64))) < far)) || (((Int.tmod (IntKind.i64.wrap ((IntKind.i64.wrap (atv - r_1)) + (IntKind.i64.wrap (1 * 2 ^ min (Int.toNat x) 64)))) (IntKind.i64.wrap (1 * 2 ^ min (Int.toNat x) 64))) == far) && (decide (x_Hash_1 > ec))))) rfl (fun hb63 => ?_) (fun hb63 => ?_)
          · replace H := H.1 hb63
            refine hx_seq ?_
            refine hx_region ?_
            refine hl_val rfl rfl (v := (.slice (some ⟨nb, 0, none⟩) (Int.toNat (IntKind.i64.wrap (1 * 2 ^ min (Int.toNat x) 64))) (Int.toNat (IntKind.i64.wrap (1 * 2 ^ min (Int.toNat x) 64))))) (hv_move rfl) ?_
            refine hl_val rfl rfl (v := (.int .i64 atv)) (hv_move rfl) ?_
            refine hl_val rfl rfl (v := (.agg #[(.int .u64 ec), (.int .u64 ec_1), (.int .u64 ec_2), (.int .u8 ec_3)])) (hv_loads (vs := [(.int .u64 ec), (.int .u64 ec_1), (.int .u64 ec_2), (.int .u8 ec_3)]) TyShQ.agg31 TyShQ.sz31 rfl (hcells_cons (rowcell hr29 rfl) (hcells_cons (rowcell hr29 rfl) (hcells_cons (rowcell hr29 rfl) (hcells_cons (rowcell hr29 rfl) hcells_nil))))) ?_
            refine hl_val rfl rfl (v := (ptr nb (0 + (Int.toNat atv) * 4))) (hv_index TyShQ.el35 rfl rfl hi35 hi36) ?_
            obtain ⟨hw67, ho68, H⟩ := H
            refine hl_step rfl rfl (hn_stores (vs := [(.int .u64 ec), (.int .u64 ec_1), (.int .u64 ec_2), (.int .u8 ec_3)]) rfl rfl TyShQ.sz31 rfl hw67 ?_)
            intro h9 eh66
            replace H := H h9 eh66
            replace hr29 := row_hsets_ne eh66 (ho68 _ (by simp)) hr29
            replace hr48' := row_hsets_ne eh66 (ho68 _ (by simp)) hr48'
            refine hl_nil ?_
            refine seqQ_n ?_
            refine hx_region ?_
            refine hl_val rfl rfl (v := (.agg #[(.int .u64 x_Hash_1), (.int .u64 x_At_1), (.int .u64 x_Version_1), (.int .u8 x_Hits_1)])) (hv_loads (vs := [(.int .u64 x_Hash_1), (.int .u64 x_At_1), (.int .u64 x_Version_1), (.int .u8 x_Hits_1)]) TyShQ.agg31 TyShQ.sz31 rfl (hcells_cons (rowcell hr48' rfl) (hcells_cons (rowcell hr48' rfl) (hcells_cons (rowcell hr48' rfl) (hcells_cons (rowcell hr48' rfl) hcells_nil))))) ?_
            refine hl_val rfl rfl (v := (.int .i64 (Int.tmod (IntKind.i64.wrap ((IntKind.i64.wrap (atv - r_1)) + (IntKind.i64.wrap (1 * 2 ^ min (Int.toNat x) 64)))) (IntKind.i64.wrap (1 * 2 ^ min (Int.toNat x) 64))))) (hv_move rfl) ?_
            refine hl_step rfl rfl (hn_stores (vs := [(.int .u64 x_Hash_1), (.int .u64 x_At_1), (.int .u64 x_Version_1), (.int .u8 x_Hits_1)]) rfl rfl TyShQ.sz31 rfl (HWs_row hr29 (by simp)) ?_)
            intro h10 eh69
            replace hr48' := row_hsets_ne eh69 (Ne.symm ne50) hr48'
            have hr29' : h10[e]? = some (.cells #[(.int .u64 x_Hash_1), (.int .u64 x_At_1), (.int .u64 x_Version_1), (.int .u8 x_Hits_1)] 31 (0, 0)) := row_hsets_eq eh69 hr29 rfl
            replace H := H h10 (fr_hsets_of eh69)
            refine hl_val rfl rfl (v := (.int .i64 (Int.tmod (IntKind.i64.wrap ((IntKind.i64.wrap (atv - r_1)) + (IntKind.i64.wrap (1 * 2 ^ min (Int.toNat x) 64)))) (IntKind.i64.wrap (1 * 2 ^ min (Int.toNat x) 64))))) (hv_assign rfl) ?_
            refine hl_nil ?_
            refine seqQ_n ?_
            exact ⟨_, _, _, _, _, ⟨H, hr29', trivial⟩, (has_cons rfl (has_cons rfl (has_cons rfl (has_cons rfl (has_cons rfl (has_cons rfl (has_cons rfl has_nil)))))))⟩
          · replace H := H.2 hb63
            refine hx_skip ?_
            refine seqQ_n ?_
            exact ⟨_, _, _, _, _, ⟨H, hr29, trivial⟩, (has_cons rfl (has_cons rfl (has_cons rfl (has_cons rfl (has_cons rfl (has_cons rfl (has_cons rfl has_nil)))))))⟩
      · rintro ρ h8 ⟨far_1, ec_4, ec_5, ec_6, ec_7, ⟨HA58, hr56, -⟩, hH⟩
        have H := Hy55 far_1 ec_4 ec_5 ec_6 ec_7 h8 HA58; clear Hx54 Hy55
        refine hx_has _ hH ?_
        refine hx_seq ?_
        refine hx_region ?_
        refine hl_val rfl rfl (v := (.int .i64 atv)) (hv_move rfl) ?_
        refine hl_val rfl rfl (v := (.int .i64 (IntKind.i64.wrap (atv + 1)))) (hv_arith rfl rfl rfl) ?_
        refine hl_val rfl rfl (v := (.int .i64 (IntKind.i64.wrap (1 * 2 ^ min (Int.toNat x) 64)))) (hv_move rfl) ?_
        obtain ⟨hz70, H⟩ := H
        refine hl_val rfl rfl (v := (.int .i64 (Int.tmod (IntKind.i64.wrap (atv + 1)) (IntKind.i64.wrap (1 * 2 ^ min (Int.toNat x) 64))))) (hv_rem rfl rfl hz70) ?_
        refine hl_val rfl rfl (v := (.int .i64 (Int.tmod (IntKind.i64.wrap (atv + 1)) (IntKind.i64.wrap (1 * 2 ^ min (Int.toNat x) 64))))) (hv_assign rfl) ?_
        refine hl_nil ?_
        refine seqQ_n ?_
        refine hx_region ?_
        refine hl_val rfl rfl (v := (.int .i64 far_1)) (hv_move rfl) ?_
        refine hl_val rfl rfl (v := (.int .i64 (IntKind.i64.wrap (far_1 + 1)))) (hv_arith rfl rfl rfl) ?_
        refine hl_val rfl rfl (v := (.int .i64 (IntKind.i64.wrap (far_1 + 1)))) (hv_assign rfl) ?_
        refine hl_nil ?_
        refine blockQ_n ?_
        refine seqQ_n ?_
        exact ⟨(Int.tmod (IntKind.i64.wrap (atv + 1)) (IntKind.i64.wrap (1 * 2 ^ min (Int.toNat x) 64)), IntKind.i64.wrap (far_1 + 1), ec_4, ec_5, ec_6, ec_7), ⟨⟨H.1, hr56, trivial⟩, H.2⟩, (has_cons rfl (has_cons rfl (has_cons rfl (has_cons rfl (has_cons rfl (has_cons rfl (has_cons rfl has_nil)))))))⟩
    · replace H := H.2 hb38
      refine hx_exit ?_
      refine seqQ_exit ?_
      refine seqQ_exit ?_
      refine blockQ_here ?_
      refine seqQ_n ?_
      refine hx_region ?_
      refine hl_val rfl rfl (v := (.slice (some ⟨nb, 0, none⟩) (Int.toNat (IntKind.i64.wrap (1 * 2 ^ min (Int.toNat x) 64))) (Int.toNat (IntKind.i64.wrap (1 * 2 ^ min (Int.toNat x) 64))))) (hv_move rfl) ?_
      refine hl_val rfl rfl (v := (.int .i64 atv)) (hv_move rfl) ?_
      refine hl_val rfl rfl (v := (.agg #[(.int .u64 ec), (.int .u64 ec_1), (.int .u64 ec_2), (.int .u8 ec_3)])) (hv_loads (vs := [(.int .u64 ec), (.int .u64 ec_1), (.int .u64 ec_2), (.int .u8 ec_3)]) TyShQ.agg31 TyShQ.sz31 rfl (hcells_cons (rowcell hr29 rfl) (hcells_cons (rowcell hr29 rfl) (hcells_cons (rowcell hr29 rfl) (hcells_cons (rowcell hr29 rfl) hcells_nil))))) ?_
      refine hl_val rfl rfl (v := (ptr nb (0 + (Int.toNat atv) * 4))) (hv_index TyShQ.el35 rfl rfl hi35 hi36) ?_
      obtain ⟨hw75, H⟩ := H
      refine hl_step rfl rfl (hn_stores (vs := [(.int .u64 ec), (.int .u64 ec_1), (.int .u64 ec_2), (.int .u8 ec_3)]) rfl rfl TyShQ.sz31 rfl hw75 ?_)
      intro h11 eh74
      replace H := H h11 eh74
      refine hl_nil ?_
      refine blockQ_n ?_
      refine seqQ_n ?_
      refine hx_region ?_
      refine hl_val rfl rfl (v := (.int .i64 i)) (hv_move rfl) ?_
      refine hl_val rfl rfl (v := (.int .i64 (IntKind.i64.wrap (i + 1)))) (hv_arith rfl rfl rfl) ?_
      refine hl_val rfl rfl (v := (.int .i64 (IntKind.i64.wrap (i + 1)))) (hv_assign rfl) ?_
      refine hl_nil ?_
      refine seqQ_n ?_
      exact ⟨IntKind.i64.wrap (i + 1), ⟨⟨H.1, trivial⟩, H.2⟩, (has_cons rfl (has_cons rfl (has_cons rfl (has_cons rfl has_nil))))⟩
  · replace H := H.2 hb14
    refine hx_exit ?_
    refine seqQ_exit ?_
    refine seqQ_exit ?_
    refine blockQ_here ?_
    refine seqQ_n ?_
    refine hx_seq ?_
    refine hx_region ?_
    refine hl_val rfl rfl (v := (.slice (some ⟨nb, 0, none⟩) (Int.toNat (IntKind.i64.wrap (1 * 2 ^ min (Int.toNat x) 64))) (Int.toNat (IntKind.i64.wrap (1 * 2 ^ min (Int.toNat x) 64))))) (hv_move rfl) ?_
    refine hl_val rfl rfl (v := (.slice (some ⟨nb, 0, none⟩) (Int.toNat (IntKind.i64.wrap (1 * 2 ^ min (Int.toNat x) 64))) (Int.toNat (IntKind.i64.wrap (1 * 2 ^ min (Int.toNat x) 64))))) (hv_assign rfl) ?_
    refine hl_nil ?_
    refine seqQ_n ?_
    refine hx_ret ?_
    exact endQ_ret _ (res_one Try.results25 (rv_tmp rfl)) H

/-- (*cellar/table.Table).Fork -/
theorem f24_sh (t_b : Nat) (t_o : Nat) (h : Heap) (R : Value → Heap → Prop)
    (H : (∃ r : Bool, HC Try.prog 28 #[(ptr t_b t_o)] h (fun vv h' => vv = (.bool r) ∧ h' = h) ∧ (((!r) = true → R (.pointer none) h) ∧ ((!r) = false → (∃ x_slots : Option Addr, ∃ x_slots_n x_slots_c : Nat, ∃ x_bits x_most x_n : Int, hcell h t_b t_o = some (.slice x_slots x_slots_n x_slots_c) ∧ hcell h t_b (t_o + 1) = some (.int .i64 x_bits) ∧ hcell h t_b (t_o + 2) = some (.int .i64 x_most) ∧ hcell h t_b (t_o + 3) = some (.int .i64 x_n) ∧ (∀ out h1, out = Array.size h → h1 = Array.push h (.cells #[(.slice none 0 0), (.int .i64 0), (.int .i64 0), (.int .i64 0)] 60) → (HWs h1 out 0 4 ∧ ∀ h2, h2 = hsets h1 out 0 [(.slice x_slots x_slots_n x_slots_c), (.int .i64 x_bits), (.int .i64 x_most), (.int .i64 x_n)] → (∃ x : Option Addr, ∃ x_n_1 x_c : Nat, hcell h2 t_b t_o = some (.slice x x_n_1 x_c) ∧ HC Try.prog 29 #[(.slice x x_n_1 x_c)] h2 (fun vv h3 => ∃ r_1 : Option Addr, ∃ r_n r_c : Nat, vv = (.slice r_1 r_n r_c) ∧ (HW h3 out 0 ∧ ∀ h4, h4 = hset h3 out 0 (.slice r_1 r_n r_c) → R (ptr out 0) h4)))))))))) :
    HC Try.prog 24 #[(ptr t_b t_o)] h R := by
  refine hc_of (args := [(ptr t_b t_o)]) Try.func24 rfl Try.ntmps24 (Nat.le_of_ble_eq_true rfl) ?_
  refine hx_seq ?_
  refine hx_region ?_
  refine hl_val rfl rfl (v := (.pointer none)) (hv_assign rfl) ?_
  refine hl_nil ?_
  refine seqQ_n ?_
  refine hx_seq ?_
  refine hx_seq ?_
  refine hx_region ?_
  refine hl_val rfl rfl (v := (ptr t_b t_o)) (hv_move rfl) ?_
  obtain ⟨r, hr1, H⟩ := H
  refine hl_val rfl rfl (v := (.bool r)) (hv_call TyShQ.cb28 (vs := [(ptr t_b t_o)]) rfl hr1) ?_
  refine hl_val rfl rfl (v := (.bool (!r))) (hv_not (b := r) rfl) ?_
  refine hl_nil ?_
  refine seqQ_n ?_
  refine hx_cond (b := !r) rfl (fun hb2 => ?_) (fun hb2 => ?_)
  · replace H := H.1 hb2
    refine hx_seq ?_
    refine hx_region ?_
    refine hl_val rfl rfl (v := (.pointer none)) (hv_assign rfl) ?_
    refine hl_nil ?_
    refine seqQ_n ?_
    refine hx_ret ?_
    refine seqQ_ret ?_
    exact endQ_ret _ (res_one Try.results24 (rv_tmp rfl)) H
  · replace H := H.2 hb2
    refine hx_skip ?_
    refine seqQ_n ?_
    refine hx_seq ?_
    refine hx_region ?_
    refine hl_val rfl rfl (v := (ptr t_b t_o)) (hv_move rfl) ?_
    refine hl_val rfl rfl (v := (ptr t_b t_o)) (hv_nil rfl) ?_
    obtain ⟨x_slots, x_slots_n, x_slots_c, x_bits, x_most, x_n, hc3, hc4, hc5, hc6, H⟩ := H
    refine hl_val rfl rfl (v := (.agg #[(.slice x_slots x_slots_n x_slots_c), (.int .i64 x_bits), (.int .i64 x_most), (.int .i64 x_n)])) (hv_loads (vs := [(.slice x_slots x_slots_n x_slots_c), (.int .i64 x_bits), (.int .i64 x_most), (.int .i64 x_n)]) TyShQ.agg60 TyShQ.sz60 rfl (hcells_cons hc3 (hcells_cons hc4 (hcells_cons hc5 (hcells_cons hc6 hcells_nil))))) ?_
    refine hl_step rfl rfl (hn_alloc TyShQ.z60 ?_)
    intro out h1 eb7 eh8
    replace H := H out h1 eb7 eh8
    have xx9 : Ext h h1 := by rw [eh8]; exact Ext.push _ _
    obtain ⟨hw11, H⟩ := H
    refine hl_step rfl rfl (hn_stores (vs := [(.slice x_slots x_slots_n x_slots_c), (.int .i64 x_bits), (.int .i64 x_most), (.int .i64 x_n)]) rfl rfl TyShQ.sz60 rfl hw11 ?_)
    intro h2 eh10
    replace H := H h2 eh10
    refine hl_nil ?_
    refine seqQ_n ?_
    refine hx_seq ?_
    refine hx_region ?_
    refine hl_val rfl rfl (v := (ptr t_b t_o)) (hv_move rfl) ?_
    refine hl_val rfl rfl (v := (ptr t_b t_o)) (hv_nil rfl) ?_
    refine hl_val rfl rfl (v := (ptr t_b t_o)) (hv_field TyShQ.fld60_0 (b := t_b) (o := t_o) rfl) ?_
    obtain ⟨x, x_n_1, x_c, hc12, H⟩ := H
    refine hl_val rfl rfl (v := (.slice x x_n_1 x_c)) (hv_load TyShQ.agg35 rfl hc12) ?_
    refine hl_step rfl rfl (hs_call TyShQ.cb29 (vs := [(.slice x x_n_1 x_c)]) rfl (HC.mono H ?_))
    rintro _ h3 ⟨r_1, r_n, r_c, rfl, H⟩
    refine hl_val rfl rfl (v := (ptr out 0)) (hv_field TyShQ.fld60_0 (b := out) (o := 0) rfl) ?_
    obtain ⟨hw14, H⟩ := H
    refine hl_step rfl rfl (hn_store (v := (.slice r_1 r_n r_c)) rfl rfl TyShQ.sz35 rfl hw14 ?_)
    intro h4 eh13
    replace H := H h4 eh13
    refine hl_nil ?_
    refine seqQ_n ?_
    refine hx_seq ?_
    refine hx_region ?_
    refine hl_val rfl rfl (v := (ptr out 0)) (hv_assign rfl) ?_
    refine hl_nil ?_
    refine seqQ_n ?_
    refine hx_ret ?_
    exact endQ_ret _ (res_one Try.results24 (rv_tmp rfl)) H

/-- (*cellar/table.Table).Longest -/
theorem f26_sh (t_b : Nat) (t_o : Nat) (h : Heap) (R : Value → Heap → Prop)
    (H : (∃ r : Bool, HC Try.prog 28 #[(ptr t_b t_o)] h (fun vv h' => vv = (.bool r) ∧ h' = h) ∧ (((!r) = true → R (.int .i64 0) h) ∧ ((!r) = false → (∃ x : Option Addr, ∃ x_n x_c : Nat, hcell h t_b t_o = some (.slice x x_n x_c) ∧ (∃ (I4 : Int → Int → Heap → Prop) (mu5 : Int → Int → Heap → Nat), I4 0 0 h ∧ (∀ (most : Int) (v : Int) (h1 : Heap), I4 most v h1 → (((decide (v < (x_n : Int))) = true → (∃ A12 : Int → Heap → Prop, (∃ x_b x_o : Nat, x = some ⟨x_b, x_o, none⟩ ∧ (0 : Int) ≤ v ∧ v < (x_n : Int) ∧ (∃ x_Hash x_At x_Version x_Hits : Int, hcell h1 x_b (x_o + (Int.toNat v) * 4) = some (.int .u64 x_Hash) ∧ hcell h1 x_b ((x_o + (Int.toNat v) * 4) + 1) = some (.int .u64 x_At) ∧ hcell h1 x_b ((x_o + (Int.toNat v) * 4) + 2) = some (.int .u64 x_Version) ∧ hcell h1 x_b ((x_o + (Int.toNat v) * 4) + 3) = some (.int .u8 x_Hits) ∧ (∀ (h4 : Heap), Ext h1 h4 → HC Try.prog 30 #[(.agg #[(.int .u64 x_Hash), (.int .u64 x_At), (.int .u64 x_Version), (.int .u8 x_Hits)])] h4 (fun vv h5 => Ext h4 h5 ∧ ∃ r_1 : Bool, vv = (.bool r_1) ∧ (((!r_1) = true → (∃ r_2 : Int, HC Try.prog 36 #[(ptr t_b t_o), (.int .i64 v)] h5 (fun vv h' => vv = (.int .i64 r_2) ∧ h' = h5) ∧ (A12 (if r_2 > most then r_2 else most) h5))) ∧ ((!r_1) = false → (A12 most h5))))))) ∧ (∀ (most_1 : Int) (h2 : Heap), A12 most_1 h2 → (I4 most_1 (IntKind.i64.wrap (v + 1)) h2 ∧ mu5 most_1 (IntKind.i64.wrap (v + 1)) h2 < mu5 most v h1)))) ∧ ((decide (v < (x_n : Int))) = false → R (.int .i64 most) h1))))))))) :
    HC Try.prog 26 #[(ptr t_b t_o)] h R := by
  refine hc_of (args := [(ptr t_b t_o)]) Try.func26 rfl Try.ntmps26 (Nat.le_of_ble_eq_true rfl) ?_
  refine hx_seq ?_
  refine hx_region ?_
  refine hl_val rfl rfl (v := (.int .i64 0)) (hv_assign rfl) ?_
  refine hl_nil ?_
  refine seqQ_n ?_
  refine hx_seq ?_
  refine hx_seq ?_
  refine hx_region ?_
  refine hl_val rfl rfl (v := (ptr t_b t_o)) (hv_move rfl) ?_
  obtain ⟨r, hr1, H⟩ := H
  refine hl_val rfl rfl (v := (.bool r)) (hv_call TyShQ.cb28 (vs := [(ptr t_b t_o)]) rfl hr1) ?_
  refine hl_val rfl rfl (v := (.bool (!r))) (hv_not (b := r) rfl) ?_
  refine hl_nil ?_
  refine seqQ_n ?_
  refine hx_cond (b := !r) rfl (fun hb2 => ?_) (fun hb2 => ?_)
  · replace H := H.1 hb2
    refine hx_seq ?_
    refine hx_region ?_
    refine hl_val rfl rfl (v := (.int .i64 0)) (hv_assign rfl) ?_
    refine hl_nil ?_
    refine seqQ_n ?_
    refine hx_ret ?_
    refine seqQ_ret ?_
    exact endQ_ret _ (res_one Try.results26 (rv_tmp rfl)) H
  · replace H := H.2 hb2
    refine hx_skip ?_
    refine seqQ_n ?_
    refine hx_seq ?_
    refine hx_region ?_
    refine hl_val rfl rfl (v := (.int .i64 0)) (hv_assign rfl) ?_
    refine hl_nil ?_
    refine seqQ_n ?_
    refine hx_seq ?_
    refine hx_seq ?_
    refine hx_region ?_
    refine hl_val rfl rfl (v := (ptr t_b t_o)) (hv_move rfl) ?_
    refine hl_val rfl rfl (v := (ptr t_b t_o)) (hv_nil rfl) ?_
    refine hl_val rfl rfl (v := (ptr t_b t_o)) (hv_field TyShQ.fld60_0 (b := t_b) (o := t_o) rfl) ?_
    obtain ⟨x, x_n, x_c, hc3, H⟩ := H
    refine hl_val rfl rfl (v := (.slice x x_n x_c)) (hv_load TyShQ.agg35 rfl hc3) ?_
    refine hl_val rfl rfl (v := (.int .i64 (x_n : Int))) (hv_len (n := x_n) TyShQ.u35 rfl) ?_
    refine hl_val rfl rfl (v := (.int .i64 0)) (hv_move rfl) ?_
    refine hl_nil ?_
    refine seqQ_n ?_
    refine hx_block ?_
    obtain ⟨I4, mu5, Ha6, Hr7⟩ := H
    refine hx_loopT (σ := Int × Int) (fun s => [(0, (ptr t_b t_o)), (3, (.int .i64 s.1)), (12, (.slice x x_n x_c)), (13, (.int .i64 (x_n : Int))), (14, (.int .i64 s.2))]) (fun s h' => I4 s.1 s.2 h' ∧ True) (fun s h' => mu5 s.1 s.2 h') (0, 0) ⟨Ha6, trivial⟩ (has_cons rfl (has_cons rfl (has_cons rfl (has_cons rfl (has_cons rfl has_nil))))) ?_
    rintro ⟨most, v⟩ ρ h1 ⟨Hi8, -⟩
    have H := Hr7 most v h1 Hi8
    refine hx_seq ?_
    refine hx_region ?_
    refine hl_val rfl rfl (v := (.bool (decide (v < (x_n : Int))))) (hv_arith rfl rfl rfl) ?_
    refine hl_nil ?_
    refine seqQ_n ?_
    refine hx_seq ?_
    refine hx_cond (b := decide (v < (x_n : Int))) rfl (fun hb9 => ?_) (fun hb9 => ?_)
    · replace H := H.1 hb9
      refine hx_skip ?_
      refine seqQ_n ?_
      obtain ⟨A12, Hx10, Hy11⟩ := H
      refine hx_cut (fun ρ h' => ∃ most_1 : Int, (A12 most_1 h' ∧ True) ∧ Has ρ [(0, (ptr t_b t_o)), (3, (.int .i64 most_1)), (12, (.slice x x_n x_c)), (13, (.int .i64 (x_n : Int))), (14, (.int .i64 v))]) ?_ ?_
      · have H := Hx10; clear Hx10 Hy11
        refine hx_block ?_
        refine hx_seq ?_
        refine hx_region ?_
        refine hl_val rfl rfl (v := (.int .i64 v)) (hv_move rfl) ?_
        obtain ⟨x_b, x_o, hqe, hi14, hi15, Hq⟩ := H
        subst hqe
        have H := Hq; clear Hq
        refine hl_val rfl rfl (v := (ptr x_b (x_o + (Int.toNat v) * 4))) (hv_index TyShQ.el35 rfl rfl hi14 hi15) ?_
        obtain ⟨x_Hash, x_At, x_Version, x_Hits, hc16, hc17, hc18, hc19, H⟩ := H
        refine hl_val rfl rfl (v := (.agg #[(.int .u64 x_Hash), (.int .u64 x_At), (.int .u64 x_Version), (.int .u8 x_Hits)])) (hv_loads (vs := [(.int .u64 x_Hash), (.int .u64 x_At), (.int .u64 x_Version), (.int .u8 x_Hits)]) TyShQ.agg31 TyShQ.sz31 rfl (hcells_cons hc16 (hcells_cons hc17 (hcells_cons hc18 (hcells_cons hc19 hcells_nil))))) ?_
        refine hl_step rfl rfl (hn_alloc TyShQ.z31 ?_)
        intro e h3 eb20 eh21
        have xx22 : Ext h1 h3 := by rw [eh21]; exact Ext.push _ _
        have lo24 : Array.size h1 ≤ e := Nat.le_of_eq (Eq.symm eb20)
        have hr23 : h3[e]? = some (.cells #[(.int .u64 0), (.int .u64 0), (.int .u64 0), (.int .u8 0)] 31 (0, 0)) := by rw [eh21]; exact push_new eb20
        refine hl_val rfl rfl (v := (.int .i64 v)) (hv_assign rfl) ?_
        refine hl_step rfl rfl (hn_stores (vs := [(.int .u64 x_Hash), (.int .u64 x_At), (.int .u64 x_Version), (.int .u8 x_Hits)]) rfl rfl TyShQ.sz31 rfl (HWs_row hr23 (by simp)) ?_)
        intro h4 eh25
        have hr23' : h4[e]? = some (.cells #[(.int .u64 x_Hash), (.int .u64 x_At), (.int .u64 x_Version), (.int .u8 x_Hits)] 31 (0, 0)) := row_hsets_eq eh25 hr23 rfl
        have xv26 := ext_hsets eh25 xx22 lo24
        refine hl_nil ?_
        refine seqQ_n ?_
        refine hx_seq ?_
        refine hx_region ?_
        refine hl_val rfl rfl (v := (.agg #[(.int .u64 x_Hash), (.int .u64 x_At), (.int .u64 x_Version), (.int .u8 x_Hits)])) (hv_loads (vs := [(.int .u64 x_Hash), (.int .u64 x_At), (.int .u64 x_Version), (.int .u8 x_Hits)]) TyShQ.agg31 TyShQ.sz31 rfl (hcells_cons (rowcell hr23' rfl) (hcells_cons (rowcell hr23' rfl) (hcells_cons (rowcell hr23' rfl) (hcells_cons (rowcell hr23' rfl) hcells_nil))))) ?_
        replace H := H h4 xv26
        refine hl_step rfl rfl (hs_call TyShQ.cb30 (vs := [(.agg #[(.int .u64 x_Hash), (.int .u64 x_At), (.int .u64 x_Version), (.int .u8 x_Hits)])]) rfl (HC.mono H ?_))
        rintro _ h5 ⟨he27, r_1, rfl, H⟩
        refine hl_val rfl rfl (v := (.bool (!r_1))) (hv_not (b := r_1) rfl) ?_
        refine hl_nil ?_
        refine seqQ_n ?_
        refine hx_cond (b := !r_1) rfl (fun hb28 => ?_) (fun hb28 => ?_)
        · replace H := H.1 hb28
          refine hx_region ?_
          refine hl_val rfl rfl (v := (.int .i64 most)) (hv_move rfl) ?_
          refine hl_val rfl rfl (v := (ptr t_b t_o)) (hv_move rfl) ?_
          refine hl_val rfl rfl (v := (.int .i64 v)) (hv_move rfl) ?_
          obtain ⟨r_2, hr29, H⟩ := H
          refine hl_val rfl rfl (v := (.int .i64 r_2)) (hv_call TyShQ.cb36 (vs := [(ptr t_b t_o), (.int .i64 v)]) rfl hr29) ?_
          refine hl_val rfl rfl (v := (.int .i64 (if r_2 > most then r_2 else most))) (hv_max rfl rfl) ?_
          refine hl_val rfl rfl (v := (.int .i64 (if r_2 > most then r_2 else most))) (hv_assign rfl) ?_
          refine hl_nil ?_
          refine blockQ_n ?_
          refine seqQ_n ?_
          exact ⟨_, ⟨H, trivial⟩, (has_cons rfl (has_cons rfl (has_cons rfl (has_cons rfl (has_cons rfl has_nil)))))⟩
        · replace H := H.2 hb28
          refine hx_skip ?_
          refine blockQ_n ?_
          refine seqQ_n ?_
          exact ⟨_, ⟨H, trivial⟩, (has_cons rfl (has_cons rfl (has_cons rfl (has_cons rfl (has_cons rfl has_nil)))))⟩
      · rintro ρ h2 ⟨most_1, ⟨HA13, -⟩, hH⟩
        have H := Hy11 most_1 h2 HA13; clear Hx10 Hy11
        refine hx_has _ hH ?_
        refine hx_region ?_
        refine hl_val rfl rfl (v := (.int .i64 (IntKind.i64.wrap (v + 1)))) (hv_arith rfl rfl rfl) ?_
        refine hl_val rfl rfl (v := (.int .i64 (IntKind.i64.wrap (v + 1)))) (hv_move rfl) ?_
        refine hl_nil ?_
        refine seqQ_n ?_
        exact ⟨(most_1, IntKind.i64.wrap (v + 1)), ⟨⟨H.1, trivial⟩, H.2⟩, (has_cons rfl (has_cons rfl (has_cons rfl (has_cons rfl (has_cons rfl has_nil)))))⟩
    · replace H := H.2 hb9
      refine hx_exit ?_
      refine seqQ_exit ?_
      refine seqQ_exit ?_
      refine blockQ_here ?_
      refine seqQ_n ?_
      refine hx_seq ?_
      refine hx_region ?_
      refine hl_val rfl rfl (v := (.int .i64 most)) (hv_move rfl) ?_
      refine hl_val rfl rfl (v := (.int .i64 most)) (hv_assign rfl) ?_
      refine hl_nil ?_
      refine seqQ_n ?_
      refine hx_ret ?_
      exact endQ_ret _ (res_one Try.results26 (rv_tmp rfl)) H

/-- (*cellar/cellarref11.Table).Longest -/
theorem f27_sh (t_b : Nat) (t_o : Nat) (h : Heap) (R : Value → Heap → Prop)
    (H : HC Try.prog 25 #[(ptr t_b t_o)] h (fun vv h1 => ∃ r : Option Addr, ∃ r_n r_c : Nat, vv = (.slice r r_n r_c) ∧ (∃ (I1 : Int → Int → Prop) (mu2 : Int → Int → Nat), I1 0 0 ∧ (∀ (far : Int) (i : Int), I1 far i → (((decide (i < (r_n : Int))) = true → (∃ far_1 : Int, (∃ r_b r_o : Nat, r = some ⟨r_b, r_o, none⟩ ∧ (0 : Int) ≤ i ∧ i < (r_n : Int) ∧ (∃ x : Int, hcell h1 r_b (r_o + (Int.toNat i) * 4) = some (.int .u64 x) ∧ (∃ r_1 : Int, HC Try.prog 46 #[(ptr t_b t_o), (.int .u64 x)] h1 (fun vv h' => vv = (.int .i64 r_1) ∧ h' = h1) ∧ ((r_n : Int) ≠ 0 ∧ (∃ j : Bool, (∃ x_1 : Int, hcell h1 r_b ((r_o + (Int.toNat i) * 4) + 1) = some (.int .u64 x_1) ∧ (((x_1 != 0) = true → (j = (decide ((Int.tmod (IntKind.i64.wrap ((IntKind.i64.wrap (i - r_1)) + (r_n : Int))) (r_n : Int)) > far)))) ∧ ((x_1 != 0) = false → (j = false)))) ∧ ((j = true → (far_1 = (Int.tmod (IntKind.i64.wrap ((IntKind.i64.wrap (i - r_1)) + (r_n : Int))) (r_n : Int)))) ∧ (j = false → (far_1 = far)))))))) ∧ (I1 far_1 (IntKind.i64.wrap (i + 1)) ∧ mu2 far_1 (IntKind.i64.wrap (i + 1)) < mu2 far i))) ∧ ((decide (i < (r_n : Int))) = false → R (.int .i64 far) h1)))))) :
    HC Try.prog 27 #[(ptr t_b t_o)] h R := by
  refine hc_of (args := [(ptr t_b t_o)]) Try.func27 rfl Try.ntmps27 (Nat.le_of_ble_eq_true rfl) ?_
  refine hx_seq ?_
  refine hx_region ?_
  refine hl_val rfl rfl (v := (.int .i64 0)) (hv_assign rfl) ?_
  refine hl_nil ?_
  refine seqQ_n ?_
  refine hx_seq ?_
  refine hx_region ?_
  refine hl_val rfl rfl (v := (ptr t_b t_o)) (hv_move rfl) ?_
  refine hl_step rfl rfl (hs_call TyShQ.cb25 (vs := [(ptr t_b t_o)]) rfl (HC.mono H ?_))
  rintro _ h1 ⟨r, r_n, r_c, rfl, H⟩
  refine hl_val rfl rfl (v := (.slice r r_n r_c)) (hv_assign rfl) ?_
  refine hl_nil ?_
  refine seqQ_n ?_
  refine hx_seq ?_
  refine hx_region ?_
  refine hl_val rfl rfl (v := (.int .i64 0)) (hv_assign rfl) ?_
  refine hl_nil ?_
  refine seqQ_n ?_
  refine hx_seq ?_
  refine hx_seq ?_
  refine hx_region ?_
  refine hl_val rfl rfl (v := (.int .i64 0)) (hv_assign rfl) ?_
  refine hl_nil ?_
  refine seqQ_n ?_
  refine hx_block ?_
  obtain ⟨I1, mu2, Ha3, Hr4⟩ := H
  refine hx_loopT (σ := Int × Int) (fun s => [(0, (ptr t_b t_o)), (3, (.slice r r_n r_c)), (4, (.int .i64 s.1)), (5, (.int .i64 s.2))]) (fun s h' => I1 s.1 s.2 ∧ h1 = h') (fun s _ => mu2 s.1 s.2) (0, 0) ⟨Ha3, rfl⟩ (has_cons rfl (has_cons rfl (has_cons rfl (has_cons rfl has_nil)))) ?_
  rintro ⟨far, i⟩ ρ _ ⟨Hi5, rfl⟩
  have H := Hr4 far i Hi5
  refine hx_seq ?_
  refine hx_seq ?_
  refine hx_region ?_
  refine hl_val rfl rfl (v := (.int .i64 i)) (hv_move rfl) ?_
  refine hl_val rfl rfl (v := (.slice r r_n r_c)) (hv_move rfl) ?_
  refine hl_val rfl rfl (v := (.int .i64 (r_n : Int))) (hv_len (n := r_n) TyShQ.u35 rfl) ?_
  refine hl_val rfl rfl (v := (.bool (decide (i < (r_n : Int))))) (hv_arith rfl rfl rfl) ?_
  refine hl_nil ?_
  refine seqQ_n ?_
  refine hx_cond (b := decide (i < (r_n : Int))) rfl (fun hb6 => ?_) (fun hb6 => ?_)
  · replace H := H.1 hb6
    refine hx_skip ?_
    refine seqQ_n ?_
    obtain ⟨far_1, Hx7, Hy8⟩ := H
    refine hx_cut (fun ρ h' => h1 = h' ∧ Has ρ [(0, (ptr t_b t_o)), (3, (.slice r r_n r_c)), (4, (.int .i64 far_1)), (5, (.int .i64 i))]) ?_ ?_
    · have H := Hx7; clear Hx7 Hy8
      refine hx_block ?_
      refine hx_seq ?_
      refine hx_region ?_
      refine hl_val rfl rfl (v := (.int .i64 i)) (hv_move rfl) ?_
      refine hl_val rfl rfl (v := (ptr t_b t_o)) (hv_move rfl) ?_
      refine hl_val rfl rfl (v := (.slice r r_n r_c)) (hv_move rfl) ?_
      refine hl_val rfl rfl (v := (.int .i64 i)) (hv_move rfl) ?_
      obtain ⟨r_b, r_o, hqe, hi9, hi10, Hq⟩ := H
      subst hqe
      have H := Hq; clear Hq
      refine hl_val rfl rfl (v := (ptr r_b (r_o + (Int.toNat i) * 4))) (hv_index TyShQ.el35 rfl rfl hi9 hi10) ?_
      refine hl_val rfl rfl (v := (ptr r_b (r_o + (Int.toNat i) * 4))) (hv_field TyShQ.fld31_0 (b := r_b) (o := r_o + (Int.toNat i) * 4) rfl) ?_
      obtain ⟨x, hc11, H⟩ := H
      refine hl_val rfl rfl (v := (.int .u64 x)) (hv_load TyShQ.agg29 rfl hc11) ?_
      obtain ⟨r_1, hr12, H⟩ := H
      refine hl_val rfl rfl (v := (.int .i64 r_1)) (hv_call TyShQ.cb46 (vs := [(ptr t_b t_o), (.int .u64 x)]) rfl hr12) ?_
      refine hl_val rfl rfl (v := (.int .i64 (IntKind.i64.wrap (i - r_1)))) (hv_arith rfl rfl rfl) ?_
      refine hl_val rfl rfl (v := (.slice (some ⟨r_b, r_o, none⟩) r_n r_c)) (hv_move rfl) ?_
      refine hl_val rfl rfl (v := (.int .i64 (r_n : Int))) (hv_len (n := r_n) TyShQ.u35 rfl) ?_
      refine hl_val rfl rfl (v := (.int .i64 (IntKind.i64.wrap ((IntKind.i64.wrap (i - r_1)) + (r_n : Int))))) (hv_arith rfl rfl rfl) ?_
      refine hl_val rfl rfl (v := (.slice (some ⟨r_b, r_o, none⟩) r_n r_c)) (hv_move rfl) ?_
      refine hl_val rfl rfl (v := (.int .i64 (r_n : Int))) (hv_len (n := r_n) TyShQ.u35 rfl) ?_
      obtain ⟨hz20, H⟩ := H
      refine hl_val rfl rfl (v := (.int .i64 (Int.tmod (IntKind.i64.wrap ((IntKind.i64.wrap (i - r_1)) + (r_n : Int))) (r_n : Int)))) (hv_rem rfl rfl hz20) ?_
      refine hl_val rfl rfl (v := (.int .i64 (Int.tmod (IntKind.i64.wrap ((IntKind.i64.wrap (i - r_1)) + (r_n : Int))) (r_n : Int)))) (hv_assign rfl) ?_
      refine hl_nil ?_
      refine seqQ_n ?_
      obtain ⟨j, Hx13, Hy14⟩ := H
      refine hx_cut (fun ρ h' => h1 = h' ∧ Has ρ [(0, (ptr t_b t_o)), (3, (.slice (some ⟨r_b, r_o, none⟩) r_n r_c)), (4, (.int .i64 far)), (5, (.int .i64 i)), (6, (.int .i64 (Int.tmod (IntKind.i64.wrap ((IntKind.i64.wrap (i - r_1)) + (r_n : Int))) (r_n : Int)))), (40, (.bool j))]) ?_ ?_
      · have H := Hx13; clear Hx13 Hy14
        refine hx_region ?_
        refine hl_val rfl rfl (v := (.slice (some ⟨r_b, r_o, none⟩) r_n r_c)) (hv_move rfl) ?_
        refine hl_val rfl rfl (v := (.int .i64 i)) (hv_move rfl) ?_
        refine hl_val rfl rfl (v := (ptr r_b (r_o + (Int.toNat i) * 4))) (hv_index TyShQ.el35 rfl rfl hi9 hi10) ?_
        refine hl_val rfl rfl (v := (ptr r_b ((r_o + (Int.toNat i) * 4) + 1))) (hv_field TyShQ.fld31_1 (b := r_b) (o := r_o + (Int.toNat i) * 4) rfl) ?_
        obtain ⟨x_1, hc17, H⟩ := H
        refine hl_val rfl rfl (v := (.int .u64 x_1)) (hv_load TyShQ.agg29 rfl hc17) ?_
        refine hl_val rfl rfl (v := (.bool (x_1 != 0))) (hv_arith rfl rfl rfl) ?_
        refine hl_val rfl rfl (v := (.bool (x_1 != 0))) (hv_move rfl) ?_
        rcases bool_or (x_1 != 0) with hg18 | hg18
        · replace H := H.1 hg18
          refine hl_yes (wanted_y rfl rfl rfl hg18) rfl (HStep.of_val (v := (.int .i64 (Int.tmod (IntKind.i64.wrap ((IntKind.i64.wrap (i - r_1)) + (r_n : Int))) (r_n : Int)))) (hv_move rfl) ?_)
          refine hl_yes (wanted_y rfl rfl rfl hg18) rfl (HStep.of_val (v := (.int .i64 far)) (hv_move rfl) ?_)
          refine hl_yes (wanted_y rfl rfl rfl hg18) rfl (HStep.of_val (v := (.bool (decide ((Int.tmod (IntKind.i64.wrap ((IntKind.i64.wrap (i - r_1)) + (r_n : Int))) (r_n : Int)) > far)))) (hv_arith rfl rfl rfl) ?_)
          refine hl_val rfl rfl (v := (.bool (decide ((Int.tmod (IntKind.i64.wrap ((IntKind.i64.wrap (i - r_1)) + (r_n : Int))) (r_n : Int)) > far)))) (hv_pick_t rfl hg18 rfl) ?_
          refine hl_nil ?_
          refine seqQ_n ?_
          obtain rfl := H
          exact ⟨rfl, (has_cons rfl (has_cons rfl (has_cons rfl (has_cons rfl (has_cons rfl (has_cons rfl has_nil))))))⟩
        · replace H := H.2 hg18
          refine hl_no (wanted_n rfl rfl rfl hg18) rfl ?_
          refine hl_no (wanted_n rfl rfl rfl hg18) rfl ?_
          refine hl_no (wanted_n rfl rfl rfl hg18) rfl ?_
          refine hl_val rfl rfl (v := (.bool false)) (hv_pick_f rfl hg18 rfl) ?_
          refine hl_nil ?_
          refine seqQ_n ?_
          obtain rfl := H
          exact ⟨rfl, (has_cons rfl (has_cons rfl (has_cons rfl (has_cons rfl (has_cons rfl (has_cons rfl has_nil))))))⟩
      · have H := Hy14; clear Hx13 Hy14
        rintro ρ _ ⟨rfl, hH⟩
        refine hx_has _ hH ?_
        refine hx_cond (b := j) rfl (fun hb19 => ?_) (fun hb19 => ?_)
        · replace H := H.1 hb19
          refine hx_region ?_
          refine hl_val rfl rfl (v := (.int .i64 (Int.tmod (IntKind.i64.wrap ((IntKind.i64.wrap (i - r_1)) + (r_n : Int))) (r_n : Int)))) (hv_move rfl) ?_
          refine hl_val rfl rfl (v := (.int .i64 (Int.tmod (IntKind.i64.wrap ((IntKind.i64.wrap (i - r_1)) + (r_n : Int))) (r_n : Int)))) (hv_assign rfl) ?_
          refine hl_nil ?_
          refine blockQ_n ?_
          refine seqQ_n ?_
          obtain rfl := H
          exact ⟨rfl, (has_cons rfl (has_cons rfl (has_cons rfl (has_cons rfl has_nil))))⟩
        · replace H := H.2 hb19
          refine hx_skip ?_
          refine blockQ_n ?_
          refine seqQ_n ?_
          obtain rfl := H
          exact ⟨rfl, (has_cons rfl (has_cons rfl (has_cons rfl (has_cons rfl has_nil))))⟩
    · have H := Hy8; clear Hx7 Hy8
      rintro ρ _ ⟨rfl, hH⟩
      refine hx_has _ hH ?_
      refine hx_region ?_
      refine hl_val rfl rfl (v := (.int .i64 i)) (hv_move rfl) ?_
      refine hl_val rfl rfl (v := (.int .i64 (IntKind.i64.wrap (i + 1)))) (hv_arith rfl rfl rfl) ?_
      refine hl_val rfl rfl (v := (.int .i64 (IntKind.i64.wrap (i + 1)))) (hv_assign rfl) ?_
      refine hl_nil ?_
      refine seqQ_n ?_
      exact ⟨(far_1, IntKind.i64.wrap (i + 1)), ⟨⟨H.1, rfl⟩, H.2⟩, (has_cons rfl (has_cons rfl (has_cons rfl (has_cons rfl has_nil))))⟩
  · replace H := H.2 hb6
    refine hx_exit ?_
    refine seqQ_exit ?_
    refine seqQ_exit ?_
    refine blockQ_here ?_
    refine seqQ_n ?_
    refine hx_seq ?_
    refine hx_region ?_
    refine hl_val rfl rfl (v := (.int .i64 far)) (hv_move rfl) ?_
    refine hl_val rfl rfl (v := (.int .i64 far)) (hv_assign rfl) ?_
    refine hl_nil ?_
    refine seqQ_n ?_
    refine hx_ret ?_
    exact endQ_ret _ (res_one Try.results27 (rv_tmp rfl)) H

/-- slices.DeleteFunc[[]cellar/api.Entry,cellar/api.Entry] -/
theorem f42_sh (sv : Option Addr) (s_n : Nat) (s_c : Nat) (del : Value) (h : Heap) (R : Value → Heap → Prop)
    (H : HC Try.prog 49 #[(.slice sv s_n s_c), del] h (fun vv h1 => ∃ r : Int, vv = (.int .i64 r) ∧ (((r == (-1)) = true → R (.slice sv s_n s_c) h1) ∧ ((r == (-1)) = false → (∃ (I2 : Int → Int → Heap → Prop) (mu3 : Int → Int → Heap → Nat), I2 r (IntKind.i64.wrap (r + 1)) h1 ∧ (∀ (i : Int) (j : Int) (h2 : Heap), I2 i j h2 → (((decide (j < (s_n : Int))) = true → (∃ A10 : Int → Heap → Prop, (∃ sv_b sv_o : Nat, sv = some ⟨sv_b, sv_o, none⟩ ∧ (0 : Int) ≤ j ∧ j < (s_n : Int) ∧ (∃ x_Hash x_At x_Version x_Hits : Int, hcell h2 sv_b (sv_o + (Int.toNat j) * 4) = some (.int .u64 x_Hash) ∧ hcell h2 sv_b ((sv_o + (Int.toNat j) * 4) + 1) = some (.int .u64 x_At) ∧ hcell h2 sv_b ((sv_o + (Int.toNat j) * 4) + 2) = some (.int .u64 x_Version) ∧ hcell h2 sv_b ((sv_o + (Int.toNat j) * 4) + 3) = some (.int .u8 x_Hits) ∧ (∀ (v : Nat) (h5 : Heap), Array.size h2 ≤ v → v < Array.size h5 → Ext h2 h5 → HCV Try.prog del [(.agg #[(.int .u64 x_Hash), (.int .u64 x_At), (.int .u64 x_Version), (.int .u8 x_Hits)])] h5 (fun vv h6 => Kp [v] h5 h6 ∧ ∃ r_1 : Bool, vv = (.bool r_1) ∧ (((!r_1) = true → ((0 : Int) ≤ i ∧ i < (s_n : Int) ∧ (HWs h6 sv_b (sv_o + (Int.toNat i) * 4) 4 ∧ ∀ h7, h7 = hsets h6 sv_b (sv_o + (Int.toNat i) * 4) [(.int .u64 x_Hash), (.int .u64 x_At), (.int .u64 x_Version), (.int .u8 x_Hits)] → (A10 (IntKind.i64.wrap (i + 1)) h7)))) ∧ ((!r_1) = false → (A10 i h6))))))) ∧ (∀ (i_1 : Int) (h3 : Heap), A10 i_1 h3 → (I2 i_1 (IntKind.i64.wrap (j + 1)) h3 ∧ mu3 i_1 (IntKind.i64.wrap (j + 1)) h3 < mu3 i j h2)))) ∧ ((decide (j < (s_n : Int))) = false → (0 ≤ (i : Int) ∧ i ≤ (s_n : Int) ∧ (s_n : Int) ≤ (s_c : Int) ∧ ∀ sl : Option Addr, sl = slA sv (Int.toNat i) 4 s_c → (((Int.toNat (s_n : Int) - Int.toNat i) ≠ 0 → ∃ cb co : Nat, sl = some ⟨cb, co, none⟩ ∧ HWs h2 cb co ((Int.toNat (s_n : Int) - Int.toNat i) * 4)) ∧ ∀ h8, ((Int.toNat (s_n : Int) - Int.toNat i) = 0 → h8 = h2) → (∀ cb co : Nat, (Int.toNat (s_n : Int) - Int.toNat i) ≠ 0 → sl = some ⟨cb, co, none⟩ → h8 = hsets h2 cb co (zcells [(.int .u64 0), (.int .u64 0), (.int .u64 0), (.int .u8 0)] (Int.toNat (s_n : Int) - Int.toNat i))) → (0 ≤ ((0 : Int) : Int) ∧ (0 : Int) ≤ i ∧ i ≤ (s_c : Int) ∧ ∀ sl_1 : Option Addr, sl_1 = slA sv (Int.toNat 0) 4 s_c → R (.slice sl_1 (Int.toNat i - Int.toNat 0) (s_c - Int.toNat 0)) h8))))))))))) :
    HC Try.prog 42 #[(.slice sv s_n s_c), del] h R := by
  refine hc_of (args := [(.slice sv s_n s_c), del]) Try.func42 rfl Try.ntmps42 (Nat.le_of_ble_eq_true rfl) ?_
  refine hx_seq ?_
  refine hx_region ?_
  refine hl_val rfl rfl (v := (.slice none 0 0)) (hv_assign rfl) ?_
  refine hl_nil ?_
  refine seqQ_n ?_
  refine hx_seq ?_
  refine hx_region ?_
  refine hl_val rfl rfl (v := (.slice sv s_n s_c)) (hv_move rfl) ?_
  refine hl_val rfl rfl (v := del) (hv_move rfl) ?_
  refine hl_step rfl rfl (hs_call TyShQ.cb49 (vs := [(.slice sv s_n s_c), del]) rfl (HC.mono H ?_))
  rintro _ h1 ⟨r, rfl, H⟩
  refine hl_val rfl rfl (v := (.int .i64 r)) (hv_assign rfl) ?_
  refine hl_nil ?_
  refine seqQ_n ?_
  refine hx_seq ?_
  refine hx_seq ?_
  refine hx_region ?_
  refine hl_val rfl rfl (v := (.int .i64 r)) (hv_move rfl) ?_
  refine hl_val rfl rfl (v := (.bool (r == (-1)))) (hv_arith rfl rfl rfl) ?_
  refine hl_nil ?_
  refine seqQ_n ?_
  refine hx_cond (b := r == (-1)) rfl (fun hb1 => ?_) (fun hb1 => ?_)
  · replace H := H.1 hb1
    refine hx_seq ?_
    refine hx_region ?_
    refine hl_val rfl rfl (v := (.slice sv s_n s_c)) (hv_move rfl) ?_
    refine hl_val rfl rfl (v := (.slice sv s_n s_c)) (hv_assign rfl) ?_
    refine hl_nil ?_
    refine seqQ_n ?_
    refine hx_ret ?_
    refine seqQ_ret ?_
    exact endQ_ret _ (res_one Try.results42 (rv_tmp rfl)) H
  · replace H := H.2 hb1
    refine hx_skip ?_
    refine seqQ_n ?_
    refine hx_seq ?_
    refine hx_seq ?_
    refine hx_region ?_
    refine hl_val rfl rfl (v := (.int .i64 r)) (hv_move rfl) ?_
    refine hl_val rfl rfl (v := (.int .i64 (IntKind.i64.wrap (r + 1)))) (hv_arith rfl rfl rfl) ?_
    refine hl_val rfl rfl (v := (.int .i64 (IntKind.i64.wrap (r + 1)))) (hv_assign rfl) ?_
    refine hl_nil ?_
    refine seqQ_n ?_
    refine hx_block ?_
    obtain ⟨I2, mu3, Ha4, Hr5⟩ := H
    refine hx_loopT (σ := Int × Int) (fun s => [(0, (.slice sv s_n s_c)), (1, del), (5, (.int .i64 s.1)), (6, (.int .i64 s.2))]) (fun s h' => I2 s.1 s.2 h' ∧ True) (fun s h' => mu3 s.1 s.2 h') (r, IntKind.i64.wrap (r + 1)) ⟨Ha4, trivial⟩ (has_cons rfl (has_cons rfl (has_cons rfl (has_cons rfl has_nil)))) ?_
    rintro ⟨i, j⟩ ρ h2 ⟨Hi6, -⟩
    have H := Hr5 i j h2 Hi6
    refine hx_seq ?_
    refine hx_seq ?_
    refine hx_region ?_
    refine hl_val rfl rfl (v := (.int .i64 j)) (hv_move rfl) ?_
    refine hl_val rfl rfl (v := (.slice sv s_n s_c)) (hv_move rfl) ?_
    refine hl_val rfl rfl (v := (.int .i64 (s_n : Int))) (hv_len (n := s_n) TyShQ.u35 rfl) ?_
    refine hl_val rfl rfl (v := (.bool (decide (j < (s_n : Int))))) (hv_arith rfl rfl rfl) ?_
    refine hl_nil ?_
    refine seqQ_n ?_
    refine hx_cond (b := decide (j < (s_n : Int))) rfl (fun hb7 => ?_) (fun hb7 => ?_)
    · replace H := H.1 hb7
      refine hx_skip ?_
      refine seqQ_n ?_
      obtain ⟨A10, Hx8, Hy9⟩ := H
      refine hx_cut (fun ρ h' => ∃ i_1 : Int, (A10 i_1 h' ∧ True) ∧ Has ρ [(0, (.slice sv s_n s_c)), (1, del), (5, (.int .i64 i_1)), (6, (.int .i64 j))]) ?_ ?_
      · have H := Hx8; clear Hx8 Hy9
        refine hx_block ?_
        refine hx_seq ?_
        refine hx_region ?_
        refine hl_val rfl rfl (v := (.slice sv s_n s_c)) (hv_move rfl) ?_
        refine hl_val rfl rfl (v := (.int .i64 j)) (hv_move rfl) ?_
        obtain ⟨sv_b, sv_o, hqe, hi12, hi13, Hq⟩ := H
        subst hqe
        have H := Hq; clear Hq
        refine hl_val rfl rfl (v := (ptr sv_b (sv_o + (Int.toNat j) * 4))) (hv_index TyShQ.el35 rfl rfl hi12 hi13) ?_
        obtain ⟨x_Hash, x_At, x_Version, x_Hits, hc14, hc15, hc16, hc17, H⟩ := H
        refine hl_val rfl rfl (v := (.agg #[(.int .u64 x_Hash), (.int .u64 x_At), (.int .u64 x_Version), (.int .u8 x_Hits)])) (hv_loads (vs := [(.int .u64 x_Hash), (.int .u64 x_At), (.int .u64 x_Version), (.int .u8 x_Hits)]) TyShQ.agg31 TyShQ.sz31 rfl (hcells_cons hc14 (hcells_cons hc15 (hcells_cons hc16 (hcells_cons hc17 hcells_nil))))) ?_
        refine hl_step rfl rfl (hn_alloc TyShQ.z31 ?_)
        intro v h4 eb18 eh19
        have xx20 : Ext h2 h4 := by rw [eh19]; exact Ext.push _ _
        have lo22 : Array.size h2 ≤ v := Nat.le_of_eq (Eq.symm eb18)
        have hr21 : h4[v]? = some (.cells #[(.int .u64 0), (.int .u64 0), (.int .u64 0), (.int .u8 0)] 31 (0, 0)) := by rw [eh19]; exact push_new eb18
        refine hl_step rfl rfl (hn_stores (vs := [(.int .u64 x_Hash), (.int .u64 x_At), (.int .u64 x_Version), (.int .u8 x_Hits)]) rfl rfl TyShQ.sz31 rfl (HWs_row hr21 (by simp)) ?_)
        intro h5 eh23
        have hr21' : h5[v]? = some (.cells #[(.int .u64 x_Hash), (.int .u64 x_At), (.int .u64 x_Version), (.int .u8 x_Hits)] 31 (0, 0)) := row_hsets_eq eh23 hr21 rfl
        have xv24 := ext_hsets eh23 xx20 lo22
        refine hl_nil ?_
        refine seqQ_n ?_
        refine hx_seq ?_
        refine hx_region ?_
        refine hl_val rfl rfl (v := del) (hv_move rfl) ?_
        refine hl_val rfl rfl (v := (.agg #[(.int .u64 x_Hash), (.int .u64 x_At), (.int .u64 x_Version), (.int .u8 x_Hits)])) (hv_loads (vs := [(.int .u64 x_Hash), (.int .u64 x_At), (.int .u64 x_Version), (.int .u8 x_Hits)]) TyShQ.agg31 TyShQ.sz31 rfl (hcells_cons (rowcell hr21' rfl) (hcells_cons (rowcell hr21' rfl) (hcells_cons (rowcell hr21' rfl) (hcells_cons (rowcell hr21' rfl) hcells_nil))))) ?_
        replace H := H v h5 lo22 (row_lt hr21') xv24
        refine hl_step rfl rfl (hs_callF (vs := [(.agg #[(.int .u64 x_Hash), (.int .u64 x_At), (.int .u64 x_Version), (.int .u8 x_Hits)])]) rfl rfl (HCV.mono H ?_))
        rintro _ h6 ⟨kp25, r_1, rfl, H⟩
        replace hr21' := Kp.row kp25 (by simp) hr21'
        refine hl_val rfl rfl (v := (.bool (!r_1))) (hv_not (b := r_1) rfl) ?_
        refine hl_nil ?_
        refine seqQ_n ?_
        refine hx_cond (b := !r_1) rfl (fun hb26 => ?_) (fun hb26 => ?_)
        · replace H := H.1 hb26
          refine hx_seq ?_
          refine hx_region ?_
          refine hl_val rfl rfl (v := (.slice (some ⟨sv_b, sv_o, none⟩) s_n s_c)) (hv_move rfl) ?_
          refine hl_val rfl rfl (v := (.int .i64 i)) (hv_move rfl) ?_
          refine hl_val rfl rfl (v := (.agg #[(.int .u64 x_Hash), (.int .u64 x_At), (.int .u64 x_Version), (.int .u8 x_Hits)])) (hv_loads (vs := [(.int .u64 x_Hash), (.int .u64 x_At), (.int .u64 x_Version), (.int .u8 x_Hits)]) TyShQ.agg31 TyShQ.sz31 rfl (hcells_cons (rowcell hr21' rfl) (hcells_cons (rowcell hr21' rfl) (hcells_cons (rowcell hr21' rfl) (hcells_cons (rowcell hr21' rfl) hcells_nil))))) ?_
          obtain ⟨hi27, hi28, H⟩ := H
          refine hl_val rfl rfl (v := (ptr sv_b (sv_o + (Int.toNat i) * 4))) (hv_index TyShQ.el35 rfl rfl hi27 hi28) ?_
          obtain ⟨hw30, H⟩ := H
          refine hl_step rfl rfl (hn_stores (vs := [(.int .u64 x_Hash), (.int .u64 x_At), (.int .u64 x_Version), (.int .u8 x_Hits)]) rfl rfl TyShQ.sz31 rfl hw30 ?_)
          intro h7 eh29
          replace H := H h7 eh29
          refine hl_nil ?_
          refine seqQ_n ?_
          refine hx_region ?_
          refine hl_val rfl rfl (v := (.int .i64 i)) (hv_move rfl) ?_
          refine hl_val rfl rfl (v := (.int .i64 (IntKind.i64.wrap (i + 1)))) (hv_arith rfl rfl rfl) ?_
          refine hl_val rfl rfl (v := (.int .i64 (IntKind.i64.wrap (i + 1)))) (hv_assign rfl) ?_
          refine hl_nil ?_
          refine blockQ_n ?_
          refine seqQ_n ?_
          exact ⟨_, ⟨H, trivial⟩, (has_cons rfl (has_cons rfl (has_cons rfl (has_cons rfl has_nil))))⟩
        · replace H := H.2 hb26
          refine hx_skip ?_
          refine blockQ_n ?_
          refine seqQ_n ?_
          exact ⟨_, ⟨H, trivial⟩, (has_cons rfl (has_cons rfl (has_cons rfl (has_cons rfl has_nil))))⟩
      · rintro ρ h3 ⟨i_1, ⟨HA11, -⟩, hH⟩
        have H := Hy9 i_1 h3 HA11; clear Hx8 Hy9
        refine hx_has _ hH ?_
        refine hx_region ?_
        refine hl_val rfl rfl (v := (.int .i64 j)) (hv_move rfl) ?_
        refine hl_val rfl rfl (v := (.int .i64 (IntKind.i64.wrap (j + 1)))) (hv_arith rfl rfl rfl) ?_
        refine hl_val rfl rfl (v := (.int .i64 (IntKind.i64.wrap (j + 1)))) (hv_assign rfl) ?_
        refine hl_nil ?_
        refine seqQ_n ?_
        exact ⟨(i_1, IntKind.i64.wrap (j + 1)), ⟨⟨H.1, trivial⟩, H.2⟩, (has_cons rfl (has_cons rfl (has_cons rfl (has_cons rfl has_nil))))⟩
    · replace H := H.2 hb7
      refine hx_exit ?_
      refine seqQ_exit ?_
      refine seqQ_exit ?_
      refine blockQ_here ?_
      refine seqQ_n ?_
      refine hx_seq ?_
      refine hx_region ?_
      refine hl_val rfl rfl (v := (.slice sv s_n s_c)) (hv_move rfl) ?_
      refine hl_val rfl rfl (v := (.int .i64 i)) (hv_move rfl) ?_
      obtain ⟨hs31, hs32, hs33, H⟩ := H
      obtain ⟨sl, hq34⟩ : ∃ q, q = slA sv (Int.toNat i) 4 s_c := ⟨_, rfl⟩
      replace H := H sl hq34
      refine hl_val rfl rfl (v := (.slice sl (Int.toNat (s_n : Int) - Int.toNat i) (s_c - Int.toNat i))) (hv_slice (l := i) (r := (s_n : Int)) TyShQ.u35 TyShQ.sz31 rfl (sl_some rfl) sh_none hs31 hs32 hs33 hq34) ?_
      obtain ⟨hw35, H⟩ := H
      refine hl_step rfl rfl (hn_clear2 (zs := [(.int .u64 0), (.int .u64 0), (.int .u64 0), (.int .u8 0)]) TyShQ.u35 TyShQ.z31 rfl (by decide) rfl rfl hw35 ?_)
      intro h8 hz36 hn37
      replace H := H h8 hz36 hn37
      refine hl_nil ?_
      refine seqQ_n ?_
      refine hx_seq ?_
      refine hx_region ?_
      refine hl_val rfl rfl (v := (.slice sv s_n s_c)) (hv_move rfl) ?_
      refine hl_val rfl rfl (v := (.int .i64 i)) (hv_move rfl) ?_
      obtain ⟨hs38, hs39, hs40, H⟩ := H
      obtain ⟨sl_1, hq41⟩ : ∃ q, q = slA sv (Int.toNat 0) 4 s_c := ⟨_, rfl⟩
      replace H := H sl_1 hq41
      refine hl_val rfl rfl (v := (.slice sl_1 (Int.toNat i - Int.toNat 0) (s_c - Int.toNat 0))) (hv_slice (l := 0) (r := i) TyShQ.u35 TyShQ.sz31 rfl sl_none (sh_some rfl) hs38 hs39 hs40 hq41) ?_
      refine hl_val rfl rfl (v := (.slice sl_1 (Int.toNat i - Int.toNat 0) (s_c - Int.toNat 0))) (hv_assign rfl) ?_
      refine hl_nil ?_
      refine seqQ_n ?_
      refine hx_ret ?_
      exact endQ_ret _ (res_one Try.results42 (rv_tmp rfl)) H

/-- slices.IndexFunc[[]cellar/api.Entry,cellar/api.Entry] -/
theorem f49_sh (sv : Option Addr) (s_n : Nat) (s_c : Nat) (f : Value) (h : Heap) (R : Value → Heap → Prop)
    (H : (∃ (I1 : Int → Heap → Prop) (mu2 : Int → Heap → Nat), I1 0 h ∧ (∀ (v : Int) (h1 : Heap), I1 v h1 → (((decide (v < (s_n : Int))) = true → (∃ sv_b sv_o : Nat, sv = some ⟨sv_b, sv_o, none⟩ ∧ (0 : Int) ≤ v ∧ v < (s_n : Int) ∧ (∃ x_Hash x_At x_Version x_Hits : Int, hcell h1 sv_b (sv_o + (Int.toNat v) * 4) = some (.int .u64 x_Hash) ∧ hcell h1 sv_b ((sv_o + (Int.toNat v) * 4) + 1) = some (.int .u64 x_At) ∧ hcell h1 sv_b ((sv_o + (Int.toNat v) * 4) + 2) = some (.int .u64 x_Version) ∧ hcell h1 sv_b ((sv_o + (Int.toNat v) * 4) + 3) = some (.int .u8 x_Hits) ∧ HCV Try.prog f [(.agg #[(.int .u64 x_Hash), (.int .u64 x_At), (.int .u64 x_Version), (.int .u8 x_Hits)])] h1 (fun vv h2 => ∃ r : Bool, vv = (.bool r) ∧ ((r = true → R (.int .i64 v) h2) ∧ (r = false → (I1 (IntKind.i64.wrap (v + 1)) h2 ∧ mu2 (IntKind.i64.wrap (v + 1)) h2 < mu2 v h1))))))) ∧ ((decide (v < (s_n : Int))) = false → R (.int .i64 (-1)) h1))))) :
    HC Try.prog 49 #[(.slice sv s_n s_c), f] h R := by
  refine hc_of (args := [(.slice sv s_n s_c), f]) Try.func49 rfl Try.ntmps49 (Nat.le_of_ble_eq_true rfl) ?_
  refine hx_seq ?_
  refine hx_region ?_
  refine hl_val rfl rfl (v := (.int .i64 0)) (hv_assign rfl) ?_
  refine hl_nil ?_
  refine seqQ_n ?_
  refine hx_seq ?_
  refine hx_seq ?_
  refine hx_region ?_
  refine hl_val rfl rfl (v := (.slice sv s_n s_c)) (hv_move rfl) ?_
  refine hl_val rfl rfl (v := (.int .i64 (s_n : Int))) (hv_len (n := s_n) TyShQ.u35 rfl) ?_
  refine hl_val rfl rfl (v := (.int .i64 0)) (hv_move rfl) ?_
  refine hl_nil ?_
  refine seqQ_n ?_
  refine hx_block ?_
  obtain ⟨I1, mu2, Ha3, Hr4⟩ := H
  refine hx_loopT (σ := Int) (fun s => [(0, (.slice sv s_n s_c)), (1, f), (7, (.int .i64 (s_n : Int))), (8, (.int .i64 s))]) (fun s h' => I1 s h' ∧ True) (fun s h' => mu2 s h') 0 ⟨Ha3, trivial⟩ (has_cons rfl (has_cons rfl (has_cons rfl (has_cons rfl has_nil)))) ?_
  rintro v ρ h1 ⟨Hi5, -⟩
  have H := Hr4 v h1 Hi5
  refine hx_seq ?_
  refine hx_region ?_
  refine hl_val rfl rfl (v := (.bool (decide (v < (s_n : Int))))) (hv_arith rfl rfl rfl) ?_
  refine hl_nil ?_
  refine seqQ_n ?_
  refine hx_seq ?_
  refine hx_cond (b := decide (v < (s_n : Int))) rfl (fun hb6 => ?_) (fun hb6 => ?_)
  · replace H := H.1 hb6
    refine hx_skip ?_
    refine seqQ_n ?_
    refine hx_seq ?_
    refine hx_block ?_
    refine hx_seq ?_
    refine hx_region ?_
    refine hl_val rfl rfl (v := (.int .i64 v)) (hv_move rfl) ?_
    refine hl_val rfl rfl (v := (.int .i64 v)) (hv_assign rfl) ?_
    refine hl_nil ?_
    refine seqQ_n ?_
    refine hx_seq ?_
    refine hx_region ?_
    refine hl_val rfl rfl (v := f) (hv_move rfl) ?_
    refine hl_val rfl rfl (v := (.slice sv s_n s_c)) (hv_move rfl) ?_
    refine hl_val rfl rfl (v := (.int .i64 v)) (hv_move rfl) ?_
    obtain ⟨sv_b, sv_o, hqe, hi7, hi8, Hq⟩ := H
    subst hqe
    have H := Hq; clear Hq
    refine hl_val rfl rfl (v := (ptr sv_b (sv_o + (Int.toNat v) * 4))) (hv_index TyShQ.el35 rfl rfl hi7 hi8) ?_
    obtain ⟨x_Hash, x_At, x_Version, x_Hits, hc9, hc10, hc11, hc12, H⟩ := H
    refine hl_val rfl rfl (v := (.agg #[(.int .u64 x_Hash), (.int .u64 x_At), (.int .u64 x_Version), (.int .u8 x_Hits)])) (hv_loads (vs := [(.int .u64 x_Hash), (.int .u64 x_At), (.int .u64 x_Version), (.int .u8 x_Hits)]) TyShQ.agg31 TyShQ.sz31 rfl (hcells_cons hc9 (hcells_cons hc10 (hcells_cons hc11 (hcells_cons hc12 hcells_nil))))) ?_
    refine hl_step rfl rfl (hs_callF (vs := [(.agg #[(.int .u64 x_Hash), (.int .u64 x_At), (.int .u64 x_Version), (.int .u8 x_Hits)])]) rfl rfl (HCV.mono H ?_))
    rintro _ h2 ⟨r, rfl, H⟩
    refine hl_nil ?_
    refine seqQ_n ?_
    refine hx_cond (b := r) rfl (fun hb13 => ?_) (fun hb13 => ?_)
    · replace H := H.1 hb13
      refine hx_seq ?_
      refine hx_region ?_
      refine hl_val rfl rfl (v := (.int .i64 v)) (hv_move rfl) ?_
      refine hl_val rfl rfl (v := (.int .i64 v)) (hv_assign rfl) ?_
      refine hl_nil ?_
      refine seqQ_n ?_
      refine hx_ret ?_
      refine blockQ_ret ?_
      refine seqQ_ret ?_
      refine seqQ_ret ?_
      refine blockQ_ret ?_
      refine seqQ_ret ?_
      exact endQ_ret _ (res_one Try.results49 (rv_tmp rfl)) H
    · replace H := H.2 hb13
      refine hx_skip ?_
      refine blockQ_n ?_
      refine seqQ_n ?_
      refine hx_region ?_
      refine hl_val rfl rfl (v := (.int .i64 (IntKind.i64.wrap (v + 1)))) (hv_arith rfl rfl rfl) ?_
      refine hl_val rfl rfl (v := (.int .i64 (IntKind.i64.wrap (v + 1)))) (hv_move rfl) ?_
      refine hl_nil ?_
      refine seqQ_n ?_
      exact ⟨IntKind.i64.wrap (v + 1), ⟨⟨H.1, trivial⟩, H.2⟩, (has_cons rfl (has_cons rfl (has_cons rfl (has_cons rfl has_nil))))⟩
  · replace H := H.2 hb6
    refine hx_exit ?_
    refine seqQ_exit ?_
    refine seqQ_exit ?_
    refine blockQ_here ?_
    refine seqQ_n ?_
    refine hx_seq ?_
    refine hx_region ?_
    refine hl_val rfl rfl (v := (.int .i64 (-1))) (hv_assign rfl) ?_
    refine hl_nil ?_
    refine seqQ_n ?_
    refine hx_ret ?_
    exact endQ_ret _ (res_one Try.results49 (rv_tmp rfl)) H

/-- (*cellar/table.Table).All$1 -/
theorem f41_sh (yield : Value) (cap0_b : Nat) (cap0_o : Nat) (h : Heap) (R : Value → Heap → Prop)
    (H : (∃ x : Option Addr, hcell h cap0_b cap0_o = some (.pointer x) ∧ HC Try.prog 13 #[(.pointer x)] h (fun vv h1 => ∃ r : Option Addr, ∃ r_n r_c : Nat, vv = (.slice r r_n r_c) ∧ HC Try.prog 42 #[(.slice r r_n r_c), (.func (.func 30) #[] #[])] h1 (fun vv h2 => ∃ r_1 : Option Addr, ∃ r_n_1 r_c_1 : Nat, vv = (.slice r_1 r_n_1 r_c_1) ∧ HC Try.prog 43 #[(.slice r_1 r_n_1 r_c_1), (.func (.func 44) #[] #[])] h2 (fun vv h3 => vv = (.tuple #[]) ∧ (∃ (I2 : Int → Heap → Prop) (mu3 : Int → Heap → Nat), I2 0 h3 ∧ (∀ (v : Int) (h4 : Heap), I2 v h4 → (((decide (v < (r_n_1 : Int))) = true → (∃ r_1_b r_1_o : Nat, r_1 = some ⟨r_1_b, r_1_o, none⟩ ∧ (0 : Int) ≤ v ∧ v < (r_n_1 : Int) ∧ (∃ x_Hash x_At x_Version x_Hits : Int, hcell h4 r_1_b (r_1_o + (Int.toNat v) * 4) = some (.int .u64 x_Hash) ∧ hcell h4 r_1_b ((r_1_o + (Int.toNat v) * 4) + 1) = some (.int .u64 x_At) ∧ hcell h4 r_1_b ((r_1_o + (Int.toNat v) * 4) + 2) = some (.int .u64 x_Version) ∧ hcell h4 r_1_b ((r_1_o + (Int.toNat v) * 4) + 3) = some (.int .u8 x_Hits) ∧ (∀ (h6 : Heap), Ext h4 h6 → HCV Try.prog yield [(.agg #[(.int .u64 x_Hash), (.int .u64 x_At), (.int .u64 x_Version), (.int .u8 x_Hits)])] h6 (fun vv h7 => ∃ r_2 : Bool, vv = (.bool r_2) ∧ (((!r_2) = true → R (.tuple #[]) h7) ∧ ((!r_2) = false → (I2 (IntKind.i64.wrap (v + 1)) h7 ∧ mu3 (IntKind.i64.wrap (v + 1)) h7 < mu3 v h4)))))))) ∧ ((decide (v < (r_n_1 : Int))) = false → R (.tuple #[]) h4))))))))) :
    HC Try.prog 41 #[yield, (ptr cap0_b cap0_o)] h R := by
  refine hc_of (args := [yield, (ptr cap0_b cap0_o)]) Try.func41 rfl Try.ntmps41 (Nat.le_of_ble_eq_true rfl) ?_
  refine hx_seq ?_
  refine hx_region ?_
  obtain ⟨x, hc1, H⟩ := H
  refine hl_val rfl rfl (v := (.pointer x)) (hv_load TyShQ.agg24 rfl hc1) ?_
  refine hl_step rfl rfl (hs_call TyShQ.cb13 (vs := [(.pointer x)]) rfl (HC.mono H ?_))
  rintro _ h1 ⟨r, r_n, r_c, rfl, H⟩
  refine hl_step rfl rfl (hs_call TyShQ.cb42 (vs := [(.slice r r_n r_c), (.func (.func 30) #[] #[])]) rfl (HC.mono H ?_))
  rintro _ h2 ⟨r_1, r_n_1, r_c_1, rfl, H⟩
  refine hl_val rfl rfl (v := (.slice r_1 r_n_1 r_c_1)) (hv_assign rfl) ?_
  refine hl_nil ?_
  refine seqQ_n ?_
  refine hx_seq ?_
  refine hx_region ?_
  refine hl_val rfl rfl (v := (.slice r_1 r_n_1 r_c_1)) (hv_move rfl) ?_
  refine hl_step rfl rfl (hs_call TyShQ.cb43 (vs := [(.slice r_1 r_n_1 r_c_1), (.func (.func 44) #[] #[])]) rfl (HC.mono H ?_))
  rintro _ h3 ⟨rfl, H⟩
  refine hl_nil ?_
  refine seqQ_n ?_
  refine hx_seq ?_
  refine hx_region ?_
  refine hl_val rfl rfl (v := (.slice r_1 r_n_1 r_c_1)) (hv_move rfl) ?_
  refine hl_val rfl rfl (v := (.int .i64 (r_n_1 : Int))) (hv_len (n := r_n_1) TyShQ.u35 rfl) ?_
  refine hl_val rfl rfl (v := (.int .i64 0)) (hv_move rfl) ?_
  refine hl_nil ?_
  refine seqQ_n ?_
  refine hx_block ?_
  obtain ⟨I2, mu3, Ha4, Hr5⟩ := H
  refine hx_loopT (σ := Int) (fun s => [(0, yield), (11, (.slice r_1 r_n_1 r_c_1)), (12, (.int .i64 (r_n_1 : Int))), (13, (.int .i64 s))]) (fun s h' => I2 s h' ∧ True) (fun s h' => mu3 s h') 0 ⟨Ha4, trivial⟩ (has_cons rfl (has_cons rfl (has_cons rfl (has_cons rfl has_nil)))) ?_
  rintro v ρ h4 ⟨Hi6, -⟩
  have H := Hr5 v h4 Hi6
  refine hx_seq ?_
  refine hx_region ?_
  refine hl_val rfl rfl (v := (.bool (decide (v < (r_n_1 : Int))))) (hv_arith rfl rfl rfl) ?_
  refine hl_nil ?_
  refine seqQ_n ?_
  refine hx_seq ?_
  refine hx_cond (b := decide (v < (r_n_1 : Int))) rfl (fun hb7 => ?_) (fun hb7 => ?_)
  · replace H := H.1 hb7
    refine hx_skip ?_
    refine seqQ_n ?_
    refine hx_seq ?_
    refine hx_block ?_
    refine hx_seq ?_
    refine hx_region ?_
    obtain ⟨r_1_b, r_1_o, hqe, hi8, hi9, Hq⟩ := H
    subst hqe
    have H := Hq; clear Hq
    refine hl_val rfl rfl (v := (ptr r_1_b (r_1_o + (Int.toNat v) * 4))) (hv_index TyShQ.el35 rfl rfl hi8 hi9) ?_
    obtain ⟨x_Hash, x_At, x_Version, x_Hits, hc10, hc11, hc12, hc13, H⟩ := H
    refine hl_val rfl rfl (v := (.agg #[(.int .u64 x_Hash), (.int .u64 x_At), (.int .u64 x_Version), (.int .u8 x_Hits)])) (hv_loads (vs := [(.int .u64 x_Hash), (.int .u64 x_At), (.int .u64 x_Version), (.int .u8 x_Hits)]) TyShQ.agg31 TyShQ.sz31 rfl (hcells_cons hc10 (hcells_cons hc11 (hcells_cons hc12 (hcells_cons hc13 hcells_nil))))) ?_
    refine hl_step rfl rfl (hn_alloc TyShQ.z31 ?_)
    intro e h5 eb14 eh15
    have xx16 : Ext h4 h5 := by rw [eh15]; exact Ext.push _ _
    have lo18 : Array.size h4 ≤ e := Nat.le_of_eq (Eq.symm eb14)
    have hr17 : h5[e]? = some (.cells #[(.int .u64 0), (.int .u64 0), (.int .u64 0), (.int .u8 0)] 31 (0, 0)) := by rw [eh15]; exact push_new eb14
    refine hl_step rfl rfl (hn_stores (vs := [(.int .u64 x_Hash), (.int .u64 x_At), (.int .u64 x_Version), (.int .u8 x_Hits)]) rfl rfl TyShQ.sz31 rfl (HWs_row hr17 (by simp)) ?_)
    intro h6 eh19
    have hr17' : h6[e]? = some (.cells #[(.int .u64 x_Hash), (.int .u64 x_At), (.int .u64 x_Version), (.int .u8 x_Hits)] 31 (0, 0)) := row_hsets_eq eh19 hr17 rfl
    have xv20 := ext_hsets eh19 xx16 lo18
    refine hl_nil ?_
    refine seqQ_n ?_
    refine hx_seq ?_
    refine hx_region ?_
    refine hl_val rfl rfl (v := yield) (hv_move rfl) ?_
    refine hl_val rfl rfl (v := (.agg #[(.int .u64 x_Hash), (.int .u64 x_At), (.int .u64 x_Version), (.int .u8 x_Hits)])) (hv_loads (vs := [(.int .u64 x_Hash), (.int .u64 x_At), (.int .u64 x_Version), (.int .u8 x_Hits)]) TyShQ.agg31 TyShQ.sz31 rfl (hcells_cons (rowcell hr17' rfl) (hcells_cons (rowcell hr17' rfl) (hcells_cons (rowcell hr17' rfl) (hcells_cons (rowcell hr17' rfl) hcells_nil))))) ?_
    replace H := H h6 xv20
    refine hl_step rfl rfl (hs_callF (vs := [(.agg #[(.int .u64 x_Hash), (.int .u64 x_At), (.int .u64 x_Version), (.int .u8 x_Hits)])]) rfl rfl (HCV.mono H ?_))
    rintro _ h7 ⟨r_2, rfl, H⟩
    refine hl_val rfl rfl (v := (.bool (!r_2))) (hv_not (b := r_2) rfl) ?_
    refine hl_nil ?_
    refine seqQ_n ?_
    refine hx_cond (b := !r_2) rfl (fun hb21 => ?_) (fun hb21 => ?_)
    · replace H := H.1 hb21
      refine hx_ret ?_
      refine blockQ_ret ?_
      refine seqQ_ret ?_
      refine seqQ_ret ?_
      refine blockQ_ret ?_
      exact endQ_ret _ (res_none Try.results41 ) H
    · replace H := H.2 hb21
      refine hx_skip ?_
      refine blockQ_n ?_
      refine seqQ_n ?_
      refine hx_region ?_
      refine hl_val rfl rfl (v := (.int .i64 (IntKind.i64.wrap (v + 1)))) (hv_arith rfl rfl rfl) ?_
      refine hl_val rfl rfl (v := (.int .i64 (IntKind.i64.wrap (v + 1)))) (hv_move rfl) ?_
      refine hl_nil ?_
      refine seqQ_n ?_
      exact ⟨IntKind.i64.wrap (v + 1), ⟨⟨H.1, trivial⟩, H.2⟩, (has_cons rfl (has_cons rfl (has_cons rfl (has_cons rfl has_nil))))⟩
  · replace H := H.2 hb7
    refine hx_exit ?_
    refine seqQ_exit ?_
    refine seqQ_exit ?_
    refine blockQ_here ?_
    exact endQ_n _ (res_none Try.results41 ) H

/-- (*cellar/table.Table).All -/
theorem f23_sh (t_b : Nat) (t_o : Nat) (h : Heap) (R : Value → Heap → Prop)
    (H : (∀ t h1, t = Array.size h → h1 = Array.push h (.cells #[(ptr t_b t_o)] 24) → R (.func (.func 41) #[] #[(ptr t 0)]) h1)) :
    HC Try.prog 23 #[(ptr t_b t_o)] h R := by
  refine hc_of (args := [(ptr t_b t_o)]) Try.func23 rfl Try.ntmps23 (Nat.le_of_ble_eq_true rfl) ?_
  refine hx_seq ?_
  refine hx_region ?_
  refine hl_step rfl rfl (hn_box (v := (ptr t_b t_o)) rfl ?_)
  intro t h1 eb1 eh2
  replace H := H t h1 eb1 eh2
  have xx3 : Ext h h1 := by rw [eh2]; exact Ext.push _ _
  refine hl_val rfl rfl (v := .nilFunc) (hv_assign rfl) ?_
  refine hl_nil ?_
  refine seqQ_n ?_
  refine hx_seq ?_
  refine hx_region ?_
  refine hl_val rfl rfl (v := (.func (.func 41) #[] #[(ptr t 0)])) (hv_makeFunc (fv := []) (cv := [(ptr t 0)]) rfl rfl) ?_
  refine hl_val rfl rfl (v := (.func (.func 41) #[] #[(ptr t 0)])) (hv_assign rfl) ?_
  refine hl_nil ?_
  refine seqQ_n ?_
  refine hx_ret ?_
  exact endQ_ret _ (res_one Try.results23 (rv_tmp rfl)) H

/-- cellar/cellarlaw11.all -/
theorem f18_sh (t_b : Nat) (t_o : Nat) (h : Heap) (R : Value → Heap → Prop)
    (H : (∀ l h1, l = Array.size h → h1 = Array.push h (.cells #[(.slice none 0 0)] 35) → HC Try.prog 23 #[(ptr t_b t_o)] h1 (fun vv h2 => ∃ r : Value, vv = r ∧ (∀ (Lp4 : LoopState → Option Code → Heap → Prop) (l_1 : Nat) (h3 : Heap) (y : Value), (∀ s p h h', Lp4 s p h → h'[l_1]? = h[l_1]? → Lp4 s p h') → l_1 = Array.size h2 + 1 → Ext h2 h3 → Array.size h3 = Array.size h2 + 2 → Lp4 .ready none h3 → (∀ (it_Hash : Int) (it_At : Int) (it_Version : Int) (it_Hits : Int) (h4 : Heap) (K12 : Value → Heap → Prop), Lp4 .ready none h4 → (∀ e h7, e = Array.size h4 → h7 = Array.push h4 (.cells #[(.int .u64 0), (.int .u64 0), (.int .u64 0), (.int .u8 0)] 31) → (HWs h7 e 0 4 ∧ ∀ h8, h8 = hsets h7 e 0 [(.int .u64 it_Hash), (.int .u64 it_At), (.int .u64 it_Version), (.int .u8 it_Hits)] → (Lp4 .ready none h8 ∧ ∀ h9, Only l_1 h8 h9 → Lp4 .busy none h9 → (∃ x : Option Addr, ∃ x_n x_c : Nat, hcell h9 l 0 = some (.slice x x_n x_c) ∧ (∃ x_Hash x_At x_Version x_Hits : Int, hcell h9 e 0 = some (.int .u64 x_Hash) ∧ hcell h9 e 1 = some (.int .u64 x_At) ∧ hcell h9 e 2 = some (.int .u64 x_Version) ∧ hcell h9 e 3 = some (.int .u8 x_Hits) ∧ (∀ nb h10, nb = Array.size h9 → h10 = Array.push h9 (.cells #[(.int .u64 x_Hash), (.int .u64 x_At), (.int .u64 x_Version), (.int .u8 x_Hits)] 31) → HAppend Try.prog 35 35 (.slice x x_n x_c) (.slice (some ⟨nb, 0, none⟩) 1 1) h10 (fun vv h11 => ∃ ap : Option Addr, ∃ ap_n ap_c : Nat, vv = (.slice ap ap_n ap_c) ∧ (HW h11 l 0 ∧ ∀ h12, h12 = hset h11 l 0 (.slice ap ap_n ap_c) → (Lp4 .busy none h12 ∧ ∀ h13, Only l_1 h12 h13 → Lp4 .ready none h13 → K12 (.bool true) h13))))))))) → HCV Try.prog y [(.agg #[(.int .u64 it_Hash), (.int .u64 it_At), (.int .u64 it_Version), (.int .u8 it_Hits)])] h4 K12) → HCF Try.prog r [y] h3 (fun _ h5 => ∃ (st : LoopState) (pend : Option Code), Lp4 st pend h5 ∧ st ≠ .busy ∧ ∀ h6, Only l_1 h5 h6 → Lp4 .exhausted pend h6 → ((pend = none ∧ (∃ x_1 : Option Addr, ∃ x_n_1 x_c_1 : Nat, hcell h6 l 0 = some (.slice x_1 x_n_1 x_c_1) ∧ (∀ h14, Shut' (Array.size h) h6 h14 → R (.slice x_1 x_n_1 x_c_1) h14))))))))) :
    HC Try.prog 18 #[(ptr t_b t_o)] h R := by
  refine hc_ofM (args := [(ptr t_b t_o)]) Try.func18 rfl Try.ntmps18 (Nat.le_of_ble_eq_true rfl) ?_
  refine hx_seq ?_
  refine hx_region ?_
  refine hl_val rfl rfl (v := (.slice none 0 0)) (hv_assign rfl) ?_
  refine hl_nil ?_
  refine seqQ_n ?_
  refine hx_seq ?_
  refine hx_region ?_
  refine hl_step rfl rfl (hn_alloc TyShQ.z35 ?_)
  intro l h1 eb1 eh2
  replace H := H l h1 eb1 eh2
  have xx3 : Ext h h1 := by rw [eh2]; exact Ext.push _ _
  refine hl_nil ?_
  refine seqQ_n ?_
  refine hx_seq ?_
  refine hx_seq ?_
  refine hx_region ?_
  refine hl_val rfl rfl (v := (ptr t_b t_o)) (hv_move rfl) ?_
  refine hl_step rfl rfl (hs_call TyShQ.cb23 (vs := [(ptr t_b t_o)]) rfl (HC.mono H ?_))
  rintro r h2 ⟨_, rfl, H⟩
  refine hl_nil ?_
  refine seqQ_n ?_
  refine hx_block ?_
  refine hx_range rfl rfl rfl (fun h3 l_1 le5 lx6 lz7 La8 => ?_)
  refine HCF.mono (H (fun st p h => LoopAt h l_1 _ _ _ _ _ st p) l_1 h3 _ (fun s p h h' k e => k.same e) le5 lx6 lz7 La8 ?_) ?_
  · intro it_Hash it_At it_Version it_Hits h4 K12 Lb9 H
    refine hcv_yield Lb9 rfl rfl ?_
    refine hx_region ?_
    refine hl_step rfl rfl (hn_alloc TyShQ.z31 ?_)
    intro e h7 eb15 eh16
    replace H := H e h7 eb15 eh16
    have xx17 : Ext h4 h7 := by rw [eh16]; exact Ext.push _ _
    obtain ⟨hw19, H⟩ := H
    refine hl_step rfl rfl (hn_stores (vs := [(.int .u64 it_Hash), (.int .u64 it_At), (.int .u64 it_Version), (.int .u8 it_Hits)]) rfl rfl TyShQ.sz31 rfl hw19 ?_)
    intro h8 eh18
    replace H := H h8 eh18
    refine hl_nil ?_
    obtain ⟨Lf22, H⟩ := H
    refine ⟨rfl, Lf22, ?_⟩
    intro h9 lo20 Le21
    replace H := H h9 lo20 Le21
    refine hx_block ?_
    refine hx_region ?_
    obtain ⟨x, x_n, x_c, hc23, H⟩ := H
    refine hl_val rfl rfl (v := (.slice x x_n x_c)) (hv_load TyShQ.agg35 rfl hc23) ?_
    obtain ⟨x_Hash, x_At, x_Version, x_Hits, hc24, hc25, hc26, hc27, H⟩ := H
    refine hl_val rfl rfl (v := (.agg #[(.int .u64 x_Hash), (.int .u64 x_At), (.int .u64 x_Version), (.int .u8 x_Hits)])) (hv_loads (vs := [(.int .u64 x_Hash), (.int .u64 x_At), (.int .u64 x_Version), (.int .u8 x_Hits)]) TyShQ.agg31 TyShQ.sz31 rfl (hcells_cons hc24 (hcells_cons hc25 (hcells_cons hc26 (hcells_cons hc27 hcells_nil))))) ?_
    refine hl_step rfl rfl (hn_buildSlice (n := 1) (vs := [(0, (.agg #[(.int .u64 x_Hash), (.int .u64 x_At), (.int .u64 x_Version), (.int .u8 x_Hits)]))]) (cs := #[(.int .u64 x_Hash), (.int .u64 x_At), (.int .u64 x_Version), (.int .u8 x_Hits)]) TyShQ.u35 TyShQ.sz31 TyShQ.z31 rfl rfl (by kernel_rfl) ?_)
    intro nb h10 eb28 eh29
    replace H := H nb h10 eb28 eh29
    have xx30 : Ext h9 h10 := by rw [eh29]; exact Ext.push _ _
    refine hl_step rfl rfl (hs_append rfl rfl (HAppend.mono H ?_))
    rintro _ h11 ⟨ap, ap_n, ap_c, rfl, H⟩
    obtain ⟨hw32, H⟩ := H
    refine hl_step rfl rfl (hn_store (v := (.slice ap ap_n ap_c)) rfl rfl TyShQ.sz35 rfl hw32 ?_)
    intro h12 eh31
    replace H := H h12 eh31
    refine hl_nil ?_
    refine blockQ_n ?_
    exact H
  · rintro _ h5 ⟨st, pend, Lc10, hst14, H⟩
    refine ⟨st, pend, Lc10, hst14, ?_⟩
    intro h6 lo13 Ld11
    replace H := H h6 lo13 Ld11
    obtain ⟨rfl, H⟩ := H
    refine jumpQ_n ?_
    refine blockQ_n ?_
    refine seqQ_n ?_
    refine hx_seq ?_
    refine hx_region ?_
    obtain ⟨x_1, x_n_1, x_c_1, hc33, H⟩ := H
    refine hl_val rfl rfl (v := (.slice x_1 x_n_1 x_c_1)) (hv_load TyShQ.agg35 rfl hc33) ?_
    refine hl_val rfl rfl (v := (.slice x_1 x_n_1 x_c_1)) (hv_assign rfl) ?_
    refine hl_nil ?_
    refine seqQ_n ?_
    refine hx_ret ?_
    exact endQM_ret _ (fun h' hs => ⟨res_one Try.results18 (rv_tmp rfl), H h' hs⟩)

/-- cellar/cellarlaw11.step -/
theorem f22_sh (t_b : Nat) (t_o : Nat) (x_b : Nat) (x_o : Nat) (o_Kind : Int) (o_Entry_Hash : Int) (o_Entry_At : Int) (o_Entry_Version : Int) (o_Entry_Hits : Int) (h : Heap) (R : Value → Heap → Prop)
    (H : (((o_Kind == 1) = true → (∀ (o : Nat) (h1 : Heap), Array.size h ≤ o → o < Array.size h1 → Ext h h1 → HC Try.prog 14 #[(ptr t_b t_o), (.agg #[(.int .u64 o_Entry_Hash), (.int .u64 o_Entry_At), (.int .u64 o_Entry_Version), (.int .u8 o_Entry_Hits)])] h1 (fun vv h2 => Kp [o] h1 h2 ∧ ∃ r0_Hash r0_At r0_Version r0_Hits : Int, ∃ r1 : Bool, ∃ r2 : Int, vv = (.tuple #[(.agg #[(.int .u64 r0_Hash), (.int .u64 r0_At), (.int .u64 r0_Version), (.int .u8 r0_Hits)]), (.bool r1), (.int .i64 r2)]) ∧ (∀ (a : Nat) (h4 : Heap), Array.size h2 ≤ a → a < Array.size h4 → Ext h2 h4 → HC Try.prog 37 #[(ptr x_b x_o), (.agg #[(.int .u64 o_Entry_Hash), (.int .u64 o_Entry_At), (.int .u64 o_Entry_Version), (.int .u8 o_Entry_Hits)])] h4 (fun vv h5 => Kp [o, a] h4 h5 ∧ ∃ r0_Hash_1 r0_At_1 r0_Version_1 r0_Hits_1 : Int, ∃ r1_1 : Bool, ∃ r2_1 : Int, vv = (.tuple #[(.agg #[(.int .u64 r0_Hash_1), (.int .u64 r0_At_1), (.int .u64 r0_Version_1), (.int .u8 r0_Hits_1)]), (.bool r1_1), (.int .i64 r2_1)]) ∧ (∀ (h7 : Heap), Ext h5 h7 → R (.bool (((r0_Hash == r0_Hash_1 && (r0_At == r0_At_1 && (r0_Version == r0_Version_1 && (r0_Hits == r0_Hits_1 && true))))) && ((r1 == r1_1) && (r2 == r2_1)))) h7)))))) ∧ ((o_Kind == 1) = false → (((o_Kind == 2) = true → (∀ (o : Nat) (h1 : Heap), Array.size h ≤ o → o < Array.size h1 → Ext h h1 → HC Try.prog 15 #[(ptr t_b t_o), (.int .u64 o_Entry_Hash)] h1 (fun vv h8 => Kp [o] h1 h8 ∧ ∃ r0_Hash r0_At r0_Version r0_Hits : Int, ∃ r1 : Bool, vv = (.tuple #[(.agg #[(.int .u64 r0_Hash), (.int .u64 r0_At), (.int .u64 r0_Version), (.int .u8 r0_Hits)]), (.bool r1)]) ∧ (∀ (a : Nat) (h10 : Heap), Array.size h8 ≤ a → a < Array.size h10 → Ext h8 h10 → HC Try.prog 38 #[(ptr x_b x_o), (.int .u64 o_Entry_Hash)] h10 (fun vv h11 => Kp [o, a] h10 h11 ∧ ∃ r0_Hash_1 r0_At_1 r0_Version_1 r0_Hits_1 : Int, ∃ r1_1 : Bool, vv = (.tuple #[(.agg #[(.int .u64 r0_Hash_1), (.int .u64 r0_At_1), (.int .u64 r0_Version_1), (.int .u8 r0_Hits_1)]), (.bool r1_1)]) ∧ (∀ (h13 : Heap), Ext h11 h13 → R (.bool (((r0_Hash == r0_Hash_1 && (r0_At == r0_At_1 && (r0_Version == r0_Version_1 && (r0_Hits == r0_Hits_1 && true))))) && (r1 == r1_1))) h13)))))) ∧ ((o_Kind == 2) = false → (((o_Kind == 3) = true → (∀ (o : Nat) (h1 : Heap), Array.size h ≤ o → o < Array.size h1 → Ext h h1 → HC Try.prog 16 #[(ptr t_b t_o), (.int .u64 o_Entry_Hash)] h1 (fun vv h14 => Kp [o] h1 h14 ∧ ∃ r0_Hash r0_At r0_Version r0_Hits : Int, ∃ r1 : Bool, vv = (.tuple #[(.agg #[(.int .u64 r0_Hash), (.int .u64 r0_At), (.int .u64 r0_Version), (.int .u8 r0_Hits)]), (.bool r1)]) ∧ (∀ (a : Nat) (h16 : Heap), Array.size h14 ≤ a → a < Array.size h16 → Ext h14 h16 → HC Try.prog 39 #[(ptr x_b x_o), (.int .u64 o_Entry_Hash)] h16 (fun vv h17 => Kp [o, a] h16 h17 ∧ ∃ r0_Hash_1 r0_At_1 r0_Version_1 r0_Hits_1 : Int, ∃ r1_1 : Bool, vv = (.tuple #[(.agg #[(.int .u64 r0_Hash_1), (.int .u64 r0_At_1), (.int .u64 r0_Version_1), (.int .u8 r0_Hits_1)]), (.bool r1_1)]) ∧ (∀ (h19 : Heap), Ext h17 h19 → R (.bool (((r0_Hash == r0_Hash_1 && (r0_At == r0_At_1 && (r0_Version == r0_Version_1 && (r0_Hits == r0_Hits_1 && true))))) && (r1 == r1_1))) h19)))))) ∧ ((o_Kind == 3) = false → (((o_Kind == 4) = true → (∃ T77 : Heap → Heap → Prop, Fit T77 ∧ (∀ (o : Nat) (h1 : Heap), Array.size h ≤ o → o < Array.size h1 → Ext h h1 → ((∀ hx, T77 h1 hx → Kp [o] h1 hx) ∧ HC Try.prog 17 #[(ptr t_b t_o), (.int .u64 o_Entry_Hash)] h1 (fun vv h22 => T77 h1 h22 ∧ Kp [o] h1 h22 ∧ ∃ r_2 : Bool, vv = (.bool r_2) ∧ HC Try.prog 40 #[(ptr x_b x_o), (.int .u64 o_Entry_Hash)] h22 (fun vv h23 => ∃ r_3 : Bool, vv = (.bool r_3) ∧ R (.bool (r_2 == r_3)) h23)))))) ∧ ((o_Kind == 4) = false → (((o_Kind == 5) = true → (∀ (h1 : Heap), Ext h h1 → HC Try.prog 13 #[(ptr t_b t_o)] h1 (fun vv h24 => ∃ r : Option Addr, ∃ r_n r_c : Nat, vv = (.slice r r_n r_c) ∧ HC Try.prog 25 #[(ptr x_b x_o)] h24 (fun vv h25 => ∃ r_1 : Option Addr, ∃ r_n_1 r_c_1 : Nat, vv = (.slice r_1 r_n_1 r_c_1) ∧ (∃ r_2 : Bool, HC Try.prog 20 #[(.slice r r_n r_c), (.slice r_1 r_n_1 r_c_1)] h25 (fun vv h' => vv = (.bool r_2) ∧ h' = h25) ∧ (∃ (I87 : Int → Heap → Prop) (mu88 : Int → Heap → Nat), I87 0 h25 ∧ (∀ (i : Int) (h26 : Heap), I87 i h26 → (((decide (i < (r_n : Int))) = true → (∃ r_b r_o : Nat, r = some ⟨r_b, r_o, none⟩ ∧ (0 : Int) ≤ i ∧ i < (r_n : Int) ∧ (∃ x : Int, hcell h26 r_b ((r_o + (Int.toNat i) * 4) + 1) = some (.int .u64 x) ∧ (HW h26 r_b ((r_o + (Int.toNat i) * 4) + 1) ∧ ∀ h27, h27 = hset h26 r_b ((r_o + (Int.toNat i) * 4) + 1) (.int .u64 (IntKind.u64.wrap (x + 1))) → (I87 (IntKind.i64.wrap (i + 1)) h27 ∧ mu88 (IntKind.i64.wrap (i + 1)) h27 < mu88 i h26))))) ∧ ((decide (i < (r_n : Int))) = false → R (.bool r_2) h26))))))))) ∧ ((o_Kind == 5) = false → (((o_Kind == 6) = true → (∃ A103 : Bool → Heap → Prop, (∃ T105 : Heap → Heap → Prop, Fit T105 ∧ (∀ (h1 : Heap), Ext h h1 → (∃ x : Option Addr, ∃ x_n x_c : Nat, (∀ hx, T105 h1 hx → hcell hx x_b (x_o + 2) = some (.slice x x_n x_c)) ∧ HC Try.prog 19 #[(ptr t_b t_o)] h1 (fun vv h29 => T105 h1 h29 ∧ ∃ r : Int, vv = (.int .i64 r) ∧ (((r == (x_n : Int)) = true → HC Try.prog 26 #[(ptr t_b t_o)] h29 (fun vv h30 => ∃ r_1 : Int, vv = (.int .i64 r_1) ∧ HC Try.prog 27 #[(ptr x_b x_o)] h30 (fun vv h31 => ∃ r_2 : Int, vv = (.int .i64 r_2) ∧ (A103 (r_1 == r_2) h31)))) ∧ ((r == (x_n : Int)) = false → (A103 false h29))))))) ∧ (∀ (j : Bool) (h28 : Heap), A103 j h28 → R (.bool j) h28))) ∧ ((o_Kind == 6) = false → (∃ T110 : Heap → Heap → Prop, Fit T110 ∧ (∀ (h1 : Heap), Ext h h1 → (∃ x : Option Addr, ∃ x_n x_c : Nat, (∀ hx, T110 h1 hx → hcell hx x_b (x_o + 2) = some (.slice x x_n x_c)) ∧ HC Try.prog 18 #[(ptr t_b t_o)] h1 (fun vv h32 => T110 h1 h32 ∧ ∃ r : Option Addr, ∃ r_n r_c : Nat, vv = (.slice r r_n r_c) ∧ (∃ r_1 : Bool, (∀ h33, T110 h32 h33 → HC Try.prog 20 #[(.slice r r_n r_c), (.slice x x_n x_c)] h33 (fun vv h' => vv = (.bool r_1) ∧ h' = h33)) ∧ R (.bool r_1) h32)))))))))))))))))) :
    HC Try.prog 22 #[(ptr t_b t_o), (ptr x_b x_o), (.agg #[(.int .i64 o_Kind), (.int .u64 o_Entry_Hash), (.int .u64 o_Entry_At), (.int .u64 o_Entry_Version), (.int .u8 o_Entry_Hits)])] h R := by
  refine hc_of (args := [(ptr t_b t_o), (ptr x_b x_o), (.agg #[(.int .i64 o_Kind), (.int .u64 o_Entry_Hash), (.int .u64 o_Entry_At), (.int .u64 o_Entry_Version), (.int .u8 o_Entry_Hits)])]) Try.func22 rfl Try.ntmps22 (Nat.le_of_ble_eq_true rfl) ?_
  refine hx_seq ?_
  refine hx_region ?_
  refine hl_step rfl rfl (hn_box (v := (.agg #[(.int .i64 o_Kind), (.int .u64 o_Entry_Hash), (.int .u64 o_Entry_At), (.int .u64 o_Entry_Version), (.int .u8 o_Entry_Hits)])) rfl ?_)
  intro o h1 eb1 eh2
  have xx3 : Ext h h1 := by rw [eh2]; exact Ext.push _ _
  have lo5 : Array.size h ≤ o := Nat.le_of_eq (Eq.symm eb1)
  have hr4 : h1[o]? = some (.cells #[(.int .i64 o_Kind), (.int .u64 o_Entry_Hash), (.int .u64 o_Entry_At), (.int .u64 o_Entry_Version), (.int .u8 o_Entry_Hits)] 33 (0, 0)) := by rw [eh2]; exact push_new eb1
  refine hl_val rfl rfl (v := (.bool false)) (hv_assign rfl) ?_
  refine hl_nil ?_
  refine seqQ_n ?_
  refine hx_seq ?_
  refine hx_seq ?_
  refine hx_region ?_
  refine hl_val rfl rfl (v := (ptr o 0)) (hv_field TyShQ.fld33_0 (b := o) (o := 0) rfl) ?_
  refine hl_val rfl rfl (v := (.int .i64 o_Kind)) (hv_load TyShQ.agg3 rfl (rowcell hr4 rfl)) ?_
  refine hl_nil ?_
  refine seqQ_n ?_
  refine hx_block ?_
  refine hx_seq ?_
  refine hx_region ?_
  refine hl_val rfl rfl (v := (.bool (o_Kind == 1))) (hv_arith rfl rfl rfl) ?_
  refine hl_val rfl rfl (v := (.bool (o_Kind == 1))) (hv_assign rfl) ?_
  refine hl_nil ?_
  refine seqQ_n ?_
  refine hx_cond (b := o_Kind == 1) rfl (fun hb6 => ?_) (fun hb6 => ?_)
  · replace H := H.1 hb6
    refine hx_seq ?_
    refine hx_region ?_
    refine hl_val rfl rfl (v := (ptr t_b t_o)) (hv_move rfl) ?_
    refine hl_val rfl rfl (v := (ptr o 1)) (hv_field TyShQ.fld33_1 (b := o) (o := 0) rfl) ?_
    refine hl_val rfl rfl (v := (.agg #[(.int .u64 o_Entry_Hash), (.int .u64 o_Entry_At), (.int .u64 o_Entry_Version), (.int .u8 o_Entry_Hits)])) (hv_loads (vs := [(.int .u64 o_Entry_Hash), (.int .u64 o_Entry_At), (.int .u64 o_Entry_Version), (.int .u8 o_Entry_Hits)]) TyShQ.agg31 TyShQ.sz31 rfl (hcells_cons (rowcell hr4 rfl) (hcells_cons (rowcell hr4 rfl) (hcells_cons (rowcell hr4 rfl) (hcells_cons (rowcell hr4 rfl) hcells_nil))))) ?_
    replace H := H o h1 lo5 (row_lt hr4) xx3
    refine hl_step rfl rfl (hs_call TyShQ.cb14 (vs := [(ptr t_b t_o), (.agg #[(.int .u64 o_Entry_Hash), (.int .u64 o_Entry_At), (.int .u64 o_Entry_Version), (.int .u8 o_Entry_Hits)])]) rfl (HC.mono H ?_))
    rintro _ h2 ⟨kp7, r0_Hash, r0_At, r0_Version, r0_Hits, r1, r2, rfl, H⟩
    replace hr4 := Kp.row kp7 (by simp) hr4
    refine hl_val rfl rfl (v := (.tuple #[(.agg #[(.int .u64 r0_Hash), (.int .u64 r0_At), (.int .u64 r0_Version), (.int .u8 r0_Hits)]), (.bool r1), (.int .i64 r2)])) (hv_move rfl) ?_
    refine hl_val rfl rfl (v := (.agg #[(.int .u64 r0_Hash), (.int .u64 r0_At), (.int .u64 r0_Version), (.int .u8 r0_Hits)])) (hv_extract (vs := #[(.agg #[(.int .u64 r0_Hash), (.int .u64 r0_At), (.int .u64 r0_Version), (.int .u8 r0_Hits)]), (.bool r1), (.int .i64 r2)]) rfl rfl) ?_
    refine hl_val rfl rfl (v := (.bool r1)) (hv_extract (vs := #[(.agg #[(.int .u64 r0_Hash), (.int .u64 r0_At), (.int .u64 r0_Version), (.int .u8 r0_Hits)]), (.bool r1), (.int .i64 r2)]) rfl rfl) ?_
    refine hl_val rfl rfl (v := (.int .i64 r2)) (hv_extract (vs := #[(.agg #[(.int .u64 r0_Hash), (.int .u64 r0_At), (.int .u64 r0_Version), (.int .u8 r0_Hits)]), (.bool r1), (.int .i64 r2)]) rfl rfl) ?_
    refine hl_step rfl rfl (hn_alloc TyShQ.z31 ?_)
    intro a h3 eb8 eh9
    have xx10 : Ext h2 h3 := by rw [eh9]; exact Ext.push _ _
    have ne13 := Nat.ne_of_lt (Nat.lt_of_lt_of_eq (row_lt hr4) (Eq.symm eb8))
    have lo12 : Array.size h2 ≤ a := Nat.le_of_eq (Eq.symm eb8)
    have hr11 : h3[a]? = some (.cells #[(.int .u64 0), (.int .u64 0), (.int .u64 0), (.int .u8 0)] 31 (0, 0)) := by rw [eh9]; exact push_new eb8
    replace hr4 := Ext.row xx10 hr4
    refine hl_step rfl rfl (hn_stores (vs := [(.int .u64 r0_Hash), (.int .u64 r0_At), (.int .u64 r0_Version), (.int .u8 r0_Hits)]) rfl rfl TyShQ.sz31 rfl (HWs_row hr11 (by simp)) ?_)
    intro h4 eh14
    replace hr4 := row_hsets_ne eh14 ne13 hr4
    have hr11' : h4[a]? = some (.cells #[(.int .u64 r0_Hash), (.int .u64 r0_At), (.int .u64 r0_Version), (.int .u8 r0_Hits)] 31 (0, 0)) := row_hsets_eq eh14 hr11 rfl
    have xv15 := ext_hsets eh14 xx10 lo12
    refine hl_val rfl rfl (v := (.bool r1)) (hv_assign rfl) ?_
    refine hl_val rfl rfl (v := (.int .i64 r2)) (hv_assign rfl) ?_
    refine hl_nil ?_
    refine seqQ_n ?_
    refine hx_seq ?_
    refine hx_region ?_
    refine hl_val rfl rfl (v := (ptr x_b x_o)) (hv_move rfl) ?_
    refine hl_val rfl rfl (v := (ptr o 1)) (hv_field TyShQ.fld33_1 (b := o) (o := 0) rfl) ?_
    refine hl_val rfl rfl (v := (.agg #[(.int .u64 o_Entry_Hash), (.int .u64 o_Entry_At), (.int .u64 o_Entry_Version), (.int .u8 o_Entry_Hits)])) (hv_loads (vs := [(.int .u64 o_Entry_Hash), (.int .u64 o_Entry_At), (.int .u64 o_Entry_Version), (.int .u8 o_Entry_Hits)]) TyShQ.agg31 TyShQ.sz31 rfl (hcells_cons (rowcell hr4 rfl) (hcells_cons (rowcell hr4 rfl) (hcells_cons (rowcell hr4 rfl) (hcells_cons (rowcell hr4 rfl) hcells_nil))))) ?_
    replace H := H a h4 lo12 (row_lt hr11') xv15
    refine hl_step rfl rfl (hs_call TyShQ.cb37 (vs := [(ptr x_b x_o), (.agg #[(.int .u64 o_Entry_Hash), (.int .u64 o_Entry_At), (.int .u64 o_Entry_Version), (.int .u8 o_Entry_Hits)])]) rfl (HC.mono H ?_))
    rintro _ h5 ⟨kp16, r0_Hash_1, r0_At_1, r0_Version_1, r0_Hits_1, r1_1, r2_1, rfl, H⟩
    replace hr4 := Kp.row kp16 (by simp) hr4
    replace hr11' := Kp.row kp16 (by simp) hr11'
    refine hl_val rfl rfl (v := (.tuple #[(.agg #[(.int .u64 r0_Hash_1), (.int .u64 r0_At_1), (.int .u64 r0_Version_1), (.int .u8 r0_Hits_1)]), (.bool r1_1), (.int .i64 r2_1)])) (hv_move rfl) ?_
    refine hl_val rfl rfl (v := (.agg #[(.int .u64 r0_Hash_1), (.int .u64 r0_At_1), (.int .u64 r0_Version_1), (.int .u8 r0_Hits_1)])) (hv_extract (vs := #[(.agg #[(.int .u64 r0_Hash_1), (.int .u64 r0_At_1), (.int .u64 r0_Version_1), (.int .u8 r0_Hits_1)]), (.bool r1_1), (.int .i64 r2_1)]) rfl rfl) ?_
    refine hl_val rfl rfl (v := (.bool r1_1)) (hv_extract (vs := #[(.agg #[(.int .u64 r0_Hash_1), (.int .u64 r0_At_1), (.int .u64 r0_Version_1), (.int .u8 r0_Hits_1)]), (.bool r1_1), (.int .i64 r2_1)]) rfl rfl) ?_
    refine hl_val rfl rfl (v := (.int .i64 r2_1)) (hv_extract (vs := #[(.agg #[(.int .u64 r0_Hash_1), (.int .u64 r0_At_1), (.int .u64 r0_Version_1), (.int .u8 r0_Hits_1)]), (.bool r1_1), (.int .i64 r2_1)]) rfl rfl) ?_
    refine hl_step rfl rfl (hn_alloc TyShQ.z31 ?_)
    intro b h6 eb17 eh18
    have xx19 : Ext h5 h6 := by rw [eh18]; exact Ext.push _ _
    have ne22 := Nat.ne_of_lt (Nat.lt_of_lt_of_eq (row_lt hr4) (Eq.symm eb17))
    have ne23 := Nat.ne_of_lt (Nat.lt_of_lt_of_eq (row_lt hr11') (Eq.symm eb17))
    have lo21 : Array.size h5 ≤ b := Nat.le_of_eq (Eq.symm eb17)
    have hr20 : h6[b]? = some (.cells #[(.int .u64 0), (.int .u64 0), (.int .u64 0), (.int .u8 0)] 31 (0, 0)) := by rw [eh18]; exact push_new eb17
    replace hr4 := Ext.row xx19 hr4
    replace hr11' := Ext.row xx19 hr11'
    refine hl_step rfl rfl (hn_stores (vs := [(.int .u64 r0_Hash_1), (.int .u64 r0_At_1), (.int .u64 r0_Version_1), (.int .u8 r0_Hits_1)]) rfl rfl TyShQ.sz31 rfl (HWs_row hr20 (by simp)) ?_)
    intro h7 eh24
    replace hr4 := row_hsets_ne eh24 ne22 hr4
    replace hr11' := row_hsets_ne eh24 ne23 hr11'
    have hr20' : h7[b]? = some (.cells #[(.int .u64 r0_Hash_1), (.int .u64 r0_At_1), (.int .u64 r0_Version_1), (.int .u8 r0_Hits_1)] 31 (0, 0)) := row_hsets_eq eh24 hr20 rfl
    have xv25 := ext_hsets eh24 xx19 lo21
    refine hl_val rfl rfl (v := (.bool r1_1)) (hv_assign rfl) ?_
    refine hl_val rfl rfl (v := (.int .i64 r2_1)) (hv_assign rfl) ?_
    refine hl_nil ?_
    refine seqQ_n ?_
    refine hx_cut (fun ρ h' => h7 = h' ∧ Has ρ [(6, (.bool (((r0_Hash == r0_Hash_1 && (r0_At == r0_At_1 && (r0_Version == r0_Version_1 && (r0_Hits == r0_Hits_1 && true))))) && ((r1 == r1_1) && (r2 == r2_1)))))]) ?_ ?_
    · refine hx_region ?_
      refine hl_val rfl rfl (v := (.agg #[(.int .u64 r0_Hash), (.int .u64 r0_At), (.int .u64 r0_Version), (.int .u8 r0_Hits)])) (hv_loads (vs := [(.int .u64 r0_Hash), (.int .u64 r0_At), (.int .u64 r0_Version), (.int .u8 r0_Hits)]) TyShQ.agg31 TyShQ.sz31 rfl (hcells_cons (rowcell hr11' rfl) (hcells_cons (rowcell hr11' rfl) (hcells_cons (rowcell hr11' rfl) (hcells_cons (rowcell hr11' rfl) hcells_nil))))) ?_
      refine hl_val rfl rfl (v := (.agg #[(.int .u64 r0_Hash_1), (.int .u64 r0_At_1), (.int .u64 r0_Version_1), (.int .u8 r0_Hits_1)])) (hv_loads (vs := [(.int .u64 r0_Hash_1), (.int .u64 r0_At_1), (.int .u64 r0_Version_1), (.int .u8 r0_Hits_1)]) TyShQ.agg31 TyShQ.sz31 rfl (hcells_cons (rowcell hr20' rfl) (hcells_cons (rowcell hr20' rfl) (hcells_cons (rowcell hr20' rfl) (hcells_cons (rowcell hr20' rfl) hcells_nil))))) ?_
      refine hl_val rfl rfl (v := (.bool ((r0_Hash == r0_Hash_1 && (r0_At == r0_At_1 && (r0_Version == r0_Version_1 && (r0_Hits == r0_Hits_1 && true))))))) (hv_structEq (xs := [(.int .u64 r0_Hash), (.int .u64 r0_At), (.int .u64 r0_Version), (.int .u8 r0_Hits)]) (ys := [(.int .u64 r0_Hash_1), (.int .u64 r0_At_1), (.int .u64 r0_Version_1), (.int .u8 r0_Hits_1)]) (b := (r0_Hash == r0_Hash_1 && (r0_At == r0_At_1 && (r0_Version == r0_Version_1 && (r0_Hits == r0_Hits_1 && true))))) TyShQ.se31 rfl rfl (by kernel_rfl) rfl) ?_
      refine hl_val rfl rfl (v := (.bool ((r0_Hash == r0_Hash_1 && (r0_At == r0_At_1 && (r0_Version == r0_Version_1 && (r0_Hits == r0_Hits_1 && true))))))) (hv_move rfl) ?_
      rcases bool_or (((r0_Hash == r0_Hash_1 && (r0_At == r0_At_1 && (r0_Version == r0_Version_1 && (r0_Hits == r0_Hits_1 && true)))))) with hg28 | hg28
      · refine hl_yes (wanted_y rfl rfl rfl hg28) rfl (HStep.of_val (v := (.bool r1)) (hv_move rfl) ?_)
        refine hl_yes (wanted_y rfl rfl rfl hg28) rfl (HStep.of_val (v := (.bool r1_1)) (hv_move rfl) ?_)
        refine hl_yes (wanted_y rfl rfl rfl hg28) rfl (HStep.of_val (v := (.bool (r1 == r1_1))) (hv_eqBool TyShQ.u4 rfl rfl rfl) ?_)
        refine hl_val rfl rfl (v := (.bool (r1 == r1_1))) (hv_pick_t rfl hg28 rfl) ?_
        refine hl_val rfl rfl (v := (.bool (r1 == r1_1))) (hv_move rfl) ?_
        rcases bool_or (r1 == r1_1) with hg29 | hg29
        · refine hl_yes (wanted_y rfl rfl rfl hg29) rfl (HStep.of_val (v := (.int .i64 r2)) (hv_move rfl) ?_)
          refine hl_yes (wanted_y rfl rfl rfl hg29) rfl (HStep.of_val (v := (.int .i64 r2_1)) (hv_move rfl) ?_)
          refine hl_yes (wanted_y rfl rfl rfl hg29) rfl (HStep.of_val (v := (.bool (r2 == r2_1))) (hv_arith rfl rfl rfl) ?_)
          refine hl_val rfl rfl (v := (.bool (r2 == r2_1))) (hv_pick_t rfl hg29 rfl) ?_
          refine hl_val rfl rfl (v := (.bool (r2 == r2_1))) (hv_assign rfl) ?_
          refine hl_nil ?_
          refine seqQ_n ?_
          exact ⟨rfl, (has_cons (show ((.bool (r2 == r2_1)) : Value) = (.bool (((r0_Hash == r0_Hash_1 && (r0_At == r0_At_1 && (r0_Version == r0_Version_1 && (r0_Hits == r0_Hits_1 && true))))) && ((r1 == r1_1) && (r2 == r2_1)))) from (by first | rfl | (try rw [hg28]; try rw [hg29]; all_goals first | rfl | (simp only [Bool.true_or, Bool.or_true, Bool.false_or, Bool.or_false, Bool.true_and, Bool.and_true, Bool.false_and, Bool.and_false, Bool.not_true, Bool.not_false, Bool.cond_true, Bool.cond_false]; done)) | simp [hg28, hg29])) has_nil)⟩
        · refine hl_no (wanted_n rfl rfl rfl hg29) rfl ?_
          refine hl_no (wanted_n rfl rfl rfl hg29) rfl ?_
          refine hl_no (wanted_n rfl rfl rfl hg29) rfl ?_
          refine hl_val rfl rfl (v := (.bool false)) (hv_pick_f rfl hg29 rfl) ?_
          refine hl_val rfl rfl (v := (.bool false)) (hv_assign rfl) ?_
          refine hl_nil ?_
          refine seqQ_n ?_
          exact ⟨rfl, (has_cons (show ((.bool false) : Value) = (.bool (((r0_Hash == r0_Hash_1 && (r0_At == r0_At_1 && (r0_Version == r0_Version_1 && (r0_Hits == r0_Hits_1 && true))))) && ((r1 == r1_1) && (r2 == r2_1)))) from (by first | rfl | (try rw [hg28]; try rw [hg29]; all_goals first | rfl | (simp only [Bool.true_or, Bool.or_true, Bool.false_or, Bool.or_false, Bool.true_and, Bool.and_true, Bool.false_and, Bool.and_false, Bool.not_true, Bool.not_false, Bool.cond_true, Bool.cond_false]; done)) | simp [hg28, hg29])) has_nil)⟩
      · refine hl_no (wanted_n rfl rfl rfl hg28) rfl ?_
        refine hl_no (wanted_n rfl rfl rfl hg28) rfl ?_
        refine hl_no (wanted_n rfl rfl rfl hg28) rfl ?_
        refine hl_val rfl rfl (v := (.bool false)) (hv_pick_f rfl hg28 rfl) ?_
        refine hl_val rfl rfl (v := (.bool false)) (hv_move rfl) ?_
        refine hl_no (wanted_n rfl rfl (c := false) rfl rfl) rfl ?_
        refine hl_no (wanted_n rfl rfl (c := false) rfl rfl) rfl ?_
        refine hl_no (wanted_n rfl rfl (c := false) rfl rfl) rfl ?_
        refine hl_val rfl rfl (v := (.bool false)) (hv_pick (t := false) rfl rfl) ?_
        refine hl_val rfl rfl (v := (.bool false)) (hv_assign rfl) ?_
        refine hl_nil ?_
        refine seqQ_n ?_
        exact ⟨rfl, (has_cons (show ((.bool false) : Value) = (.bool (((r0_Hash == r0_Hash_1 && (r0_At == r0_At_1 && (r0_Version == r0_Version_1 && (r0_Hits == r0_Hits_1 && true))))) && ((r1 == r1_1) && (r2 == r2_1)))) from (by first | rfl | (try rw [hg28]; all_goals first | rfl | (simp only [Bool.true_or, Bool.or_true, Bool.false_or, Bool.or_false, Bool.true_and, Bool.and_true, Bool.false_and, Bool.and_false, Bool.not_true, Bool.not_false, Bool.cond_true, Bool.cond_false]; done)) | simp [hg28])) has_nil)⟩
    · rintro ρ _ ⟨rfl, hH⟩
      refine hx_has _ hH ?_
      refine hx_ret ?_
      refine blockQ_ret ?_
      refine seqQ_ret ?_
      replace H := H h7 xv25
      exact endQ_ret _ (res_one Try.results22 (rv_tmp rfl)) H
  · replace H := H.2 hb6
    refine hx_seq ?_
    refine hx_region ?_
    refine hl_val rfl rfl (v := (.bool (o_Kind == 2))) (hv_arith rfl rfl rfl) ?_
    refine hl_val rfl rfl (v := (.bool (o_Kind == 2))) (hv_assign rfl) ?_
    refine hl_nil ?_
    refine seqQ_n ?_
    refine hx_cond (b := o_Kind == 2) rfl (fun hb30 => ?_) (fun hb30 => ?_)
    · replace H := H.1 hb30
      refine hx_seq ?_
      refine hx_region ?_
      refine hl_val rfl rfl (v := (ptr t_b t_o)) (hv_move rfl) ?_
      refine hl_val rfl rfl (v := (ptr o 1)) (hv_field TyShQ.fld33_1 (b := o) (o := 0) rfl) ?_
      refine hl_val rfl rfl (v := (ptr o 1)) (hv_field TyShQ.fld31_0 (b := o) (o := 1) rfl) ?_
      refine hl_val rfl rfl (v := (.int .u64 o_Entry_Hash)) (hv_load TyShQ.agg29 rfl (rowcell hr4 rfl)) ?_
      replace H := H o h1 lo5 (row_lt hr4) xx3
      refine hl_step rfl rfl (hs_call TyShQ.cb15 (vs := [(ptr t_b t_o), (.int .u64 o_Entry_Hash)]) rfl (HC.mono H ?_))
      rintro _ h8 ⟨kp31, r0_Hash, r0_At, r0_Version, r0_Hits, r1, rfl, H⟩
      replace hr4 := Kp.row kp31 (by simp) hr4
      refine hl_val rfl rfl (v := (.tuple #[(.agg #[(.int .u64 r0_Hash), (.int .u64 r0_At), (.int .u64 r0_Version), (.int .u8 r0_Hits)]), (.bool r1)])) (hv_move rfl) ?_
      refine hl_val rfl rfl (v := (.agg #[(.int .u64 r0_Hash), (.int .u64 r0_At), (.int .u64 r0_Version), (.int .u8 r0_Hits)])) (hv_extract (vs := #[(.agg #[(.int .u64 r0_Hash), (.int .u64 r0_At), (.int .u64 r0_Version), (.int .u8 r0_Hits)]), (.bool r1)]) rfl rfl) ?_
      refine hl_val rfl rfl (v := (.bool r1)) (hv_extract (vs := #[(.agg #[(.int .u64 r0_Hash), (.int .u64 r0_At), (.int .u64 r0_Version), (.int .u8 r0_Hits)]), (.bool r1)]) rfl rfl) ?_
      refine hl_step rfl rfl (hn_alloc TyShQ.z31 ?_)
      intro a h9 eb32 eh33
      have xx34 : Ext h8 h9 := by rw [eh33]; exact Ext.push _ _
      have ne37 := Nat.ne_of_lt (Nat.lt_of_lt_of_eq (row_lt hr4) (Eq.symm eb32))
      have lo36 : Array.size h8 ≤ a := Nat.le_of_eq (Eq.symm eb32)
      have hr35 : h9[a]? = some (.cells #[(.int .u64 0), (.int .u64 0), (.int .u64 0), (.int .u8 0)] 31 (0, 0)) := by rw [eh33]; exact push_new eb32
      replace hr4 := Ext.row xx34 hr4
      refine hl_step rfl rfl (hn_stores (vs := [(.int .u64 r0_Hash), (.int .u64 r0_At), (.int .u64 r0_Version), (.int .u8 r0_Hits)]) rfl rfl TyShQ.sz31 rfl (HWs_row hr35 (by simp)) ?_)
      intro h10 eh38
      replace hr4 := row_hsets_ne eh38 ne37 hr4
      have hr35' : h10[a]? = some (.cells #[(.int .u64 r0_Hash), (.int .u64 r0_At), (.int .u64 r0_Version), (.int .u8 r0_Hits)] 31 (0, 0)) := row_hsets_eq eh38 hr35 rfl
      have xv39 := ext_hsets eh38 xx34 lo36
      refine hl_val rfl rfl (v := (.bool r1)) (hv_assign rfl) ?_
      refine hl_nil ?_
      refine seqQ_n ?_
      refine hx_seq ?_
      refine hx_region ?_
      refine hl_val rfl rfl (v := (ptr x_b x_o)) (hv_move rfl) ?_
      refine hl_val rfl rfl (v := (ptr o 1)) (hv_field TyShQ.fld33_1 (b := o) (o := 0) rfl) ?_
      refine hl_val rfl rfl (v := (ptr o 1)) (hv_field TyShQ.fld31_0 (b := o) (o := 1) rfl) ?_
      refine hl_val rfl rfl (v := (.int .u64 o_Entry_Hash)) (hv_load TyShQ.agg29 rfl (rowcell hr4 rfl)) ?_
      replace H := H a h10 lo36 (row_lt hr35') xv39
      refine hl_step rfl rfl (hs_call TyShQ.cb38 (vs := [(ptr x_b x_o), (.int .u64 o_Entry_Hash)]) rfl (HC.mono H ?_))
      rintro _ h11 ⟨kp40, r0_Hash_1, r0_At_1, r0_Version_1, r0_Hits_1, r1_1, rfl, H⟩
      replace hr4 := Kp.row kp40 (by simp) hr4
      replace hr35' := Kp.row kp40 (by simp) hr35'
      refine hl_val rfl rfl (v := (.tuple #[(.agg #[(.int .u64 r0_Hash_1), (.int .u64 r0_At_1), (.int .u64 r0_Version_1), (.int .u8 r0_Hits_1)]), (.bool r1_1)])) (hv_move rfl) ?_
      refine hl_val rfl rfl (v := (.agg #[(.int .u64 r0_Hash_1), (.int .u64 r0_At_1), (.int .u64 r0_Version_1), (.int .u8 r0_Hits_1)])) (hv_extract (vs := #[(.agg #[(.int .u64 r0_Hash_1), (.int .u64 r0_At_1), (.int .u64 r0_Version_1), (.int .u8 r0_Hits_1)]), (.bool r1_1)]) rfl rfl) ?_
      refine hl_val rfl rfl (v := (.bool r1_1)) (hv_extract (vs := #[(.agg #[(.int .u64 r0_Hash_1), (.int .u64 r0_At_1), (.int .u64 r0_Version_1), (.int .u8 r0_Hits_1)]), (.bool r1_1)]) rfl rfl) ?_
      refine hl_step rfl rfl (hn_alloc TyShQ.z31 ?_)
      intro b h12 eb41 eh42
      have xx43 : Ext h11 h12 := by rw [eh42]; exact Ext.push _ _
      have ne46 := Nat.ne_of_lt (Nat.lt_of_lt_of_eq (row_lt hr4) (Eq.symm eb41))
      have ne47 := Nat.ne_of_lt (Nat.lt_of_lt_of_eq (row_lt hr35') (Eq.symm eb41))
      have lo45 : Array.size h11 ≤ b := Nat.le_of_eq (Eq.symm eb41)
      have hr44 : h12[b]? = some (.cells #[(.int .u64 0), (.int .u64 0), (.int .u64 0), (.int .u8 0)] 31 (0, 0)) := by rw [eh42]; exact push_new eb41
      replace hr4 := Ext.row xx43 hr4
      replace hr35' := Ext.row xx43 hr35'
      refine hl_step rfl rfl (hn_stores (vs := [(.int .u64 r0_Hash_1), (.int .u64 r0_At_1), (.int .u64 r0_Version_1), (.int .u8 r0_Hits_1)]) rfl rfl TyShQ.sz31 rfl (HWs_row hr44 (by simp)) ?_)
      intro h13 eh48
      replace hr4 := row_hsets_ne eh48 ne46 hr4
      replace hr35' := row_hsets_ne eh48 ne47 hr35'
      have hr44' : h13[b]? = some (.cells #[(.int .u64 r0_Hash_1), (.int .u64 r0_At_1), (.int .u64 r0_Version_1), (.int .u8 r0_Hits_1)] 31 (0, 0)) := row_hsets_eq eh48 hr44 rfl
      have xv49 := ext_hsets eh48 xx43 lo45
      refine hl_val rfl rfl (v := (.bool r1_1)) (hv_assign rfl) ?_
      refine hl_nil ?_
      refine seqQ_n ?_
      refine hx_cut (fun ρ h' => h13 = h' ∧ Has ρ [(6, (.bool (((r0_Hash == r0_Hash_1 && (r0_At == r0_At_1 && (r0_Version == r0_Version_1 && (r0_Hits == r0_Hits_1 && true))))) && (r1 == r1_1))))]) ?_ ?_
      · refine hx_region ?_
        refine hl_val rfl rfl (v := (.agg #[(.int .u64 r0_Hash), (.int .u64 r0_At), (.int .u64 r0_Version), (.int .u8 r0_Hits)])) (hv_loads (vs := [(.int .u64 r0_Hash), (.int .u64 r0_At), (.int .u64 r0_Version), (.int .u8 r0_Hits)]) TyShQ.agg31 TyShQ.sz31 rfl (hcells_cons (rowcell hr35' rfl) (hcells_cons (rowcell hr35' rfl) (hcells_cons (rowcell hr35' rfl) (hcells_cons (rowcell hr35' rfl) hcells_nil))))) ?_
        refine hl_val rfl rfl (v := (.agg #[(.int .u64 r0_Hash_1), (.int .u64 r0_At_1), (.int .u64 r0_Version_1), (.int .u8 r0_Hits_1)])) (hv_loads (vs := [(.int .u64 r0_Hash_1), (.int .u64 r0_At_1), (.int .u64 r0_Version_1), (.int .u8 r0_Hits_1)]) TyShQ.agg31 TyShQ.sz31 rfl (hcells_cons (rowcell hr44' rfl) (hcells_cons (rowcell hr44' rfl) (hcells_cons (rowcell hr44' rfl) (hcells_cons (rowcell hr44' rfl) hcells_nil))))) ?_
        refine hl_val rfl rfl (v := (.bool ((r0_Hash == r0_Hash_1 && (r0_At == r0_At_1 && (r0_Version == r0_Version_1 && (r0_Hits == r0_Hits_1 && true))))))) (hv_structEq (xs := [(.int .u64 r0_Hash), (.int .u64 r0_At), (.int .u64 r0_Version), (.int .u8 r0_Hits)]) (ys := [(.int .u64 r0_Hash_1), (.int .u64 r0_At_1), (.int .u64 r0_Version_1), (.int .u8 r0_Hits_1)]) (b := (r0_Hash == r0_Hash_1 && (r0_At == r0_At_1 && (r0_Version == r0_Version_1 && (r0_Hits == r0_Hits_1 && true))))) TyShQ.se31 rfl rfl (by kernel_rfl) rfl) ?_
        refine hl_val rfl rfl (v := (.bool ((r0_Hash == r0_Hash_1 && (r0_At == r0_At_1 && (r0_Version == r0_Version_1 && (r0_Hits == r0_Hits_1 && true))))))) (hv_move rfl) ?_
        rcases bool_or (((r0_Hash == r0_Hash_1 && (r0_At == r0_At_1 && (r0_Version == r0_Version_1 && (r0_Hits == r0_Hits_1 && true)))))) with hg52 | hg52
        · refine hl_yes (wanted_y rfl rfl rfl hg52) rfl (HStep.of_val (v := (.bool r1)) (hv_move rfl) ?_)
          refine hl_yes (wanted_y rfl rfl rfl hg52) rfl (HStep.of_val (v := (.bool r1_1)) (hv_move rfl) ?_)
          refine hl_yes (wanted_y rfl rfl rfl hg52) rfl (HStep.of_val (v := (.bool (r1 == r1_1))) (hv_eqBool TyShQ.u4 rfl rfl rfl) ?_)
          refine hl_val rfl rfl (v := (.bool (r1 == r1_1))) (hv_pick_t rfl hg52 rfl) ?_
          refine hl_val rfl rfl (v := (.bool (r1 == r1_1))) (hv_assign rfl) ?_
          refine hl_nil ?_
          refine seqQ_n ?_
          exact ⟨rfl, (has_cons (show ((.bool (r1 == r1_1)) : Value) = (.bool (((r0_Hash == r0_Hash_1 && (r0_At == r0_At_1 && (r0_Version == r0_Version_1 && (r0_Hits == r0_Hits_1 && true))))) && (r1 == r1_1))) from (by first | rfl | (try rw [hg52]; all_goals first | rfl | (simp only [Bool.true_or, Bool.or_true, Bool.false_or, Bool.or_false, Bool.true_and, Bool.and_true, Bool.false_and, Bool.and_false, Bool.not_true, Bool.not_false, Bool.cond_true, Bool.cond_false]; done)) | simp [hg52])) has_nil)⟩
        · refine hl_no (wanted_n rfl rfl rfl hg52) rfl ?_
          refine hl_no (wanted_n rfl rfl rfl hg52) rfl ?_
          refine hl_no (wanted_n rfl rfl rfl hg52) rfl ?_
          refine hl_val rfl rfl (v := (.bool false)) (hv_pick_f rfl hg52 rfl) ?_
          refine hl_val rfl rfl (v := (.bool false)) (hv_assign rfl) ?_
          refine hl_nil ?_
          refine seqQ_n ?_
          exact ⟨rfl, (has_cons (show ((.bool false) : Value) = (.bool (((r0_Hash == r0_Hash_1 && (r0_At == r0_At_1 && (r0_Version == r0_Version_1 && (r0_Hits == r0_Hits_1 && true))))) && (r1 == r1_1))) from (by first | rfl | (try rw [hg52]; all_goals first | rfl | (simp only [Bool.true_or, Bool.or_true, Bool.false_or, Bool.or_false, Bool.true_and, Bool.and_true, Bool.false_and, Bool.and_false, Bool.not_true, Bool.not_false, Bool.cond_true, Bool.cond_false]; done)) | simp [hg52])) has_nil)⟩
      · rintro ρ _ ⟨rfl, hH⟩
        refine hx_has _ hH ?_
        refine hx_ret ?_
        refine blockQ_ret ?_
        refine seqQ_ret ?_
        replace H := H h13 xv49
        exact endQ_ret _ (res_one Try.results22 (rv_tmp rfl)) H
    · replace H := H.2 hb30
      refine hx_seq ?_
      refine hx_region ?_
      refine hl_val rfl rfl (v := (.bool (o_Kind == 3))) (hv_arith rfl rfl rfl) ?_
      refine hl_val rfl rfl (v := (.bool (o_Kind == 3))) (hv_assign rfl) ?_
      refine hl_nil ?_
      refine seqQ_n ?_
      refine hx_cond (b := o_Kind == 3) rfl (fun hb53 => ?_) (fun hb53 => ?_)
      · replace H := H.1 hb53
        refine hx_seq ?_
        refine hx_region ?_
        refine hl_val rfl rfl (v := (ptr t_b t_o)) (hv_move rfl) ?_
        refine hl_val rfl rfl (v := (ptr o 1)) (hv_field TyShQ.fld33_1 (b := o) (o := 0) rfl) ?_
        refine hl_val rfl rfl (v := (ptr o 1)) (hv_field TyShQ.fld31_0 (b := o) (o := 1) rfl) ?_
        refine hl_val rfl rfl (v := (.int .u64 o_Entry_Hash)) (hv_load TyShQ.agg29 rfl (rowcell hr4 rfl)) ?_
        replace H := H o h1 lo5 (row_lt hr4) xx3
        refine hl_step rfl rfl (hs_call TyShQ.cb16 (vs := [(ptr t_b t_o), (.int .u64 o_Entry_Hash)]) rfl (HC.mono H ?_))
        rintro _ h14 ⟨kp54, r0_Hash, r0_At, r0_Version, r0_Hits, r1, rfl, H⟩
        replace hr4 := Kp.row kp54 (by simp) hr4
        refine hl_val rfl rfl (v := (.tuple #[(.agg #[(.int .u64 r0_Hash), (.int .u64 r0_At), (.int .u64 r0_Version), (.int .u8 r0_Hits)]), (.bool r1)])) (hv_move rfl) ?_
        refine hl_val rfl rfl (v := (.agg #[(.int .u64 r0_Hash), (.int .u64 r0_At), (.int .u64 r0_Version), (.int .u8 r0_Hits)])) (hv_extract (vs := #[(.agg #[(.int .u64 r0_Hash), (.int .u64 r0_At), (.int .u64 r0_Version), (.int .u8 r0_Hits)]), (.bool r1)]) rfl rfl) ?_
        refine hl_val rfl rfl (v := (.bool r1)) (hv_extract (vs := #[(.agg #[(.int .u64 r0_Hash), (.int .u64 r0_At), (.int .u64 r0_Version), (.int .u8 r0_Hits)]), (.bool r1)]) rfl rfl) ?_
        refine hl_step rfl rfl (hn_alloc TyShQ.z31 ?_)
        intro a h15 eb55 eh56
        have xx57 : Ext h14 h15 := by rw [eh56]; exact Ext.push _ _
        have ne60 := Nat.ne_of_lt (Nat.lt_of_lt_of_eq (row_lt hr4) (Eq.symm eb55))
        have lo59 : Array.size h14 ≤ a := Nat.le_of_eq (Eq.symm eb55)
        have hr58 : h15[a]? = some (.cells #[(.int .u64 0), (.int .u64 0), (.int .u64 0), (.int .u8 0)] 31 (0, 0)) := by rw [eh56]; exact push_new eb55
        replace hr4 := Ext.row xx57 hr4
        refine hl_step rfl rfl (hn_stores (vs := [(.int .u64 r0_Hash), (.int .u64 r0_At), (.int .u64 r0_Version), (.int .u8 r0_Hits)]) rfl rfl TyShQ.sz31 rfl (HWs_row hr58 (by simp)) ?_)
        intro h16 eh61
        replace hr4 := row_hsets_ne eh61 ne60 hr4
        have hr58' : h16[a]? = some (.cells #[(.int .u64 r0_Hash), (.int .u64 r0_At), (.int .u64 r0_Version), (.int .u8 r0_Hits)] 31 (0, 0)) := row_hsets_eq eh61 hr58 rfl
        have xv62 := ext_hsets eh61 xx57 lo59
        refine hl_val rfl rfl (v := (.bool r1)) (hv_assign rfl) ?_
        refine hl_nil ?_
        refine seqQ_n ?_
        refine hx_seq ?_
        refine hx_region ?_
        refine hl_val rfl rfl (v := (ptr x_b x_o)) (hv_move rfl) ?_
        refine hl_val rfl rfl (v := (ptr o 1)) (hv_field TyShQ.fld33_1 (b := o) (o := 0) rfl) ?_
        refine hl_val rfl rfl (v := (ptr o 1)) (hv_field TyShQ.fld31_0 (b := o) (o := 1) rfl) ?_
        refine hl_val rfl rfl (v := (.int .u64 o_Entry_Hash)) (hv_load TyShQ.agg29 rfl (rowcell hr4 rfl)) ?_
        replace H := H a h16 lo59 (row_lt hr58') xv62
        refine hl_step rfl rfl (hs_call TyShQ.cb39 (vs := [(ptr x_b x_o), (.int .u64 o_Entry_Hash)]) rfl (HC.mono H ?_))
        rintro _ h17 ⟨kp63, r0_Hash_1, r0_At_1, r0_Version_1, r0_Hits_1, r1_1, rfl, H⟩
        replace hr4 := Kp.row kp63 (by simp) hr4
        replace hr58' := Kp.row kp63 (by simp) hr58'
        refine hl_val rfl rfl (v := (.tuple #[(.agg #[(.int .u64 r0_Hash_1), (.int .u64 r0_At_1), (.int .u64 r0_Version_1), (.int .u8 r0_Hits_1)]), (.bool r1_1)])) (hv_move rfl) ?_
        refine hl_val rfl rfl (v := (.agg #[(.int .u64 r0_Hash_1), (.int .u64 r0_At_1), (.int .u64 r0_Version_1), (.int .u8 r0_Hits_1)])) (hv_extract (vs := #[(.agg #[(.int .u64 r0_Hash_1), (.int .u64 r0_At_1), (.int .u64 r0_Version_1), (.int .u8 r0_Hits_1)]), (.bool r1_1)]) rfl rfl) ?_
        refine hl_val rfl rfl (v := (.bool r1_1)) (hv_extract (vs := #[(.agg #[(.int .u64 r0_Hash_1), (.int .u64 r0_At_1), (.int .u64 r0_Version_1), (.int .u8 r0_Hits_1)]), (.bool r1_1)]) rfl rfl) ?_
        refine hl_step rfl rfl (hn_alloc TyShQ.z31 ?_)
        intro b h18 eb64 eh65
        have xx66 : Ext h17 h18 := by rw [eh65]; exact Ext.push _ _
        have ne69 := Nat.ne_of_lt (Nat.lt_of_lt_of_eq (row_lt hr4) (Eq.symm eb64))
        have ne70 := Nat.ne_of_lt (Nat.lt_of_lt_of_eq (row_lt hr58') (Eq.symm eb64))
        have lo68 : Array.size h17 ≤ b := Nat.le_of_eq (Eq.symm eb64)
        have hr67 : h18[b]? = some (.cells #[(.int .u64 0), (.int .u64 0), (.int .u64 0), (.int .u8 0)] 31 (0, 0)) := by rw [eh65]; exact push_new eb64
        replace hr4 := Ext.row xx66 hr4
        replace hr58' := Ext.row xx66 hr58'
        refine hl_step rfl rfl (hn_stores (vs := [(.int .u64 r0_Hash_1), (.int .u64 r0_At_1), (.int .u64 r0_Version_1), (.int .u8 r0_Hits_1)]) rfl rfl TyShQ.sz31 rfl (HWs_row hr67 (by simp)) ?_)
        intro h19 eh71
        replace hr4 := row_hsets_ne eh71 ne69 hr4
        replace hr58' := row_hsets_ne eh71 ne70 hr58'
        have hr67' : h19[b]? = some (.cells #[(.int .u64 r0_Hash_1), (.int .u64 r0_At_1), (.int .u64 r0_Version_1), (.int .u8 r0_Hits_1)] 31 (0, 0)) := row_hsets_eq eh71 hr67 rfl
        have xv72 := ext_hsets eh71 xx66 lo68
        refine hl_val rfl rfl (v := (.bool r1_1)) (hv_assign rfl) ?_
        refine hl_nil ?_
        refine seqQ_n ?_
        refine hx_cut (fun ρ h' => h19 = h' ∧ Has ρ [(6, (.bool (((r0_Hash == r0_Hash_1 && (r0_At == r0_At_1 && (r0_Version == r0_Version_1 && (r0_Hits == r0_Hits_1 && true))))) && (r1 == r1_1))))]) ?_ ?_
        · refine hx_region ?_
          refine hl_val rfl rfl (v := (.agg #[(.int .u64 r0_Hash), (.int .u64 r0_At), (.int .u64 r0_Version), (.int .u8 r0_Hits)])) (hv_loads (vs := [(.int .u64 r0_Hash), (.int .u64 r0_At), (.int .u64 r0_Version), (.int .u8 r0_Hits)]) TyShQ.agg31 TyShQ.sz31 rfl (hcells_cons (rowcell hr58' rfl) (hcells_cons (rowcell hr58' rfl) (hcells_cons (rowcell hr58' rfl) (hcells_cons (rowcell hr58' rfl) hcells_nil))))) ?_
          refine hl_val rfl rfl (v := (.agg #[(.int .u64 r0_Hash_1), (.int .u64 r0_At_1), (.int .u64 r0_Version_1), (.int .u8 r0_Hits_1)])) (hv_loads (vs := [(.int .u64 r0_Hash_1), (.int .u64 r0_At_1), (.int .u64 r0_Version_1), (.int .u8 r0_Hits_1)]) TyShQ.agg31 TyShQ.sz31 rfl (hcells_cons (rowcell hr67' rfl) (hcells_cons (rowcell hr67' rfl) (hcells_cons (rowcell hr67' rfl) (hcells_cons (rowcell hr67' rfl) hcells_nil))))) ?_
          refine hl_val rfl rfl (v := (.bool ((r0_Hash == r0_Hash_1 && (r0_At == r0_At_1 && (r0_Version == r0_Version_1 && (r0_Hits == r0_Hits_1 && true))))))) (hv_structEq (xs := [(.int .u64 r0_Hash), (.int .u64 r0_At), (.int .u64 r0_Version), (.int .u8 r0_Hits)]) (ys := [(.int .u64 r0_Hash_1), (.int .u64 r0_At_1), (.int .u64 r0_Version_1), (.int .u8 r0_Hits_1)]) (b := (r0_Hash == r0_Hash_1 && (r0_At == r0_At_1 && (r0_Version == r0_Version_1 && (r0_Hits == r0_Hits_1 && true))))) TyShQ.se31 rfl rfl (by kernel_rfl) rfl) ?_
          refine hl_val rfl rfl (v := (.bool ((r0_Hash == r0_Hash_1 && (r0_At == r0_At_1 && (r0_Version == r0_Version_1 && (r0_Hits == r0_Hits_1 && true))))))) (hv_move rfl) ?_
          rcases bool_or (((r0_Hash == r0_Hash_1 && (r0_At == r0_At_1 && (r0_Version == r0_Version_1 && (r0_Hits == r0_Hits_1 && true)))))) with hg75 | hg75
          · refine hl_yes (wanted_y rfl rfl rfl hg75) rfl (HStep.of_val (v := (.bool r1)) (hv_move rfl) ?_)
            refine hl_yes (wanted_y rfl rfl rfl hg75) rfl (HStep.of_val (v := (.bool r1_1)) (hv_move rfl) ?_)
            refine hl_yes (wanted_y rfl rfl rfl hg75) rfl (HStep.of_val (v := (.bool (r1 == r1_1))) (hv_eqBool TyShQ.u4 rfl rfl rfl) ?_)
            refine hl_val rfl rfl (v := (.bool (r1 == r1_1))) (hv_pick_t rfl hg75 rfl) ?_
            refine hl_val rfl rfl (v := (.bool (r1 == r1_1))) (hv_assign rfl) ?_
            refine hl_nil ?_
            refine seqQ_n ?_
            exact ⟨rfl, (has_cons (show ((.bool (r1 == r1_1)) : Value) = (.bool (((r0_Hash == r0_Hash_1 && (r0_At == r0_At_1 && (r0_Version == r0_Version_1 && (r0_Hits == r0_Hits_1 && true))))) && (r1 == r1_1))) from (by first | rfl | (try rw [hg75]; all_goals first | rfl | (simp only [Bool.true_or, Bool.or_true, Bool.false_or, Bool.or_false, Bool.true_and, Bool.and_true, Bool.false_and, Bool.and_false, Bool.not_true, Bool.not_false, Bool.cond_true, Bool.cond_false]; done)) | simp [hg75])) has_nil)⟩
          · refine hl_no (wanted_n rfl rfl rfl hg75) rfl ?_
            refine hl_no (wanted_n rfl rfl rfl hg75) rfl ?_
            refine hl_no (wanted_n rfl rfl rfl hg75) rfl ?_
            refine hl_val rfl rfl (v := (.bool false)) (hv_pick_f rfl hg75 rfl) ?_
            refine hl_val rfl rfl (v := (.bool false)) (hv_assign rfl) ?_
            refine hl_nil ?_
            refine seqQ_n ?_
            exact ⟨rfl, (has_cons (show ((.bool false) : Value) = (.bool (((r0_Hash == r0_Hash_1 && (r0_At == r0_At_1 && (r0_Version == r0_Version_1 && (r0_Hits == r0_Hits_1 && true))))) && (r1 == r1_1))) from (by first | rfl | (try rw [hg75]; all_goals first | rfl | (simp only [Bool.true_or, Bool.or_true, Bool.false_or, Bool.or_false, Bool.true_and, Bool.and_true, Bool.false_and, Bool.and_false, Bool.not_true, Bool.not_false, Bool.cond_true, Bool.cond_false]; done)) | simp [hg75])) has_nil)⟩
        · rintro ρ _ ⟨rfl, hH⟩
          refine hx_has _ hH ?_
          refine hx_ret ?_
          refine blockQ_ret ?_
          refine seqQ_ret ?_
          replace H := H h19 xv72
          exact endQ_ret _ (res_one Try.results22 (rv_tmp rfl)) H
      · replace H := H.2 hb53
        refine hx_seq ?_
        refine hx_region ?_
        refine hl_val rfl rfl (v := (.bool (o_Kind == 4))) (hv_arith rfl rfl rfl) ?_
        refine hl_val rfl rfl (v := (.bool (o_Kind == 4))) (hv_assign rfl) ?_
        refine hl_nil ?_
        refine seqQ_n ?_
        refine hx_cond (b := o_Kind == 4) rfl (fun hb76 => ?_) (fun hb76 => ?_)
        · replace H := H.1 hb76
          refine hx_seq ?_
          obtain ⟨T77, hT78, H⟩ := H
          refine hx_drawT TyShQ.mixed T77 hT78 [.pure, .pure, .pure, .read, .tame, .pure, .pure, .pure, .stay, .wild, .pure, .pure] [0, 1, 2, 3, 5, 6, 7, 8, 4, 9, 10, 11] (by kernel_rfl) ?_
          refine hp_pure (i := 0) rfl (wanted_0 rfl) rfl (ptr t_b t_o) (fun _ => hv_move rfl) ?_
          refine hp_pure (i := 1) rfl (wanted_0 rfl) rfl (ptr o 1) (fun _ => hv_field TyShQ.fld33_1 (b := o) (o := 0) rfl) ?_
          refine hp_pure (i := 2) rfl (wanted_0 rfl) rfl (ptr o 1) (fun _ => hv_field TyShQ.fld31_0 (b := o) (o := 1) rfl) ?_
          refine hp_read (i := 3) rfl (wanted_0 rfl) rfl (.int .u64 o_Entry_Hash) (fun _ he => hv_load TyShQ.agg29 rfl (Ext.cell he (rowcell hr4 rfl))) ?_
          refine hp_pure (i := 5) rfl (wanted_0 rfl) rfl (ptr x_b x_o) (fun _ => hv_move rfl) ?_
          refine hp_pure (i := 6) rfl (wanted_0 rfl) rfl (ptr o 1) (fun _ => hv_field TyShQ.fld33_1 (b := o) (o := 0) rfl) ?_
          refine hp_pure (i := 7) rfl (wanted_0 rfl) rfl (ptr o 1) (fun _ => hv_field TyShQ.fld31_0 (b := o) (o := 1) rfl) ?_
          replace H := H o h1 lo5 (row_lt hr4) xx3
          obtain ⟨hk84, H⟩ := H
          refine hp_stay (i := 8) rfl (wanted_0 rfl) rfl (.int .u64 o_Entry_Hash) (fun _ he => hv_load TyShQ.agg29 rfl ((fun hx he => rowcell (Kp.row (hk84 hx he) (by simp) hr4) rfl) _ he)) ?_
          refine hp_tame (i := 4) rfl (wanted_0 rfl) rfl (hs_call TyShQ.cb17 (vs := [(ptr t_b t_o), (.int .u64 o_Entry_Hash)]) rfl (HC.mono H ?_))
          rintro _ h22 ⟨ht82, kp83, r_2, rfl, H⟩
          refine ⟨ht82, ?_⟩
          replace hr4 := Kp.row kp83 (by simp) hr4
          refine hp_wild (i := 9) rfl (wanted_0 rfl) rfl (hs_call TyShQ.cb40 (vs := [(ptr x_b x_o), (.int .u64 o_Entry_Hash)]) rfl (HC.mono H ?_))
          rintro _ h23 ⟨r_3, rfl, H⟩
          refine hp_pure (i := 10) rfl (wanted_0 rfl) rfl (.bool (r_2 == r_3)) (fun _ => hv_eqBool TyShQ.u4 rfl rfl rfl) ?_
          refine hp_pure (i := 11) rfl (wanted_0 rfl) rfl (.bool (r_2 == r_3)) (fun _ => hv_assign rfl) ?_
          refine hp_nil ?_
          refine seqQ_n ?_
          refine hx_ret ?_
          refine blockQ_ret ?_
          refine seqQ_ret ?_
          exact endQ_ret _ (res_one Try.results22 (rv_tmp rfl)) H
        · replace H := H.2 hb76
          refine hx_seq ?_
          refine hx_region ?_
          refine hl_val rfl rfl (v := (.bool (o_Kind == 5))) (hv_arith rfl rfl rfl) ?_
          refine hl_val rfl rfl (v := (.bool (o_Kind == 5))) (hv_assign rfl) ?_
          refine hl_nil ?_
          refine seqQ_n ?_
          refine hx_cond (b := o_Kind == 5) rfl (fun hb85 => ?_) (fun hb85 => ?_)
          · replace H := H.1 hb85
            refine hx_seq ?_
            refine hx_region ?_
            refine hl_val rfl rfl (v := (ptr t_b t_o)) (hv_move rfl) ?_
            replace H := H h1 xx3
            refine hl_step rfl rfl (hs_call TyShQ.cb13 (vs := [(ptr t_b t_o)]) rfl (HC.mono H ?_))
            rintro _ h24 ⟨r, r_n, r_c, rfl, H⟩
            refine hl_val rfl rfl (v := (.slice r r_n r_c)) (hv_assign rfl) ?_
            refine hl_nil ?_
            refine seqQ_n ?_
            refine hx_seq ?_
            refine hx_region ?_
            refine hl_val rfl rfl (v := (.slice r r_n r_c)) (hv_move rfl) ?_
            refine hl_val rfl rfl (v := (ptr x_b x_o)) (hv_move rfl) ?_
            refine hl_step rfl rfl (hs_call TyShQ.cb25 (vs := [(ptr x_b x_o)]) rfl (HC.mono H ?_))
            rintro _ h25 ⟨r_1, r_n_1, r_c_1, rfl, H⟩
            obtain ⟨r_2, hr86, H⟩ := H
            refine hl_val rfl rfl (v := (.bool r_2)) (hv_call TyShQ.cb20 (vs := [(.slice r r_n r_c), (.slice r_1 r_n_1 r_c_1)]) rfl hr86) ?_
            refine hl_val rfl rfl (v := (.bool r_2)) (hv_assign rfl) ?_
            refine hl_nil ?_
            refine seqQ_n ?_
            refine hx_seq ?_
            refine hx_seq ?_
            refine hx_region ?_
            refine hl_val rfl rfl (v := (.int .i64 0)) (hv_assign rfl) ?_
            refine hl_nil ?_
            refine seqQ_n ?_
            refine hx_block ?_
            obtain ⟨I87, mu88, Ha89, Hr90⟩ := H
            refine hx_loopT (σ := Int) (fun s => [(21, (.slice r r_n r_c)), (22, (.bool r_2)), (23, (.int .i64 s))]) (fun s h' => I87 s h' ∧ True) (fun s h' => mu88 s h') 0 ⟨Ha89, trivial⟩ (has_cons rfl (has_cons rfl (has_cons rfl has_nil))) ?_
            rintro i ρ h26 ⟨Hi91, -⟩
            have H := Hr90 i h26 Hi91
            refine hx_seq ?_
            refine hx_seq ?_
            refine hx_region ?_
            refine hl_val rfl rfl (v := (.int .i64 i)) (hv_move rfl) ?_
            refine hl_val rfl rfl (v := (.slice r r_n r_c)) (hv_move rfl) ?_
            refine hl_val rfl rfl (v := (.int .i64 (r_n : Int))) (hv_len (n := r_n) TyShQ.u35 rfl) ?_
            refine hl_val rfl rfl (v := (.bool (decide (i < (r_n : Int))))) (hv_arith rfl rfl rfl) ?_
            refine hl_nil ?_
            refine seqQ_n ?_
            refine hx_cond (b := decide (i < (r_n : Int))) rfl (fun hb92 => ?_) (fun hb92 => ?_)
            · replace H := H.1 hb92
              refine hx_skip ?_
              refine seqQ_n ?_
              refine hx_seq ?_
              refine hx_block ?_
              refine hx_region ?_
              refine hl_val rfl rfl (v := (.slice r r_n r_c)) (hv_move rfl) ?_
              refine hl_val rfl rfl (v := (.int .i64 i)) (hv_move rfl) ?_
              refine hl_val rfl rfl (v := (.slice r r_n r_c)) (hv_move rfl) ?_
              refine hl_val rfl rfl (v := (.int .i64 i)) (hv_move rfl) ?_
              obtain ⟨r_b, r_o, hqe, hi93, hi94, Hq⟩ := H
              subst hqe
              have H := Hq; clear Hq
              refine hl_val rfl rfl (v := (ptr r_b (r_o + (Int.toNat i) * 4))) (hv_index TyShQ.el35 rfl rfl hi93 hi94) ?_
              refine hl_val rfl rfl (v := (ptr r_b ((r_o + (Int.toNat i) * 4) + 1))) (hv_field TyShQ.fld31_1 (b := r_b) (o := r_o + (Int.toNat i) * 4) rfl) ?_
              obtain ⟨x, hc95, H⟩ := H
              refine hl_val rfl rfl (v := (.int .u64 x)) (hv_load TyShQ.agg29 rfl hc95) ?_
              refine hl_val rfl rfl (v := (.int .u64 (IntKind.u64.wrap (x + 1)))) (hv_arith rfl rfl rfl) ?_
              refine hl_val rfl rfl (v := (ptr r_b (r_o + (Int.toNat i) * 4))) (hv_index TyShQ.el35 rfl rfl hi93 hi94) ?_
              refine hl_val rfl rfl (v := (ptr r_b ((r_o + (Int.toNat i) * 4) + 1))) (hv_field TyShQ.fld31_1 (b := r_b) (o := r_o + (Int.toNat i) * 4) rfl) ?_
              obtain ⟨hw99, H⟩ := H
              refine hl_step rfl rfl (hn_store (v := (.int .u64 (IntKind.u64.wrap (x + 1)))) rfl rfl TyShQ.sz29 rfl hw99 ?_)
              intro h27 eh98
              replace H := H h27 eh98
              refine hl_nil ?_
              refine blockQ_n ?_
              refine seqQ_n ?_
              refine hx_region ?_
              refine hl_val rfl rfl (v := (.int .i64 i)) (hv_move rfl) ?_
              refine hl_val rfl rfl (v := (.int .i64 (IntKind.i64.wrap (i + 1)))) (hv_arith rfl rfl rfl) ?_
              refine hl_val rfl rfl (v := (.int .i64 (IntKind.i64.wrap (i + 1)))) (hv_assign rfl) ?_
              refine hl_nil ?_
              refine seqQ_n ?_
              exact ⟨IntKind.i64.wrap (i + 1), ⟨⟨H.1, trivial⟩, H.2⟩, (has_cons rfl (has_cons rfl (has_cons rfl has_nil)))⟩
            · replace H := H.2 hb92
              refine hx_exit ?_
              refine seqQ_exit ?_
              refine seqQ_exit ?_
              refine blockQ_here ?_
              refine seqQ_n ?_
              refine hx_seq ?_
              refine hx_region ?_
              refine hl_val rfl rfl (v := (.bool r_2)) (hv_move rfl) ?_
              refine hl_val rfl rfl (v := (.bool r_2)) (hv_assign rfl) ?_
              refine hl_nil ?_
              refine seqQ_n ?_
              refine hx_ret ?_
              refine blockQ_ret ?_
              refine seqQ_ret ?_
              exact endQ_ret _ (res_one Try.results22 (rv_tmp rfl)) H
          · replace H := H.2 hb85
            refine hx_seq ?_
            refine hx_region ?_
            refine hl_val rfl rfl (v := (.bool (o_Kind == 6))) (hv_arith rfl rfl rfl) ?_
            refine hl_val rfl rfl (v := (.bool (o_Kind == 6))) (hv_assign rfl) ?_
            refine hl_nil ?_
            refine seqQ_n ?_
            refine hx_cond (b := o_Kind == 6) rfl (fun hb100 => ?_) (fun hb100 => ?_)
            · replace H := H.1 hb100
              obtain ⟨A103, Hx101, Hy102⟩ := H
              refine hx_cut (fun ρ h' => ∃ j : Bool, (A103 j h' ∧ True) ∧ Has ρ [(6, (.bool j))]) ?_ ?_
              · have H := Hx101; clear Hx101 Hy102
                obtain ⟨T105, hT106, H⟩ := H
                refine hx_drawT TyShQ.mixed T105 hT106 [.pure, .tame, .pure, .pure, .pure, .stay, .pure, .pure, .pure, .pure, .wild, .pure, .wild, .pure, .pure, .pure] [0, 2, 3, 4, 5, 6, 1, 7, 8, 9, 11, 10, 12, 13, 14, 15] (by kernel_rfl) ?_
                refine hp_pure (i := 0) rfl (wanted_0 rfl) rfl (ptr t_b t_o) (fun _ => hv_move rfl) ?_
                refine hp_pure (i := 2) rfl (wanted_0 rfl) rfl (ptr x_b x_o) (fun _ => hv_move rfl) ?_
                refine hp_pure (i := 3) rfl (wanted_0 rfl) rfl (ptr x_b x_o) (fun _ => hv_nil rfl) ?_
                refine hp_pure (i := 4) rfl (wanted_0 rfl) rfl (ptr x_b (x_o + 2)) (fun _ => hv_field TyShQ.fld55_2 (b := x_b) (o := x_o) rfl) ?_
                replace H := H h1 xx3
                obtain ⟨x, x_n, x_c, hc107, H⟩ := H
                refine hp_stay (i := 5) rfl (wanted_0 rfl) rfl (.slice x x_n x_c) (fun _ he => hv_load TyShQ.agg35 rfl (hc107 _ he)) ?_
                refine hp_pure (i := 6) rfl (wanted_0 rfl) rfl (.int .i64 (x_n : Int)) (fun _ => hv_len (n := x_n) TyShQ.u35 rfl) ?_
                refine hp_tame (i := 1) rfl (wanted_0 rfl) rfl (hs_call TyShQ.cb19 (vs := [(ptr t_b t_o)]) rfl (HC.mono H ?_))
                rintro _ h29 ⟨ht108, r, rfl, H⟩
                refine ⟨ht108, ?_⟩
                refine hp_pure (i := 7) rfl (wanted_0 rfl) rfl (.bool (r == (x_n : Int))) (fun _ => hv_arith rfl rfl rfl) ?_
                refine hp_pure (i := 8) rfl (wanted_0 rfl) rfl (.bool (r == (x_n : Int))) (fun _ => hv_move rfl) ?_
                rcases bool_or (r == (x_n : Int)) with hg109 | hg109
                · replace H := H.1 hg109
                  refine hp_pure (i := 9) rfl (wanted_y rfl rfl rfl hg109) rfl (ptr t_b t_o) (fun _ => hv_move rfl) ?_
                  refine hp_pure (i := 11) rfl (wanted_y rfl rfl rfl hg109) rfl (ptr x_b x_o) (fun _ => hv_move rfl) ?_
                  refine hp_wild (i := 10) rfl (wanted_y rfl rfl rfl hg109) rfl (hs_call TyShQ.cb26 (vs := [(ptr t_b t_o)]) rfl (HC.mono H ?_))
                  rintro _ h30 ⟨r_1, rfl, H⟩
                  refine hp_wild (i := 12) rfl (wanted_y rfl rfl rfl hg109) rfl (hs_call TyShQ.cb27 (vs := [(ptr x_b x_o)]) rfl (HC.mono H ?_))
                  rintro _ h31 ⟨r_2, rfl, H⟩
                  refine hp_pure (i := 13) rfl (wanted_y rfl rfl rfl hg109) rfl (.bool (r_1 == r_2)) (fun _ => hv_arith rfl rfl rfl) ?_
                  refine hp_pure (i := 14) rfl (wanted_0 rfl) rfl (.bool (r_1 == r_2)) (fun _ => hv_pick_t rfl hg109 rfl) ?_
                  refine hp_pure (i := 15) rfl (wanted_0 rfl) rfl (.bool (r_1 == r_2)) (fun _ => hv_assign rfl) ?_
                  refine hp_nil ?_
                  refine seqQ_n ?_
                  exact ⟨_, ⟨H, trivial⟩, (has_cons rfl has_nil)⟩
                · replace H := H.2 hg109
                  refine hp_no (i := 9) rfl (wanted_n rfl rfl rfl hg109) ?_
                  refine hp_no (i := 11) rfl (wanted_n rfl rfl rfl hg109) ?_
                  refine hp_no (i := 10) rfl (wanted_n rfl rfl rfl hg109) ?_
                  refine hp_no (i := 12) rfl (wanted_n rfl rfl rfl hg109) ?_
                  refine hp_no (i := 13) rfl (wanted_n rfl rfl rfl hg109) ?_
                  refine hp_pure (i := 14) rfl (wanted_0 rfl) rfl (.bool false) (fun _ => hv_pick_f rfl hg109 rfl) ?_
                  refine hp_pure (i := 15) rfl (wanted_0 rfl) rfl (.bool false) (fun _ => hv_assign rfl) ?_
                  refine hp_nil ?_
                  refine seqQ_n ?_
                  exact ⟨_, ⟨H, trivial⟩, (has_cons rfl has_nil)⟩
              · rintro ρ h28 ⟨j, ⟨HA104, -⟩, hH⟩
                have H := Hy102 j h28 HA104; clear Hx101 Hy102
                refine hx_has _ hH ?_
                refine hx_ret ?_
                refine blockQ_ret ?_
                refine seqQ_ret ?_
                exact endQ_ret _ (res_one Try.results22 (rv_tmp rfl)) H
            · replace H := H.2 hb100
              refine hx_skip ?_
              refine blockQ_n ?_
              refine seqQ_n ?_
              refine hx_seq ?_
              obtain ⟨T110, hT111, H⟩ := H
              refine hx_drawT TyShQ.mixed T110 hT111 [.pure, .tame, .pure, .pure, .pure, .stay, .stay, .pure] [0, 2, 3, 4, 5, 1, 6, 7] (by kernel_rfl) ?_
              refine hp_pure (i := 0) rfl (wanted_0 rfl) rfl (ptr t_b t_o) (fun _ => hv_move rfl) ?_
              refine hp_pure (i := 2) rfl (wanted_0 rfl) rfl (ptr x_b x_o) (fun _ => hv_move rfl) ?_
              refine hp_pure (i := 3) rfl (wanted_0 rfl) rfl (ptr x_b x_o) (fun _ => hv_nil rfl) ?_
              refine hp_pure (i := 4) rfl (wanted_0 rfl) rfl (ptr x_b (x_o + 2)) (fun _ => hv_field TyShQ.fld55_2 (b := x_b) (o := x_o) rfl) ?_
              replace H := H h1 xx3
              obtain ⟨x, x_n, x_c, hc112, H⟩ := H
              refine hp_stay (i := 5) rfl (wanted_0 rfl) rfl (.slice x x_n x_c) (fun _ he => hv_load TyShQ.agg35 rfl (hc112 _ he)) ?_
              refine hp_tame (i := 1) rfl (wanted_0 rfl) rfl (hs_call TyShQ.cb18 (vs := [(ptr t_b t_o)]) rfl (HC.mono H ?_))
              rintro _ h32 ⟨ht113, r, r_n, r_c, rfl, H⟩
              refine ⟨ht113, ?_⟩
              obtain ⟨r_1, hr114, H⟩ := H
              refine hp_stay (i := 6) rfl (wanted_0 rfl) rfl (.bool r_1) (fun _ he => hv_call TyShQ.cb20 (vs := [(.slice r r_n r_c), (.slice x x_n x_c)]) rfl (hr114 _ he)) ?_
              refine hp_pure (i := 7) rfl (wanted_0 rfl) rfl (.bool r_1) (fun _ => hv_assign rfl) ?_
              refine hp_nil ?_
              refine seqQ_n ?_
              refine hx_ret ?_
              exact endQ_ret _ (res_one Try.results22 (rv_tmp rfl)) H

end Go.Proofs.Ytebipjmcckkhcaa
