/-
Shallow forms, written by gen2.py (a program of ours) out of the print of the program.
-/
import Derived.Test.YtmdgfbhmogjklaaME
import Derived.Test.YtmdgfbhmogjklaaProg
namespace Go.Proofs.Ytmdgfbhmogjklaa
open Go
set_option maxRecDepth 100000
set_option maxHeartbeats 4000000

theorem TyShD.agg29 : aggB Try.prog 29 = some false := by kernel_rfl
theorem TyShD.agg3 : aggB Try.prog 3 = some false := by kernel_rfl
theorem TyShD.agg31 : aggB Try.prog 31 = some true := by kernel_rfl
theorem TyShD.agg4 : aggB Try.prog 4 = some false := by kernel_rfl
theorem TyShD.agg40 : aggB Try.prog 40 = some true := by kernel_rfl
theorem TyShD.agg9 : aggB Try.prog 9 = some false := by kernel_rfl
theorem TyShD.cb18 : CallB Try.prog 18 := fun _ _ => Try.call18 _ _
theorem TyShD.cb30 : CallB Try.prog 30 := fun _ _ => Try.call30 _ _
theorem TyShD.cb32 : CallB Try.prog 32 := fun _ _ => Try.call32 _ _
theorem TyShD.cb34 : CallB Try.prog 34 := fun _ _ => Try.call34 _ _
theorem TyShD.cb38 : CallB Try.prog 38 := fun _ _ => Try.call38 _ _
theorem TyShD.el27 : elB Try.prog 27 = some 2 := by kernel_rfl
theorem TyShD.fld31_0 : fldB Try.prog 31 0 = some 0 := by kernel_rfl
theorem TyShD.fld31_2 : fldB Try.prog 31 2 = some 2 := by kernel_rfl
theorem TyShD.fld31_3 : fldB Try.prog 31 3 = some 3 := by kernel_rfl
theorem TyShD.fld31_4 : fldB Try.prog 31 4 = some 4 := by kernel_rfl
theorem TyShD.fld31_7 : fldB Try.prog 31 7 = some 7 := by kernel_rfl
theorem TyShD.fld40_0 : fldB Try.prog 40 0 = some 0 := by kernel_rfl
theorem TyShD.fld40_1 : fldB Try.prog 40 1 = some 1 := by kernel_rfl
theorem TyShD.mixed : Try.prog.follows .mixedOrders = true := by kernel_rfl
theorem TyShD.pl40 : plB Try.prog 40 = some [(0, 1), (1, 1)] := by kernel_rfl
theorem TyShD.sz31 : szB Try.prog 31 = some 8 := by kernel_rfl
theorem TyShD.sz40 : szB Try.prog 40 = some 2 := by kernel_rfl
theorem TyShD.u27 : Try.prog.underlying 27 = some (.slice 40) := by kernel_rfl
theorem TyShD.u3 : Try.prog.underlying 3 = some (.int .i64) := by kernel_rfl
theorem TyShD.u54 : Try.prog.underlying 54 = some (.map 3 52) := by kernel_rfl
theorem TyShD.z40 : zeroB Try.prog 40 (.agg #[(.bool false), (.string ByteArray.empty)]) := by unfold zeroB; kernel_rfl
theorem TyShD.z52 : zeroB Try.prog 52 .nilFunc := by unfold zeroB; kernel_rfl

/-- cellar/model.Next -/
theorem f19_sh (l : Option Addr) (l_n : Nat) (l_c : Nat) (m_Kind : Int) (m_Key : ByteArray) (m_Value : ByteArray) (m_Err : Int) (m_Hit : Bool) (m_Life : Int) (m_From : Int) (m_To : Int) (h : Heap) (R : Value → Heap → Prop)
    (H : (∀ (m : Nat) (h1 : Heap), Array.size h ≤ m → m < Array.size h1 → Ext h h1 → HC Try.prog 30 #[] h1 (fun vv h2 => Ext h1 h2 ∧ ∃ r : Option Nat, vv = (.map r) ∧ (∃ r_m : Nat, r = some r_m ∧ ∃ kv : List (Int × Value), MapL h2 r_m (Value.int .i64) kv ∧ ∃ x : Value, (lk kv m_Kind).getD .nilFunc = x ∧ (∃ (I13 : Option Addr → Nat → Nat → Int → Heap → Prop) (mu14 : Option Addr → Nat → Nat → Int → Heap → Nat), I13 none 0 0 0 h2 ∧ (∀ (out : Option Addr) (out_n : Nat) (out_c : Nat) (v : Int) (h3 : Heap), I13 out out_n out_c v h3 → (((decide (v < (l_n : Int))) = true → (∃ l_b l_o : Nat, l = some ⟨l_b, l_o, none⟩ ∧ (0 : Int) ≤ v ∧ v < (l_n : Int) ∧ (∃ x_Has : Bool, ∃ x_Value : ByteArray, hcell h3 l_b (l_o + (Int.toNat v) * 2) = some (.bool x_Has) ∧ hcell h3 l_b ((l_o + (Int.toNat v) * 2) + 1) = some (.string x_Value) ∧ (∀ (h5 : Heap), Ext h3 h5 → HCV Try.prog (bif !((lk kv m_Kind).isSome) then (.func (.func 31) #[] #[]) else x) [(.agg #[(.bool x_Has), (.string x_Value)]), (.agg #[(.int .i64 m_Kind), (.string m_Key), (.string m_Value), (.int .i64 m_Err), (.bool m_Hit), (.int .i64 m_Life), (.int .i64 m_From), (.int .i64 m_To)])] h5 (fun vv h6 => Kp [m] h5 h6 ∧ ∃ r_1 : Option Addr, ∃ r_n r_c : Nat, vv = (.slice r_1 r_n r_c) ∧ HAppend Try.prog 27 27 (.slice out out_n out_c) (.slice r_1 r_n r_c) h6 (fun vv h7 => Kp [m] h6 h7 ∧ ∃ ap : Option Addr, ∃ ap_n ap_c : Nat, vv = (.slice ap ap_n ap_c) ∧ (I13 ap ap_n ap_c (IntKind.i64.wrap (v + 1)) h7 ∧ mu14 ap ap_n ap_c (IntKind.i64.wrap (v + 1)) h7 < mu14 out out_n out_c v h3))))))) ∧ ((decide (v < (l_n : Int))) = false → HC Try.prog 32 #[(.slice out out_n out_c), (.func (.func 33) #[] #[])] h3 (fun vv h8 => vv = (.tuple #[]) ∧ HC Try.prog 34 #[(.slice out out_n out_c)] h8 (fun vv h9 => ∃ r_1 : Option Addr, ∃ r_n r_c : Nat, vv = (.slice r_1 r_n r_c) ∧ R (.slice r_1 r_n r_c) h9)))))))))) :
    HC Try.prog 19 #[(.slice l l_n l_c), (.agg #[(.int .i64 m_Kind), (.string m_Key), (.string m_Value), (.int .i64 m_Err), (.bool m_Hit), (.int .i64 m_Life), (.int .i64 m_From), (.int .i64 m_To)])] h R := by
  refine hc_of (args := [(.slice l l_n l_c), (.agg #[(.int .i64 m_Kind), (.string m_Key), (.string m_Value), (.int .i64 m_Err), (.bool m_Hit), (.int .i64 m_Life), (.int .i64 m_From), (.int .i64 m_To)])]) Try.func19 rfl Try.ntmps19 (Nat.le_of_ble_eq_true rfl) ?_
  refine hx_seq ?_
  refine hx_region ?_
  refine hl_step rfl rfl (hn_box (v := (.agg #[(.int .i64 m_Kind), (.string m_Key), (.string m_Value), (.int .i64 m_Err), (.bool m_Hit), (.int .i64 m_Life), (.int .i64 m_From), (.int .i64 m_To)])) rfl ?_)
  intro m h1 eb1 eh2
  have xx3 : Ext h h1 := by rw [eh2]; exact Ext.push _ _
  have lo5 : Array.size h ≤ m := Nat.le_of_eq (Eq.symm eb1)
  have hr4 : h1[m]? = some (.cells #[(.int .i64 m_Kind), (.string m_Key), (.string m_Value), (.int .i64 m_Err), (.bool m_Hit), (.int .i64 m_Life), (.int .i64 m_From), (.int .i64 m_To)] 31 (0, 0)) := by rw [eh2]; exact push_new eb1
  refine hl_val rfl rfl (v := (.slice none 0 0)) (hv_assign rfl) ?_
  refine hl_nil ?_
  refine seqQ_n ?_
  refine hx_seq ?_
  refine hx_draw TyShD.mixed [.ext, .pure, .read, .read, .pure, .pure, .pure, .pure, .pure] [1, 2, 0, 3, 4, 5, 6, 7, 8] (by kernel_rfl) ?_
  refine hp_pure (i := 1) rfl (wanted_0 rfl) rfl (ptr m 0) (fun _ => hv_field TyShD.fld31_0 (b := m) (o := 0) rfl) ?_
  refine hp_read (i := 2) rfl (wanted_0 rfl) rfl (.int .i64 m_Kind) (fun _ he => hv_load TyShD.agg3 rfl (Ext.cell he (rowcell hr4 rfl))) ?_
  replace H := H m h1 lo5 (row_lt hr4) xx3
  refine hp_ext (i := 0) rfl (wanted_0 rfl) rfl (hs_call TyShD.cb30 (vs := []) rfl (HC.mono H ?_))
  rintro _ h2 ⟨he6, r, rfl, H⟩
  refine ⟨he6, ?_⟩
  replace hr4 := Ext.row he6 hr4
  obtain ⟨r_m, hqe, Hq⟩ := H
  subst hqe
  have H := Hq; clear Hq
  obtain ⟨kv, mm7, x, hv8, H⟩ := H
  refine hp_read (i := 3) rfl (wanted_0 rfl) rfl (.tuple #[x, (.bool ((lk kv m_Kind).isSome))]) (fun _ he => hv_look2 (l := kv) (a := m_Kind) (intK .i64) TyShD.u54 TyShD.u3 TyShD.z52 rfl rfl (MapL.ext he mm7) hv8) ?_
  refine hp_pure (i := 4) rfl (wanted_0 rfl) rfl (.tuple #[x, (.bool ((lk kv m_Kind).isSome))]) (fun _ => hv_move rfl) ?_
  refine hp_pure (i := 5) rfl (wanted_0 rfl) rfl x (fun _ => hv_extract (vs := #[x, (.bool ((lk kv m_Kind).isSome))]) rfl rfl) ?_
  refine hp_pure (i := 6) rfl (wanted_0 rfl) rfl (.bool ((lk kv m_Kind).isSome)) (fun _ => hv_extract (vs := #[x, (.bool ((lk kv m_Kind).isSome))]) rfl rfl) ?_
  refine hp_pure (i := 7) rfl (wanted_0 rfl) rfl x (fun _ => hv_assign rfl) ?_
  refine hp_pure (i := 8) rfl (wanted_0 rfl) rfl (.bool ((lk kv m_Kind).isSome)) (fun _ => hv_assign rfl) ?_
  refine hp_nil ?_
  refine seqQ_n ?_
  refine hx_cut (fun ρ h' => h2 = h' ∧ Has ρ [(0, (.slice l l_n l_c)), (3, (ptr m 0)), (5, (bif !((lk kv m_Kind).isSome) then (.func (.func 31) #[] #[]) else x))]) ?_ ?_
  · refine hx_seq ?_
    refine hx_region ?_
    refine hl_val rfl rfl (v := (.bool ((lk kv m_Kind).isSome))) (hv_move rfl) ?_
    refine hl_val rfl rfl (v := (.bool (!((lk kv m_Kind).isSome)))) (hv_not (b := (lk kv m_Kind).isSome) rfl) ?_
    refine hl_nil ?_
    refine seqQ_n ?_
    refine hx_cond (b := !((lk kv m_Kind).isSome)) rfl (fun hb11 => ?_) (fun hb11 => ?_)
    · refine hx_region ?_
      refine hl_val rfl rfl (v := (.func (.func 31) #[] #[])) (hv_assign rfl) ?_
      refine hl_nil ?_
      refine seqQ_n ?_
      exact ⟨rfl, (has_cons rfl (has_cons rfl (has_cons (show ((.func (.func 31) #[] #[]) : Value) = (bif !((lk kv m_Kind).isSome) then (.func (.func 31) #[] #[]) else x) from (by first | rfl | simp [hb11])) has_nil)))⟩
    · refine hx_skip ?_
      refine seqQ_n ?_
      exact ⟨rfl, (has_cons rfl (has_cons rfl (has_cons (show (x : Value) = (bif !((lk kv m_Kind).isSome) then (.func (.func 31) #[] #[]) else x) from (by first | rfl | simp [hb11])) has_nil)))⟩
  · rintro ρ _ ⟨rfl, hH⟩
    refine hx_has _ hH ?_
    refine hx_seq ?_
    refine hx_region ?_
    refine hl_val rfl rfl (v := (.slice none 0 0)) (hv_assign rfl) ?_
    refine hl_nil ?_
    refine seqQ_n ?_
    refine hx_seq ?_
    refine hx_seq ?_
    refine hx_region ?_
    refine hl_val rfl rfl (v := (.slice l l_n l_c)) (hv_move rfl) ?_
    refine hl_val rfl rfl (v := (.int .i64 (l_n : Int))) (hv_len (n := l_n) TyShD.u27 rfl) ?_
    refine hl_val rfl rfl (v := (.int .i64 0)) (hv_move rfl) ?_
    refine hl_nil ?_
    refine seqQ_n ?_
    refine hx_block ?_
    obtain ⟨I13, mu14, Ha15, Hr16⟩ := H
    refine hx_loopT (σ := Option Addr × Nat × Nat × Int) (fun s => [(3, (ptr m 0)), (5, (bif !((lk kv m_Kind).isSome) then (.func (.func 31) #[] #[]) else x)), (7, (.slice s.1 s.2.1 s.2.2.1)), (19, (.slice l l_n l_c)), (20, (.int .i64 (l_n : Int))), (21, (.int .i64 s.2.2.2))]) (fun s h' => I13 s.1 s.2.1 s.2.2.1 s.2.2.2 h' ∧ h'[m]? = some (.cells #[(.int .i64 m_Kind), (.string m_Key), (.string m_Value), (.int .i64 m_Err), (.bool m_Hit), (.int .i64 m_Life), (.int .i64 m_From), (.int .i64 m_To)] 31 (0, 0)) ∧ True) (fun s h' => mu14 s.1 s.2.1 s.2.2.1 s.2.2.2 h') (none, 0, 0, 0) ⟨Ha15, hr4, trivial⟩ (has_cons rfl (has_cons rfl (has_cons rfl (has_cons rfl (has_cons rfl (has_cons rfl has_nil)))))) ?_
    rintro ⟨out, out_n, out_c, v⟩ ρ h3 ⟨Hi17, hr12, -⟩
    have H := Hr16 out out_n out_c v h3 Hi17
    refine hx_seq ?_
    refine hx_region ?_
    refine hl_val rfl rfl (v := (.bool (decide (v < (l_n : Int))))) (hv_arith rfl rfl rfl) ?_
    refine hl_nil ?_
    refine seqQ_n ?_
    refine hx_seq ?_
    refine hx_cond (b := decide (v < (l_n : Int))) rfl (fun hb18 => ?_) (fun hb18 => ?_)
    · replace H := H.1 hb18
      refine hx_skip ?_
      refine seqQ_n ?_
      refine hx_seq ?_
      refine hx_block ?_
      refine hx_seq ?_
      refine hx_region ?_
      obtain ⟨l_b, l_o, hqe, hi19, hi20, Hq⟩ := H
      subst hqe
      have H := Hq; clear Hq
      refine hl_val rfl rfl (v := (ptr l_b (l_o + (Int.toNat v) * 2))) (hv_index TyShD.el27 rfl rfl hi19 hi20) ?_
      obtain ⟨x_Has, x_Value, hc31, hc32, H⟩ := H
      refine hl_val rfl rfl (v := (.agg #[(.bool x_Has), (.string x_Value)])) (hv_loads (vs := [(.bool x_Has), (.string x_Value)]) TyShD.agg40 TyShD.sz40 rfl (hcells_cons hc31 (hcells_cons hc32 hcells_nil))) ?_
      refine hl_step rfl rfl (hn_alloc TyShD.z40 ?_)
      intro was h4 eb21 eh22
      have xx23 : Ext h3 h4 := by rw [eh22]; exact Ext.push _ _
      have ne26 := Nat.ne_of_lt (Nat.lt_of_lt_of_eq (row_lt hr12) (Eq.symm eb21))
      have lo25 : Array.size h3 ≤ was := Nat.le_of_eq (Eq.symm eb21)
      have hr24 : h4[was]? = some (.cells #[(.bool false), (.string ByteArray.empty)] 40 (0, 0)) := by rw [eh22]; exact push_new eb21
      replace hr12 := Ext.row xx23 hr12
      refine hl_step rfl rfl (hn_stores (vs := [(.bool x_Has), (.string x_Value)]) rfl rfl TyShD.sz40 rfl (HWs_row hr24 (by simp)) ?_)
      intro h5 eh27
      replace hr12 := row_hsets_ne eh27 ne26 hr12
      have hr24' : h5[was]? = some (.cells #[(.bool x_Has), (.string x_Value)] 40 (0, 0)) := row_hsets_eq eh27 hr24 rfl
      have xv28 := ext_hsets eh27 xx23 lo25
      refine hl_nil ?_
      refine seqQ_n ?_
      refine hx_region ?_
      refine hl_val rfl rfl (v := (.slice out out_n out_c)) (hv_move rfl) ?_
      refine hl_val rfl rfl (v := (bif !((lk kv m_Kind).isSome) then (.func (.func 31) #[] #[]) else x)) (hv_move rfl) ?_
      refine hl_val rfl rfl (v := (.agg #[(.bool x_Has), (.string x_Value)])) (hv_loads (vs := [(.bool x_Has), (.string x_Value)]) TyShD.agg40 TyShD.sz40 rfl (hcells_cons (rowcell hr24' rfl) (hcells_cons (rowcell hr24' rfl) hcells_nil))) ?_
      refine hl_val rfl rfl (v := (.agg #[(.int .i64 m_Kind), (.string m_Key), (.string m_Value), (.int .i64 m_Err), (.bool m_Hit), (.int .i64 m_Life), (.int .i64 m_From), (.int .i64 m_To)])) (hv_loads (vs := [(.int .i64 m_Kind), (.string m_Key), (.string m_Value), (.int .i64 m_Err), (.bool m_Hit), (.int .i64 m_Life), (.int .i64 m_From), (.int .i64 m_To)]) TyShD.agg31 TyShD.sz31 rfl (hcells_cons (rowcell hr12 rfl) (hcells_cons (rowcell hr12 rfl) (hcells_cons (rowcell hr12 rfl) (hcells_cons (rowcell hr12 rfl) (hcells_cons (rowcell hr12 rfl) (hcells_cons (rowcell hr12 rfl) (hcells_cons (rowcell hr12 rfl) (hcells_cons (rowcell hr12 rfl) hcells_nil))))))))) ?_
      replace H := H h5 xv28
      refine hl_step rfl rfl (hs_callF (vs := [(.agg #[(.bool x_Has), (.string x_Value)]), (.agg #[(.int .i64 m_Kind), (.string m_Key), (.string m_Value), (.int .i64 m_Err), (.bool m_Hit), (.int .i64 m_Life), (.int .i64 m_From), (.int .i64 m_To)])]) rfl rfl (HCV.mono H ?_))
      rintro _ h6 ⟨kp29, r_1, r_n, r_c, rfl, H⟩
      replace hr12 := Kp.row kp29 (by simp) hr12
      refine hl_step rfl rfl (hs_append rfl rfl (HAppend.mono H ?_))
      rintro _ h7 ⟨kp30, ap, ap_n, ap_c, rfl, H⟩
      replace hr12 := Kp.row kp30 (by simp) hr12
      refine hl_val rfl rfl (v := (.slice ap ap_n ap_c)) (hv_assign rfl) ?_
      refine hl_nil ?_
      refine blockQ_n ?_
      refine seqQ_n ?_
      refine hx_region ?_
      refine hl_val rfl rfl (v := (.int .i64 (IntKind.i64.wrap (v + 1)))) (hv_arith rfl rfl rfl) ?_
      refine hl_val rfl rfl (v := (.int .i64 (IntKind.i64.wrap (v + 1)))) (hv_move rfl) ?_
      refine hl_nil ?_
      refine seqQ_n ?_
      exact ⟨(ap, ap_n, ap_c, IntKind.i64.wrap (v + 1)), ⟨⟨H.1, hr12, trivial⟩, H.2⟩, (has_cons rfl (has_cons rfl (has_cons rfl (has_cons rfl (has_cons rfl (has_cons rfl has_nil))))))⟩
    · replace H := H.2 hb18
      refine hx_exit ?_
      refine seqQ_exit ?_
      refine seqQ_exit ?_
      refine blockQ_here ?_
      refine seqQ_n ?_
      refine hx_seq ?_
      refine hx_region ?_
      refine hl_val rfl rfl (v := (.slice out out_n out_c)) (hv_move rfl) ?_
      refine hl_step rfl rfl (hs_call TyShD.cb32 (vs := [(.slice out out_n out_c), (.func (.func 33) #[] #[])]) rfl (HC.mono H ?_))
      rintro _ h8 ⟨rfl, H⟩
      refine hl_nil ?_
      refine seqQ_n ?_
      refine hx_seq ?_
      refine hx_region ?_
      refine hl_val rfl rfl (v := (.slice out out_n out_c)) (hv_move rfl) ?_
      refine hl_step rfl rfl (hs_call TyShD.cb34 (vs := [(.slice out out_n out_c)]) rfl (HC.mono H ?_))
      rintro _ h9 ⟨r_1, r_n, r_c, rfl, H⟩
      refine hl_val rfl rfl (v := (.slice r_1 r_n r_c)) (hv_assign rfl) ?_
      refine hl_nil ?_
      refine seqQ_n ?_
      refine hx_ret ?_
      exact endQ_ret _ (res_one Try.results19 (rv_tmp rfl)) H

/-- cellar/cellarref23.Next -/
theorem f28_sh (l : Option Addr) (l_n : Nat) (l_c : Nat) (m_Kind : Int) (m_Key : ByteArray) (m_Value : ByteArray) (m_Err : Int) (m_Hit : Bool) (m_Life : Int) (m_From : Int) (m_To : Int) (h : Heap) (R : Value → Heap → Prop)
    (H : (∀ (m : Nat) (h2 : Heap), Array.size h ≤ m → m < Array.size h2 → Ext h h2 → (∃ (I14 : Option Addr → Nat → Nat → Int → Heap → Prop) (mu15 : Option Addr → Nat → Nat → Int → Heap → Nat), I14 none 0 0 0 h2 ∧ (∀ (out : Option Addr) (out_n : Nat) (out_c : Nat) (i : Int) (h3 : Heap), I14 out out_n out_c i h3 → (((decide (i < (l_n : Int))) = true → (∃ A23 : Option Addr → Nat → Nat → Heap → Prop, (∃ l_b l_o : Nat, l = some ⟨l_b, l_o, none⟩ ∧ (0 : Int) ≤ i ∧ i < (l_n : Int) ∧ (∃ x_Has : Bool, ∃ x_Value : ByteArray, hcell h3 l_b (l_o + (Int.toNat i) * 2) = some (.bool x_Has) ∧ hcell h3 l_b ((l_o + (Int.toNat i) * 2) + 1) = some (.string x_Value) ∧ (((((m_Kind == 1) && ((decide (m_To ≥ 0)) && ((m_Err == 0) && m_Hit))) && ((!x_Has) || (!decide (x_Value = m_Value)))) = true → (∀ (x : Nat) (h6 : Heap), Array.size h3 ≤ x → x < Array.size h6 → Ext h3 h6 → (A23 out out_n out_c h6))) ∧ ((((m_Kind == 1) && ((decide (m_To ≥ 0)) && ((m_Err == 0) && m_Hit))) && ((!x_Has) || (!decide (x_Value = m_Value)))) = false → (∃ A43 : Option Addr → Nat → Nat → Heap → Prop, ((((Ml.doesR ⟨m_Kind, m_Key, m_Value, m_Err, m_Hit, m_Life, m_From, m_To⟩).1) = true → (∀ (h6 : Heap), Ext h3 h6 → HC Try.prog 18 #[(.slice out out_n out_c), (.agg #[(.bool x_Has), (.string x_Value)])] h6 (fun vv h8 => Kp [m] h6 h8 ∧ ∃ r : Option Addr, ∃ r_n r_c : Nat, vv = (.slice r r_n r_c) ∧ (A43 r r_n r_c h8)))) ∧ (((Ml.doesR ⟨m_Kind, m_Key, m_Value, m_Err, m_Hit, m_Life, m_From, m_To⟩).1) = false → (∀ (x : Nat) (h6 : Heap), Array.size h3 ≤ x → x < Array.size h6 → Ext h3 h6 → (A43 out out_n out_c h6)))) ∧ (∀ (out_2 : Option Addr) (out_n_2 : Nat) (out_c_2 : Nat) (h7 : Heap), A43 out_2 out_n_2 out_c_2 h7 → (∃ A50 : Option Addr → Nat → Nat → Heap → Prop, ((((Ml.doesR ⟨m_Kind, m_Key, m_Value, m_Err, m_Hit, m_Life, m_From, m_To⟩).2.1) = true → HC Try.prog 18 #[(.slice out_2 out_n_2 out_c_2), (.agg #[(.bool true), (.string m_Value)])] h7 (fun vv h10 => Kp [m] h7 h10 ∧ ∃ r_1 : Option Addr, ∃ r_n_1 r_c_1 : Nat, vv = (.slice r_1 r_n_1 r_c_1) ∧ (A50 r_1 r_n_1 r_c_1 h10))) ∧ (((Ml.doesR ⟨m_Kind, m_Key, m_Value, m_Err, m_Hit, m_Life, m_From, m_To⟩).2.1) = false → (A50 out_2 out_n_2 out_c_2 h7))) ∧ (∀ (out_3 : Option Addr) (out_n_3 : Nat) (out_c_3 : Nat) (h9 : Heap), A50 out_3 out_n_3 out_c_3 h9 → ((((Ml.doesR ⟨m_Kind, m_Key, m_Value, m_Err, m_Hit, m_Life, m_From, m_To⟩).2.2) = true → HC Try.prog 18 #[(.slice out_3 out_n_3 out_c_3), (.agg #[(.bool false), (.string ByteArray.empty)])] h9 (fun vv h11 => Kp [m] h9 h11 ∧ ∃ r_2 : Option Addr, ∃ r_n_2 r_c_2 : Nat, vv = (.slice r_2 r_n_2 r_c_2) ∧ (A23 r_2 r_n_2 r_c_2 h11))) ∧ (((Ml.doesR ⟨m_Kind, m_Key, m_Value, m_Err, m_Hit, m_Life, m_From, m_To⟩).2.2) = false → (A23 out_3 out_n_3 out_c_3 h9))))))))))) ∧ (∀ (out_1 : Option Addr) (out_n_1 : Nat) (out_c_1 : Nat) (h4 : Heap), A23 out_1 out_n_1 out_c_1 h4 → (I14 out_1 out_n_1 out_c_1 (IntKind.i64.wrap (i + 1)) h4 ∧ mu15 out_1 out_n_1 out_c_1 (IntKind.i64.wrap (i + 1)) h4 < mu15 out out_n out_c i h3)))) ∧ ((decide (i < (l_n : Int))) = false → R (.slice out out_n out_c) h3)))))) :
    HC Try.prog 28 #[(.slice l l_n l_c), (.agg #[(.int .i64 m_Kind), (.string m_Key), (.string m_Value), (.int .i64 m_Err), (.bool m_Hit), (.int .i64 m_Life), (.int .i64 m_From), (.int .i64 m_To)])] h R := by
  refine hc_of (args := [(.slice l l_n l_c), (.agg #[(.int .i64 m_Kind), (.string m_Key), (.string m_Value), (.int .i64 m_Err), (.bool m_Hit), (.int .i64 m_Life), (.int .i64 m_From), (.int .i64 m_To)])]) Try.func28 rfl Try.ntmps28 (Nat.le_of_ble_eq_true rfl) ?_
  refine hx_seq ?_
  refine hx_region ?_
  refine hl_step rfl rfl (hn_box (v := (.agg #[(.int .i64 m_Kind), (.string m_Key), (.string m_Value), (.int .i64 m_Err), (.bool m_Hit), (.int .i64 m_Life), (.int .i64 m_From), (.int .i64 m_To)])) rfl ?_)
  intro m h1 eb1 eh2
  have xx3 : Ext h h1 := by rw [eh2]; exact Ext.push _ _
  have lo5 : Array.size h ≤ m := Nat.le_of_eq (Eq.symm eb1)
  have hr4 : h1[m]? = some (.cells #[(.int .i64 m_Kind), (.string m_Key), (.string m_Value), (.int .i64 m_Err), (.bool m_Hit), (.int .i64 m_Life), (.int .i64 m_From), (.int .i64 m_To)] 31 (0, 0)) := by rw [eh2]; exact push_new eb1
  refine hl_val rfl rfl (v := (.slice none 0 0)) (hv_assign rfl) ?_
  refine hl_nil ?_
  refine seqQ_n ?_
  refine hx_seq ?_
  refine hx_region ?_
  refine hl_val rfl rfl (v := (.slice none 0 0)) (hv_assign rfl) ?_
  refine hl_nil ?_
  refine seqQ_n ?_
  refine hx_seq ?_
  refine hx_region ?_
  refine hl_val rfl rfl (v := (.agg #[(.int .i64 m_Kind), (.string m_Key), (.string m_Value), (.int .i64 m_Err), (.bool m_Hit), (.int .i64 m_Life), (.int .i64 m_From), (.int .i64 m_To)])) (hv_loads (vs := [(.int .i64 m_Kind), (.string m_Key), (.string m_Value), (.int .i64 m_Err), (.bool m_Hit), (.int .i64 m_Life), (.int .i64 m_From), (.int .i64 m_To)]) TyShD.agg31 TyShD.sz31 rfl (hcells_cons (rowcell hr4 rfl) (hcells_cons (rowcell hr4 rfl) (hcells_cons (rowcell hr4 rfl) (hcells_cons (rowcell hr4 rfl) (hcells_cons (rowcell hr4 rfl) (hcells_cons (rowcell hr4 rfl) (hcells_cons (rowcell hr4 rfl) (hcells_cons (rowcell hr4 rfl) hcells_nil))))))))) ?_
  refine hl_step rfl rfl (hs_call TyShD.cb38 (vs := [(.agg #[(.int .i64 m_Kind), (.string m_Key), (.string m_Value), (.int .i64 m_Err), (.bool m_Hit), (.int .i64 m_Life), (.int .i64 m_From), (.int .i64 m_To)])]) rfl (HC.mono (does_c (⟨m_Kind, m_Key, m_Value, m_Err, m_Hit, m_Life, m_From, m_To⟩) _) ?_))
  rintro _ h2 ⟨rfl, xx6⟩
  replace hr4 := Ext.row xx6 hr4
  have xv7 := Ext.trans xx3 xx6
  refine hl_val rfl rfl (v := (.tuple #[(.bool ((Ml.doesR ⟨m_Kind, m_Key, m_Value, m_Err, m_Hit, m_Life, m_From, m_To⟩).1)), (.bool ((Ml.doesR ⟨m_Kind, m_Key, m_Value, m_Err, m_Hit, m_Life, m_From, m_To⟩).2.1)), (.bool ((Ml.doesR ⟨m_Kind, m_Key, m_Value, m_Err, m_Hit, m_Life, m_From, m_To⟩).2.2))])) (hv_move rfl) ?_
  refine hl_val rfl rfl (v := (.bool ((Ml.doesR ⟨m_Kind, m_Key, m_Value, m_Err, m_Hit, m_Life, m_From, m_To⟩).1))) (hv_extract (vs := #[(.bool ((Ml.doesR ⟨m_Kind, m_Key, m_Value, m_Err, m_Hit, m_Life, m_From, m_To⟩).1)), (.bool ((Ml.doesR ⟨m_Kind, m_Key, m_Value, m_Err, m_Hit, m_Life, m_From, m_To⟩).2.1)), (.bool ((Ml.doesR ⟨m_Kind, m_Key, m_Value, m_Err, m_Hit, m_Life, m_From, m_To⟩).2.2))]) rfl rfl) ?_
  refine hl_val rfl rfl (v := (.bool ((Ml.doesR ⟨m_Kind, m_Key, m_Value, m_Err, m_Hit, m_Life, m_From, m_To⟩).2.1))) (hv_extract (vs := #[(.bool ((Ml.doesR ⟨m_Kind, m_Key, m_Value, m_Err, m_Hit, m_Life, m_From, m_To⟩).1)), (.bool ((Ml.doesR ⟨m_Kind, m_Key, m_Value, m_Err, m_Hit, m_Life, m_From, m_To⟩).2.1)), (.bool ((Ml.doesR ⟨m_Kind, m_Key, m_Value, m_Err, m_Hit, m_Life, m_From, m_To⟩).2.2))]) rfl rfl) ?_
  refine hl_val rfl rfl (v := (.bool ((Ml.doesR ⟨m_Kind, m_Key, m_Value, m_Err, m_Hit, m_Life, m_From, m_To⟩).2.2))) (hv_extract (vs := #[(.bool ((Ml.doesR ⟨m_Kind, m_Key, m_Value, m_Err, m_Hit, m_Life, m_From, m_To⟩).1)), (.bool ((Ml.doesR ⟨m_Kind, m_Key, m_Value, m_Err, m_Hit, m_Life, m_From, m_To⟩).2.1)), (.bool ((Ml.doesR ⟨m_Kind, m_Key, m_Value, m_Err, m_Hit, m_Life, m_From, m_To⟩).2.2))]) rfl rfl) ?_
  refine hl_val rfl rfl (v := (.bool ((Ml.doesR ⟨m_Kind, m_Key, m_Value, m_Err, m_Hit, m_Life, m_From, m_To⟩).1))) (hv_assign rfl) ?_
  refine hl_val rfl rfl (v := (.bool ((Ml.doesR ⟨m_Kind, m_Key, m_Value, m_Err, m_Hit, m_Life, m_From, m_To⟩).2.1))) (hv_assign rfl) ?_
  refine hl_val rfl rfl (v := (.bool ((Ml.doesR ⟨m_Kind, m_Key, m_Value, m_Err, m_Hit, m_Life, m_From, m_To⟩).2.2))) (hv_assign rfl) ?_
  refine hl_nil ?_
  refine seqQ_n ?_
  refine hx_cut (fun ρ h' => h2 = h' ∧ Has ρ [(0, (.slice l l_n l_c)), (3, (ptr m 0)), (5, (.slice none 0 0)), (6, (.bool ((Ml.doesR ⟨m_Kind, m_Key, m_Value, m_Err, m_Hit, m_Life, m_From, m_To⟩).1))), (7, (.bool ((Ml.doesR ⟨m_Kind, m_Key, m_Value, m_Err, m_Hit, m_Life, m_From, m_To⟩).2.1))), (8, (.bool ((Ml.doesR ⟨m_Kind, m_Key, m_Value, m_Err, m_Hit, m_Life, m_From, m_To⟩).2.2))), (9, (.bool ((m_Kind == 1) && ((decide (m_To ≥ 0)) && ((m_Err == 0) && m_Hit)))))]) ?_ ?_
  · refine hx_region ?_
    refine hl_val rfl rfl (v := (ptr m 0)) (hv_field TyShD.fld31_0 (b := m) (o := 0) rfl) ?_
    refine hl_val rfl rfl (v := (.int .i64 m_Kind)) (hv_load TyShD.agg3 rfl (rowcell hr4 rfl)) ?_
    refine hl_val rfl rfl (v := (.bool (m_Kind == 1))) (hv_arith rfl rfl rfl) ?_
    refine hl_val rfl rfl (v := (.bool (m_Kind == 1))) (hv_move rfl) ?_
    rcases bool_or (m_Kind == 1) with hg10 | hg10
    · refine hl_yes (wanted_y rfl rfl rfl hg10) rfl (HStep.of_val (v := (ptr m 7)) (hv_field TyShD.fld31_7 (b := m) (o := 0) rfl) ?_)
      refine hl_yes (wanted_y rfl rfl rfl hg10) rfl (HStep.of_val (v := (.int .i64 m_To)) (hv_load TyShD.agg3 rfl (rowcell hr4 rfl)) ?_)
      refine hl_yes (wanted_y rfl rfl rfl hg10) rfl (HStep.of_val (v := (.bool (decide (m_To ≥ 0)))) (hv_arith rfl rfl rfl) ?_)
      refine hl_val rfl rfl (v := (.bool (decide (m_To ≥ 0)))) (hv_pick_t rfl hg10 rfl) ?_
      refine hl_val rfl rfl (v := (.bool (decide (m_To ≥ 0)))) (hv_move rfl) ?_
      rcases bool_or (decide (m_To ≥ 0)) with hg11 | hg11
      · refine hl_yes (wanted_y rfl rfl rfl hg11) rfl (HStep.of_val (v := (ptr m 3)) (hv_field TyShD.fld31_3 (b := m) (o := 0) rfl) ?_)
        refine hl_yes (wanted_y rfl rfl rfl hg11) rfl (HStep.of_val (v := (.int .i64 m_Err)) (hv_load TyShD.agg29 rfl (rowcell hr4 rfl)) ?_)
        refine hl_yes (wanted_y rfl rfl rfl hg11) rfl (HStep.of_val (v := (.bool (m_Err == 0))) (hv_arith rfl rfl rfl) ?_)
        refine hl_val rfl rfl (v := (.bool (m_Err == 0))) (hv_pick_t rfl hg11 rfl) ?_
        refine hl_val rfl rfl (v := (.bool (m_Err == 0))) (hv_move rfl) ?_
        rcases bool_or (m_Err == 0) with hg12 | hg12
        · refine hl_yes (wanted_y rfl rfl rfl hg12) rfl (HStep.of_val (v := (ptr m 4)) (hv_field TyShD.fld31_4 (b := m) (o := 0) rfl) ?_)
          refine hl_yes (wanted_y rfl rfl rfl hg12) rfl (HStep.of_val (v := (.bool m_Hit)) (hv_load TyShD.agg4 rfl (rowcell hr4 rfl)) ?_)
          refine hl_val rfl rfl (v := (.bool m_Hit)) (hv_pick_t rfl hg12 rfl) ?_
          refine hl_val rfl rfl (v := (.bool m_Hit)) (hv_assign rfl) ?_
          refine hl_nil ?_
          refine seqQ_n ?_
          exact ⟨rfl, (has_cons rfl (has_cons rfl (has_cons rfl (has_cons rfl (has_cons rfl (has_cons rfl (has_cons (show ((.bool m_Hit) : Value) = (.bool ((m_Kind == 1) && ((decide (m_To ≥ 0)) && ((m_Err == 0) && m_Hit)))) from (by first | rfl | simp [hg10, hg11, hg12])) has_nil)))))))⟩
        · refine hl_no (wanted_n rfl rfl rfl hg12) rfl ?_
          refine hl_no (wanted_n rfl rfl rfl hg12) rfl ?_
          refine hl_val rfl rfl (v := (.bool false)) (hv_pick_f rfl hg12 rfl) ?_
          refine hl_val rfl rfl (v := (.bool false)) (hv_assign rfl) ?_
          refine hl_nil ?_
          refine seqQ_n ?_
          exact ⟨rfl, (has_cons rfl (has_cons rfl (has_cons rfl (has_cons rfl (has_cons rfl (has_cons rfl (has_cons (show ((.bool false) : Value) = (.bool ((m_Kind == 1) && ((decide (m_To ≥ 0)) && ((m_Err == 0) && m_Hit)))) from (by first | rfl | simp [hg10, hg11, hg12])) has_nil)))))))⟩
      · refine hl_no (wanted_n rfl rfl rfl hg11) rfl ?_
        refine hl_no (wanted_n rfl rfl rfl hg11) rfl ?_
        refine hl_no (wanted_n rfl rfl rfl hg11) rfl ?_
        refine hl_val rfl rfl (v := (.bool false)) (hv_pick_f rfl hg11 rfl) ?_
        refine hl_val rfl rfl (v := (.bool false)) (hv_move rfl) ?_
        refine hl_no (wanted_n rfl rfl (c := false) rfl rfl) rfl ?_
        refine hl_no (wanted_n rfl rfl (c := false) rfl rfl) rfl ?_
        refine hl_val rfl rfl (v := (.bool false)) (hv_pick (t := false) rfl rfl) ?_
        refine hl_val rfl rfl (v := (.bool false)) (hv_assign rfl) ?_
        refine hl_nil ?_
        refine seqQ_n ?_
        exact ⟨rfl, (has_cons rfl (has_cons rfl (has_cons rfl (has_cons rfl (has_cons rfl (has_cons rfl (has_cons (show ((.bool false) : Value) = (.bool ((m_Kind == 1) && ((decide (m_To ≥ 0)) && ((m_Err == 0) && m_Hit)))) from (by first | rfl | simp [hg10, hg11])) has_nil)))))))⟩
    · refine hl_no (wanted_n rfl rfl rfl hg10) rfl ?_
      refine hl_no (wanted_n rfl rfl rfl hg10) rfl ?_
      refine hl_no (wanted_n rfl rfl rfl hg10) rfl ?_
      refine hl_val rfl rfl (v := (.bool false)) (hv_pick_f rfl hg10 rfl) ?_
      refine hl_val rfl rfl (v := (.bool false)) (hv_move rfl) ?_
      refine hl_no (wanted_n rfl rfl (c := false) rfl rfl) rfl ?_
      refine hl_no (wanted_n rfl rfl (c := false) rfl rfl) rfl ?_
      refine hl_no (wanted_n rfl rfl (c := false) rfl rfl) rfl ?_
      refine hl_val rfl rfl (v := (.bool false)) (hv_pick (t := false) rfl rfl) ?_
      refine hl_val rfl rfl (v := (.bool false)) (hv_move rfl) ?_
      refine hl_no (wanted_n rfl rfl (c := false) rfl rfl) rfl ?_
      refine hl_no (wanted_n rfl rfl (c := false) rfl rfl) rfl ?_
      refine hl_val rfl rfl (v := (.bool false)) (hv_pick (t := false) rfl rfl) ?_
      refine hl_val rfl rfl (v := (.bool false)) (hv_assign rfl) ?_
      refine hl_nil ?_
      refine seqQ_n ?_
      exact ⟨rfl, (has_cons rfl (has_cons rfl (has_cons rfl (has_cons rfl (has_cons rfl (has_cons rfl (has_cons (show ((.bool false) : Value) = (.bool ((m_Kind == 1) && ((decide (m_To ≥ 0)) && ((m_Err == 0) && m_Hit)))) from (by first | rfl | simp [hg10])) has_nil)))))))⟩
  · rintro ρ _ ⟨rfl, hH⟩
    refine hx_has _ hH ?_
    refine hx_seq ?_
    refine hx_seq ?_
    refine hx_region ?_
    refine hl_val rfl rfl (v := (.int .i64 0)) (hv_assign rfl) ?_
    refine hl_nil ?_
    refine seqQ_n ?_
    refine hx_block ?_
    replace H := H m h2 lo5 (row_lt hr4) xv7
    obtain ⟨I14, mu15, Ha16, Hr17⟩ := H
    refine hx_loopT (σ := Option Addr × Nat × Nat × Int) (fun s => [(0, (.slice l l_n l_c)), (3, (ptr m 0)), (5, (.slice s.1 s.2.1 s.2.2.1)), (6, (.bool ((Ml.doesR ⟨m_Kind, m_Key, m_Value, m_Err, m_Hit, m_Life, m_From, m_To⟩).1))), (7, (.bool ((Ml.doesR ⟨m_Kind, m_Key, m_Value, m_Err, m_Hit, m_Life, m_From, m_To⟩).2.1))), (8, (.bool ((Ml.doesR ⟨m_Kind, m_Key, m_Value, m_Err, m_Hit, m_Life, m_From, m_To⟩).2.2))), (9, (.bool ((m_Kind == 1) && ((decide (m_To ≥ 0)) && ((m_Err == 0) && m_Hit))))), (10, (.int .i64 s.2.2.2))]) (fun s h' => I14 s.1 s.2.1 s.2.2.1 s.2.2.2 h' ∧ h'[m]? = some (.cells #[(.int .i64 m_Kind), (.string m_Key), (.string m_Value), (.int .i64 m_Err), (.bool m_Hit), (.int .i64 m_Life), (.int .i64 m_From), (.int .i64 m_To)] 31 (0, 0)) ∧ True) (fun s h' => mu15 s.1 s.2.1 s.2.2.1 s.2.2.2 h') (none, 0, 0, 0) ⟨Ha16, hr4, trivial⟩ (has_cons rfl (has_cons rfl (has_cons rfl (has_cons rfl (has_cons rfl (has_cons rfl (has_cons rfl (has_cons rfl has_nil)))))))) ?_
    rintro ⟨out, out_n, out_c, i⟩ ρ h3 ⟨Hi18, hr13, -⟩
    have H := Hr17 out out_n out_c i h3 Hi18
    refine hx_seq ?_
    refine hx_seq ?_
    refine hx_region ?_
    refine hl_val rfl rfl (v := (.int .i64 i)) (hv_move rfl) ?_
    refine hl_val rfl rfl (v := (.slice l l_n l_c)) (hv_move rfl) ?_
    refine hl_val rfl rfl (v := (.int .i64 (l_n : Int))) (hv_len (n := l_n) TyShD.u27 rfl) ?_
    refine hl_val rfl rfl (v := (.bool (decide (i < (l_n : Int))))) (hv_arith rfl rfl rfl) ?_
    refine hl_nil ?_
    refine seqQ_n ?_
    refine hx_cond (b := decide (i < (l_n : Int))) rfl (fun hb19 => ?_) (fun hb19 => ?_)
    · replace H := H.1 hb19
      refine hx_skip ?_
      refine seqQ_n ?_
      obtain ⟨A23, Hx20, Hy21⟩ := H
      refine hx_cut (fun ρ h' => ∃ out_1 : Option Addr, ∃ out_n_1 out_c_1 : Nat, (A23 out_1 out_n_1 out_c_1 h' ∧ h'[m]? = some (.cells #[(.int .i64 m_Kind), (.string m_Key), (.string m_Value), (.int .i64 m_Err), (.bool m_Hit), (.int .i64 m_Life), (.int .i64 m_From), (.int .i64 m_To)] 31 (0, 0)) ∧ True) ∧ Has ρ [(0, (.slice l l_n l_c)), (3, (ptr m 0)), (5, (.slice out_1 out_n_1 out_c_1)), (6, (.bool ((Ml.doesR ⟨m_Kind, m_Key, m_Value, m_Err, m_Hit, m_Life, m_From, m_To⟩).1))), (7, (.bool ((Ml.doesR ⟨m_Kind, m_Key, m_Value, m_Err, m_Hit, m_Life, m_From, m_To⟩).2.1))), (8, (.bool ((Ml.doesR ⟨m_Kind, m_Key, m_Value, m_Err, m_Hit, m_Life, m_From, m_To⟩).2.2))), (9, (.bool ((m_Kind == 1) && ((decide (m_To ≥ 0)) && ((m_Err == 0) && m_Hit))))), (10, (.int .i64 i))]) ?_ ?_
      · have H := Hx20; clear Hx20 Hy21
        refine hx_block ?_
        refine hx_seq ?_
        refine hx_region ?_
        refine hl_val rfl rfl (v := (.slice l l_n l_c)) (hv_move rfl) ?_
        refine hl_val rfl rfl (v := (.int .i64 i)) (hv_move rfl) ?_
        obtain ⟨l_b, l_o, hqe, hi25, hi26, Hq⟩ := H
        subst hqe
        have H := Hq; clear Hq
        refine hl_val rfl rfl (v := (ptr l_b (l_o + (Int.toNat i) * 2))) (hv_index TyShD.el27 rfl rfl hi25 hi26) ?_
        obtain ⟨x_Has, x_Value, hc56, hc57, H⟩ := H
        refine hl_val rfl rfl (v := (.agg #[(.bool x_Has), (.string x_Value)])) (hv_loads (vs := [(.bool x_Has), (.string x_Value)]) TyShD.agg40 TyShD.sz40 rfl (hcells_cons hc56 (hcells_cons hc57 hcells_nil))) ?_
        refine hl_step rfl rfl (hn_alloc TyShD.z40 ?_)
        intro x h5 eb27 eh28
        have xx29 : Ext h3 h5 := by rw [eh28]; exact Ext.push _ _
        have ne32 := Nat.ne_of_lt (Nat.lt_of_lt_of_eq (row_lt hr13) (Eq.symm eb27))
        have lo31 : Array.size h3 ≤ x := Nat.le_of_eq (Eq.symm eb27)
        have hr30 : h5[x]? = some (.cells #[(.bool false), (.string ByteArray.empty)] 40 (0, 0)) := by rw [eh28]; exact push_new eb27
        replace hr13 := Ext.row xx29 hr13
        refine hl_step rfl rfl (hn_stores (vs := [(.bool x_Has), (.string x_Value)]) rfl rfl TyShD.sz40 rfl (HWs_row hr30 (by simp)) ?_)
        intro h6 eh33
        replace hr13 := row_hsets_ne eh33 ne32 hr13
        have hr30' : h6[x]? = some (.cells #[(.bool x_Has), (.string x_Value)] 40 (0, 0)) := row_hsets_eq eh33 hr30 rfl
        have xv34 := ext_hsets eh33 xx29 lo31
        refine hl_nil ?_
        refine seqQ_n ?_
        refine hx_seq ?_
        refine hx_cut (fun ρ h' => h6 = h' ∧ Has ρ [(0, (.slice (some ⟨l_b, l_o, none⟩) l_n l_c)), (3, (ptr m 0)), (5, (.slice out out_n out_c)), (6, (.bool ((Ml.doesR ⟨m_Kind, m_Key, m_Value, m_Err, m_Hit, m_Life, m_From, m_To⟩).1))), (7, (.bool ((Ml.doesR ⟨m_Kind, m_Key, m_Value, m_Err, m_Hit, m_Life, m_From, m_To⟩).2.1))), (8, (.bool ((Ml.doesR ⟨m_Kind, m_Key, m_Value, m_Err, m_Hit, m_Life, m_From, m_To⟩).2.2))), (9, (.bool ((m_Kind == 1) && ((decide (m_To ≥ 0)) && ((m_Err == 0) && m_Hit))))), (10, (.int .i64 i)), (11, (ptr x 0)), (57, (.bool (((m_Kind == 1) && ((decide (m_To ≥ 0)) && ((m_Err == 0) && m_Hit))) && ((!x_Has) || (!decide (x_Value = m_Value))))))]) ?_ ?_
        · refine hx_region ?_
          refine hl_val rfl rfl (v := (.bool ((m_Kind == 1) && ((decide (m_To ≥ 0)) && ((m_Err == 0) && m_Hit))))) (hv_move rfl) ?_
          refine hl_val rfl rfl (v := (.bool ((m_Kind == 1) && ((decide (m_To ≥ 0)) && ((m_Err == 0) && m_Hit))))) (hv_move rfl) ?_
          rcases bool_or (((m_Kind == 1) && ((decide (m_To ≥ 0)) && ((m_Err == 0) && m_Hit)))) with hg37 | hg37
          · refine hl_yes (wanted_y rfl rfl rfl hg37) rfl (HStep.of_val (v := (ptr x 0)) (hv_field TyShD.fld40_0 (b := x) (o := 0) rfl) ?_)
            refine hl_yes (wanted_y rfl rfl rfl hg37) rfl (HStep.of_val (v := (.bool x_Has)) (hv_load TyShD.agg4 rfl (rowcell hr30' rfl)) ?_)
            refine hl_yes (wanted_y rfl rfl rfl hg37) rfl (HStep.of_val (v := (.bool (!x_Has))) (hv_not (b := x_Has) rfl) ?_)
            refine hl_yes (wanted_y rfl rfl rfl hg37) rfl (HStep.of_val (v := (.bool (!x_Has))) (hv_move rfl) ?_)
            rcases bool_or (!x_Has) with hg38 | hg38
            · refine hl_no (wanted_n rfl rfl rfl hg38) rfl ?_
              refine hl_no (wanted_n rfl rfl rfl hg38) rfl ?_
              refine hl_no (wanted_n rfl rfl rfl hg38) rfl ?_
              refine hl_no (wanted_n rfl rfl rfl hg38) rfl ?_
              refine hl_no (wanted_n rfl rfl rfl hg38) rfl ?_
              refine hl_yes (wanted_y rfl rfl rfl hg37) rfl (HStep.of_val (v := (.bool true)) (hv_pick_t rfl hg38 rfl) ?_)
              refine hl_val rfl rfl (v := (.bool true)) (hv_pick_t rfl hg37 rfl) ?_
              refine hl_nil ?_
              refine seqQ_n ?_
              exact ⟨rfl, (has_cons rfl (has_cons rfl (has_cons rfl (has_cons rfl (has_cons rfl (has_cons rfl (has_cons rfl (has_cons rfl (has_cons rfl (has_cons (show ((.bool true) : Value) = (.bool (((m_Kind == 1) && ((decide (m_To ≥ 0)) && ((m_Err == 0) && m_Hit))) && ((!x_Has) || (!decide (x_Value = m_Value))))) from (by first | rfl | simp [hg37, hg38])) has_nil))))))))))⟩
            · refine hl_yes (wanted_y rfl rfl rfl hg38) rfl (HStep.of_val (v := (ptr x 1)) (hv_field TyShD.fld40_1 (b := x) (o := 0) rfl) ?_)
              refine hl_yes (wanted_y rfl rfl rfl hg38) rfl (HStep.of_val (v := (.string x_Value)) (hv_load TyShD.agg9 rfl (rowcell hr30' rfl)) ?_)
              refine hl_yes (wanted_y rfl rfl rfl hg38) rfl (HStep.of_val (v := (ptr m 2)) (hv_field TyShD.fld31_2 (b := m) (o := 0) rfl) ?_)
              refine hl_yes (wanted_y rfl rfl rfl hg38) rfl (HStep.of_val (v := (.string m_Value)) (hv_load TyShD.agg9 rfl (rowcell hr13 rfl)) ?_)
              refine hl_yes (wanted_y rfl rfl rfl hg38) rfl (HStep.of_val (v := (.bool (!decide (x_Value = m_Value)))) (hv_str rfl rfl rfl) ?_)
              refine hl_yes (wanted_y rfl rfl rfl hg37) rfl (HStep.of_val (v := (.bool (!decide (x_Value = m_Value)))) (hv_pick_f rfl hg38 rfl) ?_)
              refine hl_val rfl rfl (v := (.bool (!decide (x_Value = m_Value)))) (hv_pick_t rfl hg37 rfl) ?_
              refine hl_nil ?_
              refine seqQ_n ?_
              exact ⟨rfl, (has_cons rfl (has_cons rfl (has_cons rfl (has_cons rfl (has_cons rfl (has_cons rfl (has_cons rfl (has_cons rfl (has_cons rfl (has_cons (show ((.bool (!decide (x_Value = m_Value))) : Value) = (.bool (((m_Kind == 1) && ((decide (m_To ≥ 0)) && ((m_Err == 0) && m_Hit))) && ((!x_Has) || (!decide (x_Value = m_Value))))) from (by first | rfl | simp [hg37, hg38])) has_nil))))))))))⟩
          · refine hl_no (wanted_n rfl rfl rfl hg37) rfl ?_
            refine hl_no (wanted_n rfl rfl rfl hg37) rfl ?_
            refine hl_no (wanted_n rfl rfl rfl hg37) rfl ?_
            refine hl_no (wanted_n rfl rfl rfl hg37) rfl ?_
            refine hl_no (wanted_u rfl rfl rfl) rfl ?_
            refine hl_no (wanted_u rfl rfl rfl) rfl ?_
            refine hl_no (wanted_u rfl rfl rfl) rfl ?_
            refine hl_no (wanted_u rfl rfl rfl) rfl ?_
            refine hl_no (wanted_u rfl rfl rfl) rfl ?_
            refine hl_no (wanted_n rfl rfl rfl hg37) rfl ?_
            refine hl_val rfl rfl (v := (.bool false)) (hv_pick_f rfl hg37 rfl) ?_
            refine hl_nil ?_
            refine seqQ_n ?_
            exact ⟨rfl, (has_cons rfl (has_cons rfl (has_cons rfl (has_cons rfl (has_cons rfl (has_cons rfl (has_cons rfl (has_cons rfl (has_cons rfl (has_cons (show ((.bool false) : Value) = (.bool (((m_Kind == 1) && ((decide (m_To ≥ 0)) && ((m_Err == 0) && m_Hit))) && ((!x_Has) || (!decide (x_Value = m_Value))))) from (by first | rfl | simp [hg37])) has_nil))))))))))⟩
        · rintro ρ _ ⟨rfl, hH⟩
          refine hx_has _ hH ?_
          refine hx_cond (b := (((m_Kind == 1) && ((decide (m_To ≥ 0)) && ((m_Err == 0) && m_Hit))) && ((!x_Has) || (!decide (x_Value = m_Value))))) rfl (fun hb39 => ?_) (fun hb39 => ?_)
          · replace H := H.1 hb39
            refine hx_exit ?_
            refine seqQ_exit ?_
            refine blockQ_here ?_
            replace H := H x h6 lo31 (row_lt hr30') xv34
            refine seqQ_n ?_
            exact ⟨_, _, _, ⟨H, hr13, trivial⟩, (has_cons rfl (has_cons rfl (has_cons rfl (has_cons rfl (has_cons rfl (has_cons rfl (has_cons rfl (has_cons rfl has_nil))))))))⟩
          · replace H := H.2 hb39
            refine hx_skip ?_
            refine seqQ_n ?_
            obtain ⟨A43, Hx40, Hy41⟩ := H
            refine hx_cut (fun ρ h' => ∃ out_2 : Option Addr, ∃ out_n_2 out_c_2 : Nat, (A43 out_2 out_n_2 out_c_2 h' ∧ h'[m]? = some (.cells #[(.int .i64 m_Kind), (.string m_Key), (.string m_Value), (.int .i64 m_Err), (.bool m_Hit), (.int .i64 m_Life), (.int .i64 m_From), (.int .i64 m_To)] 31 (0, 0)) ∧ True) ∧ Has ρ [(0, (.slice (some ⟨l_b, l_o, none⟩) l_n l_c)), (3, (ptr m 0)), (5, (.slice out_2 out_n_2 out_c_2)), (6, (.bool ((Ml.doesR ⟨m_Kind, m_Key, m_Value, m_Err, m_Hit, m_Life, m_From, m_To⟩).1))), (7, (.bool ((Ml.doesR ⟨m_Kind, m_Key, m_Value, m_Err, m_Hit, m_Life, m_From, m_To⟩).2.1))), (8, (.bool ((Ml.doesR ⟨m_Kind, m_Key, m_Value, m_Err, m_Hit, m_Life, m_From, m_To⟩).2.2))), (9, (.bool ((m_Kind == 1) && ((decide (m_To ≥ 0)) && ((m_Err == 0) && m_Hit))))), (10, (.int .i64 i))]) ?_ ?_
            · have H := Hx40; clear Hx40 Hy41
              refine hx_seq ?_
              refine hx_region ?_
              refine hl_val rfl rfl (v := (.bool ((Ml.doesR ⟨m_Kind, m_Key, m_Value, m_Err, m_Hit, m_Life, m_From, m_To⟩).1))) (hv_move rfl) ?_
              refine hl_nil ?_
              refine seqQ_n ?_
              refine hx_cond (b := (Ml.doesR ⟨m_Kind, m_Key, m_Value, m_Err, m_Hit, m_Life, m_From, m_To⟩).1) rfl (fun hb45 => ?_) (fun hb45 => ?_)
              · replace H := H.1 hb45
                refine hx_region ?_
                refine hl_val rfl rfl (v := (.slice out out_n out_c)) (hv_move rfl) ?_
                refine hl_val rfl rfl (v := (.agg #[(.bool x_Has), (.string x_Value)])) (hv_loads (vs := [(.bool x_Has), (.string x_Value)]) TyShD.agg40 TyShD.sz40 rfl (hcells_cons (rowcell hr30' rfl) (hcells_cons (rowcell hr30' rfl) hcells_nil))) ?_
                replace H := H h6 xv34
                refine hl_step rfl rfl (hs_call TyShD.cb18 (vs := [(.slice out out_n out_c), (.agg #[(.bool x_Has), (.string x_Value)])]) rfl (HC.mono H ?_))
                rintro _ h8 ⟨kp46, r, r_n, r_c, rfl, H⟩
                replace hr13 := Kp.row kp46 (by simp) hr13
                refine hl_val rfl rfl (v := (.slice r r_n r_c)) (hv_assign rfl) ?_
                refine hl_nil ?_
                refine seqQ_n ?_
                exact ⟨_, _, _, ⟨H, hr13, trivial⟩, (has_cons rfl (has_cons rfl (has_cons rfl (has_cons rfl (has_cons rfl (has_cons rfl (has_cons rfl (has_cons rfl has_nil))))))))⟩
              · replace H := H.2 hb45
                refine hx_skip ?_
                replace H := H x h6 lo31 (row_lt hr30') xv34
                refine seqQ_n ?_
                exact ⟨_, _, _, ⟨H, hr13, trivial⟩, (has_cons rfl (has_cons rfl (has_cons rfl (has_cons rfl (has_cons rfl (has_cons rfl (has_cons rfl (has_cons rfl has_nil))))))))⟩
            · rintro ρ h7 ⟨out_2, out_n_2, out_c_2, ⟨HA44, hr42, -⟩, hH⟩
              have H := Hy41 out_2 out_n_2 out_c_2 h7 HA44; clear Hx40 Hy41
              refine hx_has _ hH ?_
              obtain ⟨A50, Hx47, Hy48⟩ := H
              refine hx_cut (fun ρ h' => ∃ out_3 : Option Addr, ∃ out_n_3 out_c_3 : Nat, (A50 out_3 out_n_3 out_c_3 h' ∧ h'[m]? = some (.cells #[(.int .i64 m_Kind), (.string m_Key), (.string m_Value), (.int .i64 m_Err), (.bool m_Hit), (.int .i64 m_Life), (.int .i64 m_From), (.int .i64 m_To)] 31 (0, 0)) ∧ True) ∧ Has ρ [(0, (.slice (some ⟨l_b, l_o, none⟩) l_n l_c)), (3, (ptr m 0)), (5, (.slice out_3 out_n_3 out_c_3)), (6, (.bool ((Ml.doesR ⟨m_Kind, m_Key, m_Value, m_Err, m_Hit, m_Life, m_From, m_To⟩).1))), (7, (.bool ((Ml.doesR ⟨m_Kind, m_Key, m_Value, m_Err, m_Hit, m_Life, m_From, m_To⟩).2.1))), (8, (.bool ((Ml.doesR ⟨m_Kind, m_Key, m_Value, m_Err, m_Hit, m_Life, m_From, m_To⟩).2.2))), (9, (.bool ((m_Kind == 1) && ((decide (m_To ≥ 0)) && ((m_Err == 0) && m_Hit))))), (10, (.int .i64 i))]) ?_ ?_
              · have H := Hx47; clear Hx47 Hy48
                refine hx_seq ?_
                refine hx_region ?_
                refine hl_val rfl rfl (v := (.bool ((Ml.doesR ⟨m_Kind, m_Key, m_Value, m_Err, m_Hit, m_Life, m_From, m_To⟩).2.1))) (hv_move rfl) ?_
                refine hl_nil ?_
                refine seqQ_n ?_
                refine hx_cond (b := (Ml.doesR ⟨m_Kind, m_Key, m_Value, m_Err, m_Hit, m_Life, m_From, m_To⟩).2.1) rfl (fun hb52 => ?_) (fun hb52 => ?_)
                · replace H := H.1 hb52
                  refine hx_region ?_
                  refine hl_val rfl rfl (v := (.slice out_2 out_n_2 out_c_2)) (hv_move rfl) ?_
                  refine hl_val rfl rfl (v := (ptr m 2)) (hv_field TyShD.fld31_2 (b := m) (o := 0) rfl) ?_
                  refine hl_val rfl rfl (v := (.string m_Value)) (hv_load TyShD.agg9 rfl (rowcell hr42 rfl)) ?_
                  refine hl_val rfl rfl (v := (.agg #[(.bool true), (.string m_Value)])) (hv_build (vs := [(0, (.bool true)), (1, (.string m_Value))]) (cs := #[(.bool true), (.string m_Value)]) TyShD.z40 TyShD.pl40 rfl (by kernel_rfl)) ?_
                  refine hl_step rfl rfl (hs_call TyShD.cb18 (vs := [(.slice out_2 out_n_2 out_c_2), (.agg #[(.bool true), (.string m_Value)])]) rfl (HC.mono H ?_))
                  rintro _ h10 ⟨kp53, r_1, r_n_1, r_c_1, rfl, H⟩
                  replace hr42 := Kp.row kp53 (by simp) hr42
                  refine hl_val rfl rfl (v := (.slice r_1 r_n_1 r_c_1)) (hv_assign rfl) ?_
                  refine hl_nil ?_
                  refine seqQ_n ?_
                  exact ⟨_, _, _, ⟨H, hr42, trivial⟩, (has_cons rfl (has_cons rfl (has_cons rfl (has_cons rfl (has_cons rfl (has_cons rfl (has_cons rfl (has_cons rfl has_nil))))))))⟩
                · replace H := H.2 hb52
                  refine hx_skip ?_
                  refine seqQ_n ?_
                  exact ⟨_, _, _, ⟨H, hr42, trivial⟩, (has_cons rfl (has_cons rfl (has_cons rfl (has_cons rfl (has_cons rfl (has_cons rfl (has_cons rfl (has_cons rfl has_nil))))))))⟩
              · rintro ρ h9 ⟨out_3, out_n_3, out_c_3, ⟨HA51, hr49, -⟩, hH⟩
                have H := Hy48 out_3 out_n_3 out_c_3 h9 HA51; clear Hx47 Hy48
                refine hx_has _ hH ?_
                refine hx_seq ?_
                refine hx_region ?_
                refine hl_val rfl rfl (v := (.bool ((Ml.doesR ⟨m_Kind, m_Key, m_Value, m_Err, m_Hit, m_Life, m_From, m_To⟩).2.2))) (hv_move rfl) ?_
                refine hl_nil ?_
                refine seqQ_n ?_
                refine hx_cond (b := (Ml.doesR ⟨m_Kind, m_Key, m_Value, m_Err, m_Hit, m_Life, m_From, m_To⟩).2.2) rfl (fun hb54 => ?_) (fun hb54 => ?_)
                · replace H := H.1 hb54
                  refine hx_region ?_
                  refine hl_val rfl rfl (v := (.slice out_3 out_n_3 out_c_3)) (hv_move rfl) ?_
                  refine hl_val rfl rfl (v := (.agg #[(.bool false), (.string ByteArray.empty)])) (hv_build (vs := []) (cs := #[(.bool false), (.string ByteArray.empty)]) TyShD.z40 TyShD.pl40 rfl (by kernel_rfl)) ?_
                  refine hl_step rfl rfl (hs_call TyShD.cb18 (vs := [(.slice out_3 out_n_3 out_c_3), (.agg #[(.bool false), (.string ByteArray.empty)])]) rfl (HC.mono H ?_))
                  rintro _ h11 ⟨kp55, r_2, r_n_2, r_c_2, rfl, H⟩
                  replace hr49 := Kp.row kp55 (by simp) hr49
                  refine hl_val rfl rfl (v := (.slice r_2 r_n_2 r_c_2)) (hv_assign rfl) ?_
                  refine hl_nil ?_
                  refine blockQ_n ?_
                  refine seqQ_n ?_
                  exact ⟨_, _, _, ⟨H, hr49, trivial⟩, (has_cons rfl (has_cons rfl (has_cons rfl (has_cons rfl (has_cons rfl (has_cons rfl (has_cons rfl (has_cons rfl has_nil))))))))⟩
                · replace H := H.2 hb54
                  refine hx_skip ?_
                  refine blockQ_n ?_
                  refine seqQ_n ?_
                  exact ⟨_, _, _, ⟨H, hr49, trivial⟩, (has_cons rfl (has_cons rfl (has_cons rfl (has_cons rfl (has_cons rfl (has_cons rfl (has_cons rfl (has_cons rfl has_nil))))))))⟩
      · rintro ρ h4 ⟨out_1, out_n_1, out_c_1, ⟨HA24, hr22, -⟩, hH⟩
        have H := Hy21 out_1 out_n_1 out_c_1 h4 HA24; clear Hx20 Hy21
        refine hx_has _ hH ?_
        refine hx_region ?_
        refine hl_val rfl rfl (v := (.int .i64 i)) (hv_move rfl) ?_
        refine hl_val rfl rfl (v := (.int .i64 (IntKind.i64.wrap (i + 1)))) (hv_arith rfl rfl rfl) ?_
        refine hl_val rfl rfl (v := (.int .i64 (IntKind.i64.wrap (i + 1)))) (hv_assign rfl) ?_
        refine hl_nil ?_
        refine seqQ_n ?_
        exact ⟨(out_1, out_n_1, out_c_1, IntKind.i64.wrap (i + 1)), ⟨⟨H.1, hr22, trivial⟩, H.2⟩, (has_cons rfl (has_cons rfl (has_cons rfl (has_cons rfl (has_cons rfl (has_cons rfl (has_cons rfl (has_cons rfl has_nil))))))))⟩
    · replace H := H.2 hb19
      refine hx_exit ?_
      refine seqQ_exit ?_
      refine seqQ_exit ?_
      refine blockQ_here ?_
      refine seqQ_n ?_
      refine hx_seq ?_
      refine hx_region ?_
      refine hl_val rfl rfl (v := (.slice out out_n out_c)) (hv_move rfl) ?_
      refine hl_val rfl rfl (v := (.slice out out_n out_c)) (hv_assign rfl) ?_
      refine hl_nil ?_
      refine seqQ_n ?_
      refine hx_ret ?_
      exact endQ_ret _ (res_one Try.results28 (rv_tmp rfl)) H

end Go.Proofs.Ytmdgfbhmogjklaa
