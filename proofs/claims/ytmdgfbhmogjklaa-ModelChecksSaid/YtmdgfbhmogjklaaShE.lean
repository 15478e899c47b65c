/-
Shallow forms, written by gen2.py (a program of ours) out of the print of the program.
-/
import Derived.Test.YtmdgfbhmogjklaaMF
import Derived.Test.YtmdgfbhmogjklaaProg
namespace Go.Proofs.Ytmdgfbhmogjklaa
open Go
set_option maxRecDepth 100000
set_option maxHeartbeats 4000000

theorem TyShE.agg31 : aggB Try.prog 31 = some true := by kernel_rfl
theorem TyShE.agg9 : aggB Try.prog 9 = some false := by kernel_rfl
theorem TyShE.cb10 : CallB Try.prog 10 := fun _ _ => Try.call10 _ _
theorem TyShE.cb13 : CallB Try.prog 13 := fun _ _ => Try.call13 _ _
theorem TyShE.cb14 : CallB Try.prog 14 := fun _ _ => Try.call14 _ _
theorem TyShE.cb15 : CallB Try.prog 15 := fun _ _ => Try.call15 _ _
theorem TyShE.cb19 : CallB Try.prog 19 := fun _ _ => Try.call19 _ _
theorem TyShE.cb22 : CallB Try.prog 22 := fun _ _ => Try.call22 _ _
theorem TyShE.cb23 : CallB Try.prog 23 := fun _ _ => Try.call23 _ _
theorem TyShE.cb24 : CallB Try.prog 24 := fun _ _ => Try.call24 _ _
theorem TyShE.cb25 : CallB Try.prog 25 := fun _ _ => Try.call25 _ _
theorem TyShE.cb26 : CallB Try.prog 26 := fun _ _ => Try.call26 _ _
theorem TyShE.cb27 : CallB Try.prog 27 := fun _ _ => Try.call27 _ _
theorem TyShE.cb28 : CallB Try.prog 28 := fun _ _ => Try.call28 _ _
theorem TyShE.el22 : elB Try.prog 22 = some 8 := by kernel_rfl
theorem TyShE.fld31_1 : fldB Try.prog 31 1 = some 1 := by kernel_rfl
theorem TyShE.mixed : Try.prog.follows .mixedOrders = true := by kernel_rfl
theorem TyShE.pl40 : plB Try.prog 40 = some [(0, 1), (1, 1)] := by kernel_rfl
theorem TyShE.sz31 : szB Try.prog 31 = some 8 := by kernel_rfl
theorem TyShE.sz40 : szB Try.prog 40 = some 2 := by kernel_rfl
theorem TyShE.u22 : Try.prog.underlying 22 = some (.slice 31) := by kernel_rfl
theorem TyShE.u27 : Try.prog.underlying 27 = some (.slice 40) := by kernel_rfl
theorem TyShE.u45 : Try.prog.underlying 45 = some (.map 9 27) := by kernel_rfl
theorem TyShE.u9 : Try.prog.underlying 9 = some (.string) := by kernel_rfl
theorem TyShE.z27 : zeroB Try.prog 27 (.slice none 0 0) := by unfold zeroB; kernel_rfl
theorem TyShE.z31 : zeroB Try.prog 31 (.agg #[(.int .i64 0), (.string ByteArray.empty), (.string ByteArray.empty), (.int .i64 0), (.bool false), (.int .i64 0), (.int .i64 0), (.int .i64 0)]) := by unfold zeroB; kernel_rfl
theorem TyShE.z40 : zeroB Try.prog 40 (.agg #[(.bool false), (.string ByteArray.empty)]) := by unfold zeroB; kernel_rfl

/-- cellar/model.Accepts -/
theorem f10_sh (l : Option Addr) (l_n : Nat) (l_c : Nat) (h : Heap) (R : Value → Heap → Prop)
    (H : (∀ mb h1, mb = Array.size h → Ext h h1 → Array.size h1 = Array.size h + 1 → MapL h1 mb Value.string [] → (∃ (I5 : Int → Heap → Prop) (mu6 : Int → Heap → Nat), I5 0 h1 ∧ (∀ (v : Int) (h2 : Heap), I5 v h2 → (((decide (v < (l_n : Int))) = true → (∃ A13 : Heap → Prop, (∃ l_b l_o : Nat, l = some ⟨l_b, l_o, none⟩ ∧ (0 : Int) ≤ v ∧ v < (l_n : Int) ∧ (∃ x_Kind : Int, ∃ x_Key x_Value : ByteArray, ∃ x_Err : Int, ∃ x_Hit : Bool, ∃ x_Life x_From x_To : Int, hcell h2 l_b (l_o + (Int.toNat v) * 8) = some (.int .i64 x_Kind) ∧ hcell h2 l_b ((l_o + (Int.toNat v) * 8) + 1) = some (.string x_Key) ∧ hcell h2 l_b ((l_o + (Int.toNat v) * 8) + 2) = some (.string x_Value) ∧ hcell h2 l_b ((l_o + (Int.toNat v) * 8) + 3) = some (.int .i64 x_Err) ∧ hcell h2 l_b ((l_o + (Int.toNat v) * 8) + 4) = some (.bool x_Hit) ∧ hcell h2 l_b ((l_o + (Int.toNat v) * 8) + 5) = some (.int .i64 x_Life) ∧ hcell h2 l_b ((l_o + (Int.toNat v) * 8) + 6) = some (.int .i64 x_From) ∧ hcell h2 l_b ((l_o + (Int.toNat v) * 8) + 7) = some (.int .i64 x_To) ∧ (((!(Ml.keyed ⟨x_Kind, x_Key, x_Value, x_Err, x_Hit, x_Life, x_From, x_To⟩)) = true → (∀ (h6 : Heap), Ext h2 h6 → (A13 h6))) ∧ ((!(Ml.keyed ⟨x_Kind, x_Key, x_Value, x_Err, x_Hit, x_Life, x_From, x_To⟩)) = false → (∃ kv : List (ByteArray × Value), MapL h2 mb Value.string kv ∧ ∃ x : Option Addr, ∃ x_n x_c : Nat, (lk kv x_Key).getD (.slice none 0 0) = (.slice x x_n x_c) ∧ (∃ A40 : Option Addr → Nat → Nat → Heap → Prop, (((!((lk kv x_Key).isSome)) = true → (∀ (m : Nat) (h6 : Heap), Array.size h2 ≤ m → m < Array.size h6 → Ext h2 h6 → HC Try.prog 23 #[] h6 (fun vv h8 => Kp [m] h6 h8 ∧ ∃ r : Option Addr, ∃ r_n r_c : Nat, vv = (.slice r r_n r_c) ∧ (A40 r r_n r_c h8)))) ∧ ((!((lk kv x_Key).isSome)) = false → (∀ (h6 : Heap), Ext h2 h6 → (A40 x x_n x_c h6)))) ∧ (∀ (was : Option Addr) (was_n : Nat) (was_c : Nat) (h7 : Heap), A40 was was_n was_c h7 → ∀ (m : Nat), Array.size h2 ≤ m → m < Array.size h7 → HC Try.prog 19 #[(.slice was was_n was_c), (.agg #[(.int .i64 x_Kind), (.string x_Key), (.string x_Value), (.int .i64 x_Err), (.bool x_Hit), (.int .i64 x_Life), (.int .i64 x_From), (.int .i64 x_To)])] h7 (fun vv h9 => Kp [m] h7 h9 ∧ ∃ r_1 : Option Addr, ∃ r_n_1 r_c_1 : Nat, vv = (.slice r_1 r_n_1 r_c_1) ∧ ((((r_n_1 : Int) == 0) = true → R (.tuple #[(.bool false), (.int .i64 v)]) h9) ∧ (((r_n_1 : Int) == 0) = false → (∃ kv_1 : List (ByteArray × Value), MapL h9 mb Value.string kv_1 ∧ ∀ h10, Only mb h9 h10 → MapL h10 mb Value.string (kput kv_1 x_Key (.slice r_1 r_n_1 r_c_1)) → (A13 h10)))))))))))) ∧ (∀ (h3 : Heap), A13 h3 → (I5 (IntKind.i64.wrap (v + 1)) h3 ∧ mu6 (IntKind.i64.wrap (v + 1)) h3 < mu6 v h2)))) ∧ ((decide (v < (l_n : Int))) = false → R (.tuple #[(.bool true), (.int .i64 0)]) h2)))))) :
    HC Try.prog 10 #[(.slice l l_n l_c)] h R := by
  refine hc_of (args := [(.slice l l_n l_c)]) Try.func10 rfl Try.ntmps10 (Nat.le_of_ble_eq_true rfl) ?_
  refine hx_seq ?_
  refine hx_region ?_
  refine hl_val rfl rfl (v := (.bool false)) (hv_assign rfl) ?_
  refine hl_val rfl rfl (v := (.int .i64 0)) (hv_assign rfl) ?_
  refine hl_nil ?_
  refine seqQ_n ?_
  refine hx_seq ?_
  refine hx_region ?_
  refine hl_step rfl rfl (hn_makeMap (enc := Value.string) ?_)
  intro mb h1 eb1 ex2 ez3 mm4
  replace H := H mb h1 eb1 ex2 ez3 mm4
  refine hl_val rfl rfl (v := (.map (some mb))) (hv_assign rfl) ?_
  refine hl_nil ?_
  refine seqQ_n ?_
  refine hx_seq ?_
  refine hx_seq ?_
  refine hx_region ?_
  refine hl_val rfl rfl (v := (.slice l l_n l_c)) (hv_move rfl) ?_
  refine hl_val rfl rfl (v := (.int .i64 (l_n : Int))) (hv_len (n := l_n) TyShE.u22 rfl) ?_
  refine hl_val rfl rfl (v := (.int .i64 0)) (hv_move rfl) ?_
  refine hl_nil ?_
  refine seqQ_n ?_
  refine hx_block ?_
  obtain ⟨I5, mu6, Ha7, Hr8⟩ := H
  refine hx_loopT (σ := Int) (fun s => [(4, (.map (some mb))), (11, (.slice l l_n l_c)), (12, (.int .i64 (l_n : Int))), (13, (.int .i64 s))]) (fun s h' => I5 s h' ∧ True) (fun s h' => mu6 s h') 0 ⟨Ha7, trivial⟩ (has_cons rfl (has_cons rfl (has_cons rfl (has_cons rfl has_nil)))) ?_
  rintro v ρ h2 ⟨Hi9, -⟩
  have H := Hr8 v h2 Hi9
  refine hx_seq ?_
  refine hx_region ?_
  refine hl_val rfl rfl (v := (.bool (decide (v < (l_n : Int))))) (hv_arith rfl rfl rfl) ?_
  refine hl_nil ?_
  refine seqQ_n ?_
  refine hx_seq ?_
  refine hx_cond (b := decide (v < (l_n : Int))) rfl (fun hb10 => ?_) (fun hb10 => ?_)
  · replace H := H.1 hb10
    refine hx_skip ?_
    refine seqQ_n ?_
    obtain ⟨A13, Hx11, Hy12⟩ := H
    refine hx_cut (fun ρ h' => (A13 h' ∧ True) ∧ Has ρ [(4, (.map (some mb))), (11, (.slice l l_n l_c)), (12, (.int .i64 (l_n : Int))), (13, (.int .i64 v))]) ?_ ?_
    · have H := Hx11; clear Hx11 Hy12
      refine hx_block ?_
      refine hx_seq ?_
      refine hx_region ?_
      refine hl_val rfl rfl (v := (.int .i64 v)) (hv_move rfl) ?_
      obtain ⟨l_b, l_o, hqe, hi15, hi16, Hq⟩ := H
      subst hqe
      have H := Hq; clear Hq
      refine hl_val rfl rfl (v := (ptr l_b (l_o + (Int.toNat v) * 8))) (hv_index TyShE.el22 rfl rfl hi15 hi16) ?_
      obtain ⟨x_Kind, x_Key, x_Value, x_Err, x_Hit, x_Life, x_From, x_To, hc17, hc18, hc19, hc20, hc21, hc22, hc23, hc24, H⟩ := H
      refine hl_val rfl rfl (v := (.agg #[(.int .i64 x_Kind), (.string x_Key), (.string x_Value), (.int .i64 x_Err), (.bool x_Hit), (.int .i64 x_Life), (.int .i64 x_From), (.int .i64 x_To)])) (hv_loads (vs := [(.int .i64 x_Kind), (.string x_Key), (.string x_Value), (.int .i64 x_Err), (.bool x_Hit), (.int .i64 x_Life), (.int .i64 x_From), (.int .i64 x_To)]) TyShE.agg31 TyShE.sz31 rfl (hcells_cons hc17 (hcells_cons hc18 (hcells_cons hc19 (hcells_cons hc20 (hcells_cons hc21 (hcells_cons hc22 (hcells_cons hc23 (hcells_cons hc24 hcells_nil))))))))) ?_
      refine hl_step rfl rfl (hn_alloc TyShE.z31 ?_)
      intro m h4 eb25 eh26
      have xx27 : Ext h2 h4 := by rw [eh26]; exact Ext.push _ _
      have lo29 : Array.size h2 ≤ m := Nat.le_of_eq (Eq.symm eb25)
      have hr28 : h4[m]? = some (.cells #[(.int .i64 0), (.string ByteArray.empty), (.string ByteArray.empty), (.int .i64 0), (.bool false), (.int .i64 0), (.int .i64 0), (.int .i64 0)] 31 (0, 0)) := by rw [eh26]; exact push_new eb25
      refine hl_val rfl rfl (v := (.int .i64 v)) (hv_assign rfl) ?_
      refine hl_step rfl rfl (hn_stores (vs := [(.int .i64 x_Kind), (.string x_Key), (.string x_Value), (.int .i64 x_Err), (.bool x_Hit), (.int .i64 x_Life), (.int .i64 x_From), (.int .i64 x_To)]) rfl rfl TyShE.sz31 rfl (HWs_row hr28 (by simp)) ?_)
      intro h5 eh30
      have hr28' : h5[m]? = some (.cells #[(.int .i64 x_Kind), (.string x_Key), (.string x_Value), (.int .i64 x_Err), (.bool x_Hit), (.int .i64 x_Life), (.int .i64 x_From), (.int .i64 x_To)] 31 (0, 0)) := row_hsets_eq eh30 hr28 rfl
      have xv31 := ext_hsets eh30 xx27 lo29
      refine hl_nil ?_
      refine seqQ_n ?_
      refine hx_seq ?_
      refine hx_seq ?_
      refine hx_region ?_
      refine hl_val rfl rfl (v := (.agg #[(.int .i64 x_Kind), (.string x_Key), (.string x_Value), (.int .i64 x_Err), (.bool x_Hit), (.int .i64 x_Life), (.int .i64 x_From), (.int .i64 x_To)])) (hv_loads (vs := [(.int .i64 x_Kind), (.string x_Key), (.string x_Value), (.int .i64 x_Err), (.bool x_Hit), (.int .i64 x_Life), (.int .i64 x_From), (.int .i64 x_To)]) TyShE.agg31 TyShE.sz31 rfl (hcells_cons (rowcell hr28' rfl) (hcells_cons (rowcell hr28' rfl) (hcells_cons (rowcell hr28' rfl) (hcells_cons (rowcell hr28' rfl) (hcells_cons (rowcell hr28' rfl) (hcells_cons (rowcell hr28' rfl) (hcells_cons (rowcell hr28' rfl) (hcells_cons (rowcell hr28' rfl) hcells_nil))))))))) ?_
      refine hl_step rfl rfl (hs_call TyShE.cb22 (vs := [(.agg #[(.int .i64 x_Kind), (.string x_Key), (.string x_Value), (.int .i64 x_Err), (.bool x_Hit), (.int .i64 x_Life), (.int .i64 x_From), (.int .i64 x_To)])]) rfl (HC.mono (keyed_c (⟨x_Kind, x_Key, x_Value, x_Err, x_Hit, x_Life, x_From, x_To⟩) _) ?_))
      rintro _ h6 ⟨rfl, xx32⟩
      replace hr28' := Ext.row xx32 hr28'
      have xv33 := Ext.trans xv31 xx32
      refine hl_val rfl rfl (v := (.bool (!(Ml.keyed ⟨x_Kind, x_Key, x_Value, x_Err, x_Hit, x_Life, x_From, x_To⟩)))) (hv_not (b := Ml.keyed ⟨x_Kind, x_Key, x_Value, x_Err, x_Hit, x_Life, x_From, x_To⟩) rfl) ?_
      refine hl_nil ?_
      refine seqQ_n ?_
      refine hx_cond (b := !(Ml.keyed ⟨x_Kind, x_Key, x_Value, x_Err, x_Hit, x_Life, x_From, x_To⟩)) rfl (fun hb34 => ?_) (fun hb34 => ?_)
      · replace H := H.1 hb34
        refine hx_exit ?_
        refine seqQ_exit ?_
        refine blockQ_here ?_
        replace H := H h6 xv33
        refine seqQ_n ?_
        exact ⟨⟨H, trivial⟩, (has_cons rfl (has_cons rfl (has_cons rfl (has_cons rfl has_nil))))⟩
      · replace H := H.2 hb34
        refine hx_skip ?_
        refine seqQ_n ?_
        refine hx_seq ?_
        refine hx_region ?_
        refine hl_val rfl rfl (v := (.map (some mb))) (hv_move rfl) ?_
        refine hl_val rfl rfl (v := (ptr m 1)) (hv_field TyShE.fld31_1 (b := m) (o := 0) rfl) ?_
        refine hl_val rfl rfl (v := (.string x_Key)) (hv_load TyShE.agg9 rfl (rowcell hr28' rfl)) ?_
        obtain ⟨kv, mm35, x, x_n, x_c, hv36, H⟩ := H
        refine hl_val rfl rfl (v := (.tuple #[(.slice x x_n x_c), (.bool ((lk kv x_Key).isSome))])) (hv_look2 (l := kv) (a := x_Key) strK TyShE.u45 TyShE.u9 TyShE.z27 rfl rfl (MapL.ext xv33 mm35) hv36) ?_
        refine hl_val rfl rfl (v := (.tuple #[(.slice x x_n x_c), (.bool ((lk kv x_Key).isSome))])) (hv_move rfl) ?_
        refine hl_val rfl rfl (v := (.slice x x_n x_c)) (hv_extract (vs := #[(.slice x x_n x_c), (.bool ((lk kv x_Key).isSome))]) rfl rfl) ?_
        refine hl_val rfl rfl (v := (.bool ((lk kv x_Key).isSome))) (hv_extract (vs := #[(.slice x x_n x_c), (.bool ((lk kv x_Key).isSome))]) rfl rfl) ?_
        refine hl_val rfl rfl (v := (.slice x x_n x_c)) (hv_assign rfl) ?_
        refine hl_val rfl rfl (v := (.bool ((lk kv x_Key).isSome))) (hv_assign rfl) ?_
        refine hl_nil ?_
        refine seqQ_n ?_
        obtain ⟨A40, Hx37, Hy38⟩ := H
        refine hx_cut (fun ρ h' => ∃ was : Option Addr, ∃ was_n was_c : Nat, (A40 was was_n was_c h' ∧ h'[m]? = some (.cells #[(.int .i64 x_Kind), (.string x_Key), (.string x_Value), (.int .i64 x_Err), (.bool x_Hit), (.int .i64 x_Life), (.int .i64 x_From), (.int .i64 x_To)] 31 (0, 0)) ∧ True) ∧ Has ρ [(4, (.map (some mb))), (5, (.int .i64 v)), (6, (ptr m 0)), (7, (.slice was was_n was_c)), (11, (.slice (some ⟨l_b, l_o, none⟩) l_n l_c)), (12, (.int .i64 (l_n : Int))), (13, (.int .i64 v))]) ?_ ?_
        · have H := Hx37; clear Hx37 Hy38
          refine hx_seq ?_
          refine hx_region ?_
          refine hl_val rfl rfl (v := (.bool ((lk kv x_Key).isSome))) (hv_move rfl) ?_
          refine hl_val rfl rfl (v := (.bool (!((lk kv x_Key).isSome)))) (hv_not (b := (lk kv x_Key).isSome) rfl) ?_
          refine hl_nil ?_
          refine seqQ_n ?_
          refine hx_cond (b := !((lk kv x_Key).isSome)) rfl (fun hb42 => ?_) (fun hb42 => ?_)
          · replace H := H.1 hb42
            refine hx_region ?_
            replace H := H m h6 lo29 (row_lt hr28') xv33
            refine hl_step rfl rfl (hs_call TyShE.cb23 (vs := []) rfl (HC.mono H ?_))
            rintro _ h8 ⟨kp43, r, r_n, r_c, rfl, H⟩
            replace hr28' := Kp.row kp43 (by simp) hr28'
            refine hl_val rfl rfl (v := (.slice r r_n r_c)) (hv_assign rfl) ?_
            refine hl_nil ?_
            refine seqQ_n ?_
            exact ⟨_, _, _, ⟨H, hr28', trivial⟩, (has_cons rfl (has_cons rfl (has_cons rfl (has_cons rfl (has_cons rfl (has_cons rfl (has_cons rfl has_nil)))))))⟩
          · replace H := H.2 hb42
            refine hx_skip ?_
            replace H := H h6 xv33
            refine seqQ_n ?_
            exact ⟨_, _, _, ⟨H, hr28', trivial⟩, (has_cons rfl (has_cons rfl (has_cons rfl (has_cons rfl (has_cons rfl (has_cons rfl (has_cons rfl has_nil)))))))⟩
        · rintro ρ h7 ⟨was, was_n, was_c, ⟨HA41, hr39, -⟩, hH⟩
          have H := Hy38 was was_n was_c h7 HA41; clear Hx37 Hy38
          refine hx_has _ hH ?_
          replace H := H m lo29 (row_lt hr39)
          refine hx_seq ?_
          refine hx_region ?_
          refine hl_val rfl rfl (v := (.slice was was_n was_c)) (hv_move rfl) ?_
          refine hl_val rfl rfl (v := (.agg #[(.int .i64 x_Kind), (.string x_Key), (.string x_Value), (.int .i64 x_Err), (.bool x_Hit), (.int .i64 x_Life), (.int .i64 x_From), (.int .i64 x_To)])) (hv_loads (vs := [(.int .i64 x_Kind), (.string x_Key), (.string x_Value), (.int .i64 x_Err), (.bool x_Hit), (.int .i64 x_Life), (.int .i64 x_From), (.int .i64 x_To)]) TyShE.agg31 TyShE.sz31 rfl (hcells_cons (rowcell hr39 rfl) (hcells_cons (rowcell hr39 rfl) (hcells_cons (rowcell hr39 rfl) (hcells_cons (rowcell hr39 rfl) (hcells_cons (rowcell hr39 rfl) (hcells_cons (rowcell hr39 rfl) (hcells_cons (rowcell hr39 rfl) (hcells_cons (rowcell hr39 rfl) hcells_nil))))))))) ?_
          refine hl_step rfl rfl (hs_call TyShE.cb19 (vs := [(.slice was was_n was_c), (.agg #[(.int .i64 x_Kind), (.string x_Key), (.string x_Value), (.int .i64 x_Err), (.bool x_Hit), (.int .i64 x_Life), (.int .i64 x_From), (.int .i64 x_To)])]) rfl (HC.mono H ?_))
          rintro _ h9 ⟨kp44, r_1, r_n_1, r_c_1, rfl, H⟩
          replace hr39 := Kp.row kp44 (by simp) hr39
          refine hl_val rfl rfl (v := (.slice r_1 r_n_1 r_c_1)) (hv_assign rfl) ?_
          refine hl_nil ?_
          refine seqQ_n ?_
          refine hx_seq ?_
          refine hx_seq ?_
          refine hx_region ?_
          refine hl_val rfl rfl (v := (.slice r_1 r_n_1 r_c_1)) (hv_move rfl) ?_
          refine hl_val rfl rfl (v := (.int .i64 (r_n_1 : Int))) (hv_len (n := r_n_1) TyShE.u27 rfl) ?_
          refine hl_val rfl rfl (v := (.bool ((r_n_1 : Int) == 0))) (hv_arith rfl rfl rfl) ?_
          refine hl_nil ?_
          refine seqQ_n ?_
          refine hx_cond (b := (r_n_1 : Int) == 0) rfl (fun hb45 => ?_) (fun hb45 => ?_)
          · replace H := H.1 hb45
            refine hx_seq ?_
            refine hx_region ?_
            refine hl_val rfl rfl (v := (.int .i64 v)) (hv_move rfl) ?_
            refine hl_val rfl rfl (v := (.bool false)) (hv_assign rfl) ?_
            refine hl_val rfl rfl (v := (.int .i64 v)) (hv_assign rfl) ?_
            refine hl_nil ?_
            refine seqQ_n ?_
            refine hx_ret ?_
            refine seqQ_ret ?_
            refine blockQ_ret ?_
            refine seqQ_ret ?_
            refine seqQ_ret ?_
            refine blockQ_ret ?_
            refine seqQ_ret ?_
            exact endQ_ret _ (res_two Try.results10 (rv_tmp rfl) (rv_tmp rfl)) H
          · replace H := H.2 hb45
            refine hx_skip ?_
            refine seqQ_n ?_
            refine hx_region ?_
            refine hl_val rfl rfl (v := (.map (some mb))) (hv_move rfl) ?_
            refine hl_val rfl rfl (v := (ptr m 1)) (hv_field TyShE.fld31_1 (b := m) (o := 0) rfl) ?_
            refine hl_val rfl rfl (v := (.string x_Key)) (hv_load TyShE.agg9 rfl (rowcell hr39 rfl)) ?_
            refine hl_val rfl rfl (v := (.slice r_1 r_n_1 r_c_1)) (hv_move rfl) ?_
            obtain ⟨kv_1, mm46, H⟩ := H
            refine hl_step rfl rfl (hn_mapPut (l := kv_1) (a := x_Key) strK TyShE.u45 TyShE.u9 rfl rfl rfl mm46 ?_)
            intro h10 on47 mm48
            replace H := H h10 on47 mm48
            replace hr39 := row_only on47 mm46 hr39
            refine hl_nil ?_
            refine blockQ_n ?_
            refine seqQ_n ?_
            exact ⟨⟨H, trivial⟩, (has_cons rfl (has_cons rfl (has_cons rfl (has_cons rfl has_nil))))⟩
    · rintro ρ h3 ⟨⟨HA14, -⟩, hH⟩
      have H := Hy12 h3 HA14; clear Hx11 Hy12
      refine hx_has _ hH ?_
      refine hx_region ?_
      refine hl_val rfl rfl (v := (.int .i64 (IntKind.i64.wrap (v + 1)))) (hv_arith rfl rfl rfl) ?_
      refine hl_val rfl rfl (v := (.int .i64 (IntKind.i64.wrap (v + 1)))) (hv_move rfl) ?_
      refine hl_nil ?_
      refine seqQ_n ?_
      exact ⟨IntKind.i64.wrap (v + 1), ⟨⟨H.1, trivial⟩, H.2⟩, (has_cons rfl (has_cons rfl (has_cons rfl (has_cons rfl has_nil))))⟩
  · replace H := H.2 hb10
    refine hx_exit ?_
    refine seqQ_exit ?_
    refine seqQ_exit ?_
    refine blockQ_here ?_
    refine seqQ_n ?_
    refine hx_seq ?_
    refine hx_region ?_
    refine hl_val rfl rfl (v := (.bool true)) (hv_assign rfl) ?_
    refine hl_val rfl rfl (v := (.int .i64 0)) (hv_assign rfl) ?_
    refine hl_nil ?_
    refine seqQ_n ?_
    refine hx_ret ?_
    exact endQ_ret _ (res_two Try.results10 (rv_tmp rfl) (rv_tmp rfl)) H

/-- cellar/model.Ends -/
theorem f14_sh (l : Option Addr) (l_n : Nat) (l_c : Nat) (key : ByteArray) (h : Heap) (R : Value → Heap → Prop)
    (H : HC Try.prog 23 #[] h (fun vv h1 => ∃ r : Option Addr, ∃ r_n r_c : Nat, vv = (.slice r r_n r_c) ∧ (∃ (I1 : Option Addr → Nat → Nat → Int → Heap → Prop) (mu2 : Option Addr → Nat → Nat → Int → Heap → Nat), I1 r r_n r_c 0 h1 ∧ (∀ (out : Option Addr) (out_n : Nat) (out_c : Nat) (v : Int) (h2 : Heap), I1 out out_n out_c v h2 → (((decide (v < (l_n : Int))) = true → (∃ A9 : Option Addr → Nat → Nat → Heap → Prop, (∃ l_b l_o : Nat, l = some ⟨l_b, l_o, none⟩ ∧ (0 : Int) ≤ v ∧ v < (l_n : Int) ∧ (∃ x_Kind : Int, ∃ x_Key x_Value : ByteArray, ∃ x_Err : Int, ∃ x_Hit : Bool, ∃ x_Life x_From x_To : Int, hcell h2 l_b (l_o + (Int.toNat v) * 8) = some (.int .i64 x_Kind) ∧ hcell h2 l_b ((l_o + (Int.toNat v) * 8) + 1) = some (.string x_Key) ∧ hcell h2 l_b ((l_o + (Int.toNat v) * 8) + 2) = some (.string x_Value) ∧ hcell h2 l_b ((l_o + (Int.toNat v) * 8) + 3) = some (.int .i64 x_Err) ∧ hcell h2 l_b ((l_o + (Int.toNat v) * 8) + 4) = some (.bool x_Hit) ∧ hcell h2 l_b ((l_o + (Int.toNat v) * 8) + 5) = some (.int .i64 x_Life) ∧ hcell h2 l_b ((l_o + (Int.toNat v) * 8) + 6) = some (.int .i64 x_From) ∧ hcell h2 l_b ((l_o + (Int.toNat v) * 8) + 7) = some (.int .i64 x_To) ∧ ((((Ml.keyed ⟨x_Kind, x_Key, x_Value, x_Err, x_Hit, x_Life, x_From, x_To⟩) && (decide (x_Key = key))) = true → (∀ (h6 : Heap), Ext h2 h6 → HC Try.prog 19 #[(.slice out out_n out_c), (.agg #[(.int .i64 x_Kind), (.string x_Key), (.string x_Value), (.int .i64 x_Err), (.bool x_Hit), (.int .i64 x_Life), (.int .i64 x_From), (.int .i64 x_To)])] h6 (fun vv h8 => ∃ r_1 : Option Addr, ∃ r_n_1 r_c_1 : Nat, vv = (.slice r_1 r_n_1 r_c_1) ∧ (A9 r_1 r_n_1 r_c_1 h8)))) ∧ (((Ml.keyed ⟨x_Kind, x_Key, x_Value, x_Err, x_Hit, x_Life, x_From, x_To⟩) && (decide (x_Key = key))) = false → (∀ (h6 : Heap), Ext h2 h6 → (A9 out out_n out_c h6)))))) ∧ (∀ (out_1 : Option Addr) (out_n_1 : Nat) (out_c_1 : Nat) (h3 : Heap), A9 out_1 out_n_1 out_c_1 h3 → (I1 out_1 out_n_1 out_c_1 (IntKind.i64.wrap (v + 1)) h3 ∧ mu2 out_1 out_n_1 out_c_1 (IntKind.i64.wrap (v + 1)) h3 < mu2 out out_n out_c v h2)))) ∧ ((decide (v < (l_n : Int))) = false → R (.slice out out_n out_c) h2)))))) :
    HC Try.prog 14 #[(.slice l l_n l_c), (.string key)] h R := by
  refine hc_of (args := [(.slice l l_n l_c), (.string key)]) Try.func14 rfl Try.ntmps14 (Nat.le_of_ble_eq_true rfl) ?_
  refine hx_seq ?_
  refine hx_region ?_
  refine hl_val rfl rfl (v := (.slice none 0 0)) (hv_assign rfl) ?_
  refine hl_nil ?_
  refine seqQ_n ?_
  refine hx_seq ?_
  refine hx_region ?_
  refine hl_step rfl rfl (hs_call TyShE.cb23 (vs := []) rfl (HC.mono H ?_))
  rintro _ h1 ⟨r, r_n, r_c, rfl, H⟩
  refine hl_val rfl rfl (v := (.slice r r_n r_c)) (hv_assign rfl) ?_
  refine hl_nil ?_
  refine seqQ_n ?_
  refine hx_seq ?_
  refine hx_seq ?_
  refine hx_region ?_
  refine hl_val rfl rfl (v := (.slice l l_n l_c)) (hv_move rfl) ?_
  refine hl_val rfl rfl (v := (.int .i64 (l_n : Int))) (hv_len (n := l_n) TyShE.u22 rfl) ?_
  refine hl_val rfl rfl (v := (.int .i64 0)) (hv_move rfl) ?_
  refine hl_nil ?_
  refine seqQ_n ?_
  refine hx_block ?_
  obtain ⟨I1, mu2, Ha3, Hr4⟩ := H
  refine hx_loopT (σ := Option Addr × Nat × Nat × Int) (fun s => [(1, (.string key)), (5, (.slice s.1 s.2.1 s.2.2.1)), (9, (.slice l l_n l_c)), (10, (.int .i64 (l_n : Int))), (11, (.int .i64 s.2.2.2))]) (fun s h' => I1 s.1 s.2.1 s.2.2.1 s.2.2.2 h' ∧ True) (fun s h' => mu2 s.1 s.2.1 s.2.2.1 s.2.2.2 h') (r, r_n, r_c, 0) ⟨Ha3, trivial⟩ (has_cons rfl (has_cons rfl (has_cons rfl (has_cons rfl (has_cons rfl has_nil))))) ?_
  rintro ⟨out, out_n, out_c, v⟩ ρ h2 ⟨Hi5, -⟩
  have H := Hr4 out out_n out_c v h2 Hi5
  refine hx_seq ?_
  refine hx_region ?_
  refine hl_val rfl rfl (v := (.bool (decide (v < (l_n : Int))))) (hv_arith rfl rfl rfl) ?_
  refine hl_nil ?_
  refine seqQ_n ?_
  refine hx_seq ?_
  refine hx_cond (b := decide (v < (l_n : Int))) rfl (fun hb6 => ?_) (fun hb6 => ?_)
  · replace H := H.1 hb6
    refine hx_skip ?_
    refine seqQ_n ?_
    obtain ⟨A9, Hx7, Hy8⟩ := H
    refine hx_cut (fun ρ h' => ∃ out_1 : Option Addr, ∃ out_n_1 out_c_1 : Nat, (A9 out_1 out_n_1 out_c_1 h' ∧ True) ∧ Has ρ [(1, (.string key)), (5, (.slice out_1 out_n_1 out_c_1)), (9, (.slice l l_n l_c)), (10, (.int .i64 (l_n : Int))), (11, (.int .i64 v))]) ?_ ?_
    · have H := Hx7; clear Hx7 Hy8
      refine hx_block ?_
      refine hx_seq ?_
      refine hx_region ?_
      obtain ⟨l_b, l_o, hqe, hi11, hi12, Hq⟩ := H
      subst hqe
      have H := Hq; clear Hq
      refine hl_val rfl rfl (v := (ptr l_b (l_o + (Int.toNat v) * 8))) (hv_index TyShE.el22 rfl rfl hi11 hi12) ?_
      obtain ⟨x_Kind, x_Key, x_Value, x_Err, x_Hit, x_Life, x_From, x_To, hc13, hc14, hc15, hc16, hc17, hc18, hc19, hc20, H⟩ := H
      refine hl_val rfl rfl (v := (.agg #[(.int .i64 x_Kind), (.string x_Key), (.string x_Value), (.int .i64 x_Err), (.bool x_Hit), (.int .i64 x_Life), (.int .i64 x_From), (.int .i64 x_To)])) (hv_loads (vs := [(.int .i64 x_Kind), (.string x_Key), (.string x_Value), (.int .i64 x_Err), (.bool x_Hit), (.int .i64 x_Life), (.int .i64 x_From), (.int .i64 x_To)]) TyShE.agg31 TyShE.sz31 rfl (hcells_cons hc13 (hcells_cons hc14 (hcells_cons hc15 (hcells_cons hc16 (hcells_cons hc17 (hcells_cons hc18 (hcells_cons hc19 (hcells_cons hc20 hcells_nil))))))))) ?_
      refine hl_step rfl rfl (hn_alloc TyShE.z31 ?_)
      intro m h4 eb21 eh22
      have xx23 : Ext h2 h4 := by rw [eh22]; exact Ext.push _ _
      have lo25 : Array.size h2 ≤ m := Nat.le_of_eq (Eq.symm eb21)
      have hr24 : h4[m]? = some (.cells #[(.int .i64 0), (.string ByteArray.empty), (.string ByteArray.empty), (.int .i64 0), (.bool false), (.int .i64 0), (.int .i64 0), (.int .i64 0)] 31 (0, 0)) := by rw [eh22]; exact push_new eb21
      refine hl_step rfl rfl (hn_stores (vs := [(.int .i64 x_Kind), (.string x_Key), (.string x_Value), (.int .i64 x_Err), (.bool x_Hit), (.int .i64 x_Life), (.int .i64 x_From), (.int .i64 x_To)]) rfl rfl TyShE.sz31 rfl (HWs_row hr24 (by simp)) ?_)
      intro h5 eh26
      have hr24' : h5[m]? = some (.cells #[(.int .i64 x_Kind), (.string x_Key), (.string x_Value), (.int .i64 x_Err), (.bool x_Hit), (.int .i64 x_Life), (.int .i64 x_From), (.int .i64 x_To)] 31 (0, 0)) := row_hsets_eq eh26 hr24 rfl
      have xv27 := ext_hsets eh26 xx23 lo25
      refine hl_nil ?_
      refine seqQ_n ?_
      refine hx_cut (fun ρ h' => (Ext h2 h' ∧ h'[m]? = some (.cells #[(.int .i64 x_Kind), (.string x_Key), (.string x_Value), (.int .i64 x_Err), (.bool x_Hit), (.int .i64 x_Life), (.int .i64 x_From), (.int .i64 x_To)] 31 (0, 0)) ∧ True) ∧ Has ρ [(1, (.string key)), (5, (.slice out out_n out_c)), (7, (ptr m 0)), (9, (.slice (some ⟨l_b, l_o, none⟩) l_n l_c)), (10, (.int .i64 (l_n : Int))), (11, (.int .i64 v)), (22, (.bool ((Ml.keyed ⟨x_Kind, x_Key, x_Value, x_Err, x_Hit, x_Life, x_From, x_To⟩) && (decide (x_Key = key)))))]) ?_ ?_
      · refine hx_region ?_
        refine hl_val rfl rfl (v := (.agg #[(.int .i64 x_Kind), (.string x_Key), (.string x_Value), (.int .i64 x_Err), (.bool x_Hit), (.int .i64 x_Life), (.int .i64 x_From), (.int .i64 x_To)])) (hv_loads (vs := [(.int .i64 x_Kind), (.string x_Key), (.string x_Value), (.int .i64 x_Err), (.bool x_Hit), (.int .i64 x_Life), (.int .i64 x_From), (.int .i64 x_To)]) TyShE.agg31 TyShE.sz31 rfl (hcells_cons (rowcell hr24' rfl) (hcells_cons (rowcell hr24' rfl) (hcells_cons (rowcell hr24' rfl) (hcells_cons (rowcell hr24' rfl) (hcells_cons (rowcell hr24' rfl) (hcells_cons (rowcell hr24' rfl) (hcells_cons (rowcell hr24' rfl) (hcells_cons (rowcell hr24' rfl) hcells_nil))))))))) ?_
        refine hl_step rfl rfl (hs_call TyShE.cb22 (vs := [(.agg #[(.int .i64 x_Kind), (.string x_Key), (.string x_Value), (.int .i64 x_Err), (.bool x_Hit), (.int .i64 x_Life), (.int .i64 x_From), (.int .i64 x_To)])]) rfl (HC.mono (keyed_c (⟨x_Kind, x_Key, x_Value, x_Err, x_Hit, x_Life, x_From, x_To⟩) _) ?_))
        rintro _ h7 ⟨rfl, xx32⟩
        replace hr24' := Ext.row xx32 hr24'
        have xv33 := Ext.trans xv27 xx32
        refine hl_val rfl rfl (v := (.bool (Ml.keyed ⟨x_Kind, x_Key, x_Value, x_Err, x_Hit, x_Life, x_From, x_To⟩))) (hv_move rfl) ?_
        rcases bool_or (Ml.keyed ⟨x_Kind, x_Key, x_Value, x_Err, x_Hit, x_Life, x_From, x_To⟩) with hg34 | hg34
        · refine hl_yes (wanted_y rfl rfl rfl hg34) rfl (HStep.of_val (v := (ptr m 1)) (hv_field TyShE.fld31_1 (b := m) (o := 0) rfl) ?_)
          refine hl_yes (wanted_y rfl rfl rfl hg34) rfl (HStep.of_val (v := (.string x_Key)) (hv_load TyShE.agg9 rfl (rowcell hr24' rfl)) ?_)
          refine hl_yes (wanted_y rfl rfl rfl hg34) rfl (HStep.of_val (v := (.string key)) (hv_move rfl) ?_)
          refine hl_yes (wanted_y rfl rfl rfl hg34) rfl (HStep.of_val (v := (.bool (decide (x_Key = key)))) (hv_str rfl rfl rfl) ?_)
          refine hl_val rfl rfl (v := (.bool (decide (x_Key = key)))) (hv_pick_t rfl hg34 rfl) ?_
          refine hl_nil ?_
          refine seqQ_n ?_
          exact ⟨⟨xv33, (row_congr hr24' (by first | rfl | simp [hg34])), trivial⟩, (has_cons rfl (has_cons rfl (has_cons rfl (has_cons rfl (has_cons rfl (has_cons rfl (has_cons (show ((.bool (decide (x_Key = key))) : Value) = (.bool ((Ml.keyed ⟨x_Kind, x_Key, x_Value, x_Err, x_Hit, x_Life, x_From, x_To⟩) && (decide (x_Key = key)))) from (by first | rfl | simp [hg34])) has_nil)))))))⟩
        · refine hl_no (wanted_n rfl rfl rfl hg34) rfl ?_
          refine hl_no (wanted_n rfl rfl rfl hg34) rfl ?_
          refine hl_no (wanted_n rfl rfl rfl hg34) rfl ?_
          refine hl_no (wanted_n rfl rfl rfl hg34) rfl ?_
          refine hl_val rfl rfl (v := (.bool false)) (hv_pick_f rfl hg34 rfl) ?_
          refine hl_nil ?_
          refine seqQ_n ?_
          exact ⟨⟨xv33, (row_congr hr24' (by first | rfl | simp [hg34])), trivial⟩, (has_cons rfl (has_cons rfl (has_cons rfl (has_cons rfl (has_cons rfl (has_cons rfl (has_cons (show ((.bool false) : Value) = (.bool ((Ml.keyed ⟨x_Kind, x_Key, x_Value, x_Err, x_Hit, x_Life, x_From, x_To⟩) && (decide (x_Key = key)))) from (by first | rfl | simp [hg34])) has_nil)))))))⟩
      · rintro ρ h6 ⟨⟨xv30, hr31, -⟩, hH⟩
        refine hx_has _ hH ?_
        refine hx_cond (b := ((Ml.keyed ⟨x_Kind, x_Key, x_Value, x_Err, x_Hit, x_Life, x_From, x_To⟩) && (decide (x_Key = key)))) rfl (fun hb35 => ?_) (fun hb35 => ?_)
        · replace H := H.1 hb35
          refine hx_region ?_
          refine hl_val rfl rfl (v := (.slice out out_n out_c)) (hv_move rfl) ?_
          refine hl_val rfl rfl (v := (.agg #[(.int .i64 x_Kind), (.string x_Key), (.string x_Value), (.int .i64 x_Err), (.bool x_Hit), (.int .i64 x_Life), (.int .i64 x_From), (.int .i64 x_To)])) (hv_loads (vs := [(.int .i64 x_Kind), (.string x_Key), (.string x_Value), (.int .i64 x_Err), (.bool x_Hit), (.int .i64 x_Life), (.int .i64 x_From), (.int .i64 x_To)]) TyShE.agg31 TyShE.sz31 rfl (hcells_cons (rowcell hr31 rfl) (hcells_cons (rowcell hr31 rfl) (hcells_cons (rowcell hr31 rfl) (hcells_cons (rowcell hr31 rfl) (hcells_cons (rowcell hr31 rfl) (hcells_cons (rowcell hr31 rfl) (hcells_cons (rowcell hr31 rfl) (hcells_cons (rowcell hr31 rfl) hcells_nil))))))))) ?_
          replace H := H h6 xv30
          refine hl_step rfl rfl (hs_call TyShE.cb19 (vs := [(.slice out out_n out_c), (.agg #[(.int .i64 x_Kind), (.string x_Key), (.string x_Value), (.int .i64 x_Err), (.bool x_Hit), (.int .i64 x_Life), (.int .i64 x_From), (.int .i64 x_To)])]) rfl (HC.mono H ?_))
          rintro _ h8 ⟨r_1, r_n_1, r_c_1, rfl, H⟩
          refine hl_val rfl rfl (v := (.slice r_1 r_n_1 r_c_1)) (hv_assign rfl) ?_
          refine hl_nil ?_
          refine blockQ_n ?_
          refine seqQ_n ?_
          exact ⟨_, _, _, ⟨H, trivial⟩, (has_cons rfl (has_cons rfl (has_cons rfl (has_cons rfl (has_cons rfl has_nil)))))⟩
        · replace H := H.2 hb35
          refine hx_skip ?_
          refine blockQ_n ?_
          replace H := H h6 xv30
          refine seqQ_n ?_
          exact ⟨_, _, _, ⟨H, trivial⟩, (has_cons rfl (has_cons rfl (has_cons rfl (has_cons rfl (has_cons rfl has_nil)))))⟩
    · rintro ρ h3 ⟨out_1, out_n_1, out_c_1, ⟨HA10, -⟩, hH⟩
      have H := Hy8 out_1 out_n_1 out_c_1 h3 HA10; clear Hx7 Hy8
      refine hx_has _ hH ?_
      refine hx_region ?_
      refine hl_val rfl rfl (v := (.int .i64 (IntKind.i64.wrap (v + 1)))) (hv_arith rfl rfl rfl) ?_
      refine hl_val rfl rfl (v := (.int .i64 (IntKind.i64.wrap (v + 1)))) (hv_move rfl) ?_
      refine hl_nil ?_
      refine seqQ_n ?_
      exact ⟨(out_1, out_n_1, out_c_1, IntKind.i64.wrap (v + 1)), ⟨⟨H.1, trivial⟩, H.2⟩, (has_cons rfl (has_cons rfl (has_cons rfl (has_cons rfl (has_cons rfl has_nil)))))⟩
  · replace H := H.2 hb6
    refine hx_exit ?_
    refine seqQ_exit ?_
    refine seqQ_exit ?_
    refine blockQ_here ?_
    refine seqQ_n ?_
    refine hx_seq ?_
    refine hx_region ?_
    refine hl_val rfl rfl (v := (.slice out out_n out_c)) (hv_move rfl) ?_
    refine hl_val rfl rfl (v := (.slice out out_n out_c)) (hv_assign rfl) ?_
    refine hl_nil ?_
    refine seqQ_n ?_
    refine hx_ret ?_
    exact endQ_ret _ (res_one Try.results14 (rv_tmp rfl)) H

/-- cellar/cellarref23.Accepts -/
theorem f11_sh (l : Option Addr) (l_n : Nat) (l_c : Nat) (h : Heap) (R : Value → Heap → Prop)
    (H : (∃ (I1 : Int → Heap → Prop) (mu2 : Int → Heap → Nat), I1 0 h ∧ (∀ (i : Int) (h1 : Heap), I1 i h1 → (((decide (i < (l_n : Int))) = true → (∃ A9 : Bool → Heap → Prop, (∃ l_b l_o : Nat, l = some ⟨l_b, l_o, none⟩ ∧ (0 : Int) ≤ i ∧ i < (l_n : Int) ∧ (∃ x_Kind : Int, ∃ x_Key x_Value : ByteArray, ∃ x_Err : Int, ∃ x_Hit : Bool, ∃ x_Life x_From x_To : Int, hcell h1 l_b (l_o + (Int.toNat i) * 8) = some (.int .i64 x_Kind) ∧ hcell h1 l_b ((l_o + (Int.toNat i) * 8) + 1) = some (.string x_Key) ∧ hcell h1 l_b ((l_o + (Int.toNat i) * 8) + 2) = some (.string x_Value) ∧ hcell h1 l_b ((l_o + (Int.toNat i) * 8) + 3) = some (.int .i64 x_Err) ∧ hcell h1 l_b ((l_o + (Int.toNat i) * 8) + 4) = some (.bool x_Hit) ∧ hcell h1 l_b ((l_o + (Int.toNat i) * 8) + 5) = some (.int .i64 x_Life) ∧ hcell h1 l_b ((l_o + (Int.toNat i) * 8) + 6) = some (.int .i64 x_From) ∧ hcell h1 l_b ((l_o + (Int.toNat i) * 8) + 7) = some (.int .i64 x_To) ∧ (((Ml.keyed ⟨x_Kind, x_Key, x_Value, x_Err, x_Hit, x_Life, x_From, x_To⟩) = true → (0 ≤ ((0 : Int) : Int) ∧ (0 : Int) ≤ IntKind.i64.wrap (i + 1) ∧ IntKind.i64.wrap (i + 1) ≤ (l_c : Int) ∧ ∀ sl : Option Addr, sl = slA (some ⟨l_b, l_o, none⟩) (Int.toNat 0) 8 l_c → (∀ (h3 : Heap), Ext h1 h3 → HC Try.prog 15 #[(.slice sl (Int.toNat (IntKind.i64.wrap (i + 1)) - Int.toNat 0) (l_c - Int.toNat 0)), (.string x_Key)] h3 (fun vv h4 => ∃ r : Option Addr, ∃ r_n r_c : Nat, vv = (.slice r r_n r_c) ∧ (A9 ((r_n : Int) == 0) h4))))) ∧ ((Ml.keyed ⟨x_Kind, x_Key, x_Value, x_Err, x_Hit, x_Life, x_From, x_To⟩) = false → (∀ (h3 : Heap), Ext h1 h3 → (A9 false h3)))))) ∧ (∀ (j : Bool) (h2 : Heap), A9 j h2 → ((j = true → R (.tuple #[(.bool false), (.int .i64 i)]) h2) ∧ (j = false → (I1 (IntKind.i64.wrap (i + 1)) h2 ∧ mu2 (IntKind.i64.wrap (i + 1)) h2 < mu2 i h1)))))) ∧ ((decide (i < (l_n : Int))) = false → R (.tuple #[(.bool true), (.int .i64 0)]) h1))))) :
    HC Try.prog 11 #[(.slice l l_n l_c)] h R := by
  refine hc_of (args := [(.slice l l_n l_c)]) Try.func11 rfl Try.ntmps11 (Nat.le_of_ble_eq_true rfl) ?_
  refine hx_seq ?_
  refine hx_region ?_
  refine hl_val rfl rfl (v := (.bool false)) (hv_assign rfl) ?_
  refine hl_val rfl rfl (v := (.int .i64 0)) (hv_assign rfl) ?_
  refine hl_nil ?_
  refine seqQ_n ?_
  refine hx_seq ?_
  refine hx_seq ?_
  refine hx_region ?_
  refine hl_val rfl rfl (v := (.int .i64 0)) (hv_assign rfl) ?_
  refine hl_nil ?_
  refine seqQ_n ?_
  refine hx_block ?_
  obtain ⟨I1, mu2, Ha3, Hr4⟩ := H
  refine hx_loopT (σ := Int) (fun s => [(0, (.slice l l_n l_c)), (4, (.int .i64 s))]) (fun s h' => I1 s h' ∧ True) (fun s h' => mu2 s h') 0 ⟨Ha3, trivial⟩ (has_cons rfl (has_cons rfl has_nil)) ?_
  rintro i ρ h1 ⟨Hi5, -⟩
  have H := Hr4 i h1 Hi5
  refine hx_seq ?_
  refine hx_seq ?_
  refine hx_region ?_
  refine hl_val rfl rfl (v := (.int .i64 i)) (hv_move rfl) ?_
  refine hl_val rfl rfl (v := (.slice l l_n l_c)) (hv_move rfl) ?_
  refine hl_val rfl rfl (v := (.int .i64 (l_n : Int))) (hv_len (n := l_n) TyShE.u22 rfl) ?_
  refine hl_val rfl rfl (v := (.bool (decide (i < (l_n : Int))))) (hv_arith rfl rfl rfl) ?_
  refine hl_nil ?_
  refine seqQ_n ?_
  refine hx_cond (b := decide (i < (l_n : Int))) rfl (fun hb6 => ?_) (fun hb6 => ?_)
  · replace H := H.1 hb6
    refine hx_skip ?_
    refine seqQ_n ?_
    refine hx_seq ?_
    refine hx_block ?_
    obtain ⟨A9, Hx7, Hy8⟩ := H
    refine hx_cut (fun ρ h' => ∃ j : Bool, (A9 j h' ∧ True) ∧ Has ρ [(0, (.slice l l_n l_c)), (4, (.int .i64 i)), (29, (.bool j))]) ?_ ?_
    · have H := Hx7; clear Hx7 Hy8
      refine hx_draw TyShE.mixed [.pure, .pure, .pure, .read, .ext, .pure, .pure, .pure, .pure, .pure, .pure, .pure, .pure, .pure, .read, .wild, .pure, .pure, .pure] [0, 1, 2, 3, 4, 5, 6, 7, 8, 9, 10, 11, 12, 13, 14, 15, 16, 17, 18] (by kernel_rfl) ?_
      refine hp_pure (i := 0) rfl (wanted_0 rfl) rfl (.slice l l_n l_c) (fun _ => hv_move rfl) ?_
      refine hp_pure (i := 1) rfl (wanted_0 rfl) rfl (.int .i64 i) (fun _ => hv_move rfl) ?_
      obtain ⟨l_b, l_o, hqe, hi11, hi12, Hq⟩ := H
      subst hqe
      have H := Hq; clear Hq
      refine hp_pure (i := 2) rfl (wanted_0 rfl) rfl (ptr l_b (l_o + (Int.toNat i) * 8)) (fun _ => hv_index TyShE.el22 rfl rfl hi11 hi12) ?_
      obtain ⟨x_Kind, x_Key, x_Value, x_Err, x_Hit, x_Life, x_From, x_To, hc13, hc14, hc15, hc16, hc17, hc18, hc19, hc20, H⟩ := H
      refine hp_read (i := 3) rfl (wanted_0 rfl) rfl (.agg #[(.int .i64 x_Kind), (.string x_Key), (.string x_Value), (.int .i64 x_Err), (.bool x_Hit), (.int .i64 x_Life), (.int .i64 x_From), (.int .i64 x_To)]) (fun _ he => hv_loads (vs := [(.int .i64 x_Kind), (.string x_Key), (.string x_Value), (.int .i64 x_Err), (.bool x_Hit), (.int .i64 x_Life), (.int .i64 x_From), (.int .i64 x_To)]) TyShE.agg31 TyShE.sz31 rfl (hcells_cons (Ext.cell he hc13) (hcells_cons (Ext.cell he hc14) (hcells_cons (Ext.cell he hc15) (hcells_cons (Ext.cell he hc16) (hcells_cons (Ext.cell he hc17) (hcells_cons (Ext.cell he hc18) (hcells_cons (Ext.cell he hc19) (hcells_cons (Ext.cell he hc20) hcells_nil))))))))) ?_
      refine hp_ext (i := 4) rfl (wanted_0 rfl) rfl (hs_call TyShE.cb24 (vs := [(.agg #[(.int .i64 x_Kind), (.string x_Key), (.string x_Value), (.int .i64 x_Err), (.bool x_Hit), (.int .i64 x_Life), (.int .i64 x_From), (.int .i64 x_To)])]) rfl (HC.mono (ofKey_c (⟨x_Kind, x_Key, x_Value, x_Err, x_Hit, x_Life, x_From, x_To⟩) _) ?_))
      rintro _ h3 ⟨rfl, xx21⟩
      refine ⟨xx21, ?_⟩
      refine hp_pure (i := 5) rfl (wanted_0 rfl) rfl (.bool (Ml.keyed ⟨x_Kind, x_Key, x_Value, x_Err, x_Hit, x_Life, x_From, x_To⟩)) (fun _ => hv_move rfl) ?_
      rcases bool_or (Ml.keyed ⟨x_Kind, x_Key, x_Value, x_Err, x_Hit, x_Life, x_From, x_To⟩) with hg22 | hg22
      · replace H := H.1 hg22
        refine hp_pure (i := 6) rfl (wanted_y rfl rfl rfl hg22) rfl (.slice (some ⟨l_b, l_o, none⟩) l_n l_c) (fun _ => hv_move rfl) ?_
        refine hp_pure (i := 7) rfl (wanted_y rfl rfl rfl hg22) rfl (.int .i64 i) (fun _ => hv_move rfl) ?_
        refine hp_pure (i := 8) rfl (wanted_y rfl rfl rfl hg22) rfl (.int .i64 (IntKind.i64.wrap (i + 1))) (fun _ => hv_arith rfl rfl rfl) ?_
        obtain ⟨hs23, hs24, hs25, H⟩ := H
        obtain ⟨sl, hq26⟩ : ∃ q, q = slA (some ⟨l_b, l_o, none⟩) (Int.toNat 0) 8 l_c := ⟨_, rfl⟩
        replace H := H sl hq26
        refine hp_pure (i := 9) rfl (wanted_y rfl rfl rfl hg22) rfl (.slice sl (Int.toNat (IntKind.i64.wrap (i + 1)) - Int.toNat 0) (l_c - Int.toNat 0)) (fun _ => hv_slice (l := 0) (r := IntKind.i64.wrap (i + 1)) TyShE.u22 TyShE.sz31 rfl sl_none (sh_some rfl) hs23 hs24 hs25 hq26) ?_
        refine hp_pure (i := 10) rfl (wanted_y rfl rfl rfl hg22) rfl (.slice (some ⟨l_b, l_o, none⟩) l_n l_c) (fun _ => hv_move rfl) ?_
        refine hp_pure (i := 11) rfl (wanted_y rfl rfl rfl hg22) rfl (.int .i64 i) (fun _ => hv_move rfl) ?_
        refine hp_pure (i := 12) rfl (wanted_y rfl rfl rfl hg22) rfl (ptr l_b (l_o + (Int.toNat i) * 8)) (fun _ => hv_index TyShE.el22 rfl rfl hi11 hi12) ?_
        refine hp_pure (i := 13) rfl (wanted_y rfl rfl rfl hg22) rfl (ptr l_b ((l_o + (Int.toNat i) * 8) + 1)) (fun _ => hv_field TyShE.fld31_1 (b := l_b) (o := l_o + (Int.toNat i) * 8) rfl) ?_
        refine hp_read (i := 14) rfl (wanted_y rfl rfl rfl hg22) rfl (.string x_Key) (fun _ he => hv_load TyShE.agg9 rfl (Ext.cell he (Ext.cell xx21 hc14))) ?_
        replace H := H h3 xx21
        refine hp_wild (i := 15) rfl (wanted_y rfl rfl rfl hg22) rfl (hs_call TyShE.cb15 (vs := [(.slice sl (Int.toNat (IntKind.i64.wrap (i + 1)) - Int.toNat 0) (l_c - Int.toNat 0)), (.string x_Key)]) rfl (HC.mono H ?_))
        rintro _ h4 ⟨r, r_n, r_c, rfl, H⟩
        refine hp_pure (i := 16) rfl (wanted_y rfl rfl rfl hg22) rfl (.int .i64 (r_n : Int)) (fun _ => hv_len (n := r_n) TyShE.u27 rfl) ?_
        refine hp_pure (i := 17) rfl (wanted_y rfl rfl rfl hg22) rfl (.bool ((r_n : Int) == 0)) (fun _ => hv_arith rfl rfl rfl) ?_
        refine hp_pure (i := 18) rfl (wanted_0 rfl) rfl (.bool ((r_n : Int) == 0)) (fun _ => hv_pick_t rfl hg22 rfl) ?_
        refine hp_nil ?_
        refine seqQ_n ?_
        exact ⟨_, ⟨H, trivial⟩, (has_cons rfl (has_cons rfl (has_cons rfl has_nil)))⟩
      · replace H := H.2 hg22
        refine hp_no (i := 6) rfl (wanted_n rfl rfl rfl hg22) ?_
        refine hp_no (i := 7) rfl (wanted_n rfl rfl rfl hg22) ?_
        refine hp_no (i := 8) rfl (wanted_n rfl rfl rfl hg22) ?_
        refine hp_no (i := 9) rfl (wanted_n rfl rfl rfl hg22) ?_
        refine hp_no (i := 10) rfl (wanted_n rfl rfl rfl hg22) ?_
        refine hp_no (i := 11) rfl (wanted_n rfl rfl rfl hg22) ?_
        refine hp_no (i := 12) rfl (wanted_n rfl rfl rfl hg22) ?_
        refine hp_no (i := 13) rfl (wanted_n rfl rfl rfl hg22) ?_
        refine hp_no (i := 14) rfl (wanted_n rfl rfl rfl hg22) ?_
        refine hp_no (i := 15) rfl (wanted_n rfl rfl rfl hg22) ?_
        refine hp_no (i := 16) rfl (wanted_n rfl rfl rfl hg22) ?_
        refine hp_no (i := 17) rfl (wanted_n rfl rfl rfl hg22) ?_
        refine hp_pure (i := 18) rfl (wanted_0 rfl) rfl (.bool false) (fun _ => hv_pick_f rfl hg22 rfl) ?_
        refine hp_nil ?_
        replace H := H h3 xx21
        refine seqQ_n ?_
        exact ⟨_, ⟨H, trivial⟩, (has_cons rfl (has_cons rfl (has_cons rfl has_nil)))⟩
    · rintro ρ h2 ⟨j, ⟨HA10, -⟩, hH⟩
      have H := Hy8 j h2 HA10; clear Hx7 Hy8
      refine hx_has _ hH ?_
      refine hx_cond (b := j) rfl (fun hb29 => ?_) (fun hb29 => ?_)
      · replace H := H.1 hb29
        refine hx_seq ?_
        refine hx_region ?_
        refine hl_val rfl rfl (v := (.int .i64 i)) (hv_move rfl) ?_
        refine hl_val rfl rfl (v := (.bool false)) (hv_assign rfl) ?_
        refine hl_val rfl rfl (v := (.int .i64 i)) (hv_assign rfl) ?_
        refine hl_nil ?_
        refine seqQ_n ?_
        refine hx_ret ?_
        refine blockQ_ret ?_
        refine seqQ_ret ?_
        refine seqQ_ret ?_
        refine blockQ_ret ?_
        refine seqQ_ret ?_
        exact endQ_ret _ (res_two Try.results11 (rv_tmp rfl) (rv_tmp rfl)) H
      · replace H := H.2 hb29
        refine hx_skip ?_
        refine blockQ_n ?_
        refine seqQ_n ?_
        refine hx_region ?_
        refine hl_val rfl rfl (v := (.int .i64 i)) (hv_move rfl) ?_
        refine hl_val rfl rfl (v := (.int .i64 (IntKind.i64.wrap (i + 1)))) (hv_arith rfl rfl rfl) ?_
        refine hl_val rfl rfl (v := (.int .i64 (IntKind.i64.wrap (i + 1)))) (hv_assign rfl) ?_
        refine hl_nil ?_
        refine seqQ_n ?_
        exact ⟨IntKind.i64.wrap (i + 1), ⟨⟨H.1, trivial⟩, H.2⟩, (has_cons rfl (has_cons rfl has_nil))⟩
  · replace H := H.2 hb6
    refine hx_exit ?_
    refine seqQ_exit ?_
    refine seqQ_exit ?_
    refine blockQ_here ?_
    refine seqQ_n ?_
    refine hx_seq ?_
    refine hx_region ?_
    refine hl_val rfl rfl (v := (.bool true)) (hv_assign rfl) ?_
    refine hl_val rfl rfl (v := (.int .i64 0)) (hv_assign rfl) ?_
    refine hl_nil ?_
    refine seqQ_n ?_
    refine hx_ret ?_
    exact endQ_ret _ (res_two Try.results11 (rv_tmp rfl) (rv_tmp rfl)) H

/-- cellar/cellarref23.Ends -/
theorem f15_sh (l : Option Addr) (l_n : Nat) (l_c : Nat) (key : ByteArray) (h : Heap) (R : Value → Heap → Prop)
    (H : HC Try.prog 27 #[] h (fun vv h1 => ∃ r : Option Addr, ∃ r_n r_c : Nat, vv = (.slice r r_n r_c) ∧ (∃ (I1 : Option Addr → Nat → Nat → Int → Heap → Prop) (mu2 : Option Addr → Nat → Nat → Int → Heap → Nat), I1 r r_n r_c 0 h1 ∧ (∀ (might : Option Addr) (might_n : Nat) (might_c : Nat) (i : Int) (h2 : Heap), I1 might might_n might_c i h2 → (((decide (i < (l_n : Int))) = true → (∃ A9 : Option Addr → Nat → Nat → Heap → Prop, (∃ j : Bool, (∃ l_b l_o : Nat, l = some ⟨l_b, l_o, none⟩ ∧ (0 : Int) ≤ i ∧ i < (l_n : Int) ∧ (∃ x_Kind : Int, ∃ x_Key x_Value : ByteArray, ∃ x_Err : Int, ∃ x_Hit : Bool, ∃ x_Life x_From x_To : Int, hcell h2 l_b (l_o + (Int.toNat i) * 8) = some (.int .i64 x_Kind) ∧ hcell h2 l_b ((l_o + (Int.toNat i) * 8) + 1) = some (.string x_Key) ∧ hcell h2 l_b ((l_o + (Int.toNat i) * 8) + 2) = some (.string x_Value) ∧ hcell h2 l_b ((l_o + (Int.toNat i) * 8) + 3) = some (.int .i64 x_Err) ∧ hcell h2 l_b ((l_o + (Int.toNat i) * 8) + 4) = some (.bool x_Hit) ∧ hcell h2 l_b ((l_o + (Int.toNat i) * 8) + 5) = some (.int .i64 x_Life) ∧ hcell h2 l_b ((l_o + (Int.toNat i) * 8) + 6) = some (.int .i64 x_From) ∧ hcell h2 l_b ((l_o + (Int.toNat i) * 8) + 7) = some (.int .i64 x_To) ∧ (((Ml.keyed ⟨x_Kind, x_Key, x_Value, x_Err, x_Hit, x_Life, x_From, x_To⟩) = true → (j = (decide (x_Key = key)))) ∧ ((Ml.keyed ⟨x_Kind, x_Key, x_Value, x_Err, x_Hit, x_Life, x_From, x_To⟩) = false → (j = false))))) ∧ ((j = true → (∃ l_b_1 l_o_1 : Nat, l = some ⟨l_b_1, l_o_1, none⟩ ∧ (0 : Int) ≤ i ∧ i < (l_n : Int) ∧ (∃ x_Kind_1 : Int, ∃ x_Key_1 x_Value_1 : ByteArray, ∃ x_Err_1 : Int, ∃ x_Hit_1 : Bool, ∃ x_Life_1 x_From_1 x_To_1 : Int, hcell h2 l_b_1 (l_o_1 + (Int.toNat i) * 8) = some (.int .i64 x_Kind_1) ∧ hcell h2 l_b_1 ((l_o_1 + (Int.toNat i) * 8) + 1) = some (.string x_Key_1) ∧ hcell h2 l_b_1 ((l_o_1 + (Int.toNat i) * 8) + 2) = some (.string x_Value_1) ∧ hcell h2 l_b_1 ((l_o_1 + (Int.toNat i) * 8) + 3) = some (.int .i64 x_Err_1) ∧ hcell h2 l_b_1 ((l_o_1 + (Int.toNat i) * 8) + 4) = some (.bool x_Hit_1) ∧ hcell h2 l_b_1 ((l_o_1 + (Int.toNat i) * 8) + 5) = some (.int .i64 x_Life_1) ∧ hcell h2 l_b_1 ((l_o_1 + (Int.toNat i) * 8) + 6) = some (.int .i64 x_From_1) ∧ hcell h2 l_b_1 ((l_o_1 + (Int.toNat i) * 8) + 7) = some (.int .i64 x_To_1) ∧ (∀ (h4 : Heap), Ext h2 h4 → HC Try.prog 28 #[(.slice might might_n might_c), (.agg #[(.int .i64 x_Kind_1), (.string x_Key_1), (.string x_Value_1), (.int .i64 x_Err_1), (.bool x_Hit_1), (.int .i64 x_Life_1), (.int .i64 x_From_1), (.int .i64 x_To_1)])] h4 (fun vv h6 => ∃ r_1 : Option Addr, ∃ r_n_1 r_c_1 : Nat, vv = (.slice r_1 r_n_1 r_c_1) ∧ (A9 r_1 r_n_1 r_c_1 h6)))))) ∧ (j = false → (∀ (h4 : Heap), Ext h2 h4 → (A9 might might_n might_c h4))))) ∧ (∀ (might_1 : Option Addr) (might_n_1 : Nat) (might_c_1 : Nat) (h3 : Heap), A9 might_1 might_n_1 might_c_1 h3 → (I1 might_1 might_n_1 might_c_1 (IntKind.i64.wrap (i + 1)) h3 ∧ mu2 might_1 might_n_1 might_c_1 (IntKind.i64.wrap (i + 1)) h3 < mu2 might might_n might_c i h2)))) ∧ ((decide (i < (l_n : Int))) = false → R (.slice might might_n might_c) h2)))))) :
    HC Try.prog 15 #[(.slice l l_n l_c), (.string key)] h R := by
  refine hc_of (args := [(.slice l l_n l_c), (.string key)]) Try.func15 rfl Try.ntmps15 (Nat.le_of_ble_eq_true rfl) ?_
  refine hx_seq ?_
  refine hx_region ?_
  refine hl_val rfl rfl (v := (.slice none 0 0)) (hv_assign rfl) ?_
  refine hl_nil ?_
  refine seqQ_n ?_
  refine hx_seq ?_
  refine hx_region ?_
  refine hl_step rfl rfl (hs_call TyShE.cb27 (vs := []) rfl (HC.mono H ?_))
  rintro _ h1 ⟨r, r_n, r_c, rfl, H⟩
  refine hl_val rfl rfl (v := (.slice r r_n r_c)) (hv_assign rfl) ?_
  refine hl_nil ?_
  refine seqQ_n ?_
  refine hx_seq ?_
  refine hx_seq ?_
  refine hx_region ?_
  refine hl_val rfl rfl (v := (.int .i64 0)) (hv_assign rfl) ?_
  refine hl_nil ?_
  refine seqQ_n ?_
  refine hx_block ?_
  obtain ⟨I1, mu2, Ha3, Hr4⟩ := H
  refine hx_loopT (σ := Option Addr × Nat × Nat × Int) (fun s => [(0, (.slice l l_n l_c)), (1, (.string key)), (5, (.slice s.1 s.2.1 s.2.2.1)), (6, (.int .i64 s.2.2.2))]) (fun s h' => I1 s.1 s.2.1 s.2.2.1 s.2.2.2 h' ∧ True) (fun s h' => mu2 s.1 s.2.1 s.2.2.1 s.2.2.2 h') (r, r_n, r_c, 0) ⟨Ha3, trivial⟩ (has_cons rfl (has_cons rfl (has_cons rfl (has_cons rfl has_nil)))) ?_
  rintro ⟨might, might_n, might_c, i⟩ ρ h2 ⟨Hi5, -⟩
  have H := Hr4 might might_n might_c i h2 Hi5
  refine hx_seq ?_
  refine hx_seq ?_
  refine hx_region ?_
  refine hl_val rfl rfl (v := (.int .i64 i)) (hv_move rfl) ?_
  refine hl_val rfl rfl (v := (.slice l l_n l_c)) (hv_move rfl) ?_
  refine hl_val rfl rfl (v := (.int .i64 (l_n : Int))) (hv_len (n := l_n) TyShE.u22 rfl) ?_
  refine hl_val rfl rfl (v := (.bool (decide (i < (l_n : Int))))) (hv_arith rfl rfl rfl) ?_
  refine hl_nil ?_
  refine seqQ_n ?_
  refine hx_cond (b := decide (i < (l_n : Int))) rfl (fun hb6 => ?_) (fun hb6 => ?_)
  · replace H := H.1 hb6
    refine hx_skip ?_
    refine seqQ_n ?_
    obtain ⟨A9, Hx7, Hy8⟩ := H
    refine hx_cut (fun ρ h' => ∃ might_1 : Option Addr, ∃ might_n_1 might_c_1 : Nat, (A9 might_1 might_n_1 might_c_1 h' ∧ True) ∧ Has ρ [(0, (.slice l l_n l_c)), (1, (.string key)), (5, (.slice might_1 might_n_1 might_c_1)), (6, (.int .i64 i))]) ?_ ?_
    · have H := Hx7; clear Hx7 Hy8
      refine hx_block ?_
      obtain ⟨j, Hx11, Hy12⟩ := H
      refine hx_cut (fun ρ h' => (Ext h2 h' ∧ True) ∧ Has ρ [(0, (.slice l l_n l_c)), (1, (.string key)), (5, (.slice might might_n might_c)), (6, (.int .i64 i)), (27, (.bool j))]) ?_ ?_
      · have H := Hx11; clear Hx11 Hy12
        refine hx_region ?_
        refine hl_val rfl rfl (v := (.slice l l_n l_c)) (hv_move rfl) ?_
        refine hl_val rfl rfl (v := (.int .i64 i)) (hv_move rfl) ?_
        obtain ⟨l_b, l_o, hqe, hi14, hi15, Hq⟩ := H
        subst hqe
        have H := Hq; clear Hq
        refine hl_val rfl rfl (v := (ptr l_b (l_o + (Int.toNat i) * 8))) (hv_index TyShE.el22 rfl rfl hi14 hi15) ?_
        obtain ⟨x_Kind, x_Key, x_Value, x_Err, x_Hit, x_Life, x_From, x_To, hc16, hc17, hc18, hc19, hc20, hc21, hc22, hc23, H⟩ := H
        refine hl_val rfl rfl (v := (.agg #[(.int .i64 x_Kind), (.string x_Key), (.string x_Value), (.int .i64 x_Err), (.bool x_Hit), (.int .i64 x_Life), (.int .i64 x_From), (.int .i64 x_To)])) (hv_loads (vs := [(.int .i64 x_Kind), (.string x_Key), (.string x_Value), (.int .i64 x_Err), (.bool x_Hit), (.int .i64 x_Life), (.int .i64 x_From), (.int .i64 x_To)]) TyShE.agg31 TyShE.sz31 rfl (hcells_cons hc16 (hcells_cons hc17 (hcells_cons hc18 (hcells_cons hc19 (hcells_cons hc20 (hcells_cons hc21 (hcells_cons hc22 (hcells_cons hc23 hcells_nil))))))))) ?_
        refine hl_step rfl rfl (hs_call TyShE.cb24 (vs := [(.agg #[(.int .i64 x_Kind), (.string x_Key), (.string x_Value), (.int .i64 x_Err), (.bool x_Hit), (.int .i64 x_Life), (.int .i64 x_From), (.int .i64 x_To)])]) rfl (HC.mono (ofKey_c (⟨x_Kind, x_Key, x_Value, x_Err, x_Hit, x_Life, x_From, x_To⟩) _) ?_))
        rintro _ h5 ⟨rfl, xx24⟩
        refine hl_val rfl rfl (v := (.bool (Ml.keyed ⟨x_Kind, x_Key, x_Value, x_Err, x_Hit, x_Life, x_From, x_To⟩))) (hv_move rfl) ?_
        rcases bool_or (Ml.keyed ⟨x_Kind, x_Key, x_Value, x_Err, x_Hit, x_Life, x_From, x_To⟩) with hg25 | hg25
        · replace H := H.1 hg25
          refine hl_yes (wanted_y rfl rfl rfl hg25) rfl (HStep.of_val (v := (.slice (some ⟨l_b, l_o, none⟩) l_n l_c)) (hv_move rfl) ?_)
          refine hl_yes (wanted_y rfl rfl rfl hg25) rfl (HStep.of_val (v := (.int .i64 i)) (hv_move rfl) ?_)
          refine hl_yes (wanted_y rfl rfl rfl hg25) rfl (HStep.of_val (v := (ptr l_b (l_o + (Int.toNat i) * 8))) (hv_index TyShE.el22 rfl rfl hi14 hi15) ?_)
          refine hl_yes (wanted_y rfl rfl rfl hg25) rfl (HStep.of_val (v := (ptr l_b ((l_o + (Int.toNat i) * 8) + 1))) (hv_field TyShE.fld31_1 (b := l_b) (o := l_o + (Int.toNat i) * 8) rfl) ?_)
          refine hl_yes (wanted_y rfl rfl rfl hg25) rfl (HStep.of_val (v := (.string x_Key)) (hv_load TyShE.agg9 rfl (Ext.cell xx24 hc17)) ?_)
          refine hl_yes (wanted_y rfl rfl rfl hg25) rfl (HStep.of_val (v := (.string key)) (hv_move rfl) ?_)
          refine hl_yes (wanted_y rfl rfl rfl hg25) rfl (HStep.of_val (v := (.bool (decide (x_Key = key)))) (hv_str rfl rfl rfl) ?_)
          refine hl_val rfl rfl (v := (.bool (decide (x_Key = key)))) (hv_pick_t rfl hg25 rfl) ?_
          refine hl_nil ?_
          refine seqQ_n ?_
          obtain rfl := H
          exact ⟨⟨xx24, trivial⟩, (has_cons rfl (has_cons rfl (has_cons rfl (has_cons rfl (has_cons rfl has_nil)))))⟩
        · replace H := H.2 hg25
          refine hl_no (wanted_n rfl rfl rfl hg25) rfl ?_
          refine hl_no (wanted_n rfl rfl rfl hg25) rfl ?_
          refine hl_no (wanted_n rfl rfl rfl hg25) rfl ?_
          refine hl_no (wanted_n rfl rfl rfl hg25) rfl ?_
          refine hl_no (wanted_n rfl rfl rfl hg25) rfl ?_
          refine hl_no (wanted_n rfl rfl rfl hg25) rfl ?_
          refine hl_no (wanted_n rfl rfl rfl hg25) rfl ?_
          refine hl_val rfl rfl (v := (.bool false)) (hv_pick_f rfl hg25 rfl) ?_
          refine hl_nil ?_
          refine seqQ_n ?_
          obtain rfl := H
          exact ⟨⟨xx24, trivial⟩, (has_cons rfl (has_cons rfl (has_cons rfl (has_cons rfl (has_cons rfl has_nil)))))⟩
      · have H := Hy12; clear Hx11 Hy12
        rintro ρ h4 ⟨⟨xv13, -⟩, hH⟩
        refine hx_has _ hH ?_
        refine hx_cond (b := j) rfl (fun hb28 => ?_) (fun hb28 => ?_)
        · replace H := H.1 hb28
          refine hx_region ?_
          refine hl_val rfl rfl (v := (.slice might might_n might_c)) (hv_move rfl) ?_
          refine hl_val rfl rfl (v := (.slice l l_n l_c)) (hv_move rfl) ?_
          refine hl_val rfl rfl (v := (.int .i64 i)) (hv_move rfl) ?_
          obtain ⟨l_b_1, l_o_1, hqe, hi29, hi30, Hq⟩ := H
          subst hqe
          have H := Hq; clear Hq
          refine hl_val rfl rfl (v := (ptr l_b_1 (l_o_1 + (Int.toNat i) * 8))) (hv_index TyShE.el22 rfl rfl hi29 hi30) ?_
          obtain ⟨x_Kind_1, x_Key_1, x_Value_1, x_Err_1, x_Hit_1, x_Life_1, x_From_1, x_To_1, hc31, hc32, hc33, hc34, hc35, hc36, hc37, hc38, H⟩ := H
          refine hl_val rfl rfl (v := (.agg #[(.int .i64 x_Kind_1), (.string x_Key_1), (.string x_Value_1), (.int .i64 x_Err_1), (.bool x_Hit_1), (.int .i64 x_Life_1), (.int .i64 x_From_1), (.int .i64 x_To_1)])) (hv_loads (vs := [(.int .i64 x_Kind_1), (.string x_Key_1), (.string x_Value_1), (.int .i64 x_Err_1), (.bool x_Hit_1), (.int .i64 x_Life_1), (.int .i64 x_From_1), (.int .i64 x_To_1)]) TyShE.agg31 TyShE.sz31 rfl (hcells_cons (Ext.cell xv13 hc31) (hcells_cons (Ext.cell xv13 hc32) (hcells_cons (Ext.cell xv13 hc33) (hcells_cons (Ext.cell xv13 hc34) (hcells_cons (Ext.cell xv13 hc35) (hcells_cons (Ext.cell xv13 hc36) (hcells_cons (Ext.cell xv13 hc37) (hcells_cons (Ext.cell xv13 hc38) hcells_nil))))))))) ?_
          replace H := H h4 xv13
          refine hl_step rfl rfl (hs_call TyShE.cb28 (vs := [(.slice might might_n might_c), (.agg #[(.int .i64 x_Kind_1), (.string x_Key_1), (.string x_Value_1), (.int .i64 x_Err_1), (.bool x_Hit_1), (.int .i64 x_Life_1), (.int .i64 x_From_1), (.int .i64 x_To_1)])]) rfl (HC.mono H ?_))
          rintro _ h6 ⟨r_1, r_n_1, r_c_1, rfl, H⟩
          refine hl_val rfl rfl (v := (.slice r_1 r_n_1 r_c_1)) (hv_assign rfl) ?_
          refine hl_nil ?_
          refine blockQ_n ?_
          refine seqQ_n ?_
          exact ⟨_, _, _, ⟨H, trivial⟩, (has_cons rfl (has_cons rfl (has_cons rfl (has_cons rfl has_nil))))⟩
        · replace H := H.2 hb28
          refine hx_skip ?_
          refine blockQ_n ?_
          replace H := H h4 xv13
          refine seqQ_n ?_
          exact ⟨_, _, _, ⟨H, trivial⟩, (has_cons rfl (has_cons rfl (has_cons rfl (has_cons rfl has_nil))))⟩
    · rintro ρ h3 ⟨might_1, might_n_1, might_c_1, ⟨HA10, -⟩, hH⟩
      have H := Hy8 might_1 might_n_1 might_c_1 h3 HA10; clear Hx7 Hy8
      refine hx_has _ hH ?_
      refine hx_region ?_
      refine hl_val rfl rfl (v := (.int .i64 i)) (hv_move rfl) ?_
      refine hl_val rfl rfl (v := (.int .i64 (IntKind.i64.wrap (i + 1)))) (hv_arith rfl rfl rfl) ?_
      refine hl_val rfl rfl (v := (.int .i64 (IntKind.i64.wrap (i + 1)))) (hv_assign rfl) ?_
      refine hl_nil ?_
      refine seqQ_n ?_
      exact ⟨(might_1, might_n_1, might_c_1, IntKind.i64.wrap (i + 1)), ⟨⟨H.1, trivial⟩, H.2⟩, (has_cons rfl (has_cons rfl (has_cons rfl (has_cons rfl has_nil))))⟩
  · replace H := H.2 hb6
    refine hx_exit ?_
    refine seqQ_exit ?_
    refine seqQ_exit ?_
    refine blockQ_here ?_
    refine seqQ_n ?_
    refine hx_seq ?_
    refine hx_region ?_
    refine hl_val rfl rfl (v := (.slice might might_n might_c)) (hv_move rfl) ?_
    refine hl_val rfl rfl (v := (.slice might might_n might_c)) (hv_assign rfl) ?_
    refine hl_nil ?_
    refine seqQ_n ?_
    refine hx_ret ?_
    exact endQ_ret _ (res_one Try.results15 (rv_tmp rfl)) H

/-- cellar/cellarlaw23.lives -/
theorem f12_sh  (h : Heap) (R : Value → Heap → Prop)
    (H : (∀ (h4 : Heap), Ext h h4 → (∀ nb h5, nb = Array.size h4 → h5 = Array.push h4 (.cells #[(.int .i64 2), (.string (ByteArray.mk #[107])), (.string (ByteArray.mk #[97])), (.int .i64 0), (.bool false), (.int .i64 0), (.int .i64 0), (.int .i64 1), (.int .i64 2), (.string (ByteArray.mk #[107])), (.string (ByteArray.mk #[98])), (.int .i64 5), (.bool false), (.int .i64 0), (.int .i64 0), (.int .i64 1), (.int .i64 1), (.string (ByteArray.mk #[107])), (.string (ByteArray.mk #[98])), (.int .i64 0), (.bool true), (.int .i64 0), (.int .i64 0), (.int .i64 1), (.int .i64 1), (.string (ByteArray.mk #[107])), (.string (ByteArray.mk #[97])), (.int .i64 0), (.bool true), (.int .i64 0), (.int .i64 0), (.int .i64 1)] 31) → HC Try.prog 10 #[(.slice (some ⟨nb, 0, none⟩) 4 4)] h5 (fun vv h6 => ∃ r0 : Bool, ∃ r1 : Int, vv = (.tuple #[(.bool r0), (.int .i64 r1)]) ∧ (0 ≤ ((0 : Int) : Int) ∧ (0 : Int) ≤ (3 : Int) ∧ (3 : Int) ≤ (4 : Int) ∧ ∀ sl : Option Addr, sl = slA (some ⟨nb, 0, none⟩) (Int.toNat 0) 8 4 → HC Try.prog 10 #[(.slice sl (Int.toNat 3 - Int.toNat 0) (4 - Int.toNat 0))] h6 (fun vv h7 => ∃ r0_1 : Bool, ∃ r1_1 : Int, vv = (.tuple #[(.bool r0_1), (.int .i64 r1_1)]) ∧ (∃ A17 : Bool → Heap → Prop, (((!r0) = true → (((r1 == 3) = true → ((r0_1 = true → HC Try.prog 23 #[] h7 (fun vv h9 => ∃ r : Option Addr, ∃ r_n r_c : Nat, vv = (.slice r r_n r_c) ∧ (∀ nb_1 h10, nb_1 = Array.size h9 → h10 = Array.push h9 (.cells #[(.bool false), (.string ByteArray.empty)] 40) → HC Try.prog 13 #[(.slice r r_n r_c), (.slice (some ⟨nb_1, 0, none⟩) 1 1)] h10 (fun vv h11 => ∃ r_1 : Bool, vv = (.bool r_1) ∧ ((r_1 = true → (0 ≤ ((0 : Int) : Int) ∧ (0 : Int) ≤ (2 : Int) ∧ (2 : Int) ≤ (4 : Int) ∧ ∀ sl_1 : Option Addr, sl_1 = slA (some ⟨nb, 0, none⟩) (Int.toNat 0) 8 4 → HC Try.prog 14 #[(.slice sl_1 (Int.toNat 2 - Int.toNat 0) (4 - Int.toNat 0)), (.string (ByteArray.mk #[107]))] h11 (fun vv h12 => ∃ r_2 : Option Addr, ∃ r_n_1 r_c_1 : Nat, vv = (.slice r_2 r_n_1 r_c_1) ∧ (∀ nb_2 h13, nb_2 = Array.size h12 → h13 = Array.push h12 (.cells #[(.bool false), (.string ByteArray.empty), (.bool true), (.string (ByteArray.mk #[97])), (.bool true), (.string (ByteArray.mk #[98]))] 40) → HC Try.prog 13 #[(.slice r_2 r_n_1 r_c_1), (.slice (some ⟨nb_2, 0, none⟩) 3 3)] h13 (fun vv h14 => ∃ r_3 : Bool, vv = (.bool r_3) ∧ (A17 r_3 h14)))))) ∧ (r_1 = false → (A17 false h11))))))) ∧ (r0_1 = false → (A17 false h7)))) ∧ ((r1 == 3) = false → (A17 false h7)))) ∧ ((!r0) = false → (A17 false h7))) ∧ (∀ (j : Bool) (h8 : Heap), A17 j h8 → R (.bool j) h8)))))))) :
    HC Try.prog 12 #[] h R := by
  refine hc_of (args := []) Try.func12 rfl Try.ntmps12 (Nat.le_of_ble_eq_true rfl) ?_
  refine hx_seq ?_
  refine hx_region ?_
  refine hl_val rfl rfl (v := (.bool false)) (hv_assign rfl) ?_
  refine hl_nil ?_
  refine seqQ_n ?_
  refine hx_seq ?_
  refine hx_region ?_
  refine hl_step rfl rfl (hs_call TyShE.cb25 (vs := [(.string (ByteArray.mk #[107])), (.string (ByteArray.mk #[97])), (.int .i64 0)]) rfl (HC.mono (put_c (ByteArray.mk #[107]) (ByteArray.mk #[97]) 0 _) ?_))
  rintro _ h1 ⟨rfl, xx1⟩
  refine hl_step rfl rfl (hs_call TyShE.cb25 (vs := [(.string (ByteArray.mk #[107])), (.string (ByteArray.mk #[98])), (.int .i64 5)]) rfl (HC.mono (put_c (ByteArray.mk #[107]) (ByteArray.mk #[98]) 5 _) ?_))
  rintro _ h2 ⟨rfl, xx2⟩
  have xv3 := Ext.trans xx1 xx2
  refine hl_step rfl rfl (hs_call TyShE.cb26 (vs := [(.string (ByteArray.mk #[107])), (.string (ByteArray.mk #[98]))]) rfl (HC.mono (hit_c (ByteArray.mk #[107]) (ByteArray.mk #[98]) _) ?_))
  rintro _ h3 ⟨rfl, xx4⟩
  have xv5 := Ext.trans xv3 xx4
  refine hl_step rfl rfl (hs_call TyShE.cb26 (vs := [(.string (ByteArray.mk #[107])), (.string (ByteArray.mk #[97]))]) rfl (HC.mono (hit_c (ByteArray.mk #[107]) (ByteArray.mk #[97]) _) ?_))
  rintro _ h4 ⟨rfl, xx6⟩
  have xv7 := Ext.trans xv5 xx6
  replace H := H h4 xv7
  refine hl_step rfl rfl (hn_buildSlice (n := 4) (vs := [(0, (.agg #[(.int .i64 2), (.string (ByteArray.mk #[107])), (.string (ByteArray.mk #[97])), (.int .i64 0), (.bool false), (.int .i64 0), (.int .i64 0), (.int .i64 1)])), (1, (.agg #[(.int .i64 2), (.string (ByteArray.mk #[107])), (.string (ByteArray.mk #[98])), (.int .i64 5), (.bool false), (.int .i64 0), (.int .i64 0), (.int .i64 1)])), (2, (.agg #[(.int .i64 1), (.string (ByteArray.mk #[107])), (.string (ByteArray.mk #[98])), (.int .i64 0), (.bool true), (.int .i64 0), (.int .i64 0), (.int .i64 1)])), (3, (.agg #[(.int .i64 1), (.string (ByteArray.mk #[107])), (.string (ByteArray.mk #[97])), (.int .i64 0), (.bool true), (.int .i64 0), (.int .i64 0), (.int .i64 1)]))]) (cs := #[(.int .i64 2), (.string (ByteArray.mk #[107])), (.string (ByteArray.mk #[97])), (.int .i64 0), (.bool false), (.int .i64 0), (.int .i64 0), (.int .i64 1), (.int .i64 2), (.string (ByteArray.mk #[107])), (.string (ByteArray.mk #[98])), (.int .i64 5), (.bool false), (.int .i64 0), (.int .i64 0), (.int .i64 1), (.int .i64 1), (.string (ByteArray.mk #[107])), (.string (ByteArray.mk #[98])), (.int .i64 0), (.bool true), (.int .i64 0), (.int .i64 0), (.int .i64 1), (.int .i64 1), (.string (ByteArray.mk #[107])), (.string (ByteArray.mk #[97])), (.int .i64 0), (.bool true), (.int .i64 0), (.int .i64 0), (.int .i64 1)]) TyShE.u22 TyShE.sz31 TyShE.z31 rfl rfl (by kernel_rfl) ?_)
  intro nb h5 eb8 eh9
  replace H := H nb h5 eb8 eh9
  have xx10 : Ext h4 h5 := by rw [eh9]; exact Ext.push _ _
  refine hl_val rfl rfl (v := (.slice (some ⟨nb, 0, none⟩) 4 4)) (hv_assign rfl) ?_
  refine hl_nil ?_
  refine seqQ_n ?_
  refine hx_seq ?_
  refine hx_region ?_
  refine hl_val rfl rfl (v := (.slice (some ⟨nb, 0, none⟩) 4 4)) (hv_move rfl) ?_
  refine hl_step rfl rfl (hs_call TyShE.cb10 (vs := [(.slice (some ⟨nb, 0, none⟩) 4 4)]) rfl (HC.mono H ?_))
  rintro _ h6 ⟨r0, r1, rfl, H⟩
  refine hl_val rfl rfl (v := (.tuple #[(.bool r0), (.int .i64 r1)])) (hv_move rfl) ?_
  refine hl_val rfl rfl (v := (.bool r0)) (hv_extract (vs := #[(.bool r0), (.int .i64 r1)]) rfl rfl) ?_
  refine hl_val rfl rfl (v := (.int .i64 r1)) (hv_extract (vs := #[(.bool r0), (.int .i64 r1)]) rfl rfl) ?_
  refine hl_val rfl rfl (v := (.bool r0)) (hv_assign rfl) ?_
  refine hl_val rfl rfl (v := (.int .i64 r1)) (hv_assign rfl) ?_
  refine hl_nil ?_
  refine seqQ_n ?_
  refine hx_seq ?_
  refine hx_region ?_
  refine hl_val rfl rfl (v := (.slice (some ⟨nb, 0, none⟩) 4 4)) (hv_move rfl) ?_
  obtain ⟨hs11, hs12, hs13, H⟩ := H
  obtain ⟨sl, hq14⟩ : ∃ q, q = slA (some ⟨nb, 0, none⟩) (Int.toNat 0) 8 4 := ⟨_, rfl⟩
  replace H := H sl hq14
  refine hl_val rfl rfl (v := (.slice sl (Int.toNat 3 - Int.toNat 0) (4 - Int.toNat 0))) (hv_slice (l := 0) (r := 3) TyShE.u22 TyShE.sz31 rfl sl_none (sh_some rfl) hs11 hs12 hs13 hq14) ?_
  refine hl_step rfl rfl (hs_call TyShE.cb10 (vs := [(.slice sl (Int.toNat 3 - Int.toNat 0) (4 - Int.toNat 0))]) rfl (HC.mono H ?_))
  rintro _ h7 ⟨r0_1, r1_1, rfl, H⟩
  refine hl_val rfl rfl (v := (.tuple #[(.bool r0_1), (.int .i64 r1_1)])) (hv_move rfl) ?_
  refine hl_val rfl rfl (v := (.bool r0_1)) (hv_extract (vs := #[(.bool r0_1), (.int .i64 r1_1)]) rfl rfl) ?_
  refine hl_val rfl rfl (v := (.int .i64 r1_1)) (hv_extract (vs := #[(.bool r0_1), (.int .i64 r1_1)]) rfl rfl) ?_
  refine hl_val rfl rfl (v := (.bool r0_1)) (hv_assign rfl) ?_
  refine hl_val rfl rfl (v := (.int .i64 r1_1)) (hv_assign rfl) ?_
  refine hl_nil ?_
  refine seqQ_n ?_
  obtain ⟨A17, Hx15, Hy16⟩ := H
  refine hx_cut (fun ρ h' => ∃ j : Bool, (A17 j h' ∧ True) ∧ Has ρ [(0, (.bool j))]) ?_ ?_
  · have H := Hx15; clear Hx15 Hy16
    refine hx_region ?_
    refine hl_val rfl rfl (v := (.bool r0)) (hv_move rfl) ?_
    refine hl_val rfl rfl (v := (.bool (!r0))) (hv_not (b := r0) rfl) ?_
    refine hl_val rfl rfl (v := (.bool (!r0))) (hv_move rfl) ?_
    rcases bool_or (!r0) with hg19 | hg19
    · replace H := H.1 hg19
      refine hl_yes (wanted_y rfl rfl rfl hg19) rfl (HStep.of_val (v := (.int .i64 r1)) (hv_move rfl) ?_)
      refine hl_yes (wanted_y rfl rfl rfl hg19) rfl (HStep.of_val (v := (.bool (r1 == 3))) (hv_arith rfl rfl rfl) ?_)
      refine hl_val rfl rfl (v := (.bool (r1 == 3))) (hv_pick_t rfl hg19 rfl) ?_
      refine hl_val rfl rfl (v := (.bool (r1 == 3))) (hv_move rfl) ?_
      rcases bool_or (r1 == 3) with hg20 | hg20
      · replace H := H.1 hg20
        refine hl_yes (wanted_y rfl rfl rfl hg20) rfl (HStep.of_val (v := (.bool r0_1)) (hv_move rfl) ?_)
        refine hl_val rfl rfl (v := (.bool r0_1)) (hv_pick_t rfl hg20 rfl) ?_
        refine hl_val rfl rfl (v := (.bool r0_1)) (hv_move rfl) ?_
        rcases bool_or (r0_1) with hg21 | hg21
        · replace H := H.1 hg21
          refine hl_yes (wanted_y rfl rfl rfl hg21) rfl (hs_call TyShE.cb23 (vs := []) rfl (HC.mono H ?_))
          rintro _ h9 ⟨r, r_n, r_c, rfl, H⟩
          refine hl_yes (wanted_y rfl rfl rfl hg21) rfl (HStep.of_val (v := (.agg #[(.bool false), (.string ByteArray.empty)])) (hv_build (vs := []) (cs := #[(.bool false), (.string ByteArray.empty)]) TyShE.z40 TyShE.pl40 rfl (by kernel_rfl)) ?_)
          refine hl_yes (wanted_y rfl rfl rfl hg21) rfl (hn_buildSlice (n := 1) (vs := [(0, (.agg #[(.bool false), (.string ByteArray.empty)]))]) (cs := #[(.bool false), (.string ByteArray.empty)]) TyShE.u27 TyShE.sz40 TyShE.z40 rfl rfl (by kernel_rfl) ?_)
          intro nb_1 h10 eb22 eh23
          replace H := H nb_1 h10 eb22 eh23
          have xx24 : Ext h9 h10 := by rw [eh23]; exact Ext.push _ _
          refine hl_yes (wanted_y rfl rfl rfl hg21) rfl (hs_call TyShE.cb13 (vs := [(.slice r r_n r_c), (.slice (some ⟨nb_1, 0, none⟩) 1 1)]) rfl (HC.mono H ?_))
          rintro _ h11 ⟨r_1, rfl, H⟩
          refine hl_val rfl rfl (v := (.bool r_1)) (hv_pick_t rfl hg21 rfl) ?_
          refine hl_val rfl rfl (v := (.bool r_1)) (hv_move rfl) ?_
          rcases bool_or (r_1) with hg25 | hg25
          · replace H := H.1 hg25
            refine hl_yes (wanted_y rfl rfl rfl hg25) rfl (HStep.of_val (v := (.slice (some ⟨nb, 0, none⟩) 4 4)) (hv_move rfl) ?_)
            obtain ⟨hs26, hs27, hs28, H⟩ := H
            obtain ⟨sl_1, hq29⟩ : ∃ q, q = slA (some ⟨nb, 0, none⟩) (Int.toNat 0) 8 4 := ⟨_, rfl⟩
            replace H := H sl_1 hq29
            refine hl_yes (wanted_y rfl rfl rfl hg25) rfl (HStep.of_val (v := (.slice sl_1 (Int.toNat 2 - Int.toNat 0) (4 - Int.toNat 0))) (hv_slice (l := 0) (r := 2) TyShE.u22 TyShE.sz31 rfl sl_none (sh_some rfl) hs26 hs27 hs28 hq29) ?_)
            refine hl_yes (wanted_y rfl rfl rfl hg25) rfl (hs_call TyShE.cb14 (vs := [(.slice sl_1 (Int.toNat 2 - Int.toNat 0) (4 - Int.toNat 0)), (.string (ByteArray.mk #[107]))]) rfl (HC.mono H ?_))
            rintro _ h12 ⟨r_2, r_n_1, r_c_1, rfl, H⟩
            refine hl_yes (wanted_y rfl rfl rfl hg25) rfl (HStep.of_val (v := (.agg #[(.bool false), (.string ByteArray.empty)])) (hv_build (vs := []) (cs := #[(.bool false), (.string ByteArray.empty)]) TyShE.z40 TyShE.pl40 rfl (by kernel_rfl)) ?_)
            refine hl_yes (wanted_y rfl rfl rfl hg25) rfl (HStep.of_val (v := (.agg #[(.bool true), (.string (ByteArray.mk #[97]))])) (hv_build (vs := [(0, (.bool true)), (1, (.string (ByteArray.mk #[97])))]) (cs := #[(.bool true), (.string (ByteArray.mk #[97]))]) TyShE.z40 TyShE.pl40 rfl (by kernel_rfl)) ?_)
            refine hl_yes (wanted_y rfl rfl rfl hg25) rfl (HStep.of_val (v := (.agg #[(.bool true), (.string (ByteArray.mk #[98]))])) (hv_build (vs := [(0, (.bool true)), (1, (.string (ByteArray.mk #[98])))]) (cs := #[(.bool true), (.string (ByteArray.mk #[98]))]) TyShE.z40 TyShE.pl40 rfl (by kernel_rfl)) ?_)
            refine hl_yes (wanted_y rfl rfl rfl hg25) rfl (hn_buildSlice (n := 3) (vs := [(0, (.agg #[(.bool false), (.string ByteArray.empty)])), (1, (.agg #[(.bool true), (.string (ByteArray.mk #[97]))])), (2, (.agg #[(.bool true), (.string (ByteArray.mk #[98]))]))]) (cs := #[(.bool false), (.string ByteArray.empty), (.bool true), (.string (ByteArray.mk #[97])), (.bool true), (.string (ByteArray.mk #[98]))]) TyShE.u27 TyShE.sz40 TyShE.z40 rfl rfl (by kernel_rfl) ?_)
            intro nb_2 h13 eb30 eh31
            replace H := H nb_2 h13 eb30 eh31
            have xx32 : Ext h12 h13 := by rw [eh31]; exact Ext.push _ _
            refine hl_yes (wanted_y rfl rfl rfl hg25) rfl (hs_call TyShE.cb13 (vs := [(.slice r_2 r_n_1 r_c_1), (.slice (some ⟨nb_2, 0, none⟩) 3 3)]) rfl (HC.mono H ?_))
            rintro _ h14 ⟨r_3, rfl, H⟩
            refine hl_val rfl rfl (v := (.bool r_3)) (hv_pick_t rfl hg25 rfl) ?_
            refine hl_val rfl rfl (v := (.bool r_3)) (hv_assign rfl) ?_
            refine hl_nil ?_
            refine seqQ_n ?_
            exact ⟨_, ⟨H, trivial⟩, (has_cons rfl has_nil)⟩
          · replace H := H.2 hg25
            refine hl_no (wanted_n rfl rfl rfl hg25) rfl ?_
            refine hl_no (wanted_n rfl rfl rfl hg25) rfl ?_
            refine hl_no (wanted_n rfl rfl rfl hg25) rfl ?_
            refine hl_no (wanted_n rfl rfl rfl hg25) rfl ?_
            refine hl_no (wanted_n rfl rfl rfl hg25) rfl ?_
            refine hl_no (wanted_n rfl rfl rfl hg25) rfl ?_
            refine hl_no (wanted_n rfl rfl rfl hg25) rfl ?_
            refine hl_no (wanted_n rfl rfl rfl hg25) rfl ?_
            refine hl_val rfl rfl (v := (.bool false)) (hv_pick_f rfl hg25 rfl) ?_
            refine hl_val rfl rfl (v := (.bool false)) (hv_assign rfl) ?_
            refine hl_nil ?_
            refine seqQ_n ?_
            exact ⟨_, ⟨H, trivial⟩, (has_cons rfl has_nil)⟩
        · replace H := H.2 hg21
          refine hl_no (wanted_n rfl rfl rfl hg21) rfl ?_
          refine hl_no (wanted_n rfl rfl rfl hg21) rfl ?_
          refine hl_no (wanted_n rfl rfl rfl hg21) rfl ?_
          refine hl_no (wanted_n rfl rfl rfl hg21) rfl ?_
          refine hl_val rfl rfl (v := (.bool false)) (hv_pick_f rfl hg21 rfl) ?_
          refine hl_val rfl rfl (v := (.bool false)) (hv_move rfl) ?_
          refine hl_no (wanted_n rfl rfl (c := false) rfl rfl) rfl ?_
          refine hl_no (wanted_n rfl rfl (c := false) rfl rfl) rfl ?_
          refine hl_no (wanted_n rfl rfl (c := false) rfl rfl) rfl ?_
          refine hl_no (wanted_n rfl rfl (c := false) rfl rfl) rfl ?_
          refine hl_no (wanted_n rfl rfl (c := false) rfl rfl) rfl ?_
          refine hl_no (wanted_n rfl rfl (c := false) rfl rfl) rfl ?_
          refine hl_no (wanted_n rfl rfl (c := false) rfl rfl) rfl ?_
          refine hl_no (wanted_n rfl rfl (c := false) rfl rfl) rfl ?_
          refine hl_val rfl rfl (v := (.bool false)) (hv_pick (t := false) rfl rfl) ?_
          refine hl_val rfl rfl (v := (.bool false)) (hv_assign rfl) ?_
          refine hl_nil ?_
          refine seqQ_n ?_
          exact ⟨_, ⟨H, trivial⟩, (has_cons rfl has_nil)⟩
      · replace H := H.2 hg20
        refine hl_no (wanted_n rfl rfl rfl hg20) rfl ?_
        refine hl_val rfl rfl (v := (.bool false)) (hv_pick_f rfl hg20 rfl) ?_
        refine hl_val rfl rfl (v := (.bool false)) (hv_move rfl) ?_
        refine hl_no (wanted_n rfl rfl (c := false) rfl rfl) rfl ?_
        refine hl_no (wanted_n rfl rfl (c := false) rfl rfl) rfl ?_
        refine hl_no (wanted_n rfl rfl (c := false) rfl rfl) rfl ?_
        refine hl_no (wanted_n rfl rfl (c := false) rfl rfl) rfl ?_
        refine hl_val rfl rfl (v := (.bool false)) (hv_pick (t := false) rfl rfl) ?_
        refine hl_val rfl rfl (v := (.bool false)) (hv_move rfl) ?_
        refine hl_no (wanted_n rfl rfl (c := false) rfl rfl) rfl ?_
        refine hl_no (wanted_n rfl rfl (c := false) rfl rfl) rfl ?_
        refine hl_no (wanted_n rfl rfl (c := false) rfl rfl) rfl ?_
        refine hl_no (wanted_n rfl rfl (c := false) rfl rfl) rfl ?_
        refine hl_no (wanted_n rfl rfl (c := false) rfl rfl) rfl ?_
        refine hl_no (wanted_n rfl rfl (c := false) rfl rfl) rfl ?_
        refine hl_no (wanted_n rfl rfl (c := false) rfl rfl) rfl ?_
        refine hl_no (wanted_n rfl rfl (c := false) rfl rfl) rfl ?_
        refine hl_val rfl rfl (v := (.bool false)) (hv_pick (t := false) rfl rfl) ?_
        refine hl_val rfl rfl (v := (.bool false)) (hv_assign rfl) ?_
        refine hl_nil ?_
        refine seqQ_n ?_
        exact ⟨_, ⟨H, trivial⟩, (has_cons rfl has_nil)⟩
    · replace H := H.2 hg19
      refine hl_no (wanted_n rfl rfl rfl hg19) rfl ?_
      refine hl_no (wanted_n rfl rfl rfl hg19) rfl ?_
      refine hl_val rfl rfl (v := (.bool false)) (hv_pick_f rfl hg19 rfl) ?_
      refine hl_val rfl rfl (v := (.bool false)) (hv_move rfl) ?_
      refine hl_no (wanted_n rfl rfl (c := false) rfl rfl) rfl ?_
      refine hl_val rfl rfl (v := (.bool false)) (hv_pick (t := false) rfl rfl) ?_
      refine hl_val rfl rfl (v := (.bool false)) (hv_move rfl) ?_
      refine hl_no (wanted_n rfl rfl (c := false) rfl rfl) rfl ?_
      refine hl_no (wanted_n rfl rfl (c := false) rfl rfl) rfl ?_
      refine hl_no (wanted_n rfl rfl (c := false) rfl rfl) rfl ?_
      refine hl_no (wanted_n rfl rfl (c := false) rfl rfl) rfl ?_
      refine hl_val rfl rfl (v := (.bool false)) (hv_pick (t := false) rfl rfl) ?_
      refine hl_val rfl rfl (v := (.bool false)) (hv_move rfl) ?_
      refine hl_no (wanted_n rfl rfl (c := false) rfl rfl) rfl ?_
      refine hl_no (wanted_n rfl rfl (c := false) rfl rfl) rfl ?_
      refine hl_no (wanted_n rfl rfl (c := false) rfl rfl) rfl ?_
      refine hl_no (wanted_n rfl rfl (c := false) rfl rfl) rfl ?_
      refine hl_no (wanted_n rfl rfl (c := false) rfl rfl) rfl ?_
      refine hl_no (wanted_n rfl rfl (c := false) rfl rfl) rfl ?_
      refine hl_no (wanted_n rfl rfl (c := false) rfl rfl) rfl ?_
      refine hl_no (wanted_n rfl rfl (c := false) rfl rfl) rfl ?_
      refine hl_val rfl rfl (v := (.bool false)) (hv_pick (t := false) rfl rfl) ?_
      refine hl_val rfl rfl (v := (.bool false)) (hv_assign rfl) ?_
      refine hl_nil ?_
      refine seqQ_n ?_
      exact ⟨_, ⟨H, trivial⟩, (has_cons rfl has_nil)⟩
  · rintro ρ h8 ⟨j, ⟨HA18, -⟩, hH⟩
    have H := Hy16 j h8 HA18; clear Hx15 Hy16
    refine hx_has _ hH ?_
    refine hx_ret ?_
    exact endQ_ret _ (res_one Try.results12 (rv_tmp rfl)) H

/-- cellar/cellarlaw23.without -/
theorem f16_sh (l : Option Addr) (l_n : Nat) (l_c : Nat) (k : Int) (h : Heap) (R : Value → Heap → Prop)
    (H : (∀ nb h1, nb = Array.size h → h1 = Array.push h (.cells #[] 31) → (0 ≤ ((0 : Int) : Int) ∧ (0 : Int) ≤ k ∧ k ≤ (l_c : Int) ∧ ∀ sl : Option Addr, sl = slA l (Int.toNat 0) 8 l_c → HAppend Try.prog 22 22 (.slice (some ⟨nb, 0, none⟩) 0 0) (.slice sl (Int.toNat k - Int.toNat 0) (l_c - Int.toNat 0)) h1 (fun vv h2 => ∃ ap : Option Addr, ∃ ap_n ap_c : Nat, vv = (.slice ap ap_n ap_c) ∧ (0 ≤ (IntKind.i64.wrap (k + 1) : Int) ∧ IntKind.i64.wrap (k + 1) ≤ (l_n : Int) ∧ (l_n : Int) ≤ (l_c : Int) ∧ ∀ sl_1 : Option Addr, sl_1 = slA l (Int.toNat (IntKind.i64.wrap (k + 1))) 8 l_c → HAppend Try.prog 22 22 (.slice ap ap_n ap_c) (.slice sl_1 (Int.toNat (l_n : Int) - Int.toNat (IntKind.i64.wrap (k + 1))) (l_c - Int.toNat (IntKind.i64.wrap (k + 1)))) h2 (fun vv h3 => ∃ ap_1 : Option Addr, ∃ ap_n_1 ap_c_1 : Nat, vv = (.slice ap_1 ap_n_1 ap_c_1) ∧ R (.slice ap_1 ap_n_1 ap_c_1) h3)))))) :
    HC Try.prog 16 #[(.slice l l_n l_c), (.int .i64 k)] h R := by
  refine hc_of (args := [(.slice l l_n l_c), (.int .i64 k)]) Try.func16 rfl Try.ntmps16 (Nat.le_of_ble_eq_true rfl) ?_
  refine hx_seq ?_
  refine hx_region ?_
  refine hl_val rfl rfl (v := (.slice none 0 0)) (hv_assign rfl) ?_
  refine hl_nil ?_
  refine seqQ_n ?_
  refine hx_seq ?_
  refine hx_region ?_
  refine hl_step rfl rfl (hn_buildSlice (n := 0) (vs := []) (cs := #[]) TyShE.u22 TyShE.sz31 TyShE.z31 rfl rfl (by kernel_rfl) ?_)
  intro nb h1 eb1 eh2
  replace H := H nb h1 eb1 eh2
  have xx3 : Ext h h1 := by rw [eh2]; exact Ext.push _ _
  refine hl_val rfl rfl (v := (.slice l l_n l_c)) (hv_move rfl) ?_
  refine hl_val rfl rfl (v := (.int .i64 k)) (hv_move rfl) ?_
  obtain ⟨hs4, hs5, hs6, H⟩ := H
  obtain ⟨sl, hq7⟩ : ∃ q, q = slA l (Int.toNat 0) 8 l_c := ⟨_, rfl⟩
  replace H := H sl hq7
  refine hl_val rfl rfl (v := (.slice sl (Int.toNat k - Int.toNat 0) (l_c - Int.toNat 0))) (hv_slice (l := 0) (r := k) TyShE.u22 TyShE.sz31 rfl sl_none (sh_some rfl) hs4 hs5 hs6 hq7) ?_
  refine hl_step rfl rfl (hs_append rfl rfl (HAppend.mono H ?_))
  rintro _ h2 ⟨ap, ap_n, ap_c, rfl, H⟩
  refine hl_val rfl rfl (v := (.slice ap ap_n ap_c)) (hv_assign rfl) ?_
  refine hl_nil ?_
  refine seqQ_n ?_
  refine hx_seq ?_
  refine hx_region ?_
  refine hl_val rfl rfl (v := (.slice ap ap_n ap_c)) (hv_move rfl) ?_
  refine hl_val rfl rfl (v := (.slice l l_n l_c)) (hv_move rfl) ?_
  refine hl_val rfl rfl (v := (.int .i64 k)) (hv_move rfl) ?_
  refine hl_val rfl rfl (v := (.int .i64 (IntKind.i64.wrap (k + 1)))) (hv_arith rfl rfl rfl) ?_
  obtain ⟨hs8, hs9, hs10, H⟩ := H
  obtain ⟨sl_1, hq11⟩ : ∃ q, q = slA l (Int.toNat (IntKind.i64.wrap (k + 1))) 8 l_c := ⟨_, rfl⟩
  replace H := H sl_1 hq11
  refine hl_val rfl rfl (v := (.slice sl_1 (Int.toNat (l_n : Int) - Int.toNat (IntKind.i64.wrap (k + 1))) (l_c - Int.toNat (IntKind.i64.wrap (k + 1))))) (hv_slice (l := IntKind.i64.wrap (k + 1)) (r := (l_n : Int)) TyShE.u22 TyShE.sz31 rfl (sl_some rfl) sh_none hs8 hs9 hs10 hq11) ?_
  refine hl_step rfl rfl (hs_append rfl rfl (HAppend.mono H ?_))
  rintro _ h3 ⟨ap_1, ap_n_1, ap_c_1, rfl, H⟩
  refine hl_val rfl rfl (v := (.slice ap_1 ap_n_1 ap_c_1)) (hv_assign rfl) ?_
  refine hl_nil ?_
  refine seqQ_n ?_
  refine hx_ret ?_
  exact endQ_ret _ (res_one Try.results16 (rv_tmp rfl)) H

/-- cellar/cellarlaw23.of -/
theorem f17_sh (l : Option Addr) (l_n : Nat) (l_c : Nat) (key : ByteArray) (h : Heap) (R : Value → Heap → Prop)
    (H : (∃ (I1 : Option Addr → Nat → Nat → Int → Heap → Prop) (mu2 : Option Addr → Nat → Nat → Int → Heap → Nat), I1 none 0 0 0 h ∧ (∀ (out : Option Addr) (out_n : Nat) (out_c : Nat) (i : Int) (h1 : Heap), I1 out out_n out_c i h1 → (((decide (i < (l_n : Int))) = true → (∃ A9 : Option Addr → Nat → Nat → Heap → Prop, (∃ j : Bool, (∃ l_b l_o : Nat, l = some ⟨l_b, l_o, none⟩ ∧ (0 : Int) ≤ i ∧ i < (l_n : Int) ∧ (∃ x_Kind : Int, ∃ x_Key x_Value : ByteArray, ∃ x_Err : Int, ∃ x_Hit : Bool, ∃ x_Life x_From x_To : Int, hcell h1 l_b (l_o + (Int.toNat i) * 8) = some (.int .i64 x_Kind) ∧ hcell h1 l_b ((l_o + (Int.toNat i) * 8) + 1) = some (.string x_Key) ∧ hcell h1 l_b ((l_o + (Int.toNat i) * 8) + 2) = some (.string x_Value) ∧ hcell h1 l_b ((l_o + (Int.toNat i) * 8) + 3) = some (.int .i64 x_Err) ∧ hcell h1 l_b ((l_o + (Int.toNat i) * 8) + 4) = some (.bool x_Hit) ∧ hcell h1 l_b ((l_o + (Int.toNat i) * 8) + 5) = some (.int .i64 x_Life) ∧ hcell h1 l_b ((l_o + (Int.toNat i) * 8) + 6) = some (.int .i64 x_From) ∧ hcell h1 l_b ((l_o + (Int.toNat i) * 8) + 7) = some (.int .i64 x_To) ∧ (((Ml.keyed ⟨x_Kind, x_Key, x_Value, x_Err, x_Hit, x_Life, x_From, x_To⟩) = true → (j = (decide (x_Key = key)))) ∧ ((Ml.keyed ⟨x_Kind, x_Key, x_Value, x_Err, x_Hit, x_Life, x_From, x_To⟩) = false → (j = false))))) ∧ ((j = true → (∃ l_b_1 l_o_1 : Nat, l = some ⟨l_b_1, l_o_1, none⟩ ∧ (0 : Int) ≤ i ∧ i < (l_n : Int) ∧ (∃ x_Kind_1 : Int, ∃ x_Key_1 x_Value_1 : ByteArray, ∃ x_Err_1 : Int, ∃ x_Hit_1 : Bool, ∃ x_Life_1 x_From_1 x_To_1 : Int, hcell h1 l_b_1 (l_o_1 + (Int.toNat i) * 8) = some (.int .i64 x_Kind_1) ∧ hcell h1 l_b_1 ((l_o_1 + (Int.toNat i) * 8) + 1) = some (.string x_Key_1) ∧ hcell h1 l_b_1 ((l_o_1 + (Int.toNat i) * 8) + 2) = some (.string x_Value_1) ∧ hcell h1 l_b_1 ((l_o_1 + (Int.toNat i) * 8) + 3) = some (.int .i64 x_Err_1) ∧ hcell h1 l_b_1 ((l_o_1 + (Int.toNat i) * 8) + 4) = some (.bool x_Hit_1) ∧ hcell h1 l_b_1 ((l_o_1 + (Int.toNat i) * 8) + 5) = some (.int .i64 x_Life_1) ∧ hcell h1 l_b_1 ((l_o_1 + (Int.toNat i) * 8) + 6) = some (.int .i64 x_From_1) ∧ hcell h1 l_b_1 ((l_o_1 + (Int.toNat i) * 8) + 7) = some (.int .i64 x_To_1) ∧ (∀ (h3 : Heap), Ext h1 h3 → (∀ nb h5, nb = Array.size h3 → h5 = Array.push h3 (.cells #[(.int .i64 x_Kind_1), (.string x_Key_1), (.string x_Value_1), (.int .i64 x_Err_1), (.bool x_Hit_1), (.int .i64 x_Life_1), (.int .i64 x_From_1), (.int .i64 x_To_1)] 31) → HAppend Try.prog 22 22 (.slice out out_n out_c) (.slice (some ⟨nb, 0, none⟩) 1 1) h5 (fun vv h6 => ∃ ap : Option Addr, ∃ ap_n ap_c : Nat, vv = (.slice ap ap_n ap_c) ∧ (A9 ap ap_n ap_c h6))))))) ∧ (j = false → (∀ (h3 : Heap), Ext h1 h3 → (A9 out out_n out_c h3))))) ∧ (∀ (out_1 : Option Addr) (out_n_1 : Nat) (out_c_1 : Nat) (h2 : Heap), A9 out_1 out_n_1 out_c_1 h2 → (I1 out_1 out_n_1 out_c_1 (IntKind.i64.wrap (i + 1)) h2 ∧ mu2 out_1 out_n_1 out_c_1 (IntKind.i64.wrap (i + 1)) h2 < mu2 out out_n out_c i h1)))) ∧ ((decide (i < (l_n : Int))) = false → R (.slice out out_n out_c) h1))))) :
    HC Try.prog 17 #[(.slice l l_n l_c), (.string key)] h R := by
  refine hc_of (args := [(.slice l l_n l_c), (.string key)]) Try.func17 rfl Try.ntmps17 (Nat.le_of_ble_eq_true rfl) ?_
  refine hx_seq ?_
  refine hx_region ?_
  refine hl_val rfl rfl (v := (.slice none 0 0)) (hv_assign rfl) ?_
  refine hl_nil ?_
  refine seqQ_n ?_
  refine hx_seq ?_
  refine hx_region ?_
  refine hl_val rfl rfl (v := (.slice none 0 0)) (hv_assign rfl) ?_
  refine hl_nil ?_
  refine seqQ_n ?_
  refine hx_seq ?_
  refine hx_seq ?_
  refine hx_region ?_
  refine hl_val rfl rfl (v := (.int .i64 0)) (hv_assign rfl) ?_
  refine hl_nil ?_
  refine seqQ_n ?_
  refine hx_block ?_
  obtain ⟨I1, mu2, Ha3, Hr4⟩ := H
  refine hx_loopT (σ := Option Addr × Nat × Nat × Int) (fun s => [(0, (.slice l l_n l_c)), (1, (.string key)), (5, (.slice s.1 s.2.1 s.2.2.1)), (6, (.int .i64 s.2.2.2))]) (fun s h' => I1 s.1 s.2.1 s.2.2.1 s.2.2.2 h' ∧ True) (fun s h' => mu2 s.1 s.2.1 s.2.2.1 s.2.2.2 h') (none, 0, 0, 0) ⟨Ha3, trivial⟩ (has_cons rfl (has_cons rfl (has_cons rfl (has_cons rfl has_nil)))) ?_
  rintro ⟨out, out_n, out_c, i⟩ ρ h1 ⟨Hi5, -⟩
  have H := Hr4 out out_n out_c i h1 Hi5
  refine hx_seq ?_
  refine hx_seq ?_
  refine hx_region ?_
  refine hl_val rfl rfl (v := (.int .i64 i)) (hv_move rfl) ?_
  refine hl_val rfl rfl (v := (.slice l l_n l_c)) (hv_move rfl) ?_
  refine hl_val rfl rfl (v := (.int .i64 (l_n : Int))) (hv_len (n := l_n) TyShE.u22 rfl) ?_
  refine hl_val rfl rfl (v := (.bool (decide (i < (l_n : Int))))) (hv_arith rfl rfl rfl) ?_
  refine hl_nil ?_
  refine seqQ_n ?_
  refine hx_cond (b := decide (i < (l_n : Int))) rfl (fun hb6 => ?_) (fun hb6 => ?_)
  · replace H := H.1 hb6
    refine hx_skip ?_
    refine seqQ_n ?_
    obtain ⟨A9, Hx7, Hy8⟩ := H
    refine hx_cut (fun ρ h' => ∃ out_1 : Option Addr, ∃ out_n_1 out_c_1 : Nat, (A9 out_1 out_n_1 out_c_1 h' ∧ True) ∧ Has ρ [(0, (.slice l l_n l_c)), (1, (.string key)), (5, (.slice out_1 out_n_1 out_c_1)), (6, (.int .i64 i))]) ?_ ?_
    · have H := Hx7; clear Hx7 Hy8
      refine hx_block ?_
      obtain ⟨j, Hx11, Hy12⟩ := H
      refine hx_cut (fun ρ h' => (Ext h1 h' ∧ True) ∧ Has ρ [(0, (.slice l l_n l_c)), (1, (.string key)), (5, (.slice out out_n out_c)), (6, (.int .i64 i)), (26, (.bool j))]) ?_ ?_
      · have H := Hx11; clear Hx11 Hy12
        refine hx_region ?_
        refine hl_val rfl rfl (v := (.slice l l_n l_c)) (hv_move rfl) ?_
        refine hl_val rfl rfl (v := (.int .i64 i)) (hv_move rfl) ?_
        obtain ⟨l_b, l_o, hqe, hi14, hi15, Hq⟩ := H
        subst hqe
        have H := Hq; clear Hq
        refine hl_val rfl rfl (v := (ptr l_b (l_o + (Int.toNat i) * 8))) (hv_index TyShE.el22 rfl rfl hi14 hi15) ?_
        obtain ⟨x_Kind, x_Key, x_Value, x_Err, x_Hit, x_Life, x_From, x_To, hc16, hc17, hc18, hc19, hc20, hc21, hc22, hc23, H⟩ := H
        refine hl_val rfl rfl (v := (.agg #[(.int .i64 x_Kind), (.string x_Key), (.string x_Value), (.int .i64 x_Err), (.bool x_Hit), (.int .i64 x_Life), (.int .i64 x_From), (.int .i64 x_To)])) (hv_loads (vs := [(.int .i64 x_Kind), (.string x_Key), (.string x_Value), (.int .i64 x_Err), (.bool x_Hit), (.int .i64 x_Life), (.int .i64 x_From), (.int .i64 x_To)]) TyShE.agg31 TyShE.sz31 rfl (hcells_cons hc16 (hcells_cons hc17 (hcells_cons hc18 (hcells_cons hc19 (hcells_cons hc20 (hcells_cons hc21 (hcells_cons hc22 (hcells_cons hc23 hcells_nil))))))))) ?_
        refine hl_step rfl rfl (hs_call TyShE.cb24 (vs := [(.agg #[(.int .i64 x_Kind), (.string x_Key), (.string x_Value), (.int .i64 x_Err), (.bool x_Hit), (.int .i64 x_Life), (.int .i64 x_From), (.int .i64 x_To)])]) rfl (HC.mono (ofKey_c (⟨x_Kind, x_Key, x_Value, x_Err, x_Hit, x_Life, x_From, x_To⟩) _) ?_))
        rintro _ h4 ⟨rfl, xx24⟩
        refine hl_val rfl rfl (v := (.bool (Ml.keyed ⟨x_Kind, x_Key, x_Value, x_Err, x_Hit, x_Life, x_From, x_To⟩))) (hv_move rfl) ?_
        rcases bool_or (Ml.keyed ⟨x_Kind, x_Key, x_Value, x_Err, x_Hit, x_Life, x_From, x_To⟩) with hg25 | hg25
        · replace H := H.1 hg25
          refine hl_yes (wanted_y rfl rfl rfl hg25) rfl (HStep.of_val (v := (.slice (some ⟨l_b, l_o, none⟩) l_n l_c)) (hv_move rfl) ?_)
          refine hl_yes (wanted_y rfl rfl rfl hg25) rfl (HStep.of_val (v := (.int .i64 i)) (hv_move rfl) ?_)
          refine hl_yes (wanted_y rfl rfl rfl hg25) rfl (HStep.of_val (v := (ptr l_b (l_o + (Int.toNat i) * 8))) (hv_index TyShE.el22 rfl rfl hi14 hi15) ?_)
          refine hl_yes (wanted_y rfl rfl rfl hg25) rfl (HStep.of_val (v := (ptr l_b ((l_o + (Int.toNat i) * 8) + 1))) (hv_field TyShE.fld31_1 (b := l_b) (o := l_o + (Int.toNat i) * 8) rfl) ?_)
          refine hl_yes (wanted_y rfl rfl rfl hg25) rfl (HStep.of_val (v := (.string x_Key)) (hv_load TyShE.agg9 rfl (Ext.cell xx24 hc17)) ?_)
          refine hl_yes (wanted_y rfl rfl rfl hg25) rfl (HStep.of_val (v := (.string key)) (hv_move rfl) ?_)
          refine hl_yes (wanted_y rfl rfl rfl hg25) rfl (HStep.of_val (v := (.bool (decide (x_Key = key)))) (hv_str rfl rfl rfl) ?_)
          refine hl_val rfl rfl (v := (.bool (decide (x_Key = key)))) (hv_pick_t rfl hg25 rfl) ?_
          refine hl_nil ?_
          refine seqQ_n ?_
          obtain rfl := H
          exact ⟨⟨xx24, trivial⟩, (has_cons rfl (has_cons rfl (has_cons rfl (has_cons rfl (has_cons rfl has_nil)))))⟩
        · replace H := H.2 hg25
          refine hl_no (wanted_n rfl rfl rfl hg25) rfl ?_
          refine hl_no (wanted_n rfl rfl rfl hg25) rfl ?_
          refine hl_no (wanted_n rfl rfl rfl hg25) rfl ?_
          refine hl_no (wanted_n rfl rfl rfl hg25) rfl ?_
          refine hl_no (wanted_n rfl rfl rfl hg25) rfl ?_
          refine hl_no (wanted_n rfl rfl rfl hg25) rfl ?_
          refine hl_no (wanted_n rfl rfl rfl hg25) rfl ?_
          refine hl_val rfl rfl (v := (.bool false)) (hv_pick_f rfl hg25 rfl) ?_
          refine hl_nil ?_
          refine seqQ_n ?_
          obtain rfl := H
          exact ⟨⟨xx24, trivial⟩, (has_cons rfl (has_cons rfl (has_cons rfl (has_cons rfl (has_cons rfl has_nil)))))⟩
      · have H := Hy12; clear Hx11 Hy12
        rintro ρ h3 ⟨⟨xv13, -⟩, hH⟩
        refine hx_has _ hH ?_
        refine hx_cond (b := j) rfl (fun hb28 => ?_) (fun hb28 => ?_)
        · replace H := H.1 hb28
          refine hx_region ?_
          refine hl_val rfl rfl (v := (.slice out out_n out_c)) (hv_move rfl) ?_
          refine hl_val rfl rfl (v := (.slice l l_n l_c)) (hv_move rfl) ?_
          refine hl_val rfl rfl (v := (.int .i64 i)) (hv_move rfl) ?_
          obtain ⟨l_b_1, l_o_1, hqe, hi29, hi30, Hq⟩ := H
          subst hqe
          have H := Hq; clear Hq
          refine hl_val rfl rfl (v := (ptr l_b_1 (l_o_1 + (Int.toNat i) * 8))) (hv_index TyShE.el22 rfl rfl hi29 hi30) ?_
          obtain ⟨x_Kind_1, x_Key_1, x_Value_1, x_Err_1, x_Hit_1, x_Life_1, x_From_1, x_To_1, hc31, hc32, hc33, hc34, hc35, hc36, hc37, hc38, H⟩ := H
          refine hl_val rfl rfl (v := (.agg #[(.int .i64 x_Kind_1), (.string x_Key_1), (.string x_Value_1), (.int .i64 x_Err_1), (.bool x_Hit_1), (.int .i64 x_Life_1), (.int .i64 x_From_1), (.int .i64 x_To_1)])) (hv_loads (vs := [(.int .i64 x_Kind_1), (.string x_Key_1), (.string x_Value_1), (.int .i64 x_Err_1), (.bool x_Hit_1), (.int .i64 x_Life_1), (.int .i64 x_From_1), (.int .i64 x_To_1)]) TyShE.agg31 TyShE.sz31 rfl (hcells_cons (Ext.cell xv13 hc31) (hcells_cons (Ext.cell xv13 hc32) (hcells_cons (Ext.cell xv13 hc33) (hcells_cons (Ext.cell xv13 hc34) (hcells_cons (Ext.cell xv13 hc35) (hcells_cons (Ext.cell xv13 hc36) (hcells_cons (Ext.cell xv13 hc37) (hcells_cons (Ext.cell xv13 hc38) hcells_nil))))))))) ?_
          replace H := H h3 xv13
          refine hl_step rfl rfl (hn_buildSlice (n := 1) (vs := [(0, (.agg #[(.int .i64 x_Kind_1), (.string x_Key_1), (.string x_Value_1), (.int .i64 x_Err_1), (.bool x_Hit_1), (.int .i64 x_Life_1), (.int .i64 x_From_1), (.int .i64 x_To_1)]))]) (cs := #[(.int .i64 x_Kind_1), (.string x_Key_1), (.string x_Value_1), (.int .i64 x_Err_1), (.bool x_Hit_1), (.int .i64 x_Life_1), (.int .i64 x_From_1), (.int .i64 x_To_1)]) TyShE.u22 TyShE.sz31 TyShE.z31 rfl rfl (by kernel_rfl) ?_)
          intro nb h5 eb39 eh40
          replace H := H nb h5 eb39 eh40
          have xx41 : Ext h3 h5 := by rw [eh40]; exact Ext.push _ _
          refine hl_step rfl rfl (hs_append rfl rfl (HAppend.mono H ?_))
          rintro _ h6 ⟨ap, ap_n, ap_c, rfl, H⟩
          refine hl_val rfl rfl (v := (.slice ap ap_n ap_c)) (hv_assign rfl) ?_
          refine hl_nil ?_
          refine blockQ_n ?_
          refine seqQ_n ?_
          exact ⟨_, _, _, ⟨H, trivial⟩, (has_cons rfl (has_cons rfl (has_cons rfl (has_cons rfl has_nil))))⟩
        · replace H := H.2 hb28
          refine hx_skip ?_
          refine blockQ_n ?_
          replace H := H h3 xv13
          refine seqQ_n ?_
          exact ⟨_, _, _, ⟨H, trivial⟩, (has_cons rfl (has_cons rfl (has_cons rfl (has_cons rfl has_nil))))⟩
    · rintro ρ h2 ⟨out_1, out_n_1, out_c_1, ⟨HA10, -⟩, hH⟩
      have H := Hy8 out_1 out_n_1 out_c_1 h2 HA10; clear Hx7 Hy8
      refine hx_has _ hH ?_
      refine hx_region ?_
      refine hl_val rfl rfl (v := (.int .i64 i)) (hv_move rfl) ?_
      refine hl_val rfl rfl (v := (.int .i64 (IntKind.i64.wrap (i + 1)))) (hv_arith rfl rfl rfl) ?_
      refine hl_val rfl rfl (v := (.int .i64 (IntKind.i64.wrap (i + 1)))) (hv_assign rfl) ?_
      refine hl_nil ?_
      refine seqQ_n ?_
      exact ⟨(out_1, out_n_1, out_c_1, IntKind.i64.wrap (i + 1)), ⟨⟨H.1, trivial⟩, H.2⟩, (has_cons rfl (has_cons rfl (has_cons rfl (has_cons rfl has_nil))))⟩
  · replace H := H.2 hb6
    refine hx_exit ?_
    refine seqQ_exit ?_
    refine seqQ_exit ?_
    refine blockQ_here ?_
    refine seqQ_n ?_
    refine hx_seq ?_
    refine hx_region ?_
    refine hl_val rfl rfl (v := (.slice out out_n out_c)) (hv_move rfl) ?_
    refine hl_val rfl rfl (v := (.slice out out_n out_c)) (hv_assign rfl) ?_
    refine hl_nil ?_
    refine seqQ_n ?_
    refine hx_ret ?_
    exact endQ_ret _ (res_one Try.results17 (rv_tmp rfl)) H

end Go.Proofs.Ytmdgfbhmogjklaa
