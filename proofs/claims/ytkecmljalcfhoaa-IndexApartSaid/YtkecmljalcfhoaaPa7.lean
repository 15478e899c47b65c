import Derived.Laws.BytesString
import Derived.Test.YtkecmljalcfhoaaProg
import Derived.Test.YtkecmljalcfhoaaPa1
import Derived.Test.YtkecmljalcfhoaaPa5
import Derived.Test.YtkecmljalcfhoaaPa6
namespace Go.Proofs.Ytkecmljalcfhoaa
open Go
open Go.Proofs.Ytkecmljalcfhoaa renaming hl_val → lv, hl_step → lp, hl_nil → ln, hl_yes → ly, hl_no → lo, hx_seq → xs, hx_region → xr, hx_cond → xc, hx_block → xb, hx_loopT → xl, hx_cut → xk, hx_has → xh, hx_skip → xi, hx_ret → xt, hx_exit → xe, seqQ_n → qn, seqQ_ret → qr, seqQ_exit → qe, blockQ_n → bn, blockQ_ret → br, blockQ_here → bh, hv_move → vm, hv_assign → va, hv_arith → vr, hv_load → vl, hv_loads → vL, hv_extract → vx, hv_field → vf, hv_index → vi, has_cons → hc, has_nil → hn, hcells_cons → cc, hcells_nil → cn, rowcell → rc, hs_call → sc
set_option maxRecDepth 100000
set_option maxHeartbeats 4000000
theorem TyShL.agg29 : aggB Try.prog 29 = some false := by kernel_rfl
theorem TyShL.agg3 : aggB Try.prog 3 = some false := by kernel_rfl
theorem TyShL.agg31 : aggB Try.prog 31 = some true := by kernel_rfl
theorem TyShL.agg38 : aggB Try.prog 38 = some true := by kernel_rfl
theorem TyShL.cb11 : CallB Try.prog 11 := fun _ _ => Try.call11 _ _
theorem TyShL.cb19 : CallB Try.prog 19 := fun _ _ => Try.call19 _ _
theorem TyShL.cb29 : CallB Try.prog 29 := fun _ _ => Try.call29 _ _
theorem TyShL.cb30 : CallB Try.prog 30 := fun _ _ => Try.call30 _ _
theorem TyShL.cb31 : CallB Try.prog 31 := fun _ _ => Try.call31 _ _
theorem TyShL.cb32 : CallB Try.prog 32 := fun _ _ => Try.call32 _ _
theorem TyShL.cb33 : CallB Try.prog 33 := fun _ _ => Try.call33 _ _
theorem TyShL.fld31_0 : fldB Try.prog 31 0 = some 0 := by kernel_rfl
theorem TyShL.fld31_1 : fldB Try.prog 31 1 = some 1 := by kernel_rfl
theorem TyShL.fld33_0 : fldB Try.prog 33 0 = some 0 := by kernel_rfl
theorem TyShL.fld33_1 : fldB Try.prog 33 1 = some 1 := by kernel_rfl
theorem TyShL.fld33_2 : fldB Try.prog 33 2 = some 5 := by kernel_rfl
theorem TyShL.fld33_3 : fldB Try.prog 33 3 = some 6 := by kernel_rfl
theorem TyShL.fld33_4 : fldB Try.prog 33 4 = some 7 := by kernel_rfl
theorem TyShL.fld38_0 : fldB Try.prog 38 0 = some 0 := by kernel_rfl
theorem TyShL.fld38_2 : fldB Try.prog 38 2 = some 8 := by kernel_rfl
theorem TyShL.fld38_4 : fldB Try.prog 38 4 = some 10 := by kernel_rfl
theorem TyShL.fld38_6 : fldB Try.prog 38 6 = some 12 := by kernel_rfl
theorem TyShL.sz3 : szB Try.prog 3 = some 1 := by kernel_rfl
theorem TyShL.sz31 : szB Try.prog 31 = some 4 := by kernel_rfl
theorem TyShL.sz36 : szB Try.prog 36 = some 1 := by kernel_rfl
theorem TyShL.sz38 : szB Try.prog 38 = some 13 := by kernel_rfl
theorem TyShL.sz4 : szB Try.prog 4 = some 1 := by kernel_rfl
theorem TyShL.z38 : zeroB Try.prog 38 (.agg #[(.int .u64 0), (.int .u64 0), (.int .u64 0), (.int .u8 0), (.int .u64 0), (.int .u64 0), (.int .u64 0), (.int .u8 0), (.bool false), (.bool false), (.int .i64 0), (.int .i64 0), (.int .i64 0)]) := by unfold zeroB; kernel_rfl
theorem ext_pushed_f12_sh {h h1 : Heap} {o : Obj} (e : h1 = Array.push h o) : Ext h h1 := by rw [e]; exact Ext.push _ _
theorem f12_sh (b4 : Nat) (b3 : Nat) (a4 : Int) (a1 : Int) (b0 : Int) (a9 : Int) (b1 : Int) (c4 : Int) (d2 : Int) (d1 : Int) (h : Heap) (R : Value → Heap → Prop)
  (H : (∃ c9 : Int → Int → Int → Int → Bool → Int → Int → Nat → Nat → Heap → Prop, (((a4 == 0) = true → (∀ (o : Nat) (pb : Nat) (t : Nat) (h3 : Heap), Array.size h ≤ o → o < Array.size h3 → Array.size h ≤ pb → pb < Array.size h3 → Array.size h ≤ t → t < Array.size h3 → Ext h h3 → HC Try.prog 29 #[(ptr b4 b3), (.agg #[(.int .u64 a1), (.int .u64 b0), (.int .u64 a9), (.int .u8 b1)])] h3 (fun vv h5 => Kp [o, pb, t] h3 h5 ∧ ∃ a2 a5 a0 a3 : Int, ∃ r1 : Bool, ∃ r2 : Int, vv = (.tuple #[(.agg #[(.int .u64 a2), (.int .u64 a5), (.int .u64 a0), (.int .u8 a3)]), (.bool r1), (.int .i64 r2)]) ∧ (∀ h6, Fr (fun i => i = t) h5 h6 → (∀ h7, Fr (fun i => i = t) h6 h7 → (∀ h8, Fr (fun i => i = t) h7 h8 → (c9 a2 a5 a0 a3 r1 r2 0 pb t h8))))))) ∧ ((a4 == 0) = false → (((a4 == 2) = true → (∀ (o : Nat) (pb : Nat) (t : Nat) (h3 : Heap), Array.size h ≤ o → o < Array.size h3 → Array.size h ≤ pb → pb < Array.size h3 → Array.size h ≤ t → t < Array.size h3 → Ext h h3 → HC Try.prog 30 #[(ptr b4 b3), (.int .u64 a1)] h3 (fun vv h9 => Kp [o, pb, t] h3 h9 ∧ ∃ a2 a5 a0 a3 : Int, ∃ r1 : Bool, vv = (.tuple #[(.agg #[(.int .u64 a2), (.int .u64 a5), (.int .u64 a0), (.int .u8 a3)]), (.bool r1)]) ∧ (∀ e5, Fr (fun i => i = t) h9 e5 → (∀ f1, Fr (fun i => i = t) e5 f1 → (c9 a2 a5 a0 a3 r1 0 0 pb t f1)))))) ∧ ((a4 == 2) = false → (((a4 == 3) = true → (∀ (o : Nat) (pb : Nat) (t : Nat) (h3 : Heap), Array.size h ≤ o → o < Array.size h3 → Array.size h ≤ pb → pb < Array.size h3 → Array.size h ≤ t → t < Array.size h3 → Ext h h3 → HC Try.prog 31 #[(ptr b4 b3), (.int .u64 a1), (.int .u64 c4)] h3 (fun vv i4 => Kp [o, pb, t] h3 i4 ∧ ∃ r : Bool, vv = (.bool r) ∧ (∀ e8, Fr (fun i => i = t) i4 e8 → (c9 0 0 0 0 r 0 0 pb t e8))))) ∧ ((a4 == 3) = false → (((a4 == 4) = true → (∀ (o : Nat) (pb : Nat) (t : Nat) (h3 : Heap), Array.size h ≤ o → o < Array.size h3 → Array.size h ≤ pb → pb < Array.size h3 → Array.size h ≤ t → t < Array.size h3 → Ext h h3 → HC Try.prog 32 #[(ptr b4 b3), (.int .u64 a1), (.int .u64 c4), (.int .u64 b0)] h3 (fun vv i8 => Kp [o, pb, t] h3 i8 ∧ ∃ r : Bool, vv = (.bool r) ∧ (∀ f0, Fr (fun i => i = t) i8 f0 → (c9 0 0 0 0 r 0 0 pb t f0))))) ∧ ((a4 == 4) = false → (((a4 == 5) = true → (∀ (o : Nat) (pb : Nat) (t : Nat) (h3 : Heap), Array.size h ≤ o → o < Array.size h3 → Array.size h ≤ pb → pb < Array.size h3 → Array.size h ≤ t → t < Array.size h3 → Ext h h3 → HC Try.prog 33 #[(ptr b4 b3), (.int .u64 a1)] h3 (fun vv j1 => Kp [o, pb, t] h3 j1 ∧ ∃ r : Bool, vv = (.bool r) ∧ (∀ e7, Fr (fun i => i = t) j1 e7 → (c9 0 0 0 0 r 0 0 pb t e7))))) ∧ ((a4 == 5) = false → (((a4 == 6) = true → (∀ (o : Nat) (pb : Nat) (t : Nat) (h3 : Heap), Array.size h ≤ o → o < Array.size h3 → Array.size h ≤ pb → pb < Array.size h3 → Array.size h ≤ t → t < Array.size h3 → Ext h h3 → HC Try.prog 19 #[(ptr b4 b3), (.int .i64 d2), (.int .i64 d1)] h3 (fun vv i9 => Kp [o, pb, t] h3 i9 ∧ ∃ r : Int, vv = (.int .i64 r) ∧ (∀ e9, Fr (fun i => i = t) i9 e9 → (c9 0 0 0 0 false 0 r pb t e9))))) ∧ ((a4 == 6) = false → (∀ (pb : Nat) (t : Nat) (h3 : Heap), Array.size h ≤ pb → pb < Array.size h3 → Array.size h ≤ t → t < Array.size h3 → Ext h h3 → HC Try.prog 11 #[(ptr b4 b3), (.int .u64 a1)] h3 (fun vv i6 => Kp [pb, t] h3 i6 ∧ ∃ a2 a5 a0 a3 : Int, ∃ r1 : Bool, vv = (.tuple #[(.agg #[(.int .u64 a2), (.int .u64 a5), (.int .u64 a0), (.int .u8 a3)]), (.bool r1)]) ∧ (∀ f2, Fr (fun i => i = t) i6 f2 → (∀ e6, Fr (fun i => i = t) f2 e6 → (c9 a2 a5 a0 a3 r1 0 0 pb t e6))))))))))))))))) ∧ (∀ (tc : Int) (c1 : Int) (b8 : Int) (b7 : Int) (c2 : Bool) (c3 : Int) (c0 : Int) (pb : Nat) (t : Nat) (h4 : Heap), c9 tc c1 b8 b7 c2 c3 c0 pb t h4 → Array.size h ≤ pb → pb < Array.size h4 → Array.size h ≤ t → t < Array.size h4 → (∀ e4, Fr (fun i => i = pb) h4 e4 → R (.agg #[(.int .u64 tc), (.int .u64 c1), (.int .u64 b8), (.int .u8 b7), (.int .u64 0), (.int .u64 0), (.int .u64 0), (.int .u8 0), (.bool c2), (.bool false), (.int .i64 c3), (.int .i64 0), (.int .i64 c0)]) e4)))) :
  HC Try.prog 12 #[(ptr b4 b3), (.agg #[(.int .i64 a4), (.int .u64 a1), (.int .u64 b0), (.int .u64 a9), (.int .u8 b1), (.int .u64 c4), (.int .i64 d2), (.int .i64 d1)])] h R := by
 refine hc_of (args := [(ptr b4 b3), (.agg #[(.int .i64 a4), (.int .u64 a1), (.int .u64 b0), (.int .u64 a9), (.int .u8 b1), (.int .u64 c4), (.int .i64 d2), (.int .i64 d1)])]) Try.func12 rfl Try.ntmps12 (Nat.le_of_ble_eq_true rfl) ?_
 refine xs (xr ?_)
 refine lp rfl rfl (hn_box (v := (.agg #[(.int .i64 a4), (.int .u64 a1), (.int .u64 b0), (.int .u64 a9), (.int .u8 b1), (.int .u64 c4), (.int .i64 d2), (.int .i64 d1)])) rfl ?_)
 intro o h1 j2 j6
 have j5 := ext_pushed_f12_sh j6
 have d3 : Array.size h ≤ o := Nat.le_of_eq (Eq.symm j2)
 have a6 : h1[o]? = some (.cells #[(.int .i64 a4), (.int .u64 a1), (.int .u64 b0), (.int .u64 a9), (.int .u8 b1), (.int .u64 c4), (.int .i64 d2), (.int .i64 d1)] 33 (0, 0)) := by rw [j6]; exact push_new j2
 refine lp rfl rfl (hn_alloc TyShL.z38 ?_)
 intro pb h2 j0 j3
 have j4 := ext_pushed_f12_sh j3
 have j8 := Nat.ne_of_lt (Nat.lt_of_lt_of_eq (row_lt a6) (Eq.symm j0))
 have c7 : Array.size h ≤ pb := Nat.le_trans (Ext.size j5) (Nat.le_of_eq (Eq.symm j0))
 have a7 : h2[pb]? = some (.cells #[(.int .u64 0), (.int .u64 0), (.int .u64 0), (.int .u8 0), (.int .u64 0), (.int .u64 0), (.int .u64 0), (.int .u8 0), (.bool false), (.bool false), (.int .i64 0), (.int .i64 0), (.int .i64 0)] 38 (0, 0)) := by rw [j3]; exact push_new j0
 replace a6 := Ext.row j4 a6
 have i3 := Ext.trans j5 j4
 refine ln (qn (xs (xr ?_)))
 refine lp rfl rfl (hn_alloc TyShL.z38 ?_)
 intro t h3 d9 i7
 have i0 := ext_pushed_f12_sh i7
 have c6 := Nat.ne_of_lt (Nat.lt_of_lt_of_eq (row_lt a6) (Eq.symm d9))
 have b9 := Nat.ne_of_lt (Nat.lt_of_lt_of_eq (row_lt a7) (Eq.symm d9))
 have c8 : Array.size h ≤ t := Nat.le_trans (Ext.size i3) (Nat.le_of_eq (Eq.symm d9))
 have a8 : h3[t]? = some (.cells #[(.int .u64 0), (.int .u64 0), (.int .u64 0), (.int .u8 0), (.int .u64 0), (.int .u64 0), (.int .u64 0), (.int .u8 0), (.bool false), (.bool false), (.int .i64 0), (.int .i64 0), (.int .i64 0)] 38 (0, 0)) := by rw [i7]; exact push_new d9
 replace a6 := Ext.row i0 a6
 replace a7 := Ext.row i0 a7
 have d0 := Ext.trans i3 i0
 refine ln (qn ?_)
 obtain ⟨c9, f9, f8⟩ := H
 refine xk (fun ρ h' => ∃ tc c1 b8 b7 : Int, ∃ c2 : Bool, ∃ c3 c0 : Int, (c9 tc c1 b8 b7 c2 c3 c0 pb t h' ∧ h'[pb]? = some (.cells #[(.int .u64 0), (.int .u64 0), (.int .u64 0), (.int .u8 0), (.int .u64 0), (.int .u64 0), (.int .u64 0), (.int .u8 0), (.bool false), (.bool false), (.int .i64 0), (.int .i64 0), (.int .i64 0)] 38 (0, 0)) ∧ h'[t]? = some (.cells #[(.int .u64 tc), (.int .u64 c1), (.int .u64 b8), (.int .u8 b7), (.int .u64 0), (.int .u64 0), (.int .u64 0), (.int .u8 0), (.bool c2), (.bool false), (.int .i64 c3), (.int .i64 0), (.int .i64 c0)] 38 (0, 0)) ∧ True) ∧ Has ρ [(4, (ptr pb 0)), (5, (ptr t 0))]) ?_ ?_
 ·have H := f9; clear f9 f8
  refine xs (xr ?_)
  refine lv rfl rfl (v := (ptr o 0)) (vf TyShL.fld33_0 (b := o) (o := 0) rfl) (lv rfl rfl (vl TyShL.agg3 rfl (rc a6 rfl)) ?_)
  refine ln (qn (xb (xs (xr ?_))))
  refine lv rfl rfl (vr rfl rfl rfl) (lv rfl rfl (va rfl) ?_)
  refine ln (qn ?_)
  refine xc (b := a4 == 0) rfl (fun g2 => ?_) (fun g2 => ?_)
  ·replace H := H.1 g2
   refine xr ?_
   refine lv rfl rfl (vm rfl) (lv rfl rfl (v := (ptr o 1)) (vf TyShL.fld33_1 (b := o) (o := 0) rfl) (lv rfl rfl (vL (vs := [(.int .u64 a1), (.int .u64 b0), (.int .u64 a9), (.int .u8 b1)]) TyShL.agg31 TyShL.sz31 rfl (cc (rc a6 rfl) (cc (rc a6 rfl) (cc (rc a6 rfl) (cc (rc a6 rfl) cn))))) ?_))
   replace H := H o pb t h3 d3 (row_lt a6) c7 (row_lt a7) c8 (row_lt a8) d0
   refine lp rfl rfl (sc TyShL.cb29 rfl (HC.mono H ?_))
   rintro _ h5 ⟨g1, a2, a5, a0, a3, r1, r2, rfl, H⟩
   replace a6 := Kp.row g1 (by simp) a6
   replace a7 := Kp.row g1 (by simp) a7
   replace a8 := Kp.row g1 (by simp) a8
   refine lv rfl rfl (vm rfl) (lv rfl rfl (vx rfl rfl) (lv rfl rfl (vx rfl rfl) (lv rfl rfl (vx rfl rfl) (lv rfl rfl (v := (ptr t 0)) (vf TyShL.fld38_0 (b := t) (o := 0) rfl) ?_))))
   refine lp rfl rfl (hn_stores (vs := [(.int .u64 a2), (.int .u64 a5), (.int .u64 a0), (.int .u8 a3)]) rfl rfl TyShL.sz31 rfl (HWs_row a8 (by simp)) ?_)
   intro h6 d7
   replace a6 := row_hsets_ne d7 c6 a6
   replace a7 := row_hsets_ne d7 b9 a7
   have b2 : h6[t]? = some (.cells #[(.int .u64 a2), (.int .u64 a5), (.int .u64 a0), (.int .u8 a3), (.int .u64 0), (.int .u64 0), (.int .u64 0), (.int .u8 0), (.bool false), (.bool false), (.int .i64 0), (.int .i64 0), (.int .i64 0)] 38 (0, 0)) := row_hsets_eq d7 a8 (by simp [sets])
   replace H := H h6 (fr_hsets_of d7)
   refine lv rfl rfl (v := (ptr t 8)) (vf TyShL.fld38_2 (b := t) (o := 0) rfl) ?_
   refine lp rfl rfl (hn_store (v := (.bool r1)) rfl rfl TyShL.sz4 rfl (HW_row b2 (by simp)) ?_)
   intro h7 e3
   replace a6 := row_hset_ne e3 c6 a6
   replace a7 := row_hset_ne e3 b9 a7
   have c5 : h7[t]? = some (.cells #[(.int .u64 a2), (.int .u64 a5), (.int .u64 a0), (.int .u8 a3), (.int .u64 0), (.int .u64 0), (.int .u64 0), (.int .u8 0), (.bool r1), (.bool false), (.int .i64 0), (.int .i64 0), (.int .i64 0)] 38 (0, 0)) := row_hset_eq e3 b2 rfl
   replace H := H h7 (fr_hset_of e3)
   refine lv rfl rfl (v := (ptr t 10)) (vf TyShL.fld38_4 (b := t) (o := 0) rfl) ?_
   refine lp rfl rfl (hn_store (v := (.int .i64 r2)) rfl rfl TyShL.sz36 rfl (HW_row c5 (by simp)) ?_)
   intro h8 d4
   replace a6 := row_hset_ne d4 c6 a6
   replace a7 := row_hset_ne d4 b9 a7
   have i2 : h8[t]? = some (.cells #[(.int .u64 a2), (.int .u64 a5), (.int .u64 a0), (.int .u8 a3), (.int .u64 0), (.int .u64 0), (.int .u64 0), (.int .u8 0), (.bool r1), (.bool false), (.int .i64 r2), (.int .i64 0), (.int .i64 0)] 38 (0, 0)) := row_hset_eq d4 c5 rfl
   replace H := H h8 (fr_hset_of d4)
   refine ln (bn (qn ?_))
   exact ⟨_, _, _, _, _, _, _, ⟨H, a7, i2, trivial⟩, (hc rfl (hc rfl hn))⟩
  ·replace H := H.2 g2
   refine xs (xr ?_)
   refine lv rfl rfl (vr rfl rfl rfl) (lv rfl rfl (va rfl) ?_)
   refine ln (qn ?_)
   refine xc (b := a4 == 2) rfl (fun f7 => ?_) (fun f7 => ?_)
   ·replace H := H.1 f7
    refine xr ?_
    refine lv rfl rfl (vm rfl) (lv rfl rfl (v := (ptr o 1)) (vf TyShL.fld33_1 (b := o) (o := 0) rfl) (lv rfl rfl (v := (ptr o 1)) (vf TyShL.fld31_0 (b := o) (o := 1) rfl) (lv rfl rfl (vl TyShL.agg29 rfl (rc a6 rfl)) ?_)))
    replace H := H o pb t h3 d3 (row_lt a6) c7 (row_lt a7) c8 (row_lt a8) d0
    refine lp rfl rfl (sc TyShL.cb30 rfl (HC.mono H ?_))
    rintro _ h9 ⟨g0, a2, a5, a0, a3, r1, rfl, H⟩
    replace a6 := Kp.row g0 (by simp) a6
    replace a7 := Kp.row g0 (by simp) a7
    replace a8 := Kp.row g0 (by simp) a8
    refine lv rfl rfl (vm rfl) (lv rfl rfl (vx rfl rfl) (lv rfl rfl (vx rfl rfl) (lv rfl rfl (v := (ptr t 0)) (vf TyShL.fld38_0 (b := t) (o := 0) rfl) ?_)))
    refine lp rfl rfl (hn_stores (vs := [(.int .u64 a2), (.int .u64 a5), (.int .u64 a0), (.int .u8 a3)]) rfl rfl TyShL.sz31 rfl (HWs_row a8 (by simp)) ?_)
    intro e5 d5
    replace a6 := row_hsets_ne d5 c6 a6
    replace a7 := row_hsets_ne d5 b9 a7
    have b2 : e5[t]? = some (.cells #[(.int .u64 a2), (.int .u64 a5), (.int .u64 a0), (.int .u8 a3), (.int .u64 0), (.int .u64 0), (.int .u64 0), (.int .u8 0), (.bool false), (.bool false), (.int .i64 0), (.int .i64 0), (.int .i64 0)] 38 (0, 0)) := row_hsets_eq d5 a8 (by simp [sets])
    replace H := H e5 (fr_hsets_of d5)
    refine lv rfl rfl (v := (ptr t 8)) (vf TyShL.fld38_2 (b := t) (o := 0) rfl) ?_
    refine lp rfl rfl (hn_store (v := (.bool r1)) rfl rfl TyShL.sz4 rfl (HW_row b2 (by simp)) ?_)
    intro f1 e1
    replace a6 := row_hset_ne e1 c6 a6
    replace a7 := row_hset_ne e1 b9 a7
    have c5 : f1[t]? = some (.cells #[(.int .u64 a2), (.int .u64 a5), (.int .u64 a0), (.int .u8 a3), (.int .u64 0), (.int .u64 0), (.int .u64 0), (.int .u8 0), (.bool r1), (.bool false), (.int .i64 0), (.int .i64 0), (.int .i64 0)] 38 (0, 0)) := row_hset_eq e1 b2 rfl
    replace H := H f1 (fr_hset_of e1)
    refine ln (bn (qn ?_))
    exact ⟨_, _, _, _, _, _, _, ⟨H, a7, c5, trivial⟩, (hc rfl (hc rfl hn))⟩
   ·replace H := H.2 f7
    refine xs (xr ?_)
    refine lv rfl rfl (vr rfl rfl rfl) (lv rfl rfl (va rfl) ?_)
    refine ln (qn ?_)
    refine xc (b := a4 == 3) rfl (fun g5 => ?_) (fun g5 => ?_)
    ·replace H := H.1 g5
     refine xr ?_
     refine lv rfl rfl (vm rfl) (lv rfl rfl (v := (ptr o 1)) (vf TyShL.fld33_1 (b := o) (o := 0) rfl) (lv rfl rfl (v := (ptr o 1)) (vf TyShL.fld31_0 (b := o) (o := 1) rfl) (lv rfl rfl (vl TyShL.agg29 rfl (rc a6 rfl)) (lv rfl rfl (v := (ptr o 5)) (vf TyShL.fld33_2 (b := o) (o := 0) rfl) (lv rfl rfl (vl TyShL.agg29 rfl (rc a6 rfl)) ?_)))))
     replace H := H o pb t h3 d3 (row_lt a6) c7 (row_lt a7) c8 (row_lt a8) d0
     refine lp rfl rfl (sc TyShL.cb31 rfl (HC.mono H ?_))
     rintro _ i4 ⟨f3, r, rfl, H⟩
     replace a6 := Kp.row f3 (by simp) a6
     replace a7 := Kp.row f3 (by simp) a7
     replace a8 := Kp.row f3 (by simp) a8
     refine lv rfl rfl (v := (ptr t 8)) (vf TyShL.fld38_2 (b := t) (o := 0) rfl) ?_
     refine lp rfl rfl (hn_store (v := (.bool r)) rfl rfl TyShL.sz4 rfl (HW_row a8 (by simp)) ?_)
     intro e8 d6
     replace a6 := row_hset_ne d6 c6 a6
     replace a7 := row_hset_ne d6 b9 a7
     have b2 : e8[t]? = some (.cells #[(.int .u64 0), (.int .u64 0), (.int .u64 0), (.int .u8 0), (.int .u64 0), (.int .u64 0), (.int .u64 0), (.int .u8 0), (.bool r), (.bool false), (.int .i64 0), (.int .i64 0), (.int .i64 0)] 38 (0, 0)) := row_hset_eq d6 a8 rfl
     replace H := H e8 (fr_hset_of d6)
     refine ln (bn (qn ?_))
     exact ⟨_, _, _, _, _, _, _, ⟨H, a7, b2, trivial⟩, (hc rfl (hc rfl hn))⟩
    ·replace H := H.2 g5
     refine xs (xr ?_)
     refine lv rfl rfl (vr rfl rfl rfl) (lv rfl rfl (va rfl) ?_)
     refine ln (qn ?_)
     refine xc (b := a4 == 4) rfl (fun g9 => ?_) (fun g9 => ?_)
     ·replace H := H.1 g9
      refine xr ?_
      refine lv rfl rfl (vm rfl) (lv rfl rfl (v := (ptr o 1)) (vf TyShL.fld33_1 (b := o) (o := 0) rfl) (lv rfl rfl (v := (ptr o 1)) (vf TyShL.fld31_0 (b := o) (o := 1) rfl) (lv rfl rfl (vl TyShL.agg29 rfl (rc a6 rfl)) (lv rfl rfl (v := (ptr o 5)) (vf TyShL.fld33_2 (b := o) (o := 0) rfl) (lv rfl rfl (vl TyShL.agg29 rfl (rc a6 rfl)) ?_)))))
      refine lv rfl rfl (v := (ptr o 1)) (vf TyShL.fld33_1 (b := o) (o := 0) rfl) (lv rfl rfl (v := (ptr o 2)) (vf TyShL.fld31_1 (b := o) (o := 1) rfl) (lv rfl rfl (vl TyShL.agg29 rfl (rc a6 rfl)) ?_))
      replace H := H o pb t h3 d3 (row_lt a6) c7 (row_lt a7) c8 (row_lt a8) d0
      refine lp rfl rfl (sc TyShL.cb32 rfl (HC.mono H ?_))
      rintro _ i8 ⟨g7, r, rfl, H⟩
      replace a6 := Kp.row g7 (by simp) a6
      replace a7 := Kp.row g7 (by simp) a7
      replace a8 := Kp.row g7 (by simp) a8
      refine lv rfl rfl (v := (ptr t 8)) (vf TyShL.fld38_2 (b := t) (o := 0) rfl) ?_
      refine lp rfl rfl (hn_store (v := (.bool r)) rfl rfl TyShL.sz4 rfl (HW_row a8 (by simp)) ?_)
      intro f0 e0
      replace a6 := row_hset_ne e0 c6 a6
      replace a7 := row_hset_ne e0 b9 a7
      have b2 : f0[t]? = some (.cells #[(.int .u64 0), (.int .u64 0), (.int .u64 0), (.int .u8 0), (.int .u64 0), (.int .u64 0), (.int .u64 0), (.int .u8 0), (.bool r), (.bool false), (.int .i64 0), (.int .i64 0), (.int .i64 0)] 38 (0, 0)) := row_hset_eq e0 a8 rfl
      replace H := H f0 (fr_hset_of e0)
      refine ln (bn (qn ?_))
      exact ⟨_, _, _, _, _, _, _, ⟨H, a7, b2, trivial⟩, (hc rfl (hc rfl hn))⟩
     ·replace H := H.2 g9
      refine xs (xr ?_)
      refine lv rfl rfl (vr rfl rfl rfl) (lv rfl rfl (va rfl) ?_)
      refine ln (qn ?_)
      refine xc (b := a4 == 5) rfl (fun g4 => ?_) (fun g4 => ?_)
      ·replace H := H.1 g4
       refine xr ?_
       refine lv rfl rfl (vm rfl) (lv rfl rfl (v := (ptr o 1)) (vf TyShL.fld33_1 (b := o) (o := 0) rfl) (lv rfl rfl (v := (ptr o 1)) (vf TyShL.fld31_0 (b := o) (o := 1) rfl) (lv rfl rfl (vl TyShL.agg29 rfl (rc a6 rfl)) ?_)))
       replace H := H o pb t h3 d3 (row_lt a6) c7 (row_lt a7) c8 (row_lt a8) d0
       refine lp rfl rfl (sc TyShL.cb33 rfl (HC.mono H ?_))
       rintro _ j1 ⟨f4, r, rfl, H⟩
       replace a6 := Kp.row f4 (by simp) a6
       replace a7 := Kp.row f4 (by simp) a7
       replace a8 := Kp.row f4 (by simp) a8
       refine lv rfl rfl (v := (ptr t 8)) (vf TyShL.fld38_2 (b := t) (o := 0) rfl) ?_
       refine lp rfl rfl (hn_store (v := (.bool r)) rfl rfl TyShL.sz4 rfl (HW_row a8 (by simp)) ?_)
       intro e7 e2
       replace a6 := row_hset_ne e2 c6 a6
       replace a7 := row_hset_ne e2 b9 a7
       have b2 : e7[t]? = some (.cells #[(.int .u64 0), (.int .u64 0), (.int .u64 0), (.int .u8 0), (.int .u64 0), (.int .u64 0), (.int .u64 0), (.int .u8 0), (.bool r), (.bool false), (.int .i64 0), (.int .i64 0), (.int .i64 0)] 38 (0, 0)) := row_hset_eq e2 a8 rfl
       replace H := H e7 (fr_hset_of e2)
       refine ln (bn (qn ?_))
       exact ⟨_, _, _, _, _, _, _, ⟨H, a7, b2, trivial⟩, (hc rfl (hc rfl hn))⟩
      ·replace H := H.2 g4
       refine xs (xr ?_)
       refine lv rfl rfl (vr rfl rfl rfl) (lv rfl rfl (va rfl) ?_)
       refine ln (qn ?_)
       refine xc (b := a4 == 6) rfl (fun g3 => ?_) (fun g3 => ?_)
       ·replace H := H.1 g3
        refine xr ?_
        refine lv rfl rfl (vm rfl) (lv rfl rfl (v := (ptr o 6)) (vf TyShL.fld33_3 (b := o) (o := 0) rfl) (lv rfl rfl (vl TyShL.agg3 rfl (rc a6 rfl)) (lv rfl rfl (v := (ptr o 7)) (vf TyShL.fld33_4 (b := o) (o := 0) rfl) (lv rfl rfl (vl TyShL.agg3 rfl (rc a6 rfl)) ?_))))
        replace H := H o pb t h3 d3 (row_lt a6) c7 (row_lt a7) c8 (row_lt a8) d0
        refine lp rfl rfl (sc TyShL.cb19 rfl (HC.mono H ?_))
        rintro _ i9 ⟨f6, r, rfl, H⟩
        replace a6 := Kp.row f6 (by simp) a6
        replace a7 := Kp.row f6 (by simp) a7
        replace a8 := Kp.row f6 (by simp) a8
        refine lv rfl rfl (v := (ptr t 12)) (vf TyShL.fld38_6 (b := t) (o := 0) rfl) ?_
        refine lp rfl rfl (hn_store (v := (.int .i64 r)) rfl rfl TyShL.sz3 rfl (HW_row a8 (by simp)) ?_)
        intro e9 d8
        replace a6 := row_hset_ne d8 c6 a6
        replace a7 := row_hset_ne d8 b9 a7
        have b2 : e9[t]? = some (.cells #[(.int .u64 0), (.int .u64 0), (.int .u64 0), (.int .u8 0), (.int .u64 0), (.int .u64 0), (.int .u64 0), (.int .u8 0), (.bool false), (.bool false), (.int .i64 0), (.int .i64 0), (.int .i64 r)] 38 (0, 0)) := row_hset_eq d8 a8 rfl
        replace H := H e9 (fr_hset_of d8)
        refine ln (bn (qn ?_))
        exact ⟨_, _, _, _, _, _, _, ⟨H, a7, b2, trivial⟩, (hc rfl (hc rfl hn))⟩
       ·replace H := H.2 g3
        refine xr ?_
        refine lv rfl rfl (vm rfl) (lv rfl rfl (v := (ptr o 1)) (vf TyShL.fld33_1 (b := o) (o := 0) rfl) (lv rfl rfl (v := (ptr o 1)) (vf TyShL.fld31_0 (b := o) (o := 1) rfl) (lv rfl rfl (vl TyShL.agg29 rfl (rc a6 rfl)) ?_)))
        replace H := H pb t h3 c7 (row_lt a7) c8 (row_lt a8) d0
        refine lp rfl rfl (sc TyShL.cb11 rfl (HC.mono H ?_))
        rintro _ i6 ⟨i5, a2, a5, a0, a3, r1, rfl, H⟩
        replace a7 := Kp.row i5 (by simp) a7
        replace a8 := Kp.row i5 (by simp) a8
        refine lv rfl rfl (vm rfl) (lv rfl rfl (vx rfl rfl) (lv rfl rfl (vx rfl rfl) (lv rfl rfl (v := (ptr t 0)) (vf TyShL.fld38_0 (b := t) (o := 0) rfl) ?_)))
        refine lp rfl rfl (hn_stores (vs := [(.int .u64 a2), (.int .u64 a5), (.int .u64 a0), (.int .u8 a3)]) rfl rfl TyShL.sz31 rfl (HWs_row a8 (by simp)) ?_)
        intro f2 g8
        replace a7 := row_hsets_ne g8 b9 a7
        have b2 : f2[t]? = some (.cells #[(.int .u64 a2), (.int .u64 a5), (.int .u64 a0), (.int .u8 a3), (.int .u64 0), (.int .u64 0), (.int .u64 0), (.int .u8 0), (.bool false), (.bool false), (.int .i64 0), (.int .i64 0), (.int .i64 0)] 38 (0, 0)) := row_hsets_eq g8 a8 (by simp [sets])
        replace H := H f2 (fr_hsets_of g8)
        refine lv rfl rfl (v := (ptr t 8)) (vf TyShL.fld38_2 (b := t) (o := 0) rfl) ?_
        refine lp rfl rfl (hn_store (v := (.bool r1)) rfl rfl TyShL.sz4 rfl (HW_row b2 (by simp)) ?_)
        intro e6 f5
        replace a7 := row_hset_ne f5 b9 a7
        have c5 : e6[t]? = some (.cells #[(.int .u64 a2), (.int .u64 a5), (.int .u64 a0), (.int .u8 a3), (.int .u64 0), (.int .u64 0), (.int .u64 0), (.int .u8 0), (.bool r1), (.bool false), (.int .i64 0), (.int .i64 0), (.int .i64 0)] 38 (0, 0)) := row_hset_eq f5 b2 rfl
        replace H := H e6 (fr_hset_of f5)
        refine ln (bn (qn ?_))
        exact ⟨_, _, _, _, _, _, _, ⟨H, a7, c5, trivial⟩, (hc rfl (hc rfl hn))⟩
 ·rintro ρ h4 ⟨tc, c1, b8, b7, c2, c3, c0, ⟨j7, g6, b6, -⟩, hH⟩
  have H := f8 tc c1 b8 b7 c2 c3 c0 pb t h4 j7; clear f9 f8
  refine xh _ hH ?_
  replace H := H c7 (row_lt g6) c8 (row_lt b6)
  refine xs (xr ?_)
  refine lv rfl rfl (vL (vs := [(.int .u64 tc), (.int .u64 c1), (.int .u64 b8), (.int .u8 b7), (.int .u64 0), (.int .u64 0), (.int .u64 0), (.int .u8 0), (.bool c2), (.bool false), (.int .i64 c3), (.int .i64 0), (.int .i64 c0)]) TyShL.agg38 TyShL.sz38 rfl (cc (rc b6 rfl) (cc (rc b6 rfl) (cc (rc b6 rfl) (cc (rc b6 rfl) (cc (rc b6 rfl) (cc (rc b6 rfl) (cc (rc b6 rfl) (cc (rc b6 rfl) (cc (rc b6 rfl) (cc (rc b6 rfl) (cc (rc b6 rfl) (cc (rc b6 rfl) (cc (rc b6 rfl) cn)))))))))))))) ?_
  refine lp rfl rfl (hn_stores (vs := [(.int .u64 tc), (.int .u64 c1), (.int .u64 b8), (.int .u8 b7), (.int .u64 0), (.int .u64 0), (.int .u64 0), (.int .u8 0), (.bool c2), (.bool false), (.int .i64 c3), (.int .i64 0), (.int .i64 c0)]) rfl rfl TyShL.sz38 rfl (HWs_row g6 (by simp)) ?_)
  intro e4 i1
  replace b6 := row_hsets_ne i1 (Ne.symm b9) b6
  have b5 : e4[pb]? = some (.cells #[(.int .u64 tc), (.int .u64 c1), (.int .u64 b8), (.int .u8 b7), (.int .u64 0), (.int .u64 0), (.int .u64 0), (.int .u8 0), (.bool c2), (.bool false), (.int .i64 c3), (.int .i64 0), (.int .i64 c0)] 38 (0, 0)) := row_hsets_eq i1 g6 (by simp [sets])
  replace H := H e4 (fr_hsets_of i1)
  refine ln (qn (xt ?_))
  exact endQ_ret _ (res_one Try.results12 (rv_cell (vs := [(.int .u64 tc), (.int .u64 c1), (.int .u64 b8), (.int .u8 b7), (.int .u64 0), (.int .u64 0), (.int .u64 0), (.int .u8 0), (.bool c2), (.bool false), (.int .i64 c3), (.int .i64 0), (.int .i64 c0)]) TyShL.agg38 TyShL.sz38 rfl (cc (rc b5 rfl) (cc (rc b5 rfl) (cc (rc b5 rfl) (cc (rc b5 rfl) (cc (rc b5 rfl) (cc (rc b5 rfl) (cc (rc b5 rfl) (cc (rc b5 rfl) (cc (rc b5 rfl) (cc (rc b5 rfl) (cc (rc b5 rfl) (cc (rc b5 rfl) (cc (rc b5 rfl) cn))))))))))))))) H
end Go.Proofs.Ytkecmljalcfhoaa
namespace Go.Proofs.Ytkecmljalcfhoaa
namespace Ix
open Go RH
theorem Has.mono {W W' : Nat → Prop} {h : Heap} {x m : Nat} {Ls : List (List Ent)} (a : Has W h x m Ls) (hw : ∀ b, W b → W' b) (hl : ∀ b, W' b → b < h.size) : Has W' h x m Ls := by
  obtain ⟨Ts, I, e⟩ := a
  exact ⟨Ts, I.mono hw hl, e⟩
theorem Has.srt {W : Nat → Prop} {h : Heap} {x m : Nat} {Ls : List (List Ent)} (a : Has W h x m Ls) (v : Nat) : Srt (str Ls v) := by
  obtain ⟨Ts, I, rfl⟩ := a
  obtain ⟨t, ht, _⟩ := I.get v
  rw [str_eq ht]
  exact (I.ok t (List.mem_of_getElem? ht)).2.srt
theorem Aft.wrap {W : Nat → Prop} {h h1 h2 h3 : Heap} {x m : Nat} {Ls : List (List Ent)} (lw : ∀ b, W b → b < h.size) (e1 : Ext h h1) (a : Aft W h1 x m Ls h2) {S : Nat → Prop} (f : Fr S h2 h3) (hS : ∀ b, S b → h.size ≤ b ∧ b < h1.size) : Aft W h x m Ls h3 := by
  have s1 := e1.size
  have s2 := a.1.size
  have s3 := f.size
  refine ⟨((e1.fr _).trans a.1 fun _ _ g => g).trans f fun b hb g => by have := (hS b g).1; omega, (a.2.fr f fun b g q => ?_).mono (fun b g => ?_) (fun b g => ?_)⟩
  · have := hS b q
    rcases g with g | g
    · have := lw b g; omega
    · omega
  · rcases g with g | g
    · exact .inl g
    · exact .inr ⟨by omega, by omega⟩
  · rcases g with g | g
    · have := lw b g; omega
    · exact g.2
theorem aft_ext {W : Nat → Prop} {h h' : Heap} {x m : Nat} {Ls : List (List Ent)} (a : Has W h x m Ls) (e : Ext h h') : Aft W h x m Ls h' := by
  obtain ⟨Ts, I, rfl⟩ := a
  exact Aft.ofExt I e
end Ix
end Go.Proofs.Ytkecmljalcfhoaa
namespace Go.Proofs.Ytkecmljalcfhoaa
namespace Ix
open Go RH
structure Ans where
  a : Ent
  i : Bool
  e : Int
  n : Int
def Ans.v (r : Ans) : Value := .agg #[.int .u64 r.a.h, .int .u64 r.a.a, .int .u64 r.a.v, .int .u8 r.a.k, .int .u64 0, .int .u64 0, .int .u64 0, .int .u8 0, .bool r.i, .bool false, .int .i64 r.e, .int .i64 0, .int .i64 r.n]
def act (m : Nat) (k : Int) (e : Ent) (at_ : Nat) (q : Int) (L : List Ent) : Ans × List Ent :=
  if k = 0 then (⟨(mPut m L e).1.1, (mPut m L e).1.2.1, (mPut m L e).1.2.2, 0⟩, (mPut m L e).2)
  else if k = 2 then (⟨(mDel L e.h).1.1, (mDel L e.h).1.2, 0, 0⟩, (mDel L e.h).2)
  else if k = 3 then (⟨z0, (mDelIf L e.h at_).1, 0, 0⟩, (mDelIf L e.h at_).2)
  else if k = 4 then (⟨z0, (mMove L e.h at_ e.a).1, 0, 0⟩, (mMove L e.h at_ e.a).2)
  else if k = 5 then (⟨z0, (mHit L e.h).1, 0, 0⟩, (mHit L e.h).2)
  else if k = 6 then (⟨z0, false, 0, ((mPurge L q).1 : Int)⟩, (mPurge L q).2)
  else (⟨(mGet L e.h).1, (mGet L e.h).2, 0, 0⟩, L)
def sOf (l : Nat) (k : Int) (e : Ent) (n : Int) : Int := if k = 6 then n else ((e.h % l : Nat) : Int)
def put1 (Ls : List (List Ent)) (s : Int) (L : List Ent) : List (List Ent) := if 0 ≤ s ∧ s < Ls.length then Ls.set s.toNat L else Ls
def tells (m : Nat) (Ls : List (List Ent)) (k : Int) (e : Ent) (at_ : Nat) (n q : Int) : Ans := (act m k e at_ q (ent Ls (sOf Ls.length k e n))).1
def step (m : Nat) (Ls : List (List Ent)) (k : Int) (e : Ent) (at_ : Nat) (n q : Int) : List (List Ent) := put1 Ls (sOf Ls.length k e n) (act m k e at_ q (ent Ls (sOf Ls.length k e n))).2
section
variable {m : Nat} {Ls : List (List Ent)} {k : Int} {e : Ent} {at_ : Nat} {n q : Int}
theorem put1_len {s : Int} {L : List Ent} : (put1 Ls s L).length = Ls.length := by unfold put1; split <;> simp
theorem ent_put1 {s t : Int} {L : List Ent} (hst : s ≠ t) : ent (put1 Ls s L) t = ent Ls t := by
  unfold put1
  split
  · unfold ent
    split
    · rw [List.getD_eq_getElem?_getD, List.getD_eq_getElem?_getD, List.getElem?_set_ne (by omega)]
    · rfl
  · rfl
theorem put1_comm {s t : Int} {L M : List Ent} (hst : s ≠ t) : put1 (put1 Ls s L) t M = put1 (put1 Ls t M) s L := by
  unfold put1
  by_cases h1 : 0 ≤ s ∧ s < Ls.length
  · by_cases h2 : 0 ≤ t ∧ t < Ls.length
    · simp only [h1, h2, and_self, if_true, List.length_set]
      exact List.set_comm _ _ (by omega)
    · simp only [h1, h2, and_self, if_true, if_false, List.length_set]
  · by_cases h2 : 0 ≤ t ∧ t < Ls.length
    · simp only [h1, h2, and_self, if_true, if_false, List.length_set]
    · simp only [h1, h2, if_false]
theorem put1_self {s : Int} : put1 Ls s (ent Ls s) = Ls := by
  unfold put1
  split
  · next h =>
    unfold ent
    rw [if_pos h.1, List.getD_eq_getElem?_getD, List.getElem?_eq_getElem (by omega)]
    simp
  · rfl
theorem ent_str {v : Nat} : ent Ls ((v % Ls.length : Nat) : Int) = str Ls v := by
  unfold ent str
  rw [if_pos (by omega), Int.toNat_natCast]
theorem put1_hash (hl : 1 ≤ Ls.length) {v : Nat} {L : List Ent} : put1 Ls ((v % Ls.length : Nat) : Int) L = Ls.set (v % Ls.length) L := by
  have hm := Nat.mod_lt v (show 0 < Ls.length by omega)
  unfold put1
  rw [if_pos (by omega), Int.toNat_natCast]
theorem step_len : (step m Ls k e at_ n q).length = Ls.length := put1_len
theorem apart {k' : Int} {e' : Ent} {at' : Nat} {n' q' : Int} (hs : sOf Ls.length k e n ≠ sOf Ls.length k' e' n') :
    tells m (step m Ls k e at_ n q) k' e' at' n' q' = tells m Ls k' e' at' n' q' ∧ step m (step m Ls k e at_ n q) k' e' at' n' q' = step m (step m Ls k' e' at' n' q') k e at_ n q := by
  unfold tells
  refine ⟨by rw [step_len]; unfold step; rw [ent_put1 hs], ?_⟩
  have h1 : ent (step m Ls k e at_ n q) (sOf Ls.length k' e' n') = ent Ls (sOf Ls.length k' e' n') := ent_put1 hs
  have h2 : ent (step m Ls k' e' at' n' q') (sOf Ls.length k e n) = ent Ls (sOf Ls.length k e n) := ent_put1 hs.symm
  rw [show step m (step m Ls k e at_ n q) k' e' at' n' q' = put1 (step m Ls k e at_ n q) (sOf (step m Ls k e at_ n q).length k' e' n') (act m k' e' at' q' (ent (step m Ls k e at_ n q) (sOf (step m Ls k e at_ n q).length k' e' n'))).2 from rfl,
    show step m (step m Ls k' e' at' n' q') k e at_ n q = put1 (step m Ls k' e' at' n' q') (sOf (step m Ls k' e' at' n' q').length k e n) (act m k e at_ q (ent (step m Ls k' e' at' n' q') (sOf (step m Ls k' e' at' n' q').length k e n))).2 from rfl,
    step_len, step_len, h1, h2]
  unfold step
  exact put1_comm hs
theorem step_hash (hl : 1 ≤ Ls.length) (h6 : k ≠ 6) : step m Ls k e at_ n q = Ls.set (e.h % Ls.length) (act m k e at_ q (str Ls e.h)).2 := by
  unfold step sOf
  rw [if_neg h6, ent_str, put1_hash hl]
theorem tells_hash (h6 : k ≠ 6) : tells m Ls k e at_ n q = (act m k e at_ q (str Ls e.h)).1 := by
  unfold tells sOf
  rw [if_neg h6, ent_str]
theorem step_put (hl : 1 ≤ Ls.length) : step m Ls 0 e at_ n q = Ls.set (e.h % Ls.length) (mPut m (str Ls e.h) e).2 := step_hash hl (by decide)
theorem step_del (hl : 1 ≤ Ls.length) : step m Ls 2 e at_ n q = Ls.set (e.h % Ls.length) (mDel (str Ls e.h) e.h).2 := step_hash hl (by decide)
theorem step_delIf (hl : 1 ≤ Ls.length) : step m Ls 3 e at_ n q = Ls.set (e.h % Ls.length) (mDelIf (str Ls e.h) e.h at_).2 := step_hash hl (by decide)
theorem step_move (hl : 1 ≤ Ls.length) : step m Ls 4 e at_ n q = Ls.set (e.h % Ls.length) (mMove (str Ls e.h) e.h at_ e.a).2 := step_hash hl (by decide)
theorem step_hit (hl : 1 ≤ Ls.length) : step m Ls 5 e at_ n q = Ls.set (e.h % Ls.length) (mHit (str Ls e.h) e.h).2 := step_hash hl (by decide)
theorem step_purge : step m Ls 6 e at_ n q = purgeL Ls n q := rfl
theorem step_rest (h0 : k ≠ 0) (h2 : k ≠ 2) (h3 : k ≠ 3) (h4 : k ≠ 4) (h5 : k ≠ 5) (h6 : k ≠ 6) : step m Ls k e at_ n q = Ls := by
  unfold step act
  rw [if_neg h0, if_neg h2, if_neg h3, if_neg h4, if_neg h5, if_neg h6]
  exact put1_self
end
section
variable {W V : Nat → Prop} {h : Heap} {x r m : Nat} {Ls : List (List Ent)} {U : Nat → Prop}
set_option maxHeartbeats 16000000 in
theorem does_x (b : BothU U h x r m Ls) (k : Int) {e : Ent} (hw : e.wf) {at_ : Nat} (n q : Int) (hq : q ≤ 9223372036854775807) :
    HC Try.prog 13 #[ptr x 0, ptr r 0, .agg #[.int .i64 k, .int .u64 e.h, .int .u64 e.a, .int .u64 e.v, .int .u8 e.k, .int .u64 at_, .int .i64 n, .int .i64 q]] h fun v h' => v = .bool true ∧ AftU U h x r m (step m Ls k e at_ n q) h' := by
  have b0 := b
  obtain ⟨W, V, hx, hr, hd, hwN, hvN⟩ := b
  have lw := hx.lt
  have lv := hr.lt
  have hl := (hx.lens).1
  have nw : ∀ {o}, h.size ≤ o → ¬ W o := fun lo g => by have := lw _ g; omega
  have nv : ∀ {o}, h.size ≤ o → ¬ V o := fun lo g => by have := lv _ g; omega
  refine f13_sh _ _ _ _ _ _ _ _ _ _ _ _ _ _ ⟨fun g => ?_, fun g0 => ⟨fun g => ?_, fun _ => ⟨fun g => ?_, fun g2 => ⟨fun g => ?_, fun g3 => ⟨fun g => ?_, fun g4 => ⟨fun g => ?_, fun g5 => ⟨fun g => ?_, fun g6 => ⟨fun g => ?_, fun _ => ⟨fun g => ?_, fun _ => fun h1 x1 => ⟨rfl, ?_⟩⟩⟩⟩⟩⟩⟩⟩⟩⟩
  · obtain rfl := eq_of_beq g
    rw [step_put hl]
    intro o h1 lo1 lt1 x1
    have hs1 := x1.size
    refine (put_l (hx.ext x1) hw).mono ?_
    rintro _ h2 ⟨rfl, a2⟩
    have hs2 := a2.1.size
    refine ⟨a2.1.kp (by simpa using nw lo1), _, _, _, _, _, _, rfl, fun a h4 lo4 lt4 x4 => ?_⟩
    refine (put_m ((hasR_over hr hd x1 a2.1).ext x4) hw).mono ?_
    rintro _ h5 ⟨rfl, a5⟩
    refine ⟨a5.1.kp (by simpa using ⟨nv lo1, nv (by omega)⟩), _, _, _, _, _, _, rfl, fun h7 x7 => ⟨by simp, bothU_step hd hwN hvN lw lv x1 a2 x4 a5 x7⟩⟩
  · obtain rfl := eq_of_beq g
    rw [step_rest (by decide) (by decide) (by decide) (by decide) (by decide) (by decide)]
    intro o h1 lo1 lt1 x1
    refine (get_l (hx.ext x1) hw.1).mono ?_
    rintro _ h2 ⟨rfl, x2⟩
    refine ⟨x2.kp _, _, _, _, _, _, rfl, fun a h4 lo4 lt4 x4 => (get_m (hr.ext (x1.trans (x2.trans x4))) e.h).mono ?_⟩
    rintro _ h5 ⟨rfl, x5⟩
    have x05 := x1.trans (x2.trans (x4.trans x5))
    refine ⟨x5.kp _, _, _, _, _, _, rfl, true, ⟨fun _ => ⟨fun _ h13 x13 => ⟨_, fun h15 x15 => stripe_l (hx.ext (x05.trans (x13.trans x15))) e.h, _, fun h14 x14 => stripe_m (hr.ext (x05.trans (x13.trans x14))) e.h, by simp⟩, fun g => by simp at g⟩, fun g => by simp at g⟩, fun h13 x13 => ⟨rfl, bothU_ext b0 (x05.trans x13)⟩⟩
  · obtain rfl := eq_of_beq g
    rw [step_del hl]
    intro o h1 lo1 lt1 x1
    have hs1 := x1.size
    refine (remove_l (hx.ext x1) hw.1).mono ?_
    rintro _ h2 ⟨rfl, a2⟩
    have hs2 := a2.1.size
    refine ⟨a2.1.kp (by simpa using nw lo1), _, _, _, _, _, rfl, fun a h4 lo4 lt4 x4 => ?_⟩
    refine (remove_m ((hasR_over hr hd x1 a2.1).ext x4) e.h).mono ?_
    rintro _ h5 ⟨rfl, a5⟩
    refine ⟨a5.1.kp (by simpa using ⟨nv lo1, nv (by omega)⟩), _, _, _, _, _, rfl, fun h7 x7 => ⟨by simp, bothU_step hd hwN hvN lw lv x1 a2 x4 a5 x7⟩⟩
  · obtain rfl := eq_of_beq g
    rw [step_delIf hl]
    refine ⟨Fr W, fit_fr _, fun o h1 lo1 lt1 x1 => ⟨fun hx f => f.kp (by simpa using nw lo1), fun hx f => f.kp (by simpa using nw lo1), (removeIf_l (hx.ext x1) hw.1).mono ?_⟩⟩
    rintro _ h2 ⟨rfl, a2⟩
    refine ⟨a2.1, a2.1.kp (by simpa using nw lo1), _, rfl, (removeIf_m (hasR_over hr hd x1 a2.1) e.h at_).mono ?_⟩
    rintro _ h5 ⟨rfl, a5⟩
    exact ⟨a5.1.kp (by simpa using nv lo1), _, rfl, by simp, bothU_step hd hwN hvN lw lv x1 a2 (Ext.refl _) a5 (Ext.refl _)⟩
  · obtain rfl := eq_of_beq g
    rw [step_move hl]
    refine ⟨Fr W, fit_fr _, fun o h1 lo1 lt1 x1 => ⟨fun hx f => f.kp (by simpa using nw lo1), fun hx f => f.kp (by simpa using nw lo1), fun hx f => f.kp (by simpa using nw lo1), (move_l (hx.ext x1) hw.1 hw.2.1).mono ?_⟩⟩
    rintro _ h2 ⟨rfl, a2⟩
    refine ⟨a2.1, a2.1.kp (by simpa using nw lo1), _, rfl, (move_m (hasR_over hr hd x1 a2.1) hw.2.1).mono ?_⟩
    rintro _ h5 ⟨rfl, a5⟩
    exact ⟨a5.1.kp (by simpa using nv lo1), _, rfl, by simp, bothU_step hd hwN hvN lw lv x1 a2 (Ext.refl _) a5 (Ext.refl _)⟩
  · obtain rfl := eq_of_beq g
    rw [step_hit hl]
    refine ⟨Fr W, fit_fr _, fun o h1 lo1 lt1 x1 => ⟨fun hx f => f.kp (by simpa using nw lo1), (hit_l (hx.ext x1) hw.1).mono ?_⟩⟩
    rintro _ h2 ⟨rfl, a2⟩
    refine ⟨a2.1, a2.1.kp (by simpa using nw lo1), _, rfl, (hit_m (hasR_over hr hd x1 a2.1) e.h).mono ?_⟩
    rintro _ h5 ⟨rfl, a5⟩
    exact ⟨a5.1.kp (by simpa using nv lo1), _, rfl, by simp, bothU_step hd hwN hvN lw lv x1 a2 (Ext.refl _) a5 (Ext.refl _)⟩
  · obtain rfl := eq_of_beq g
    rw [step_purge]
    refine ⟨Fr W, fit_fr _, fun o h1 lo1 lt1 x1 => ⟨fun hx f => f.kp (by simpa using nw lo1), fun hx f => f.kp (by simpa using nw lo1), (purge_l (hx.ext x1) n q hq).mono ?_⟩⟩
    rintro _ h2 ⟨rfl, a2⟩
    refine ⟨a2.1, a2.1.kp (by simpa using nw lo1), _, rfl, (purge_m (hasR_over hr hd x1 a2.1) n q hq).mono ?_⟩
    rintro _ h5 ⟨rfl, a5⟩
    exact ⟨a5.1.kp (by simpa using nv lo1), _, rfl, by simp, bothU_step hd hwN hvN lw lv x1 a2 (Ext.refl _) a5 (Ext.refl _)⟩
  · obtain rfl := eq_of_beq g
    rw [step_rest (by decide) (by decide) (by decide) (by decide) (by decide) (by decide)]
    intro o h1 lo1 lt1 x1
    refine (allIs_c (hx.ext x1) (hr.ext x1) n q).mono ?_
    rintro _ h2 ⟨rfl, x2⟩
    exact ⟨x2.kp _, _, rfl, rfl, bothU_ext b0 (x1.trans x2)⟩
  · obtain rfl := eq_of_beq g
    rw [step_rest (by decide) (by decide) (by decide) (by decide) (by decide) (by decide)]
    refine ⟨true, fun o h1 lo1 lt1 x1 => ⟨_, fun h49 x49 => len_l (hx.ext (x1.trans x49)) n, _, fun h48 x48 => len_m (hr.ext (x1.trans x48)) n, fun _ => ⟨_, fun h47 x47 => stripes_l (hx.ext (x1.trans x47)), ?_⟩, fun g => by simp at g⟩, fun h1 x1 => ⟨rfl, bothU_ext b0 x1⟩⟩
    obtain ⟨aa, c, hc⟩ := c1_m (hr.ext x1)
    exact ⟨aa, _, c, hc, by simp⟩
  · rw [step_rest (fun g => by simp [g] at g0) (fun g => by simp [g] at g2) (fun g => by simp [g] at g3) (fun g => by simp [g] at g4) (fun g => by simp [g] at g5) (fun g => by simp [g] at g6)]
    exact bothU_ext b0 x1
end
def enO (o : Op) : Ent := ⟨o.entry.h.toNat, o.entry.a.toNat, o.entry.v.toNat, o.entry.k.toNat⟩
def stepO (m : Nat) (Ls : List (List Ent)) (o : Op) : List (List Ent) := step m Ls o.kind (enO o) o.at_.toNat o.n o.m
def tellsO (m : Nat) (Ls : List (List Ent)) (o : Op) : Ans := tells m Ls o.kind (enO o) o.at_.toNat o.n o.m
def sO (l : Nat) (o : Op) : Int := sOf l o.kind (enO o) o.n
theorem does_xo {N : Nat} {h : Heap} {x r m : Nat} {Ls : List (List Ent)} (b : Both N h x r m Ls) {o : Op} (ho : okOp o) :
    HC Try.prog 13 #[.pointer (some ⟨x, 0, none⟩), .pointer (some ⟨r, 0, none⟩), .agg #[.int .i64 o.kind, .int .u64 o.entry.h, .int .u64 o.entry.a, .int .u64 o.entry.v, .int .u8 o.entry.k, .int .u64 o.at_, .int .i64 o.n, .int .i64 o.m]] h fun v h' => v = .bool true ∧ Aft2 N h x r m (stepO m Ls o) h' := by
  have b0 : BothU (fun b => N ≤ b) h x r m Ls := b
  have hN : N ≤ h.size := by
    obtain ⟨W, V, hx, _, _, hwN, _⟩ := b
    have lw := hx.lt
    obtain ⟨Ts, I, _⟩ := hx
    have := hwN _ I.wx; have := lw _ I.wx; omega
  obtain ⟨kind, ⟨eh, ea, ev, ek⟩, at_, n, mm⟩ := o
  obtain ⟨h1, h2, h3, h4, h5, h6⟩ := ho
  simp only at h1 h2 h3 h4 h5 h6
  obtain ⟨eh, rfl⟩ : ∃ k : Nat, eh = k := ⟨eh.toNat, by omega⟩
  obtain ⟨ea, rfl⟩ : ∃ k : Nat, ea = k := ⟨ea.toNat, by omega⟩
  obtain ⟨ev, rfl⟩ : ∃ k : Nat, ev = k := ⟨ev.toNat, by omega⟩
  obtain ⟨ek, rfl⟩ : ∃ k : Nat, ek = k := ⟨ek.toNat, by omega⟩
  obtain ⟨at_, rfl⟩ : ∃ k : Nat, at_ = k := ⟨at_.toNat, by omega⟩
  refine (does_x (e := ⟨eh, ea, ev, ek⟩) b0 kind ⟨by show eh < _; omega, by show ea < _; omega, by show ev < _; omega, by show ek < _; omega⟩ n mm h6).mono ?_
  rintro v h' ⟨hv, a, f⟩
  exact ⟨hv, a.mono fun b g => g.elim id fun g => Nat.le_trans hN g.1, f⟩
def plays (m : Nat) (n : Nat) (L : List Op) : List (List Ent) := L.foldl (stepO m) (List.replicate n [])
set_option maxHeartbeats 4000000 in
theorem played_x {h : Heap} {a : Option Addr} {c : Nat} {L : List Op} {n bits most : Int} (s : Sl eOp h a c L) (hl : L.length ≤ 9223372036854775807) (hok : ∀ o ∈ L, okOp o) :
    HC Try.prog 15 #[.agg #[.int .i64 n, .int .i64 bits, .int .i64 most, .slice a L.length c]] h fun v h' => Ext h h' ∧ (v = .tuple #[.pointer none, .bool true] ∨
      ∃ x W, v = .tuple #[ptr x 0, .bool true] ∧ Has W h' x most.toNat (plays most.toNat n.toNat L) ∧ ∀ b, W b → h.size ≤ b ∧ b < h'.size) := by
  refine f15_sh _ _ _ _ _ _ _ _ fun sv h1 lo1 lt1 x1 => (begin_c n bits most a L.length c h1).mono ?_
  rintro v h2 ⟨x2, hres⟩
  refine ⟨x2.kp _, ?_⟩
  have s1 := x1.size
  rcases hres with rfl | ⟨x, r, rfl, b2⟩
  · exact ⟨_, _, _, rfl, fun _ => ⟨x1.trans x2, .inl rfl⟩, fun g => by simp at g⟩
  refine ⟨_, _, _, rfl, fun g => by simp at g, fun _ => ⟨fun p i h3 => p = some ⟨x, 0, none⟩ ∧ ∃ (k : Nat), i = k ∧ k ≤ L.length ∧ Both h1.size h3 x r most.toNat (plays most.toNat n.toNat (L.take k)) ∧ Ext h1 h3, fun _ i _ => L.length - i.toNat, ⟨rfl, 0, rfl, Nat.zero_le _, b2, x2⟩, ?_⟩⟩
  rintro _ _ h3 ⟨rfl, k, rfl, hk, b3, x3⟩
  refine ⟨fun hlt => ?_, fun hge => ⟨x1.trans x3, .inr ?_⟩⟩
  · have hkl := lt_of_dec hlt
    obtain ⟨b, o, e, d⟩ := (s.ext (x1.trans x3)).at (List.getElem?_eq_getElem hkl)
    refine ⟨b, o, e, by omega, by omega, _, _, _, _, _, _, _, _, d.1, d.2.1, d.2.2.1, d.2.2.2.1, d.2.2.2.2.1, d.2.2.2.2.2.1, d.2.2.2.2.2.2.1, d.2.2.2.2.2.2.2.1, fun h5 x5 => ?_⟩
    refine (does_xo (both_ext b3 x5).1 (hok _ (List.getElem_mem hkl))).mono ?_
    rintro _ h6 ⟨rfl, b6, f6⟩
    refine ⟨true, rfl, fun g => (by cases g), fun _ => ?_⟩
    rw [wadd' k (by omega)]
    have hst : plays most.toNat n.toNat (L.take (k + 1)) = stepO most.toNat (plays most.toNat n.toNat (L.take k)) L[k] := by
      unfold plays
      rw [List.take_add_one, List.getElem?_eq_getElem hkl, List.foldl_append]; rfl
    refine ⟨⟨rfl, k + 1, rfl, hkl, by rw [hst]; exact b6, (((x3.trans x5).fr _).trans f6 fun _ _ g => g).ext fun b hb g => by omega⟩, by simp only [Int.toNat_natCast]; omega⟩
  · obtain ⟨W, V, hx, _, _, hw, _⟩ := b3
    have hkl : k = L.length := by have := ge_of_dec hge; omega
    rw [hkl, List.take_of_length_le (Nat.le_refl _)] at hx
    exact ⟨x, W, rfl, hx, fun b g => ⟨by have := hw b g; omega, hx.lt b g⟩⟩
end Ix
end Go.Proofs.Ytkecmljalcfhoaa
namespace Go.Proofs.Ytkecmljalcfhoaa
namespace Ix
open Go RH
def toldIs (r : Ans) (c1 c2 c3 c4 : Int) (c5 : Bool) (c6 c7 : Int) : Prop := c1 = r.a.h ∧ c2 = r.a.a ∧ c3 = r.a.v ∧ c4 = r.a.k ∧ c5 = r.i ∧ c6 = r.e ∧ c7 = r.n
set_option maxHeartbeats 16000000 in
theorem one_x {W : Nat → Prop} {h : Heap} {x m : Nat} {Ls : List (List Ent)} (hx : Has W h x m Ls) (k : Int) {e : Ent} (hw : e.wf) {at_ : Nat} (n q : Int) (hq : q ≤ 9223372036854775807) :
    HC Try.prog 12 #[ptr x 0, .agg #[.int .i64 k, .int .u64 e.h, .int .u64 e.a, .int .u64 e.v, .int .u8 e.k, .int .u64 at_, .int .i64 n, .int .i64 q]] h fun v h' => v = (tells m Ls k e at_ n q).v ∧ Aft W h x m (step m Ls k e at_ n q) h' := by
  have lw := hx.lt
  have hl := (hx.lens).1
  have nw : ∀ {o}, h.size ≤ o → ¬ W o := fun lo g => by have := lw _ g; omega
  refine f12_sh _ _ _ _ _ _ _ _ _ _ _ _ ⟨fun c1 c2 c3 c4 c5 c6 c7 pb t h4 => ∃ h3 h5, Ext h h3 ∧ Aft W h3 x m (step m Ls k e at_ n q) h5 ∧ Fr (fun b => b = t) h5 h4 ∧ (h.size ≤ pb ∧ pb < h3.size) ∧ (h.size ≤ t ∧ t < h3.size) ∧ toldIs (tells m Ls k e at_ n q) c1 c2 c3 c4 c5 c6 c7,
    ⟨fun g => ?_, fun g0 => ⟨fun g => ?_, fun g2 => ⟨fun g => ?_, fun g3 => ⟨fun g => ?_, fun g4 => ⟨fun g => ?_, fun g5 => ⟨fun g => ?_, fun g6 => ?_⟩⟩⟩⟩⟩⟩, ?_⟩
  · obtain rfl := eq_of_beq g
    rw [step_put hl, tells_hash (by decide)]
    intro o pb t h3 lo1 lt1 lo2 lt2 lo3 lt3 x3
    refine (put_l (hx.ext x3) hw).mono ?_
    rintro _ h5 ⟨rfl, a5⟩
    exact ⟨a5.1.kp (by simpa using ⟨nw lo1, nw lo2, nw lo3⟩), _, _, _, _, _, _, rfl, fun h6 f6 h7 f7 h8 f8 => ⟨h3, h5, x3, a5, (f6.trans f7 fun _ _ q => q).trans f8 fun _ _ q => q, ⟨lo2, lt2⟩, ⟨lo3, lt3⟩, rfl, rfl, rfl, rfl, rfl, rfl, rfl⟩⟩
  · obtain rfl := eq_of_beq g
    rw [step_del hl, tells_hash (by decide)]
    intro o pb t h3 lo1 lt1 lo2 lt2 lo3 lt3 x3
    refine (remove_l (hx.ext x3) hw.1).mono ?_
    rintro _ h5 ⟨rfl, a5⟩
    exact ⟨a5.1.kp (by simpa using ⟨nw lo1, nw lo2, nw lo3⟩), _, _, _, _, _, rfl, fun h6 f6 h7 f7 => ⟨h3, h5, x3, a5, f6.trans f7 fun _ _ q => q, ⟨lo2, lt2⟩, ⟨lo3, lt3⟩, rfl, rfl, rfl, rfl, rfl, rfl, rfl⟩⟩
  · obtain rfl := eq_of_beq g
    rw [step_delIf hl, tells_hash (by decide)]
    intro o pb t h3 lo1 lt1 lo2 lt2 lo3 lt3 x3
    refine (removeIf_l (hx.ext x3) hw.1).mono ?_
    rintro _ h5 ⟨rfl, a5⟩
    exact ⟨a5.1.kp (by simpa using ⟨nw lo1, nw lo2, nw lo3⟩), _, rfl, fun h6 f6 => ⟨h3, h5, x3, a5, f6, ⟨lo2, lt2⟩, ⟨lo3, lt3⟩, rfl, rfl, rfl, rfl, rfl, rfl, rfl⟩⟩
  · obtain rfl := eq_of_beq g
    rw [step_move hl, tells_hash (by decide)]
    intro o pb t h3 lo1 lt1 lo2 lt2 lo3 lt3 x3
    refine (move_l (hx.ext x3) hw.1 hw.2.1).mono ?_
    rintro _ h5 ⟨rfl, a5⟩
    exact ⟨a5.1.kp (by simpa using ⟨nw lo1, nw lo2, nw lo3⟩), _, rfl, fun h6 f6 => ⟨h3, h5, x3, a5, f6, ⟨lo2, lt2⟩, ⟨lo3, lt3⟩, rfl, rfl, rfl, rfl, rfl, rfl, rfl⟩⟩
  · obtain rfl := eq_of_beq g
    rw [step_hit hl, tells_hash (by decide)]
    intro o pb t h3 lo1 lt1 lo2 lt2 lo3 lt3 x3
    refine (hit_l (hx.ext x3) hw.1).mono ?_
    rintro _ h5 ⟨rfl, a5⟩
    exact ⟨a5.1.kp (by simpa using ⟨nw lo1, nw lo2, nw lo3⟩), _, rfl, fun h6 f6 => ⟨h3, h5, x3, a5, f6, ⟨lo2, lt2⟩, ⟨lo3, lt3⟩, rfl, rfl, rfl, rfl, rfl, rfl, rfl⟩⟩
  · obtain rfl := eq_of_beq g
    rw [step_purge, show tells m Ls 6 e at_ n q = ⟨z0, false, 0, ((mPurge (ent Ls n) q).1 : Int)⟩ from rfl]
    intro o pb t h3 lo1 lt1 lo2 lt2 lo3 lt3 x3
    refine (purge_l (hx.ext x3) n q hq).mono ?_
    rintro _ h5 ⟨rfl, a5⟩
    exact ⟨a5.1.kp (by simpa using ⟨nw lo1, nw lo2, nw lo3⟩), _, rfl, fun h6 f6 => ⟨h3, h5, x3, a5, f6, ⟨lo2, lt2⟩, ⟨lo3, lt3⟩, rfl, rfl, rfl, rfl, rfl, rfl, rfl⟩⟩
  · have n0 : k ≠ 0 := fun g => by simp [g] at g0
    have n2 : k ≠ 2 := fun g => by simp [g] at g2
    have n3 : k ≠ 3 := fun g => by simp [g] at g3
    have n4 : k ≠ 4 := fun g => by simp [g] at g4
    have n5 : k ≠ 5 := fun g => by simp [g] at g5
    have n6 : k ≠ 6 := fun g => by simp [g] at g6
    have ht : tells m Ls k e at_ n q = ⟨(mGet (str Ls e.h) e.h).1, (mGet (str Ls e.h) e.h).2, 0, 0⟩ := by
      rw [tells_hash n6]
      unfold act
      rw [if_neg n0, if_neg n2, if_neg n3, if_neg n4, if_neg n5, if_neg n6]
    rw [step_rest n0 n2 n3 n4 n5 n6, ht]
    intro pb t h3 lo2 lt2 lo3 lt3 x3
    refine (get_l (hx.ext x3) hw.1).mono ?_
    rintro _ h5 ⟨rfl, x5⟩
    exact ⟨x5.kp _, _, _, _, _, _, rfl, fun h6 f6 h7 f7 => ⟨h3, h5, x3, aft_ext (hx.ext x3) x5, f6.trans f7 fun _ _ q => q, ⟨lo2, lt2⟩, ⟨lo3, lt3⟩, rfl, rfl, rfl, rfl, rfl, rfl, rfl⟩⟩
  · rintro c1 c2 c3 c4 c5 c6 c7 pb t h4 ⟨h3, h5, x3, a5, f4, hp, ht, rfl, rfl, rfl, rfl, rfl, rfl, rfl⟩ _ _ _ _ h23 f23
    refine ⟨rfl, Aft.wrap (S := fun b => b = t ∨ b = pb) lw x3 a5 ((f4.mono fun _ _ q => .inl q).trans f23 fun _ _ q => .inr q) fun b q => ?_⟩
    rcases q with rfl | rfl
    · exact ht
    · exact hp
theorem one_xo {W : Nat → Prop} {h : Heap} {x m : Nat} {Ls : List (List Ent)} (hx : Has W h x m Ls) {o : Op} (ho : okOp o) :
    HC Try.prog 12 #[.pointer (some ⟨x, 0, none⟩), .agg #[.int .i64 o.kind, .int .u64 o.entry.h, .int .u64 o.entry.a, .int .u64 o.entry.v, .int .u8 o.entry.k, .int .u64 o.at_, .int .i64 o.n, .int .i64 o.m]] h fun v h' => v = (tellsO m Ls o).v ∧ Aft W h x m (stepO m Ls o) h' := by
  obtain ⟨kind, ⟨eh, ea, ev, ek⟩, at_, n, mm⟩ := o
  obtain ⟨h1, h2, h3, h4, h5, h6⟩ := ho
  simp only at h1 h2 h3 h4 h5 h6
  obtain ⟨eh, rfl⟩ : ∃ k : Nat, eh = k := ⟨eh.toNat, by omega⟩
  obtain ⟨ea, rfl⟩ : ∃ k : Nat, ea = k := ⟨ea.toNat, by omega⟩
  obtain ⟨ev, rfl⟩ : ∃ k : Nat, ev = k := ⟨ev.toNat, by omega⟩
  obtain ⟨ek, rfl⟩ : ∃ k : Nat, ek = k := ⟨ek.toNat, by omega⟩
  obtain ⟨at_, rfl⟩ : ∃ k : Nat, at_ = k := ⟨at_.toNat, by omega⟩
  exact one_x (e := ⟨eh, ea, ev, ek⟩) hx kind ⟨by show eh < _; omega, by show ea < _; omega, by show ev < _; omega, by show ek < _; omega⟩ n mm h6
end Ix
end Go.Proofs.Ytkecmljalcfhoaa
namespace Go.Proofs.Ytkecmljalcfhoaa
namespace Ix
open Go RH
structure PadW (Z : Nat → Prop) (h0 h : Heap) (lf : Nat) (M : List Ent) (a : Option Addr) (c : Nat) : Prop where
  rl : h[lf]? = some (.cells #[.slice a M.length c] 47 (0, 0))
  s : Sl eEnt h a c M
  w : Own eEnt.k 31 h0.size h a c
  x : Ext h0 h
  z : ¬ Z lf ∧ ∀ b, blkA a b → ¬ Z b
  lo : h0.size ≤ lf
def Pad (Z : Nat → Prop) (h0 h : Heap) (lf : Nat) (M : List Ent) : Prop := ∃ a c, PadW Z h0 h lf M a c
section
variable {Z : Nat → Prop} {h0 h : Heap} {lf : Nat} {M : List Ent}
theorem Pad.fr (d : Pad Z h0 h lf M) {h' : Heap} {S : Nat → Prop} (f : Fr S h h') (hs : ∀ b, S b → Z b) (hl : ∀ b, S b → h0.size ≤ b) : Pad Z h0 h' lf M := by
  obtain ⟨a, c, d⟩ := d
  exact ⟨a, c, f.row d.rl fun s => d.z.1 (hs _ s), d.s.fr f fun b hb s => d.z.2 b hb (hs _ s), d.w.fr f fun b hb s => d.z.2 b hb (hs _ s), ((d.x.fr S).trans f fun _ _ s => s).ext fun b hb s => by have := hl b s; omega, d.z, d.lo⟩
theorem Pad.ext (d : Pad Z h0 h lf M) {h' : Heap} (f : Ext h h') : Pad Z h0 h' lf M := d.fr (f.fr (fun _ => False)) (fun _ g => g.elim) (fun _ g => g.elim)
theorem Pad.z' (d : Pad Z h0 h lf M) {Z' : Nat → Prop} (hz : ∀ b, Z' b → h.size ≤ b) : Pad Z' h0 h lf M := by
  obtain ⟨a, c, d⟩ := d
  have h3 := row_lt d.rl
  have no : ∀ {b}, b < h.size → ¬ Z' b := fun hb g => by have := hz _ g; omega
  exact ⟨a, c, d.rl, d.s, d.w, d.x, ⟨no h3, fun b hb => no (d.w.low hb).2⟩, d.lo⟩
theorem PadW.swap {a : Option Addr} {c : Nat} (d : PadW Z h0 h lf M a c) {h1 : Heap} {a' : Option Addr} {c' n' : Nat} {M' : List Ent} (f1 : Fr (blkA a) h h1) (s1 : Sl eEnt h1 a' c' M') (w1 : Own eEnt.k 31 h0.size h1 a' c') (hb1 : ∀ b, blkA a' b → blkA a b ∨ h.size ≤ b)
    (hn : n' = M'.length) (hz : ∀ b, Z b → b < h.size) :
    HW h1 lf 0 ∧ ∀ h', h' = hset h1 lf 0 (.slice a' n' c') → Pad Z h0 h' lf M' ∧ Fr (fun b => ¬ Z b) h h' := by
  subst hn
  have typ : ¬ blkA a lf := fun hb => by
    rcases d.w with ⟨e1, _⟩ | ⟨b', o', cs, e1, _, r1, _⟩
    · rw [e1] at hb; exact blkA_none hb
    · rw [e1, blkA_some] at hb
      have hr := d.rl
      rw [hb] at hr; rw [r1] at hr; simp at hr
  have rl1 := f1.row d.rl typ
  refine ⟨HW_row rl1 (by simp), fun h' e => ?_⟩
  have f2 := fr_hset_of e
  have f : Fr (fun b => blkA a b ∨ b = lf) h h' := (f1.mono fun _ _ s => .inl s).trans f2 fun _ _ s => .inr s
  have n4 : ∀ b, blkA a' b → b ≠ lf := fun b hb k => by
    rcases w1 with ⟨e1, _⟩ | ⟨b', o', cs, e1, _, r1, _⟩
    · rw [e1] at hb; exact blkA_none hb
    · rw [e1, blkA_some] at hb; rw [hb] at k; rw [k, rl1] at r1; simp at r1
  refine ⟨⟨a', c', by rw [e, hset_row rl1]; rfl, s1.fr f2 n4, w1.fr f2 n4, ?_, ⟨d.z.1, fun b hb s => ?_⟩, d.lo⟩, f.mono fun b _ s => ?_⟩
  · refine ((d.x.fr _).trans f fun _ _ s => s).ext fun b hb s => ?_
    have hlo := d.lo
    rcases s with s | s
    · have := (d.w.low s).1; omega
    · omega
  · rcases hb1 b hb with s' | s'
    · exact d.z.2 b s' s
    · have := hz b s; omega
  · rcases s with s | s
    · exact d.z.2 b s
    · rw [s]; exact d.z.1
end
end Ix
end Go.Proofs.Ytkecmljalcfhoaa
namespace Go.Proofs.Ytkecmljalcfhoaa
namespace Ix
open Go RH
def tL (r : Ans) : List Value := [.int .u64 r.a.h, .int .u64 r.a.a, .int .u64 r.a.v, .int .u8 r.a.k, .int .u64 0, .int .u64 0, .int .u64 0, .int .u8 0, .bool r.i, .bool false, .int .i64 r.e, .int .i64 0, .int .i64 r.n]
def tRow (r : Ans) : Obj := .cells #[.int .u64 r.a.h, .int .u64 r.a.a, .int .u64 r.a.v, .int .u8 r.a.k, .int .u64 0, .int .u64 0, .int .u64 0, .int .u8 0, .bool r.i, .bool false, .int .i64 r.e, .int .i64 0, .int .i64 r.n] 38 (0, 0)
def noAns : Ans := ⟨z0, false, 0, 0⟩
structure Cor (h0 : Heap) (x y m : Nat) (kp : List (Nat × Obj)) (Wx Wy : Nat → Prop) (Lx Ly : List (List Ent)) (h : Heap) : Prop where
  hx : Has Wx h x m Lx
  hy : Has Wy h y m Ly
  dj : ∀ b, Wx b → ¬ Wy b
  lx : ∀ b, Wx b → h0.size ≤ b
  ly : ∀ b, Wy b → h0.size ≤ b
  kr : ∀ e ∈ kp, h[e.1]? = some e.2 ∧ h0.size ≤ e.1 ∧ ¬ Wx e.1 ∧ ¬ Wy e.1
  nd : (kp.map Prod.fst).Nodup
  x0 : Ext h0 h
section
variable {h0 h : Heap} {x y m : Nat} {kp : List (Nat × Obj)} {Wx Wy : Nat → Prop} {Lx Ly : List (List Ent)}
theorem Cor.symm (c : Cor h0 x y m kp Wx Wy Lx Ly h) : Cor h0 y x m kp Wy Wx Ly Lx h :=
  ⟨c.hy, c.hx, fun b g q => c.dj b q g, c.ly, c.lx, fun e he => let ⟨k1, k2, k3, k4⟩ := c.kr e he; ⟨k1, k2, k4, k3⟩, c.nd, c.x0⟩
theorem Cor.perm (c : Cor h0 x y m kp Wx Wy Lx Ly h) {kp' : List (Nat × Obj)} (p : kp.Perm kp') : Cor h0 x y m kp' Wx Wy Lx Ly h :=
  ⟨c.hx, c.hy, c.dj, c.lx, c.ly, fun e he => c.kr e (p.mem_iff.2 he), (p.map Prod.fst).nodup_iff.1 c.nd, c.x0⟩
theorem Cor.ext (c : Cor h0 x y m kp Wx Wy Lx Ly h) {h' : Heap} (e : Ext h h') : Cor h0 x y m kp Wx Wy Lx Ly h' :=
  ⟨c.hx.ext e, c.hy.ext e, c.dj, c.lx, c.ly, fun q hq => let ⟨k1, k2, k3, k4⟩ := c.kr q hq; ⟨e.row k1, k2, k3, k4⟩, c.nd, c.x0.trans e⟩
theorem Cor.new (c : Cor h0 x y m kp Wx Wy Lx Ly h) {o : Obj} {a : Nat} {h' : Heap} (ea : a = h.size) (e : h' = h.push o) : Cor h0 x y m ((a, o) :: kp) Wx Wy Lx Ly h' := by
  have x1 : Ext h h' := by rw [e]; exact Ext.push _ _
  have c1 := c.ext x1
  have lo := c.x0.size
  refine ⟨c1.hx, c1.hy, c1.dj, c1.lx, c1.ly, fun q hq => ?_, ?_, c1.x0⟩
  · rcases List.mem_cons.1 hq with rfl | hq
    · refine ⟨by rw [e]; exact push_new ea, by omega, fun g => ?_, fun g => ?_⟩
      · have := c.hx.lt _ g; omega
      · have := c.hy.lt _ g; omega
    · exact c1.kr q hq
  · rw [List.map_cons, List.nodup_cons]
    refine ⟨fun g => ?_, c.nd⟩
    obtain ⟨q, hq, eq⟩ := List.mem_map.1 g
    have := row_lt (c.kr q hq).1
    have e2 : q.1 = a := eq
    omega
theorem Cor.al (c : Cor h0 x y m kp Wx Wy Lx Ly h) {Q : Nat → Heap → Prop} (k : ∀ a h', Cor h0 x y m ((a, tRow noAns) :: kp) Wx Wy Lx Ly h' → Q a h') : ∀ a h', a = Array.size h → h' = Array.push h (tRow noAns) → Q a h' :=
  fun a h' ea e => k a h' (c.new ea e)
theorem Cor.turn (c : Cor h0 x y m kp Wx Wy Lx Ly h) {L' : List (List Ent)} {h' : Heap} (a : Aft Wx h x m L' h') : Cor h0 x y m kp (grown Wx h h') Wy L' Ly h' := by
  obtain ⟨f, hx'⟩ := a
  have lo := c.x0.size
  refine ⟨hx', c.hy.fr f fun b g q => c.dj b q g, fun b g q => ?_, fun b g => ?_, c.ly, fun e he => ?_, c.nd, ((c.x0.fr _).trans f fun _ _ s => s).ext fun b hb s => by have := c.lx b s; omega⟩
  · rcases g with g | g
    · exact c.dj b g q
    · have := c.hy.lt _ q; omega
  · rcases g with g | g
    · exact c.lx b g
    · omega
  · obtain ⟨k1, k2, k3, k4⟩ := c.kr e he
    refine ⟨f.row k1 k3, k2, fun g => ?_, k4⟩
    have := row_lt k1
    rcases g with g | g
    · exact k3 g
    · omega
theorem Cor.one (c : Cor h0 x y m kp Wx Wy Lx Ly h) {o : Op} (ho : okOp o) {Q : Value → Heap → Prop} (k : ∀ h', Fr Wx h h' → Cor h0 x y m kp (grown Wx h h') Wy (stepO m Lx o) Ly h' → Q (tellsO m Lx o).v h') :
    HC Try.prog 12 #[.pointer (some ⟨x, 0, none⟩), .agg #[.int .i64 o.kind, .int .u64 o.entry.h, .int .u64 o.entry.a, .int .u64 o.entry.v, .int .u8 o.entry.k, .int .u64 o.at_, .int .i64 o.n, .int .i64 o.m]] h Q := by
  refine (one_xo c.hx ho).mono ?_
  rintro _ h' ⟨rfl, a⟩
  exact k h' a.1 (c.turn a)
theorem Cor.wr (c : Cor h0 x y m kp Wx Wy Lx Ly h) {a : Nat} {r : Ans} {k1 k2 : List (Nat × Obj)} (ek : kp = k1 ++ (a, tRow r) :: k2) (r' : Ans) : HWs h a 0 13 ∧ ∀ h', h' = hsets h a 0 (tL r') → Cor h0 x y m (k1 ++ (a, tRow r') :: k2) Wx Wy Lx Ly h' := by
  subst ek
  obtain ⟨g1, g2, g3, g4⟩ := c.kr (a, tRow r) (by simp)
  have g1' : h[a]? = some (tRow r) := g1
  unfold tRow at g1'
  refine ⟨HWs_row g1' (by simp), fun h' e => ?_⟩
  have f : Fr (fun b => b = a) h h' := fr_hsets_of e
  have hrow : h'[a]? = some (tRow r') := by rw [e, hsets_row _ g1']; simp [sets, tL, tRow]
  have hk : ∀ q ∈ k1 ++ k2, q.1 ≠ a := fun q hq e2 => by
    have hn := c.nd
    rw [List.map_append, List.map_cons] at hn
    have hp := (List.perm_middle (a := (a, tRow r).1) (l₁ := k1.map Prod.fst) (l₂ := k2.map Prod.fst)).nodup_iff.1 hn
    rw [List.nodup_cons] at hp
    refine hp.1 ?_
    rw [← List.map_append]
    exact List.mem_map.2 ⟨q, hq, e2⟩
  refine ⟨c.hx.fr f fun b g s => g3 (by rw [← s]; exact g), c.hy.fr f fun b g s => g4 (by rw [← s]; exact g), c.dj, c.lx, c.ly, fun q hq => ?_, ?_, ext_of_fr f c.x0 g2⟩
  · rcases List.mem_append.1 hq with q1 | q1
    · obtain ⟨p1, p2⟩ := c.kr q (by simp [q1])
      exact ⟨f.row p1 (hk q (by simp [q1])), p2⟩
    · rcases List.mem_cons.1 q1 with rfl | q2
      · exact ⟨hrow, g2, g3, g4⟩
      · obtain ⟨p1, p2⟩ := c.kr q (by simp [q2])
        exact ⟨f.row p1 (hk q (by simp [q2])), p2⟩
  · have hn := c.nd
    rw [List.map_append, List.map_cons] at hn ⊢
    exact hn
def Fin (h0 : Heap) (x y m : Nat) (kp : List (Nat × Obj)) (ra rb : Ans) (Lx Ly : List (List Ent)) (a ao b bo : Nat) (h : Heap) : Prop :=
  ao = 0 ∧ bo = 0 ∧ ∃ Wx Wy, Cor h0 x y m ((a, tRow ra) :: (b, tRow rb) :: kp) Wx Wy Lx Ly h
theorem Cor.ab {a b : Nat} (c : Cor h0 x y m ((b, tRow noAns) :: (a, tRow noAns) :: kp) Wx Wy Lx Ly h) {ra rb : Ans} :
    HWs h a 0 13 ∧ ∀ h1, h1 = hsets h a 0 (tL ra) → (HWs h1 b 0 13 ∧ ∀ h2, h2 = hsets h1 b 0 (tL rb) → Fin h0 x y m kp ra rb Lx Ly a 0 b 0 h2) := by
  obtain ⟨w1, k1⟩ := c.wr (k1 := [(b, tRow noAns)]) (k2 := kp) rfl ra
  refine ⟨w1, fun h1 e1 => ?_⟩
  obtain ⟨w2, k2⟩ := (k1 h1 e1).wr (k1 := []) rfl rb
  exact ⟨w2, fun h2 e2 => ⟨rfl, rfl, Wx, Wy, (k2 h2 e2).perm (List.Perm.swap ..)⟩⟩
theorem Cor.ba {a b : Nat} (c : Cor h0 x y m ((a, tRow noAns) :: (b, tRow noAns) :: kp) Wx Wy Lx Ly h) {ra rb : Ans} :
    HWs h a 0 13 ∧ ∀ h1, h1 = hsets h a 0 (tL ra) → (HWs h1 b 0 13 ∧ ∀ h2, h2 = hsets h1 b 0 (tL rb) → Fin h0 x y m kp ra rb Lx Ly a 0 b 0 h2) :=
  (c.perm (List.Perm.swap ..)).ab
end
theorem told_read {h : Heap} {a : Nat} {r : Ans} (hr : h[a]? = some (tRow r)) {Q : Int → Int → Int → Int → Int → Int → Int → Int → Bool → Bool → Int → Int → Int → Prop} (q : Q r.a.h r.a.a r.a.v r.a.k 0 0 0 0 r.i false r.e 0 r.n) :
    ∃ c0 c1 c2 c3 c4 c5 c6 c7 : Int, ∃ c8 c9 : Bool, ∃ c10 c11 c12 : Int, hcell h a 0 = some (.int .u64 c0) ∧ hcell h a (0 + 1) = some (.int .u64 c1) ∧ hcell h a (0 + 2) = some (.int .u64 c2) ∧ hcell h a (0 + 3) = some (.int .u8 c3) ∧
      hcell h a (0 + 4) = some (.int .u64 c4) ∧ hcell h a (0 + 5) = some (.int .u64 c5) ∧ hcell h a (0 + 6) = some (.int .u64 c6) ∧ hcell h a (0 + 7) = some (.int .u8 c7) ∧ hcell h a (0 + 8) = some (.bool c8) ∧ hcell h a (0 + 9) = some (.bool c9) ∧
      hcell h a (0 + 10) = some (.int .i64 c10) ∧ hcell h a (0 + 11) = some (.int .i64 c11) ∧ hcell h a (0 + 12) = some (.int .i64 c12) ∧ Q c0 c1 c2 c3 c4 c5 c6 c7 c8 c9 c10 c11 c12 := by
  unfold tRow at hr
  exact ⟨_, _, _, _, _, _, _, _, _, _, _, _, _, by rw [hcell_row hr]; rfl, by rw [hcell_row hr]; rfl, by rw [hcell_row hr]; rfl, by rw [hcell_row hr]; rfl, by rw [hcell_row hr]; rfl, by rw [hcell_row hr]; rfl, by rw [hcell_row hr]; rfl, by rw [hcell_row hr]; rfl, by rw [hcell_row hr]; rfl, by rw [hcell_row hr]; rfl, by rw [hcell_row hr]; rfl, by rw [hcell_row hr]; rfl, by rw [hcell_row hr]; rfl, q⟩
end Ix
end Go.Proofs.Ytkecmljalcfhoaa
namespace Go.Proofs.Ytkecmljalcfhoaa
open Go
def partV (P : Program) (t : TypeId) (cs : Array Value) (off : Nat) : Option Value :=
  match aggB P t with
  | some true => match szB P t with | some n => some (.agg (cs.extract off (off + n))) | none => none
  | some false => cs[off]?
  | none => none
mutual
def eqD (P : Program) : Nat → TypeId → Value → Value → Option Bool
  | 0, _, _, _ => none
  | n + 1, t, x, y => match P.underlying t, x, y with
    | some (.struct fs), .agg xs, .agg ys => if P.stoodInHeld t then none else eqDs P n fs.toList xs ys
    | _, x, y => if fitsV P t x then eqV x y else none
def eqDs (P : Program) : Nat → List Field → Array Value → Array Value → Option Bool
  | 0, _, _, _ => none
  | _ + 1, [], _, _ => some true
  | n + 1, f :: fs, xs, ys => if f.name == "_" then none else
    match partV P f.type xs f.offset, partV P f.type ys f.offset with
    | some x, some y => match eqD P n f.type x y, eqDs P n fs xs ys with
      | some b, some r => some (b && r)
      | _, _ => none
    | _, _ => none
end
theorem run_partV {P : Program} {t : TypeId} {cs : Array Value} {off : Nat} {v : Value} (w : World) (h : partV P t cs off = some v) : (part t cs off).run P w = .ok v w := by
  unfold partV at h
  split at h
  · rename_i ha
    split at h
    · rename_i n hn
      cases h
      simp only [part, Sem.run_bind, run_isAgg ha, Result.andThen_ok, if_true, run_sizeOf hn, Sem.run_pure]
    · cases h
  · rename_i ha
    simp only [part, Sem.run_bind, run_isAgg ha, Result.andThen_ok, Bool.false_eq_true, if_false, h, Sem.run_pure]
  · cases h
mutual
theorem run_eqD {P : Program} (w : World) : ∀ (n dp : Nat) (t : TypeId) (x y : Value) (b : Bool), n ≤ dp → eqD P n t x y = some b → (Op.equalIn dp t x y).run P w = .ok b w
  | 0, _, _, _, _, _, _, h => by simp [eqD] at h
  | n + 1, dp, t, x, y, b, hd, h => by
    obtain ⟨e, rfl⟩ : ∃ e, dp = e + 1 := ⟨dp - 1, by omega⟩
    unfold eqD at h
    split at h
    · rename_i fs xs ys hu
      split at h
      · cases h
      · rename_i hc
        have hf : P.fieldsOf t = fs := by unfold Program.fieldsOf; rw [hu]
        rw [run_equalIn_struct w e t xs ys (by rw [hf]; exact hu) (by simpa using hc), hf]
        exact run_eqDs w n e fs.toList xs ys b (by omega) h
    · split at h
      · rename_i hf
        exact run_eqOne e w hf h
      · cases h
theorem run_eqDs {P : Program} (w : World) : ∀ (n dp : Nat) (fs : List Field) (xs ys : Array Value) (b : Bool), n ≤ dp → eqDs P n fs xs ys = some b → (Op.eqFields dp xs ys fs).run P w = .ok b w
  | 0, _, _, _, _, _, _, h => by simp [eqDs] at h
  | n + 1, dp, [], xs, ys, b, _, h => by simp [eqDs] at h; subst h; simp [Op.eqFields, go_sem]
  | n + 1, dp, f :: fs, xs, ys, b, hd, h => by
    unfold eqDs at h
    split at h
    · cases h
    rename_i hn
    have hn' : f.name ≠ "_" := by simpa using hn
    split at h <;> try cases h
    rename_i x y hx hy
    split at h <;> try cases h
    rename_i b1 r h1 h2
    have e1 := run_eqD (P := P) w n dp f.type x y b1 (by omega) h1
    have e2 := run_eqDs (P := P) w n dp fs xs ys r (by omega) h2
    simp only [Op.eqFields, ne_eq, hn', not_false_eq_true, if_true, Sem.run_bind, run_partV w hx, run_partV w hy, Result.andThen_ok, e1]
    cases b1
    · simp [go_sem]
    · simp [e2]
end
theorem hv_structEqD {P : Program} {ρ : Regs} {h : Heap} {d : Option Nat} {ty : TypeId} {p : String} {af : Array Edge} {g : Option (Nat × Bool)} {op : BinOp} {t t' : TypeId} {x y : Operand} {xs ys : List Value} {b : Bool} {v : Value} (hg : P.eqGuardType P.depth t = false) (hx : ev ρ x = .agg xs.toArray) (hy : ev ρ y = .agg ys.toArray)
    (he : eqD P 20 t (.agg xs.toArray) (.agg ys.toArray) = some b) (hv : (match op with | .eql => some (Value.bool b) | .neq => some (Value.bool !b) | _ => none) = some v) : HVal P ρ ⟨d, .binOp op t x y t', ty, p, af, g⟩ h v :=
  hv_of fun w _ => by
    have hrun := run_eqD (P := P) w 20 10000 t _ _ b (by omega) he
    have hgd := run_eqGuard_agg (P := P) w op t x y xs.toArray ys.toArray hg
    cases op <;> simp only [Option.some.injEq, reduceCtorEq] at hv
    · have h1 := run_eql_struct (P := P) w t xs.toArray ys.toArray
      rw [hrun] at h1
      simp only [execOp, hx, hy, Sem.run_bind, hgd, Result.andThen_ok, h1, Sem.run_pure, hv]
    · have h1 := run_neq_struct (P := P) w t xs.toArray ys.toArray
      rw [hrun] at h1
      simp only [execOp, hx, hy, Sem.run_bind, hgd, Result.andThen_ok, h1, Sem.run_pure, hv]
end Go.Proofs.Ytkecmljalcfhoaa
namespace Go.Proofs.Ytkecmljalcfhoaa
open Go
inductive PT where
  | done
  | one (i : Nat) (t : PT)
  | fork (is : List Nat) (t : Nat → PT)
def treeB (ops : Array Oper) (anc : List Nat) (ks : List Kd) : Nat → PT → Array Bool → Bool
  | _, .done, l => (Region.ready .any ops l).isEmpty
  | f + 1, .one i t, l => stepB ops anc ks i l && treeB ops anc ks f t (l.setIfInBounds i true)
  | f + 1, .fork is t, l => !is.isEmpty && (Region.ready .any ops l == is) && is.all fun i => treeB ops anc ks f (t i) (l.setIfInBounds i true)
  | 0, _, _ => false
def HOne (P : Program) (ops : Array Oper) (ks : List Kd) (T : Heap → Heap → Prop) (C : Regs → Heap → Prop) (i : Nat) (ρ : Regs) (h : Heap) : Prop :=
  match ops[i]? with
  | none => False
  | some o => if Region.wanted o (yl ops ρ) then (match kdOf ks i with
      | .pure => ∃ v, (∀ h', HVal P ρ o h' v) ∧ C (updo ρ o.dst v) h
      | .read => ∃ v, (∀ h', Ext h h' → HVal P ρ o h' v) ∧ C (updo ρ o.dst v) h
      | .stay => ∃ v, (∀ h', T h h' → HVal P ρ o h' v) ∧ C (updo ρ o.dst v) h
      | k => HStep P ρ o h fun v h' => k.ok T h h' ∧ C (updo ρ o.dst v) h')
    else C (updo ρ o.dst undef) h
def HTree (P : Program) (ops : Array Oper) (ks : List Kd) (T : Heap → Heap → Prop) (Q : Regs → Heap → Prop) : PT → Regs → Heap → Prop
  | .done, ρ, h => Q ρ h
  | .one i t, ρ, h => HOne P ops ks T (HTree P ops ks T Q t) i ρ h
  | .fork is t, ρ, h => ∀ i ∈ is, HOne P ops ks T (HTree P ops ks T Q (t i)) i ρ h
theorem hOp_of_one {P : Program} {ops : Array Oper} {ks : List Kd} {T : Heap → Heap → Prop} (hT : Fit T) {C : Regs → Heap → Prop} {i : Nat} {ρ : Regs} {h : Heap} (hp : HOne P ops ks T C i ρ h) : hOp P ops (fun i => (kdOf ks i).ok T) i C ρ h := by
  unfold HOne at hp
  unfold hOp
  cases ho : ops[i]? with
  | none => rw [ho] at hp; exact hp.elim
  | some o =>
    simp only [ho] at hp
    simp only
    by_cases hw : Region.wanted o (yl ops ρ) = true
    · rw [if_pos hw] at hp ⊢
      cases hk : kdOf ks i with
      | pure => simp only [hk] at hp; obtain ⟨v, hv, hn⟩ := hp; exact HStep.of_val (hv h) ⟨rfl, hn⟩
      | read => simp only [hk] at hp; obtain ⟨v, hv, hn⟩ := hp; exact HStep.of_val (hv h (Ext.refl h)) ⟨rfl, hn⟩
      | stay => simp only [hk] at hp; obtain ⟨v, hv, hn⟩ := hp; exact HStep.of_val (hv h (hT.refl h)) ⟨rfl, hn⟩
      | ext => simp only [hk] at hp; exact hp
      | tame => simp only [hk] at hp; exact hp
      | wild => simp only [hk] at hp; exact hp
    · rw [if_neg hw] at hp ⊢
      exact hp
theorem hAny_step {P : Program} {ops : Array Oper} {ks : List Kd} {T : Heap → Heap → Prop} {Q : Regs → Heap → Prop} (hT : Fit T) (hs : Region.noSelect ops = true) {f i : Nat} {l : Array Bool} {ρ : Regs} {h : Heap} {C : Regs → Heap → Prop}
    (hc : Shut ops l) (hB1 : stepB ops (ancs ops.toList []) ks i l = true) (hC : i ∈ Region.ready .any ops l → ∀ ρ h, C ρ h → HAny P ops (fun i => (kdOf ks i).ok T) Q f (l.setIfInBounds i true) ρ h) (hp : HOne P ops ks T C i ρ h) :
    HAny P ops (fun i => (kdOf ks i).ok T) Q (f + 1) l ρ h := by
  have hp0 := hp
  unfold HOne at hp
  cases ho : ops[i]? with
  | none => rw [ho] at hp; exact hp.elim
  | some o =>
    simp only [ho] at hp
    have first : ∀ (U : Heap → Heap → Prop) (v : Value), (∀ h, U h h) → (∀ a b c, U a b → U b c → U a c) → (Region.ready .any ops l).contains i = true → Region.free .any ops l i = true →
        (∀ j, l.getD j true = false → ¬ Desc ops i j → ∀ h h', (kdOf ks j).ok T h h' → U h h') →
        Yl P ops o v (fun h' => U h h') ρ → C (updo ρ o.dst v) h → HAny P ops (fun i => (kdOf ks i).ok T) Q (f + 1) l ρ h := by
      intro U v hUr hUt hr hf hw hy hn
      have hr' : i ∈ Region.ready .any ops l := by simpa using hr
      exact hAny_first ho (Region.noSelect_spec hs) (fun i h => Kd.ok_refl hT _ h) U hUr hUt f l ρ h hc (Region.free_spec ho hf) hw hr' hy (hC hr' _ _ hn)
    have uP : ∀ v, (Region.ready .any ops l).contains i = true → Region.free .any ops l i = true → Yl P ops o v (fun _ => True) ρ → C (updo ρ o.dst v) h → HAny P ops (fun i => (kdOf ks i).ok T) Q (f + 1) l ρ h :=
      fun v hr hf hy hn => first (fun _ _ => True) v (fun _ => trivial) (fun _ _ _ _ _ => trivial) hr hf (fun _ _ _ _ _ _ => trivial) hy hn
    have uR : ∀ v, (Region.ready .any ops l).contains i = true → Region.free .any ops l i = true → aheadB (fun k => k == .wild || k == .tame) (ancs ops.toList []) ks i l = true → Yl P ops o v (fun h' => Ext h h') ρ → C (updo ρ o.dst v) h → HAny P ops (fun i => (kdOf ks i).ok T) Q (f + 1) l ρ h := by
      intro v hr hf hb hy hn
      refine first Ext v Ext.refl (fun _ _ _ => Ext.trans) hr hf (fun j hun hd h h' hk => ?_) hy hn
      have := aheadB_spec (by rfl) hb hun hd
      exact Kd.ok_ext (fun e => by rw [e] at this; simp at this) (fun e => by rw [e] at this; simp at this) hk
    have uS : ∀ v, (Region.ready .any ops l).contains i = true → Region.free .any ops l i = true → aheadB (fun k => k == .wild) (ancs ops.toList []) ks i l = true → Yl P ops o v (fun h' => T h h') ρ → C (updo ρ o.dst v) h → HAny P ops (fun i => (kdOf ks i).ok T) Q (f + 1) l ρ h := by
      intro v hr hf hb hy hn
      refine first T v hT.refl hT.trans hr hf (fun j hun hd h h' hk => ?_) hy hn
      have := aheadB_spec (by rfl) hb hun hd
      exact Kd.ok_T hT (fun e => by rw [e] at this; simp at this) hk
    have lone : ∀ (_hr : Region.ready .any ops l = [i]), HAny P ops (fun i => (kdOf ks i).ok T) Q (f + 1) l ρ h := by
      intro hr
      refine ⟨fun h => (by rw [hr] at h; cases h), fun j hj => ?_⟩
      rw [hr] at hj
      obtain rfl : j = i := by simpa using hj
      exact hOp_mono (hC (by rw [hr]; simp)) (hOp_of_one hT hp0)
    unfold stepB at hB1
    by_cases hw : Region.wanted o (yl ops ρ) = true
    · simp only [hw, if_true] at hp
      cases hk : kdOf ks i with
      | pure =>
        simp only [hk, Bool.and_eq_true] at hB1 hp
        obtain ⟨v, hv, hn⟩ := hp
        exact uP v hB1.1 hB1.2 (.inl ⟨hw, fun h' _ => hv h'⟩) hn
      | read =>
        simp only [hk, Bool.and_eq_true] at hB1 hp
        obtain ⟨v, hv, hn⟩ := hp
        exact uR v hB1.1.1 hB1.1.2 hB1.2 (.inl ⟨hw, fun h' hh' => hv h' hh'⟩) hn
      | stay =>
        simp only [hk, Bool.and_eq_true] at hB1 hp
        obtain ⟨v, hv, hn⟩ := hp
        exact uS v hB1.1.1 hB1.1.2 hB1.2 (.inl ⟨hw, fun h' hh' => hv h' hh'⟩) hn
      | ext => simp only [hk, beq_iff_eq] at hB1; exact lone hB1
      | tame => simp only [hk, beq_iff_eq] at hB1; exact lone hB1
      | wild => simp only [hk, beq_iff_eq] at hB1; exact lone hB1
    · have hw' : Region.wanted o (yl ops ρ) = false := by simpa using hw
      simp only [hw', Bool.false_eq_true, if_false] at hp
      cases hk : kdOf ks i with
      | pure =>
        simp only [hk, Bool.and_eq_true] at hB1
        exact uP undef hB1.1 hB1.2 (.inr ⟨hw', rfl⟩) hp
      | read =>
        simp only [hk, Bool.and_eq_true] at hB1
        exact uR undef hB1.1.1 hB1.1.2 hB1.2 (.inr ⟨hw', rfl⟩) hp
      | stay =>
        simp only [hk, Bool.and_eq_true] at hB1
        exact uS undef hB1.1.1 hB1.1.2 hB1.2 (.inr ⟨hw', rfl⟩) hp
      | ext => simp only [hk, beq_iff_eq] at hB1; exact lone hB1
      | tame => simp only [hk, beq_iff_eq] at hB1; exact lone hB1
      | wild => simp only [hk, beq_iff_eq] at hB1; exact lone hB1
theorem hAny_of_tree {P : Program} {ops : Array Oper} {ks : List Kd} {T : Heap → Heap → Prop} {Q : Regs → Heap → Prop} (hT : Fit T) (hs : Region.noSelect ops = true) :
    ∀ (t : PT) (f : Nat) (l : Array Bool) (ρ : Regs) (h : Heap), Shut ops l → treeB ops (ancs ops.toList []) ks f t l = true → HTree P ops ks T Q t ρ h → HAny P ops (fun i => (kdOf ks i).ok T) Q f l ρ h := by
  intro t
  induction t with
  | done =>
    intro f l ρ h hc hB hp
    have hr : Region.ready .any ops l = [] := by cases f <;> simpa [treeB] using hB
    cases f with
    | zero => exact ⟨hr, hp⟩
    | succ f => exact ⟨fun _ => hp, fun i hi => by rw [hr] at hi; cases hi⟩
  | one i t ih =>
    intro f l ρ h hc hB hp
    cases f with
    | zero => simp [treeB] at hB
    | succ f =>
      simp only [treeB, Bool.and_eq_true] at hB
      exact hAny_step hT hs hc hB.1 (fun hi ρ' h' hn => ih f _ ρ' h' (hc.set hi) hB.2 hn) hp
  | fork is t ih =>
    intro f l ρ h hc hB hp
    cases f with
    | zero => simp [treeB] at hB
    | succ f =>
      simp only [treeB, Bool.and_eq_true, beq_iff_eq, List.all_eq_true] at hB
      obtain ⟨⟨hne, hB⟩, hall⟩ := hB
      replace hB := And.intro hB hall
      cases his : is with
      | nil =>
        rw [his] at hne; simp at hne
      | cons i0 is' =>
        refine ⟨fun hr => (by rw [hB.1, his] at hr; cases hr), fun i hi => ?_⟩
        have hi' := hi
        rw [hB.1] at hi'
        exact hOp_mono (fun ρ' h' hn => ih i f _ ρ' h' (hc.set hi) (hB.2 i hi') hn) (hOp_of_one hT (hp i hi'))
def regT (n : Nat) (ops : Array Oper) (ks : List Kd) (t : PT) : Bool :=
  Region.noSelect ops && ops.all (dstB n) && treeB ops (ancs ops.toList []) ks ops.size t (Array.replicate ops.size false)
theorem hx_tree {m : Mo} {P : Program} {n : Nat} {Q : Exit → Regs → Heap → Prop} {ρ : Regs} {h : Heap} {id : Nat} {l : List Oper} (hmix : P.follows .mixedOrders = true) (T : Heap → Heap → Prop) (hT : Fit T) (ks : List Kd) (t : PT)
    (hB : regT n l.toArray ks t = true) (hp : HTree P l.toArray ks T (Q .normal) t ρ h) : HX m P n (.region id l.toArray true) Q ρ h := by
  intro N a w s hm hw
  simp only [regT, Bool.and_eq_true] at hB
  obtain ⟨⟨h1, h2⟩, h4⟩ := hB
  have hd : ∀ (i : Nat) (o : Oper), (l.toArray)[i]? = some o → dstB n o = true := fun i o ho => Array.all_eq_true_iff_forall_mem.1 h2 o (Array.mem_of_getElem? ho)
  refine wpIn_mono (wpIn_region_any hmix (wpAny_of_hAny (kd := fun i => (kdOf ks i).ok T) (Q := Q .normal) (w0 := w) hd _ _ ρ h a _ s hm hw ⟨rfl, rfl, rfl, Nat.le_succ _, HG.refl _⟩ ?_)) fun _ _ _ ⟨he, g1, ρ', g2, g3, g4⟩ => ⟨g1, ρ', g2, g3, by rw [he]; exact g4⟩
  refine hAny_of_tree hT h1 t _ _ ρ h (fun j o _ hl => ?_) h4 hp
  have : (Array.replicate l.toArray.size false).getD j false = false := by
    rcases Nat.lt_or_ge j l.toArray.size with h | h <;> simp [Array.getD, h]
  rw [this] at hl; cases hl
section
variable {P : Program} {ops : Array Oper} {ks : List Kd} {T : Heap → Heap → Prop} {Q : Regs → Heap → Prop} {i : Nat} {t : PT} {ρ : Regs} {h : Heap} {o : Oper}
theorem ht_done (hq : Q ρ h) : HTree P ops ks T Q .done ρ h := hq
theorem ho_pure {C : Regs → Heap → Prop} (ho : ops[i]? = some o) (hw : Region.wanted o (yl ops ρ) = true) (hk : kdOf ks i = .pure) (v : Value) (hv : ∀ h', HVal P ρ o h' v) (hn : C (updo ρ o.dst v) h) : HOne P ops ks T C i ρ h := by
  simp only [HOne, ho, hw, if_true, hk]; exact ⟨v, hv, hn⟩
theorem ho_read {C : Regs → Heap → Prop} (ho : ops[i]? = some o) (hw : Region.wanted o (yl ops ρ) = true) (hk : kdOf ks i = .read) (v : Value) (hv : ∀ h', Ext h h' → HVal P ρ o h' v) (hn : C (updo ρ o.dst v) h) : HOne P ops ks T C i ρ h := by
  simp only [HOne, ho, hw, if_true, hk]; exact ⟨v, hv, hn⟩
theorem ho_stay {C : Regs → Heap → Prop} (ho : ops[i]? = some o) (hw : Region.wanted o (yl ops ρ) = true) (hk : kdOf ks i = .stay) (v : Value) (hv : ∀ h', T h h' → HVal P ρ o h' v) (hn : C (updo ρ o.dst v) h) : HOne P ops ks T C i ρ h := by
  simp only [HOne, ho, hw, if_true, hk]; exact ⟨v, hv, hn⟩
theorem ho_tame {C : Regs → Heap → Prop} (ho : ops[i]? = some o) (hw : Region.wanted o (yl ops ρ) = true) (hk : kdOf ks i = .tame) (hs : HStep P ρ o h fun v h' => T h h' ∧ C (updo ρ o.dst v) h') : HOne P ops ks T C i ρ h := by
  simp only [HOne, ho, hw, if_true, hk]; exact hs
theorem ho_ext {C : Regs → Heap → Prop} (ho : ops[i]? = some o) (hw : Region.wanted o (yl ops ρ) = true) (hk : kdOf ks i = .ext) (hs : HStep P ρ o h fun v h' => Ext h h' ∧ C (updo ρ o.dst v) h') : HOne P ops ks T C i ρ h := by
  simp only [HOne, ho, hw, if_true, hk]; exact hs
theorem ho_wild {C : Regs → Heap → Prop} (ho : ops[i]? = some o) (hw : Region.wanted o (yl ops ρ) = true) (hk : kdOf ks i = .wild) (hs : HStep P ρ o h fun v h' => C (updo ρ o.dst v) h') : HOne P ops ks T C i ρ h := by
  simp only [HOne, ho, hw, if_true, hk]; exact hs.mono fun v h' hn => ⟨trivial, hn⟩
theorem ht_one (hp : HOne P ops ks T (HTree P ops ks T Q t) i ρ h) : HTree P ops ks T Q (.one i t) ρ h := hp
theorem ht_fork2 {i j : Nat} {u : PT} {f : Nat → PT} (hi : f i = t) (hj : f j = u) (h1 : HOne P ops ks T (HTree P ops ks T Q t) i ρ h) (h2 : HOne P ops ks T (HTree P ops ks T Q u) j ρ h) : HTree P ops ks T Q (.fork [i, j] f) ρ h := by
  intro k hk
  simp only [List.mem_cons, List.not_mem_nil, or_false] at hk
  rcases hk with rfl | rfl
  · rw [hi]; exact h1
  · rw [hj]; exact h2
end
end Go.Proofs.Ytkecmljalcfhoaa
namespace Go.Proofs.Ytkecmljalcfhoaa
open Go
section
variable {P : Program} {ops : Array Oper} {ks : List Kd} {T : Heap → Heap → Prop} {Q : Regs → Heap → Prop} {ρ : Regs} {h : Heap}
theorem ht_fork3 {i j k : Nat} {t u v : PT} {f : Nat → PT} (hi : f i = t) (hj : f j = u) (hk : f k = v) (h1 : HOne P ops ks T (HTree P ops ks T Q t) i ρ h) (h2 : HOne P ops ks T (HTree P ops ks T Q u) j ρ h) (h3 : HOne P ops ks T (HTree P ops ks T Q v) k ρ h) : HTree P ops ks T Q (.fork [i, j, k] f) ρ h := by
  intro q hq
  simp only [List.mem_cons, List.not_mem_nil, or_false] at hq
  rcases hq with rfl | rfl | rfl
  · rw [hi]; exact h1
  · rw [hj]; exact h2
  · rw [hk]; exact h3
end
end Go.Proofs.Ytkecmljalcfhoaa
