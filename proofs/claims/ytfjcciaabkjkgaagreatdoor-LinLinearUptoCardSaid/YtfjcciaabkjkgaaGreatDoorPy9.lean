import Derived.Shelf.Sort.Plain
import Derived.Test.YtfjcciaabkjkgaaGreatDoorProg
import Derived.Test.YtfjcciaabkjkgaaGreatDoorPy1
import Derived.Test.YtfjcciaabkjkgaaGreatDoorPy3
import Derived.Test.YtfjcciaabkjkgaaGreatDoorPy4
import Derived.Test.YtfjcciaabkjkgaaGreatDoorPy5
import Derived.Test.YtfjcciaabkjkgaaGreatDoorPy7
import Derived.Test.YtfjcciaabkjkgaaGreatDoorPy8
namespace Go.Proofs.YtfjcciaabkjkgaaGreatDoor
open Go
open Go.Proofs.YtfjcciaabkjkgaaGreatDoor renaming hl_val → lv, hl_step → lp, hl_nil → ln, hl_yes → ly, hl_no → lo, hx_seq → xs, hx_region → xr, hx_cond → xc, hx_block → xb, hx_loopT → xl, hx_cut → xk, hx_has → xh, hx_skip → xi, hx_ret → xt, hx_exit → xe, seqQ_n → qn, seqQ_ret → qr, seqQ_exit → qe, blockQ_n → bn, blockQ_ret → br, blockQ_here → bh, hv_move → vm, hv_assign → va, hv_arith → vr, hv_load → vl, hv_loads → vL, hv_extract → vx, hv_field → vf, hv_index → vi, hp_pure → pp, hp_read → pr, hp_no → pn, has_cons → hc, has_nil → hn, hcells_cons → cc, hcells_nil → cn, rowcell → rc, hs_call → sc
set_option maxRecDepth 100000
set_option maxHeartbeats 4000000
theorem TyTG.agg22 : aggB Tryz.prog 22 = some false := by kernel_rfl
theorem TyTG.agg24 : aggB Tryz.prog 24 = some false := by kernel_rfl
theorem TyTG.agg3 : aggB Tryz.prog 3 = some false := by kernel_rfl
theorem TyTG.agg40 : aggB Tryz.prog 40 = some true := by kernel_rfl
theorem TyTG.agg45 : aggB Tryz.prog 45 = some false := by kernel_rfl
theorem TyTG.agg9 : aggB Tryz.prog 9 = some false := by kernel_rfl
theorem TyTG.cb11 : CallB Tryz.prog 11 := fun _ _ => Tryz.call11 _ _
theorem TyTG.cb117 : CallB Tryz.prog 117 := fun _ _ => Tryz.call117 _ _
theorem TyTG.cb118 : CallB Tryz.prog 118 := fun _ _ => Tryz.call118 _ _
theorem TyTG.cb127 : CallB Tryz.prog 127 := fun _ _ => Tryz.call127 _ _
theorem TyTG.cb128 : CallB Tryz.prog 128 := fun _ _ => Tryz.call128 _ _
theorem TyTG.cb129 : CallB Tryz.prog 129 := fun _ _ => Tryz.call129 _ _
theorem TyTG.cb130 : CallB Tryz.prog 130 := fun _ _ => Tryz.call130 _ _
theorem TyTG.cb131 : CallB Tryz.prog 131 := fun _ _ => Tryz.call131 _ _
theorem TyTG.cb132 : CallB Tryz.prog 132 := fun _ _ => Tryz.call132 _ _
theorem TyTG.cb133 : CallB Tryz.prog 133 := fun _ _ => Tryz.call133 _ _
theorem TyTG.cb134 : CallB Tryz.prog 134 := fun _ _ => Tryz.call134 _ _
theorem TyTG.cb135 : CallB Tryz.prog 135 := fun _ _ => Tryz.call135 _ _
theorem TyTG.cb16 : CallB Tryz.prog 16 := fun _ _ => Tryz.call16 _ _
theorem TyTG.cb17 : CallB Tryz.prog 17 := fun _ _ => Tryz.call17 _ _
theorem TyTG.cb18 : CallB Tryz.prog 18 := fun _ _ => Tryz.call18 _ _
theorem TyTG.cb20 : CallB Tryz.prog 20 := fun _ _ => Tryz.call20 _ _
theorem TyTG.cb21 : CallB Tryz.prog 21 := fun _ _ => Tryz.call21 _ _
theorem TyTG.cb22 : CallB Tryz.prog 22 := fun _ _ => Tryz.call22 _ _
theorem TyTG.cb24 : CallB Tryz.prog 24 := fun _ _ => Tryz.call24 _ _
theorem TyTG.cb25 : CallB Tryz.prog 25 := fun _ _ => Tryz.call25 _ _
theorem TyTG.cb27 : CallB Tryz.prog 27 := fun _ _ => Tryz.call27 _ _
theorem TyTG.cb31 : CallB Tryz.prog 31 := fun _ _ => Tryz.call31 _ _
theorem TyTG.cb32 : CallB Tryz.prog 32 := fun _ _ => Tryz.call32 _ _
theorem TyTG.cb34 : CallB Tryz.prog 34 := fun _ _ => Tryz.call34 _ _
theorem TyTG.cb35 : CallB Tryz.prog 35 := fun _ _ => Tryz.call35 _ _
theorem TyTG.cb37 : CallB Tryz.prog 37 := fun _ _ => Tryz.call37 _ _
theorem TyTG.cb43 : CallB Tryz.prog 43 := fun _ _ => Tryz.call43 _ _
theorem TyTG.cb44 : CallB Tryz.prog 44 := fun _ _ => Tryz.call44 _ _
theorem TyTG.cb55 : CallB Tryz.prog 55 := fun _ _ => Tryz.call55 _ _
theorem TyTG.cb57 : CallB Tryz.prog 57 := fun _ _ => Tryz.call57 _ _
theorem TyTG.cb71 : CallB Tryz.prog 71 := fun _ _ => Tryz.call71 _ _
theorem TyTG.cb72 : CallB Tryz.prog 72 := fun _ _ => Tryz.call72 _ _
theorem TyTG.cb8 : CallB Tryz.prog 8 := fun _ _ => Tryz.call8 _ _
theorem TyTG.cb83 : CallB Tryz.prog 83 := fun _ _ => Tryz.call83 _ _
theorem TyTG.cb9 : CallB Tryz.prog 9 := fun _ _ => Tryz.call9 _ _
theorem TyTG.cb93 : CallB Tryz.prog 93 := fun _ _ => Tryz.call93 _ _
theorem TyTG.cb94 : CallB Tryz.prog 94 := fun _ _ => Tryz.call94 _ _
theorem TyTG.el22 : elB Tryz.prog 22 = some 8 := by kernel_rfl
theorem TyTG.el24 : elB Tryz.prog 24 = some 1 := by kernel_rfl
theorem TyTG.el26 : elB Tryz.prog 26 = some 1 := by kernel_rfl
theorem TyTG.fld40_0 : fldB Tryz.prog 40 0 = some 0 := by kernel_rfl
theorem TyTG.fld40_2 : fldB Tryz.prog 40 2 = some 2 := by kernel_rfl
theorem TyTG.fld40_3 : fldB Tryz.prog 40 3 = some 3 := by kernel_rfl
theorem TyTG.fld40_4 : fldB Tryz.prog 40 4 = some 4 := by kernel_rfl
theorem TyTG.fld40_6 : fldB Tryz.prog 40 6 = some 6 := by kernel_rfl
theorem TyTG.fld40_7 : fldB Tryz.prog 40 7 = some 7 := by kernel_rfl
theorem TyTG.mixed : Tryz.prog.follows .mixedOrders = true := by kernel_rfl
theorem TyTG.sz24 : szB Tryz.prog 24 = some 1 := by kernel_rfl
theorem TyTG.sz27 : szB Tryz.prog 27 = some 1 := by kernel_rfl
theorem TyTG.sz3 : szB Tryz.prog 3 = some 1 := by kernel_rfl
theorem TyTG.sz4 : szB Tryz.prog 4 = some 1 := by kernel_rfl
theorem TyTG.sz40 : szB Tryz.prog 40 = some 8 := by kernel_rfl
theorem TyTG.sz9 : szB Tryz.prog 9 = some 1 := by kernel_rfl
theorem TyTG.u125 : Tryz.prog.underlying 125 = some (.int .u64) := by kernel_rfl
theorem TyTG.u22 : Tryz.prog.underlying 22 = some (.slice 40) := by kernel_rfl
theorem TyTG.u24 : Tryz.prog.underlying 24 = some (.slice 9) := by kernel_rfl
theorem TyTG.u26 : Tryz.prog.underlying 26 = some (.slice 3) := by kernel_rfl
theorem TyTG.u3 : Tryz.prog.underlying 3 = some (.int .i64) := by kernel_rfl
theorem TyTG.u4 : Tryz.prog.underlying 4 = some (.bool) := by kernel_rfl
theorem TyTG.u45 : Tryz.prog.underlying 45 = some (.map 9 26) := by kernel_rfl
theorem TyTG.u5 : Tryz.prog.underlying 5 = some (.int .u8) := by kernel_rfl
theorem TyTG.u88 : Tryz.prog.underlying 88 = some (.int .u64) := by kernel_rfl
theorem TyTG.u9 : Tryz.prog.underlying 9 = some (.string) := by kernel_rfl
theorem TyTG.z26 : zeroB Tryz.prog 26 (.slice none 0 0) := by unfold zeroB; kernel_rfl
theorem TyTG.z3 : zeroB Tryz.prog 3 (.int .i64 0) := by unfold zeroB; kernel_rfl
theorem TyTG.z40 : zeroB Tryz.prog 40 (.agg #[(.int .i64 0), (.string ByteArray.empty), (.string ByteArray.empty), (.int .i64 0), (.bool false), (.int .i64 0), (.int .i64 0), (.int .i64 0)]) := by unfold zeroB; kernel_rfl
theorem TyTG.z9 : zeroB Tryz.prog 9 (.string ByteArray.empty) := by unfold zeroB; kernel_rfl
theorem ext_pushed_f83_sh {h h1 : Heap} {o : Obj} (e : h1 = Array.push h o) : Ext h h1 := by rw [e]; exact Ext.push _ _
theorem f55_sh (l : Option Addr) (a0 : Nat) (a1 : Nat) (h : Heap) (R : Value → Heap → Prop)
  (H : HC Tryz.prog 25 #[(.slice l a0 a1)] h (fun vv h1 => ∃ r : Option Nat, vv = (.map r) ∧ HC Tryz.prog 72 #[(.map r)] h1 (fun vv h2 => ∃ a2 : Value, vv = a2 ∧ HC Tryz.prog 71 #[a2] h2 (fun vv h3 => ∃ a4 : Option Addr, ∃ a5 a3 : Nat, vv = (.slice a4 a5 a3) ∧ R (.slice a4 a5 a3) h3)))) :
  HC Tryz.prog 55 #[(.slice l a0 a1)] h R := by
 refine hc_of (args := [(.slice l a0 a1)]) Tryz.func55 rfl Tryz.ntmps55 (Nat.le_of_ble_eq_true rfl) ?_
 refine xs (xr ?_)
 refine lv rfl rfl (va rfl) ?_
 refine ln (qn (xs (xr ?_)))
 refine lv rfl rfl (vm rfl) ?_
 refine lp rfl rfl (sc TyTG.cb25 rfl (HC.mono H ?_))
 rintro _ h1 ⟨r, rfl, H⟩
 refine lp rfl rfl (sc TyTG.cb72 rfl (HC.mono H ?_))
 rintro a2 h2 ⟨_, rfl, H⟩
 refine lp rfl rfl (sc TyTG.cb71 rfl (HC.mono H ?_))
 rintro _ h3 ⟨a4, a5, a3, rfl, H⟩
 refine lv rfl rfl (va rfl) ?_
 refine ln (qn (xt ?_))
 exact endQ_ret _ (res_one Tryz.results55 (rv_tmp rfl)) H
theorem f72_sh (m : Option Nat) (h : Heap) (R : Value → Heap → Prop)
  (H : (∀ a0 h1, a0 = Array.size h → h1 = Array.push h (.cells #[(.map m)] 45) → R (.func (.func 95) #[] #[(ptr a0 0)]) h1)) :
  HC Tryz.prog 72 #[(.map m)] h R := by
 refine hc_of (args := [(.map m)]) Tryz.func72 rfl Tryz.ntmps72 (Nat.le_of_ble_eq_true rfl) ?_
 refine xs (xr ?_)
 refine lp rfl rfl (hn_box (v := (.map m)) rfl ?_)
 intro a0 h1 a2 a1
 replace H := H a0 h1 a2 a1
 have a3 := ext_pushed_f83_sh a1
 refine lv rfl rfl (va rfl) ?_
 refine ln (qn (xs (xr ?_)))
 refine lv rfl rfl (v := (.func (.func 95) #[] #[(ptr a0 0)])) (hv_makeFunc (fv := []) (cv := [(ptr a0 0)]) rfl rfl) (lv rfl rfl (va rfl) ?_)
 refine ln (qn (xt ?_))
 exact endQ_ret _ (res_one Tryz.results72 (rv_tmp rfl)) H
theorem f95_sh (a1 : Value) (a2 : Nat) (a3 : Nat) (h : Heap) (R : Value → Heap → Prop)
  (H : (∃ x : Option Nat, hcell h a2 a3 = some (.map x) ∧ (∃ b0 : Nat, x = some b0 ∧ ∃ kv : List (ByteArray × Value), MapL h b0 Value.string kv ∧ ∀ it h1, it = Array.size h → Ext h h1 → Array.size h1 = Array.size h + 1 → Itr h1 it b0 Value.string kv kv none → (∃ (I7 : Heap → Prop) (b3 : Heap → Nat), I7 h1 ∧ (∀ (h2 : Heap), I7 h2 → (∃ (mb : Nat) (b5 td : List (ByteArray × Value)) (cu : Option (ByteArray × Value)), Itr h2 it mb Value.string b5 td cu ∧ ∀ (a0 : Bool) h3 a4 a5, Only it h2 h3 → Itr h3 it mb Value.string b5 a4 a5 → Nx td a0 a4 a5 → ((a0 = true → (∃ (b4 : Nat) (b2 b6 : List (ByteArray × Value)) (q : ByteArray × Value), Itr h3 it b4 Value.string b2 b6 (some q) ∧ ∃ b1 : Option Addr, ∃ a9 a8 : Nat, (Prod.snd q) = (.slice b1 a9 a8) ∧ HCV Tryz.prog a1 [(.string (Prod.fst q))] h3 (fun vv h4 => ∃ r : Bool, vv = (.bool r) ∧ (((!r) = true → R (.tuple #[]) h4) ∧ ((!r) = false → (I7 h4 ∧ b3 h4 < b3 h2)))))) ∧ (a0 = false → R (.tuple #[]) h3)))))))) :
  HC Tryz.prog 95 #[a1, (ptr a2 a3)] h R := by
 refine hc_of (args := [a1, (ptr a2 a3)]) Tryz.func95 rfl Tryz.ntmps95 (Nat.le_of_ble_eq_true rfl) ?_
 refine xs (xr ?_)
 obtain ⟨x, c9, H⟩ := H
 refine lv rfl rfl (vl TyTG.agg45 rfl c9) ?_
 obtain ⟨b0, d0, Hq⟩ := H
 subst d0
 have H := Hq; clear Hq
 obtain ⟨kv, d3, H⟩ := H
 refine lp rfl rfl (hn_rangeMap TyTG.u45 rfl d3 ?_)
 intro it h1 d2 c6 c8 d1
 replace H := H it h1 d2 c6 c8 d1
 refine ln (qn (xb ?_))
 obtain ⟨I7, b3, c7, c2⟩ := H
 refine xl (σ := Unit) (fun s => [(0, a1), (5, (ptr it 0))]) (fun s h' => I7 h' ∧ True) (fun s h' => b3 h') () ⟨c7, trivial⟩ (hc rfl (hc rfl hn)) ?_
 rintro _ ρ h2 ⟨c1, -⟩
 have H := c2 h2 c1
 refine xs (xr ?_)
 obtain ⟨mb, b5, td, cu, c3, H⟩ := H
 refine lp rfl rfl (hn_nextMap rfl c3 ?_)
 intro a0 d4 h3 a4 a5 b8 b7 c4 c0
 replace H := H a0 h3 a4 a5 b7 c4 c0
 refine lv rfl rfl (v := (.bool a0)) (hv_extOf rfl b8) ?_
 refine ln (qn (xs ?_))
 refine xc (b := a0) rfl (fun a6 => ?_) (fun a6 => ?_)
 ·replace H := H.1 a6
  refine xi (qn (xb (xs (xr ?_))))
  obtain ⟨b4, b2, b6, q, c5, b1, a9, a8, b9, H⟩ := H
  refine lv rfl rfl (v := (.tuple #[(.string (Prod.fst q)), (.slice b1 a9 a8)])) (hv_entryMap rfl c5 rfl b9) (lv rfl rfl (vx rfl rfl) (lv rfl rfl (va rfl) ?_))
  refine ln (qn (xs (xr ?_)))
  refine lv rfl rfl (vm rfl) (lv rfl rfl (vm rfl) ?_)
  refine lp rfl rfl (hs_callF (vs := [(.string (Prod.fst q))]) rfl rfl (HCV.mono H ?_))
  rintro _ h4 ⟨r, rfl, H⟩
  refine lv rfl rfl (v := (.bool (!r))) (hv_not (b := r) rfl) ?_
  refine ln (qn ?_)
  refine xc (b := !r) rfl (fun a7 => ?_) (fun a7 => ?_)
  ·replace H := H.1 a7
   refine xt (br (qr (br ?_)))
   exact endQ_ret _ (res_none Tryz.results95 ) H
  ·replace H := H.2 a7
   refine xi (bn (qn ?_))
   exact ⟨(), ⟨⟨H.1, trivial⟩, H.2⟩, (hc rfl (hc rfl hn))⟩
 ·replace H := H.2 a6
  refine xe (qe (qe (bh ?_)))
  exact endQ_n _ (res_none Tryz.results95 ) H
theorem f117_sh (sv : Option Addr) (b0 : Nat) (b2 : Nat) (b1 : Value) (h : Heap) (R : Value → Heap → Prop)
  (H : (∀ a1 h1, a1 = Array.size h → h1 = Array.push h (.cells #[(.slice sv b0 b2)] 24) → (∀ (a0 : LoopState → Option Code → Heap → Prop) (l : Nat) (h2 : Heap) (y : Value), (∀ s p h h', a0 s p h → h'[l]? = h[l]? → a0 s p h') → l = Array.size h1 + 1 → Ext h1 h2 → Array.size h2 = Array.size h1 + 2 → a0 .ready none h2 → (∀ (it : ByteArray) (h3 : Heap) (b5 : Value → Heap → Prop), a0 .ready none h3 → (a0 .ready none h3 ∧ ∀ h6, Only l h3 h6 → a0 .busy none h6 → (∃ x : Option Addr, ∃ a9 a8 : Nat, hcell h6 a1 0 = some (.slice x a9 a8) ∧ (∀ nb h7, nb = Array.size h6 → h7 = Array.push h6 (.cells #[(.string it)] 9) → HAppend Tryz.prog 24 24 (.slice x a9 a8) (.slice (some ⟨nb, 0, none⟩) 1 1) h7 (fun vv h8 => ∃ ap : Option Addr, ∃ a6 a5 : Nat, vv = (.slice ap a6 a5) ∧ (HW h8 a1 0 ∧ ∀ h9, h9 = hset h8 a1 0 (.slice ap a6 a5) → (a0 .busy none h9 ∧ ∀ b4, Only l h9 b4 → a0 .ready none b4 → b5 (.bool true) b4)))))) → HCV Tryz.prog y [(.string it)] h3 b5) → HCF Tryz.prog b1 [y] h2 (fun _ h4 => ∃ (st : LoopState) (a4 : Option Code), a0 st a4 h4 ∧ st ≠ .busy ∧ ∀ h5, Only l h4 h5 → a0 .exhausted a4 h5 → ((a4 = none ∧ (∃ a7 : Option Addr, ∃ a2 a3 : Nat, hcell h5 a1 0 = some (.slice a7 a2 a3) ∧ (∀ b8, Shut' (Array.size h) h5 b8 → R (.slice a7 a2 a3) b8)))))))) :
  HC Tryz.prog 117 #[(.slice sv b0 b2), b1] h R := by
 refine hc_ofM (args := [(.slice sv b0 b2), b1]) Tryz.func117 rfl Tryz.ntmps117 (Nat.le_of_ble_eq_true rfl) ?_
 refine xs (xr ?_)
 refine lp rfl rfl (hn_box (v := (.slice sv b0 b2)) rfl ?_)
 intro a1 h1 d2 b7
 replace H := H a1 h1 d2 b7
 have d7 := ext_pushed_f83_sh b7
 refine lv rfl rfl (va rfl) ?_
 refine ln (qn (xs (xs (xr ?_))))
 refine lv rfl rfl (vm rfl) ?_
 refine ln (qn (xb ?_))
 refine hx_range rfl rfl rfl (fun h2 l d3 d1 d5 d4 => ?_)
 refine HCF.mono (H (fun st p h => LoopAt h l _ _ _ _ _ st p) l h2 _ (fun s p h h' k e => k.same e) d3 d1 d5 d4 ?_) ?_
 ·intro it h3 b5 d0 H
  refine hcv_yield d0 rfl rfl ?_
  refine xr ?_
  refine lv rfl rfl (va rfl) ?_
  refine ln ?_
  obtain ⟨c4, H⟩ := H
  refine ⟨rfl, c4, ?_⟩
  intro h6 c6 c3
  replace H := H h6 c6 c3
  refine xb (xr ?_)
  obtain ⟨x, a9, a8, c9, H⟩ := H
  refine lv rfl rfl (vl TyTG.agg24 rfl c9) (lv rfl rfl (vm rfl) ?_)
  refine lp rfl rfl (hn_buildSlice (n := 1) (vs := [(0, (.string it))]) (cs := #[(.string it)]) TyTG.u24 TyTG.sz9 TyTG.z9 rfl rfl (by kernel_rfl) ?_)
  intro nb h7 c7 b3
  replace H := H nb h7 c7 b3
  have d6 := ext_pushed_f83_sh b3
  refine lp rfl rfl (hs_append rfl rfl (HAppend.mono H ?_))
  rintro _ h8 ⟨ap, a6, a5, rfl, H⟩
  obtain ⟨b9, H⟩ := H
  refine lp rfl rfl (hn_store (v := (.slice ap a6 a5)) rfl rfl TyTG.sz24 rfl b9 ?_)
  intro h9 c0
  replace H := H h9 c0
  refine ln (bn ?_)
  exact H
 ·rintro _ h4 ⟨st, a4, c1, b6, H⟩
  refine ⟨st, a4, c1, b6, ?_⟩
  intro h5 c5 c2
  replace H := H h5 c5 c2
  obtain ⟨rfl, H⟩ := H
  refine jumpQ_n ?_
  refine bn (qn (xs (xr ?_)))
  obtain ⟨a7, a2, a3, c8, H⟩ := H
  refine lv rfl rfl (vl TyTG.agg24 rfl c8) (lv rfl rfl (va rfl) ?_)
  refine ln (qn (xt ?_))
  exact endQM_ret _ (fun h' hs => ⟨res_one Tryz.results117 (rv_tmp rfl), H h' hs⟩)
theorem f93_sh (a0 : Value) (h : Heap) (R : Value → Heap → Prop)
  (H : HC Tryz.prog 117 #[(.slice none 0 0), a0] h (fun vv h1 => ∃ r : Option Addr, ∃ a2 a1 : Nat, vv = (.slice r a2 a1) ∧ R (.slice r a2 a1) h1)) :
  HC Tryz.prog 93 #[a0] h R := by
 refine hc_of (args := [a0]) Tryz.func93 rfl Tryz.ntmps93 (Nat.le_of_ble_eq_true rfl) ?_
 refine xs (xr ?_)
 refine lv rfl rfl (va rfl) ?_
 refine ln (qn (xs (xr ?_)))
 refine lv rfl rfl (vm rfl) ?_
 refine lp rfl rfl (sc TyTG.cb117 rfl (HC.mono H ?_))
 rintro _ h1 ⟨r, a2, a1, rfl, H⟩
 refine lv rfl rfl (va rfl) ?_
 refine ln (qn (xt ?_))
 exact endQ_ret _ (res_one Tryz.results93 (rv_tmp rfl)) H
theorem f71_sh (a2 : Value) (h : Heap) (R : Value → Heap → Prop)
  (H : HC Tryz.prog 93 #[a2] h (fun vv h1 => ∃ r : Option Addr, ∃ a1 a0 : Nat, vv = (.slice r a1 a0) ∧ HC Tryz.prog 94 #[(.slice r a1 a0)] h1 (fun vv h2 => vv = (.tuple #[]) ∧ R (.slice r a1 a0) h2))) :
  HC Tryz.prog 71 #[a2] h R := by
 refine hc_of (args := [a2]) Tryz.func71 rfl Tryz.ntmps71 (Nat.le_of_ble_eq_true rfl) ?_
 refine xs (xr ?_)
 refine lv rfl rfl (va rfl) ?_
 refine ln (qn (xs (xr ?_)))
 refine lv rfl rfl (vm rfl) ?_
 refine lp rfl rfl (sc TyTG.cb93 rfl (HC.mono H ?_))
 rintro _ h1 ⟨r, a1, a0, rfl, H⟩
 refine lv rfl rfl (va rfl) ?_
 refine ln (qn (xs (xr ?_)))
 refine lv rfl rfl (vm rfl) ?_
 refine lp rfl rfl (sc TyTG.cb94 rfl (HC.mono H ?_))
 rintro _ h2 ⟨rfl, H⟩
 refine ln (qn (xs (xr ?_)))
 refine lv rfl rfl (vm rfl) (lv rfl rfl (va rfl) ?_)
 refine ln (qn (xt ?_))
 exact endQ_ret _ (res_one Tryz.results71 (rv_tmp rfl)) H
theorem f32_sh (l : Option Addr) (a0 : Nat) (a1 : Nat) (h : Heap) (R : Value → Heap → Prop)
  (H : HC Tryz.prog 25 #[(.slice l a0 a1)] h (fun vv h1 => ∃ r : Option Nat, vv = (.map r) ∧ HC Tryz.prog 55 #[(.slice l a0 a1)] h1 (fun vv h2 => ∃ b1 : Option Addr, ∃ a2 b6 : Nat, vv = (.slice b1 a2 b6) ∧ (∃ (I1 : Int → Heap → Prop) (b0 : Int → Heap → Nat), I1 0 h2 ∧ (∀ (v : Int) (h3 : Heap), I1 v h3 → (((decide (v < (a2 : Int))) = true → (∃ a4 a3 : Nat, b1 = some ⟨a4, a3, none⟩ ∧ (0 : Int) ≤ v ∧ v < (a2 : Int) ∧ (∃ x : ByteArray, hcell h3 a4 (a3 + (Int.toNat v) * 1) = some (.string x) ∧ (∃ b3 : Nat, r = some b3 ∧ ∃ kv : List (ByteArray × Value), MapL h3 b3 Value.string kv ∧ ∃ a8 : Option Addr, ∃ a7 a6 : Nat, (lk kv x).getD (.slice none 0 0) = (.slice a8 a7 a6) ∧ HC Tryz.prog 43 #[(.slice l a0 a1), (.slice a8 a7 a6)] h3 (fun vv h4 => ∃ b2 : Option Addr, vv = (.pointer b2) ∧ HC Tryz.prog 44 #[(.pointer b2)] h4 (fun vv h5 => ∃ a5 : Bool, vv = (.bool a5) ∧ (((!a5) = true → R (.tuple #[(.bool false), (.string x)]) h5) ∧ ((!a5) = false → (I1 (IntKind.i64.wrap (v + 1)) h5 ∧ b0 (IntKind.i64.wrap (v + 1)) h5 < b0 v h3))))))))) ∧ ((decide (v < (a2 : Int))) = false → R (.tuple #[(.bool true), (.string ByteArray.empty)]) h3))))))) :
  HC Tryz.prog 32 #[(.slice l a0 a1)] h R := by
 refine hc_of (args := [(.slice l a0 a1)]) Tryz.func32 rfl Tryz.ntmps32 (Nat.le_of_ble_eq_true rfl) ?_
 refine xs (xr ?_)
 refine lv rfl rfl (va rfl) (lv rfl rfl (va rfl) ?_)
 refine ln (qn (xs (xr ?_)))
 refine lv rfl rfl (vm rfl) ?_
 refine lp rfl rfl (sc TyTG.cb25 rfl (HC.mono H ?_))
 rintro _ h1 ⟨r, rfl, H⟩
 refine lv rfl rfl (va rfl) ?_
 refine ln (qn (xs (xs (xr ?_))))
 refine lv rfl rfl (vm rfl) ?_
 refine lp rfl rfl (sc TyTG.cb55 rfl (HC.mono H ?_))
 rintro _ h2 ⟨b1, a2, b6, rfl, H⟩
 refine lv rfl rfl (v := (.int .i64 (a2 : Int))) (hv_len (n := a2) TyTG.u24 rfl) (lv rfl rfl (vm rfl) ?_)
 refine ln (qn (xb ?_))
 obtain ⟨I1, b0, c1, c3⟩ := H
 refine xl (σ := Int) (fun s => [(0, (.slice l a0 a1)), (4, (.map r)), (10, (.slice b1 a2 b6)), (11, (.int .i64 (a2 : Int))), (12, (.int .i64 s))]) (fun s h' => I1 s h' ∧ True) (fun s h' => b0 s h') 0 ⟨c1, trivial⟩ (hc rfl (hc rfl (hc rfl (hc rfl (hc rfl hn))))) ?_
 rintro v ρ h3 ⟨c4, -⟩
 have H := c3 v h3 c4
 refine xs (xr ?_)
 refine lv rfl rfl (vr rfl rfl rfl) ?_
 refine ln (qn (xs ?_))
 refine xc (b := decide (v < (a2 : Int))) rfl (fun b4 => ?_) (fun b4 => ?_)
 ·replace H := H.1 b4
  refine xi (qn (xs (xb (xs (xr ?_)))))
  obtain ⟨a4, a3, b5, c2, b9, Hq⟩ := H
  subst b5
  have H := Hq; clear Hq
  refine lv rfl rfl (v := (ptr a4 (a3 + (Int.toNat v) * 1))) (vi TyTG.el24 rfl rfl c2 b9) ?_
  obtain ⟨x, c0, H⟩ := H
  refine lv rfl rfl (vl TyTG.agg9 rfl c0) (lv rfl rfl (va rfl) ?_)
  refine ln (qn (xs (xr ?_)))
  refine lv rfl rfl (vm rfl) (lv rfl rfl (vm rfl) (lv rfl rfl (vm rfl) ?_))
  obtain ⟨b3, b5, Hq⟩ := H
  subst b5
  have H := Hq; clear Hq
  obtain ⟨kv, b7, a8, a7, a6, b8, H⟩ := H
  refine lv rfl rfl (v := (.slice a8 a7 a6)) (hv_look (l := kv) (a := x) strK TyTG.u45 TyTG.u9 TyTG.z26 rfl rfl b7 b8) ?_
  refine lp rfl rfl (sc TyTG.cb43 rfl (HC.mono H ?_))
  rintro _ h4 ⟨b2, rfl, H⟩
  refine lp rfl rfl (sc TyTG.cb44 rfl (HC.mono H ?_))
  rintro _ h5 ⟨a5, rfl, H⟩
  refine lv rfl rfl (v := (.bool (!a5))) (hv_not (b := a5) rfl) ?_
  refine ln (qn ?_)
  refine xc (b := !a5) rfl (fun a9 => ?_) (fun a9 => ?_)
  ·replace H := H.1 a9
   refine xs (xr ?_)
   refine lv rfl rfl (vm rfl) (lv rfl rfl (va rfl) (lv rfl rfl (va rfl) ?_))
   refine ln (qn (xt (br (qr (qr (br (qr ?_)))))))
   exact endQ_ret _ (res_two Tryz.results32 (rv_tmp rfl) (rv_tmp rfl)) H
  ·replace H := H.2 a9
   refine xi (bn (qn (xr ?_)))
   refine lv rfl rfl (vr rfl rfl rfl) (lv rfl rfl (vm rfl) ?_)
   refine ln (qn ?_)
   exact ⟨IntKind.i64.wrap (v + 1), ⟨⟨H.1, trivial⟩, H.2⟩, (hc rfl (hc rfl (hc rfl (hc rfl (hc rfl hn)))))⟩
 ·replace H := H.2 b4
  refine xe (qe (qe (bh (qn (xs (xr ?_))))))
  refine lv rfl rfl (va rfl) (lv rfl rfl (va rfl) ?_)
  refine ln (qn (xt ?_))
  exact endQ_ret _ (res_two Tryz.results32 (rv_tmp rfl) (rv_tmp rfl)) H
theorem f16_sh (l : Option Addr) (a0 : Nat) (a1 : Nat) (h : Heap) (R : Value → Heap → Prop)
  (H : HC Tryz.prog 24 #[(.slice l a0 a1)] h (fun vv h1 => ∃ r : Int, vv = (.int .i64 r) ∧ (((r != 0) = true → R (.tuple #[(.bool false), (.string ByteArray.empty), (.int .i64 r)]) h1) ∧ ((r != 0) = false → HC Tryz.prog 31 #[(.slice l a0 a1)] h1 (fun vv h2 => ∃ a2 : Bool, vv = (.bool a2) ∧ ((a2 = true → R (.tuple #[(.bool false), (.string ByteArray.empty), (.int .i64 250)]) h2) ∧ (a2 = false → HC Tryz.prog 32 #[(.slice l a0 a1)] h2 (fun vv h3 => ∃ r0 : Bool, ∃ r1 : ByteArray, vv = (.tuple #[(.bool r0), (.string r1)]) ∧ R (.tuple #[(.bool r0), (.string r1), (.int .i64 0)]) h3)))))))) :
  HC Tryz.prog 16 #[(.slice l a0 a1)] h R := by
 refine hc_of (args := [(.slice l a0 a1)]) Tryz.func16 rfl Tryz.ntmps16 (Nat.le_of_ble_eq_true rfl) ?_
 refine xs (xr ?_)
 refine lv rfl rfl (va rfl) (lv rfl rfl (va rfl) (lv rfl rfl (va rfl) ?_))
 refine ln (qn (xs (xs (xr ?_))))
 refine lv rfl rfl (vm rfl) ?_
 refine lp rfl rfl (sc TyTG.cb24 rfl (HC.mono H ?_))
 rintro _ h1 ⟨r, rfl, H⟩
 refine lv rfl rfl (va rfl) ?_
 refine ln (qn (xs (xr ?_)))
 refine lv rfl rfl (vm rfl) (lv rfl rfl (vr rfl rfl rfl) ?_)
 refine ln (qn ?_)
 refine xc (b := r != 0) rfl (fun a4 => ?_) (fun a4 => ?_)
 ·replace H := H.1 a4
  refine xs (xr ?_)
  refine lv rfl rfl (vm rfl) (lv rfl rfl (va rfl) (lv rfl rfl (va rfl) (lv rfl rfl (va rfl) ?_)))
  refine ln (qn (xt (qr ?_)))
  exact endQ_ret _ (res_three Tryz.results16 (rv_tmp rfl) (rv_tmp rfl) (rv_tmp rfl)) H
 ·replace H := H.2 a4
  refine xi (qn (xs (xs (xr ?_))))
  refine lv rfl rfl (vm rfl) ?_
  refine lp rfl rfl (sc TyTG.cb31 rfl (HC.mono H ?_))
  rintro _ h2 ⟨a2, rfl, H⟩
  refine ln (qn ?_)
  refine xc (b := a2) rfl (fun a3 => ?_) (fun a3 => ?_)
  ·replace H := H.1 a3
   refine xs (xr ?_)
   refine lv rfl rfl (va rfl) (lv rfl rfl (va rfl) (lv rfl rfl (va rfl) ?_))
   refine ln (qn (xt (qr ?_)))
   exact endQ_ret _ (res_three Tryz.results16 (rv_tmp rfl) (rv_tmp rfl) (rv_tmp rfl)) H
  ·replace H := H.2 a3
   refine xi (qn (xs (xr ?_)))
   refine lv rfl rfl (vm rfl) ?_
   refine lp rfl rfl (sc TyTG.cb32 rfl (HC.mono H ?_))
   rintro _ h3 ⟨r0, r1, rfl, H⟩
   refine lv rfl rfl (vm rfl) (lv rfl rfl (vx rfl rfl) (lv rfl rfl (vx rfl rfl) (lv rfl rfl (va rfl) (lv rfl rfl (va rfl) ?_))))
   refine ln (qn (xs (xr ?_)))
   refine lv rfl rfl (vm rfl) (lv rfl rfl (vm rfl) (lv rfl rfl (va rfl) (lv rfl rfl (va rfl) (lv rfl rfl (va rfl) ?_))))
   refine ln (qn (xt ?_))
   exact endQ_ret _ (res_three Tryz.results16 (rv_tmp rfl) (rv_tmp rfl) (rv_tmp rfl)) H
theorem f37_sh (l : Option Addr) (b3 : Nat) (c6 : Nat) (a2 : Int) (h : Heap) (R : Value → Heap → Prop)
  (H : (∃ (I1 : Option Addr → Nat → Nat → Int → Heap → Prop) (d5 : Option Addr → Nat → Nat → Int → Heap → Nat), I1 none 0 0 0 h ∧ (∀ (c3 : Option Addr) (b0 : Nat) (b1 : Nat) (v : Int) (h1 : Heap), I1 c3 b0 b1 v h1 → (((decide (v < (b3 : Int))) = true → (∃ A9 : Option Addr → Nat → Nat → Heap → Prop, (∃ c1 c0 : Nat, l = some ⟨c1, c0, none⟩ ∧ (0 : Int) ≤ v ∧ v < (b3 : Int) ∧ (∃ a1 : Int, ∃ a6 a4 : ByteArray, ∃ b5 : Int, ∃ a7 : Bool, ∃ a3 a0 a5 : Int, hcell h1 c1 (c0 + (Int.toNat v) * 8) = some (.int .i64 a1) ∧ hcell h1 c1 ((c0 + (Int.toNat v) * 8) + 1) = some (.string a6) ∧ hcell h1 c1 ((c0 + (Int.toNat v) * 8) + 2) = some (.string a4) ∧ hcell h1 c1 ((c0 + (Int.toNat v) * 8) + 3) = some (.int .i64 b5) ∧ hcell h1 c1 ((c0 + (Int.toNat v) * 8) + 4) = some (.bool a7) ∧ hcell h1 c1 ((c0 + (Int.toNat v) * 8) + 5) = some (.int .i64 a3) ∧ hcell h1 c1 ((c0 + (Int.toNat v) * 8) + 6) = some (.int .i64 a0) ∧ hcell h1 c1 ((c0 + (Int.toNat v) * 8) + 7) = some (.int .i64 a5) ∧ (((decide (a0 > a2)) = true → (∀ (h4 : Heap), Ext h1 h4 → (A9 c3 b0 b1 h4))) ∧ ((decide (a0 > a2)) = false → (∀ mc : ByteArray, mc = (bif decide (a5 > a2) then bif a1 != 2 then ByteArray.empty else a4 else a4) → (∀ b7 : Int, b7 = (bif decide (a5 > a2) then 0 else b5) → (∀ b6 : Int, b6 = (bif decide (a5 > a2) then (-1) else a5) → (∀ (h5 : Heap), Ext h1 h5 → (∀ nb d0, nb = Array.size h5 → d0 = Array.push h5 (.cells #[(.int .i64 a1), (.string a6), (.string mc), (.int .i64 b7), (.bool (!(decide (a5 > a2)) && a7)), (.int .i64 a3), (.int .i64 a0), (.int .i64 b6)] 40) → HAppend Tryz.prog 22 22 (.slice c3 b0 b1) (.slice (some ⟨nb, 0, none⟩) 1 1) d0 (fun vv e9 => ∃ ap : Option Addr, ∃ c9 c8 : Nat, vv = (.slice ap c9 c8) ∧ (A9 ap c9 c8 e9))))))))))) ∧ (∀ (b4 : Option Addr) (a8 : Nat) (a9 : Nat) (h2 : Heap), A9 b4 a8 a9 h2 → (I1 b4 a8 a9 (IntKind.i64.wrap (v + 1)) h2 ∧ d5 b4 a8 a9 (IntKind.i64.wrap (v + 1)) h2 < d5 c3 b0 b1 v h1)))) ∧ ((decide (v < (b3 : Int))) = false → R (.slice c3 b0 b1) h1))))) :
  HC Tryz.prog 37 #[(.slice l b3 c6), (.int .i64 a2)] h R := by
 refine hc_of (args := [(.slice l b3 c6), (.int .i64 a2)]) Tryz.func37 rfl Tryz.ntmps37 (Nat.le_of_ble_eq_true rfl) ?_
 refine xs (xr ?_)
 refine lv rfl rfl (va rfl) ?_
 refine ln (qn (xs (xr ?_)))
 refine lv rfl rfl (va rfl) ?_
 refine ln (qn (xs (xs (xr ?_))))
 refine lv rfl rfl (vm rfl) (lv rfl rfl (v := (.int .i64 (b3 : Int))) (hv_len (n := b3) TyTG.u22 rfl) (lv rfl rfl (vm rfl) ?_))
 refine ln (qn (xb ?_))
 obtain ⟨I1, d5, g7, g9⟩ := H
 refine xl (σ := Option Addr × Nat × Nat × Int) (fun s => [(1, (.int .i64 a2)), (5, (.slice s.1 s.2.1 s.2.2.1)), (8, (.slice l b3 c6)), (9, (.int .i64 (b3 : Int))), (10, (.int .i64 s.2.2.2))]) (fun s h' => I1 s.1 s.2.1 s.2.2.1 s.2.2.2 h' ∧ True) (fun s h' => d5 s.1 s.2.1 s.2.2.1 s.2.2.2 h') (none, 0, 0, 0) ⟨g7, trivial⟩ (hc rfl (hc rfl (hc rfl (hc rfl (hc rfl hn))))) ?_
 rintro ⟨c3, b0, b1, v⟩ ρ h1 ⟨i0, -⟩
 have H := g9 c3 b0 b1 v h1 i0
 refine xs (xr ?_)
 refine lv rfl rfl (vr rfl rfl rfl) ?_
 refine ln (qn (xs ?_))
 refine xc (b := decide (v < (b3 : Int))) rfl (fun e5 => ?_) (fun e5 => ?_)
 ·replace H := H.1 e5
  refine xi (qn ?_)
  obtain ⟨A9, e6, e3⟩ := H
  refine xk (fun ρ h' => ∃ b4 : Option Addr, ∃ a8 a9 : Nat, (A9 b4 a8 a9 h' ∧ True) ∧ Has ρ [(1, (.int .i64 a2)), (5, (.slice b4 a8 a9)), (8, (.slice l b3 c6)), (9, (.int .i64 (b3 : Int))), (10, (.int .i64 v))]) ?_ ?_
  ·have H := e6; clear e6 e3
   refine xb (xs (xr ?_))
   obtain ⟨c1, c0, g8, f0, g5, Hq⟩ := H
   subst g8
   have H := Hq; clear Hq
   refine lv rfl rfl (v := (ptr c1 (c0 + (Int.toNat v) * 8))) (vi TyTG.el22 rfl rfl f0 g5) ?_
   obtain ⟨a1, a6, a4, b5, a7, a3, a0, a5, f7, g2, g1, f4, f9, g6, g4, f5, H⟩ := H
   refine lv rfl rfl (vL (vs := [(.int .i64 a1), (.string a6), (.string a4), (.int .i64 b5), (.bool a7), (.int .i64 a3), (.int .i64 a0), (.int .i64 a5)]) TyTG.agg40 TyTG.sz40 rfl (cc f7 (cc g2 (cc g1 (cc f4 (cc f9 (cc g6 (cc g4 (cc f5 cn))))))))) ?_
   refine lp rfl rfl (hn_alloc TyTG.z40 ?_)
   intro m h3 d8 d6
   have g3 := ext_pushed_f83_sh d6
   have c5 : Array.size h1 ≤ m := Nat.le_of_eq (Eq.symm d8)
   have d9 : h3[m]? = some (.cells #[(.int .i64 0), (.string ByteArray.empty), (.string ByteArray.empty), (.int .i64 0), (.bool false), (.int .i64 0), (.int .i64 0), (.int .i64 0)] 40 (0, 0)) := by rw [d6]; exact push_new d8
   refine lp rfl rfl (hn_stores (vs := [(.int .i64 a1), (.string a6), (.string a4), (.int .i64 b5), (.bool a7), (.int .i64 a3), (.int .i64 a0), (.int .i64 a5)]) rfl rfl TyTG.sz40 rfl (HWs_row d9 (by simp)) ?_)
   intro h4 e8
   have c4 : h4[m]? = some (.cells #[(.int .i64 a1), (.string a6), (.string a4), (.int .i64 b5), (.bool a7), (.int .i64 a3), (.int .i64 a0), (.int .i64 a5)] 40 (0, 0)) := row_hsets_eq e8 d9 (by simp [sets])
   have d3 := ext_hsets e8 g3 c5
   refine ln (qn (xs (xs (xr ?_))))
   refine lv rfl rfl (v := (ptr m 6)) (vf TyTG.fld40_6 (b := m) (o := 0) rfl) (lv rfl rfl (vl TyTG.agg3 rfl (rc c4 rfl)) (lv rfl rfl (vm rfl) (lv rfl rfl (vr rfl rfl rfl) ?_)))
   refine ln (qn ?_)
   refine xc (b := decide (a0 > a2)) rfl (fun d4 => ?_) (fun d4 => ?_)
   ·replace H := H.1 d4
    refine xe (qe (bh ?_))
    replace H := H h4 d3
    refine qn ?_
    exact ⟨_, _, _, ⟨H, trivial⟩, (hc rfl (hc rfl (hc rfl (hc rfl (hc rfl hn)))))⟩
   ·replace H := H.2 d4
    refine xi (qn ?_)
    obtain ⟨mc, hq31⟩ : ∃ q : ByteArray, q = (bif decide (a5 > a2) then bif a1 != 2 then ByteArray.empty else a4 else a4) := ⟨_, rfl⟩
    replace H := H mc hq31
    obtain ⟨b7, hq32⟩ : ∃ q : Int, q = (bif decide (a5 > a2) then 0 else b5) := ⟨_, rfl⟩
    replace H := H b7 hq32
    obtain ⟨b6, hq33⟩ : ∃ q : Int, q = (bif decide (a5 > a2) then (-1) else a5) := ⟨_, rfl⟩
    replace H := H b6 hq33
    refine xk (fun ρ h' => (Ext h1 h' ∧ h'[m]? = some (.cells #[(.int .i64 a1), (.string a6), (.string mc), (.int .i64 b7), (.bool (!(decide (a5 > a2)) && a7)), (.int .i64 a3), (.int .i64 a0), (.int .i64 b6)] 40 (0, 0)) ∧ True) ∧ Has ρ [(1, (.int .i64 a2)), (5, (.slice c3 b0 b1)), (7, (ptr m 0)), (8, (.slice (some ⟨c1, c0, none⟩) b3 c6)), (9, (.int .i64 (b3 : Int))), (10, (.int .i64 v))]) ?_ ?_
    ·refine xs (xr ?_)
     refine lv rfl rfl (v := (ptr m 7)) (vf TyTG.fld40_7 (b := m) (o := 0) rfl) (lv rfl rfl (vl TyTG.agg3 rfl (rc c4 rfl)) (lv rfl rfl (vm rfl) (lv rfl rfl (vr rfl rfl rfl) ?_)))
     refine ln (qn ?_)
     refine xc (b := decide (a5 > a2)) rfl (fun b2 => ?_) (fun b2 => ?_)
     ·refine xs (xr ?_)
      refine lv rfl rfl (v := (ptr m 7)) (vf TyTG.fld40_7 (b := m) (o := 0) rfl) ?_
      refine lp rfl rfl (hn_store (v := (.int .i64 (-1))) rfl rfl TyTG.sz3 rfl (HW_row c4 (by simp)) ?_)
      intro h6 e1
      have d1 : h6[m]? = some (.cells #[(.int .i64 a1), (.string a6), (.string a4), (.int .i64 b5), (.bool a7), (.int .i64 a3), (.int .i64 a0), (.int .i64 (-1))] 40 (0, 0)) := row_hset_eq e1 c4 rfl
      have f1 := ext_hset e1 d3 c5
      refine lv rfl rfl (v := (ptr m 3)) (vf TyTG.fld40_3 (b := m) (o := 0) rfl) ?_
      refine lp rfl rfl (hn_store (v := (.int .i64 0)) rfl rfl TyTG.sz27 rfl (HW_row d1 (by simp)) ?_)
      intro h7 e4
      have c7 : h7[m]? = some (.cells #[(.int .i64 a1), (.string a6), (.string a4), (.int .i64 0), (.bool a7), (.int .i64 a3), (.int .i64 a0), (.int .i64 (-1))] 40 (0, 0)) := row_hset_eq e4 d1 rfl
      have g0 := ext_hset e4 f1 c5
      refine lv rfl rfl (v := (ptr m 4)) (vf TyTG.fld40_4 (b := m) (o := 0) rfl) ?_
      refine lp rfl rfl (hn_store (v := (.bool false)) rfl rfl TyTG.sz4 rfl (HW_row c7 (by simp)) ?_)
      intro h8 d7
      have b8 : h8[m]? = some (.cells #[(.int .i64 a1), (.string a6), (.string a4), (.int .i64 0), (.bool false), (.int .i64 a3), (.int .i64 a0), (.int .i64 (-1))] 40 (0, 0)) := row_hset_eq d7 c7 rfl
      have e7 := ext_hset d7 g0 c5
      refine ln (qn (xs (xr ?_)))
      refine lv rfl rfl (v := (ptr m 0)) (vf TyTG.fld40_0 (b := m) (o := 0) rfl) (lv rfl rfl (vl TyTG.agg3 rfl (rc b8 rfl)) (lv rfl rfl (vr rfl rfl rfl) ?_))
      refine ln (qn ?_)
      refine xc (b := a1 != 2) rfl (fun b9 => ?_) (fun b9 => ?_)
      ·refine xr ?_
       refine lv rfl rfl (v := (ptr m 2)) (vf TyTG.fld40_2 (b := m) (o := 0) rfl) ?_
       refine lp rfl rfl (hn_store (v := (.string ByteArray.empty)) rfl rfl TyTG.sz9 rfl (HW_row b8 (by simp)) ?_)
       intro h9 e0
       have d2 : h9[m]? = some (.cells #[(.int .i64 a1), (.string a6), (.string ByteArray.empty), (.int .i64 0), (.bool false), (.int .i64 a3), (.int .i64 a0), (.int .i64 (-1))] 40 (0, 0)) := row_hset_eq e0 b8 rfl
       have f8 := ext_hset e0 e7 c5
       refine ln (qn ?_)
       exact ⟨⟨f8, (row_congr d2 (by first | rfl | ((try rw [b2]); (try rw [b9]); (try rw [hq31]); (try rw [hq32]); (try rw [hq33]); (try rw [b2]); (try rw [b9]); all_goals first | rfl | (simp only [Bool.true_or, Bool.or_true, Bool.false_or, Bool.or_false, Bool.true_and, Bool.and_true, Bool.false_and, Bool.and_false, Bool.not_true, Bool.not_false, Bool.cond_true, Bool.cond_false]; done)) | simp [b2, b9, hq31, hq32, hq33, b2, b9])), trivial⟩, (hc rfl (hc rfl (hc rfl (hc rfl (hc rfl (hc rfl hn))))))⟩
      ·refine xi (qn ?_)
       exact ⟨⟨e7, (row_congr b8 (by first | rfl | ((try rw [b2]); (try rw [b9]); (try rw [hq31]); (try rw [hq32]); (try rw [hq33]); (try rw [b2]); (try rw [b9]); all_goals first | rfl | (simp only [Bool.true_or, Bool.or_true, Bool.false_or, Bool.or_false, Bool.true_and, Bool.and_true, Bool.false_and, Bool.and_false, Bool.not_true, Bool.not_false, Bool.cond_true, Bool.cond_false]; done)) | simp [b2, b9, hq31, hq32, hq33, b2, b9])), trivial⟩, (hc rfl (hc rfl (hc rfl (hc rfl (hc rfl (hc rfl hn))))))⟩
     ·refine xi (qn ?_)
      exact ⟨⟨d3, (row_congr c4 (by first | rfl | ((try rw [b2]); (try rw [hq31]); (try rw [hq32]); (try rw [hq33]); (try rw [b2]); all_goals first | rfl | (simp only [Bool.true_or, Bool.or_true, Bool.false_or, Bool.or_false, Bool.true_and, Bool.and_true, Bool.false_and, Bool.and_false, Bool.not_true, Bool.not_false, Bool.cond_true, Bool.cond_false]; done)) | simp [b2, hq31, hq32, hq33, b2])), trivial⟩, (hc rfl (hc rfl (hc rfl (hc rfl (hc rfl (hc rfl hn))))))⟩
    ·rintro ρ h5 ⟨⟨f6, c2, -⟩, hH⟩
     refine xh _ hH ?_
     refine xr ?_
     refine lv rfl rfl (vm rfl) (lv rfl rfl (vL (vs := [(.int .i64 a1), (.string a6), (.string mc), (.int .i64 b7), (.bool (!(decide (a5 > a2)) && a7)), (.int .i64 a3), (.int .i64 a0), (.int .i64 b6)]) TyTG.agg40 TyTG.sz40 rfl (cc (rc c2 rfl) (cc (rc c2 rfl) (cc (rc c2 rfl) (cc (rc c2 rfl) (cc (rc c2 rfl) (cc (rc c2 rfl) (cc (rc c2 rfl) (cc (rc c2 rfl) cn))))))))) ?_)
     replace H := H h5 f6
     refine lp rfl rfl (hn_buildSlice (n := 1) (vs := [(0, (.agg #[(.int .i64 a1), (.string a6), (.string mc), (.int .i64 b7), (.bool (!(decide (a5 > a2)) && a7)), (.int .i64 a3), (.int .i64 a0), (.int .i64 b6)]))]) (cs := #[(.int .i64 a1), (.string a6), (.string mc), (.int .i64 b7), (.bool (!(decide (a5 > a2)) && a7)), (.int .i64 a3), (.int .i64 a0), (.int .i64 b6)]) TyTG.u22 TyTG.sz40 TyTG.z40 rfl rfl (by kernel_rfl) ?_)
     intro nb d0 f3 e2
     replace H := H nb d0 f3 e2
     have i1 := ext_pushed_f83_sh e2
     refine lp rfl rfl (hs_append rfl rfl (HAppend.mono H ?_))
     rintro _ e9 ⟨ap, c9, c8, rfl, H⟩
     refine lv rfl rfl (va rfl) ?_
     refine ln (bn (qn ?_))
     exact ⟨_, _, _, ⟨H, trivial⟩, (hc rfl (hc rfl (hc rfl (hc rfl (hc rfl hn)))))⟩
  ·rintro ρ h2 ⟨b4, a8, a9, ⟨f2, -⟩, hH⟩
   have H := e3 b4 a8 a9 h2 f2; clear e6 e3
   refine xh _ hH ?_
   refine xr ?_
   refine lv rfl rfl (vr rfl rfl rfl) (lv rfl rfl (vm rfl) ?_)
   refine ln (qn ?_)
   exact ⟨(b4, a8, a9, IntKind.i64.wrap (v + 1)), ⟨⟨H.1, trivial⟩, H.2⟩, (hc rfl (hc rfl (hc rfl (hc rfl (hc rfl hn)))))⟩
 ·replace H := H.2 e5
  refine xe (qe (qe (bh (qn (xs (xr ?_))))))
  refine lv rfl rfl (vm rfl) (lv rfl rfl (va rfl) ?_)
  refine ln (qn (xt ?_))
  exact endQ_ret _ (res_one Tryz.results37 (rv_tmp rfl)) H
theorem f21_sh (l : Option Addr) (e2 : Nat) (e1 : Nat) (h : Heap) (R : Value → Heap → Prop)
  (H : (∀ b5 h1, b5 = Array.size h → h1 = Array.push h (.cells #[(.slice l e2 e1)] 22) → (∃ x : Option Addr, ∃ d5 d4 : Nat, hcell h1 b5 0 = some (.slice x d5 d4) ∧ HC Tryz.prog 16 #[(.slice x d5 d4)] h1 (fun vv h2 => ∃ r0 : Bool, ∃ r1 : ByteArray, ∃ r2 : Int, vv = (.tuple #[(.bool r0), (.string r1), (.int .i64 r2)]) ∧ ((((r2 != 0) || r0) = true → ((r0 = true → R (.tuple #[(.int .i64 (-1)), (.int .i64 0)]) h2) ∧ (r0 = false → R (.tuple #[(.int .i64 0), (.int .i64 r2)]) h2))) ∧ (((r2 != 0) || r0) = false → (∃ c7 : Option Addr, ∃ a4 c2 : Nat, hcell h2 b5 0 = some (.slice c7 a4 c2) ∧ (∃ (d2 : Option Addr → Nat → Nat → Int → Heap → Prop) (c9 : Option Addr → Nat → Nat → Int → Heap → Nat), d2 none 0 0 0 h2 ∧ (∀ (a5 : Option Addr) (a0 : Nat) (a1 : Nat) (v : Int) (h3 : Heap), d2 a5 a0 a1 v h3 → (((decide (v < (a4 : Int))) = true → (∃ d3 : Option Addr → Nat → Nat → Heap → Prop, (∃ a9 b0 : Nat, c7 = some ⟨a9, b0, none⟩ ∧ (0 : Int) ≤ v ∧ v < (a4 : Int) ∧ (∃ b3 : Int, ∃ b6 b2 : ByteArray, ∃ b7 : Int, ∃ b9 : Bool, ∃ b4 a7 a8 : Int, hcell h3 a9 (b0 + (Int.toNat v) * 8) = some (.int .i64 b3) ∧ hcell h3 a9 ((b0 + (Int.toNat v) * 8) + 1) = some (.string b6) ∧ hcell h3 a9 ((b0 + (Int.toNat v) * 8) + 2) = some (.string b2) ∧ hcell h3 a9 ((b0 + (Int.toNat v) * 8) + 3) = some (.int .i64 b7) ∧ hcell h3 a9 ((b0 + (Int.toNat v) * 8) + 4) = some (.bool b9) ∧ hcell h3 a9 ((b0 + (Int.toNat v) * 8) + 5) = some (.int .i64 b4) ∧ hcell h3 a9 ((b0 + (Int.toNat v) * 8) + 6) = some (.int .i64 a7) ∧ hcell h3 a9 ((b0 + (Int.toNat v) * 8) + 7) = some (.int .i64 a8) ∧ (∀ (m : Nat) (h6 : Heap), Array.size h3 ≤ m → m < Array.size h6 → Ext h3 h6 → (∀ nb h7, nb = Array.size h6 → h7 = Array.push h6 (.cells #[(.int .i64 a7)] 3) → HAppend Tryz.prog 26 26 (.slice a5 a0 a1) (.slice (some ⟨nb, 0, none⟩) 1 1) h7 (fun vv h8 => Kp [m] h7 h8 ∧ ∃ ap : Option Addr, ∃ c6 c5 : Nat, vv = (.slice ap c6 c5) ∧ (((decide (a8 ≥ 0)) = true → (∀ d0 h9, d0 = Array.size h8 → h9 = Array.push h8 (.cells #[(.int .i64 a8)] 3) → HAppend Tryz.prog 26 26 (.slice ap c6 c5) (.slice (some ⟨d0, 0, none⟩) 1 1) h9 (fun vv f4 => ∃ c8 : Option Addr, ∃ c3 c4 : Nat, vv = (.slice c8 c3 c4) ∧ (d3 c8 c3 c4 f4)))) ∧ ((decide (a8 ≥ 0)) = false → (d3 ap c6 c5 h8)))))))) ∧ (∀ (a6 : Option Addr) (a2 : Nat) (a3 : Nat) (h4 : Heap), d3 a6 a2 a3 h4 → (d2 a6 a2 a3 (IntKind.i64.wrap (v + 1)) h4 ∧ c9 a6 a2 a3 (IntKind.i64.wrap (v + 1)) h4 < c9 a5 a0 a1 v h3)))) ∧ ((decide (v < (a4 : Int))) = false → HC Tryz.prog 34 #[(.slice a5 a0 a1)] h3 (fun vv f6 => vv = (.tuple #[]) ∧ HC Tryz.prog 35 #[(.slice a5 a0 a1), (.func (.func 36) #[] #[(ptr b5 0)])] f6 (fun vv e3 => ∃ r : Int, vv = (.int .i64 r) ∧ (((decide (r < 0)) = true → R (.tuple #[(.int .i64 (-1)), (.int .i64 0)]) e3) ∧ ((decide (r < 0)) = false → (∃ b8 c0 : Nat, a5 = some ⟨b8, c0, none⟩ ∧ (0 : Int) ≤ r ∧ r < (a0 : Int) ∧ (∃ d1 : Int, hcell e3 b8 (c0 + (Int.toNat r) * 1) = some (.int .i64 d1) ∧ R (.tuple #[(.int .i64 d1), (.int .i64 0)]) e3))))))))))))))))) :
  HC Tryz.prog 21 #[(.slice l e2 e1)] h R := by
 refine hc_of (args := [(.slice l e2 e1)]) Tryz.func21 rfl Tryz.ntmps21 (Nat.le_of_ble_eq_true rfl) ?_
 refine xs (xr ?_)
 refine lp rfl rfl (hn_box (v := (.slice l e2 e1)) rfl ?_)
 intro b5 h1 j2 f5
 replace H := H b5 h1 j2 f5
 have j4 := ext_pushed_f83_sh f5
 refine lv rfl rfl (va rfl) (lv rfl rfl (va rfl) ?_)
 refine ln (qn (xs (xr ?_)))
 obtain ⟨x, d5, d4, j3, H⟩ := H
 refine lv rfl rfl (vl TyTG.agg22 rfl j3) ?_
 refine lp rfl rfl (sc TyTG.cb16 rfl (HC.mono H ?_))
 rintro _ h2 ⟨r0, r1, r2, rfl, H⟩
 refine lv rfl rfl (vm rfl) (lv rfl rfl (vx rfl rfl) (lv rfl rfl (vx rfl rfl) (lv rfl rfl (vx rfl rfl) (lv rfl rfl (va rfl) (lv rfl rfl (va rfl) ?_)))))
 refine lv rfl rfl (va rfl) ?_
 refine ln (qn (xs ?_))
 refine xk (fun ρ h' => h2 = h' ∧ Has ρ [(1, (ptr b5 0)), (4, (.bool r0)), (6, (.int .i64 r2)), (21, (.bool ((r2 != 0) || r0)))]) ?_ ?_
 ·refine xr ?_
  refine lv rfl rfl (vm rfl) (lv rfl rfl (vr rfl rfl rfl) (lv rfl rfl (vm rfl) ?_))
  rcases bool_or (r2 != 0) with c1 | c1
  ·refine lo (wanted_n rfl rfl rfl c1) rfl ?_
   refine lv rfl rfl (v := (.bool true)) (hv_pick_t rfl c1 rfl) ?_
   refine ln (qn ?_)
   exact ⟨rfl, (hc rfl (hc rfl (hc rfl (hc (show ((.bool true) : Value) = (.bool ((r2 != 0) || r0)) from (by first | rfl | ((try rw [c1]); all_goals first | rfl | (simp only [Bool.true_or, Bool.or_true, Bool.false_or, Bool.or_false, Bool.true_and, Bool.and_true, Bool.false_and, Bool.and_false, Bool.not_true, Bool.not_false, Bool.cond_true, Bool.cond_false]; done)) | simp [c1])) hn))))⟩
  ·refine ly (wanted_y rfl rfl rfl c1) rfl (HStep.of_val (v := (.bool r0)) (vm rfl) ?_)
   refine lv rfl rfl (v := (.bool r0)) (hv_pick_f rfl c1 rfl) ?_
   refine ln (qn ?_)
   exact ⟨rfl, (hc rfl (hc rfl (hc rfl (hc (show ((.bool r0) : Value) = (.bool ((r2 != 0) || r0)) from (by first | rfl | ((try rw [c1]); all_goals first | rfl | (simp only [Bool.true_or, Bool.or_true, Bool.false_or, Bool.or_false, Bool.true_and, Bool.and_true, Bool.false_and, Bool.and_false, Bool.not_true, Bool.not_false, Bool.cond_true, Bool.cond_false]; done)) | simp [c1])) hn))))⟩
 ·rintro ρ _ ⟨rfl, hH⟩
  refine xh _ hH ?_
  refine xc (b := ((r2 != 0) || r0)) rfl (fun e4 => ?_) (fun e4 => ?_)
  ·replace H := H.1 e4
   refine xs (xs (xr ?_))
   refine lv rfl rfl (vm rfl) ?_
   refine ln (qn ?_)
   refine xc (b := r0) rfl (fun e6 => ?_) (fun e6 => ?_)
   ·replace H := H.1 e6
    refine xs (xr ?_)
    refine lv rfl rfl (va rfl) (lv rfl rfl (va rfl) ?_)
    refine ln (qn (xt (qr (qr ?_))))
    exact endQ_ret _ (res_two Tryz.results21 (rv_tmp rfl) (rv_tmp rfl)) H
   ·replace H := H.2 e6
    refine xi (qn (xs (xr ?_)))
    refine lv rfl rfl (vm rfl) (lv rfl rfl (va rfl) (lv rfl rfl (va rfl) ?_))
    refine ln (qn (xt (qr ?_)))
    exact endQ_ret _ (res_two Tryz.results21 (rv_tmp rfl) (rv_tmp rfl)) H
  ·replace H := H.2 e4
   refine xi (qn (xs (xr ?_)))
   refine lv rfl rfl (va rfl) ?_
   refine ln (qn (xs (xs (xr ?_))))
   obtain ⟨c7, a4, c2, g7, H⟩ := H
   refine lv rfl rfl (vl TyTG.agg22 rfl g7) (lv rfl rfl (v := (.int .i64 (a4 : Int))) (hv_len (n := a4) TyTG.u22 rfl) (lv rfl rfl (vm rfl) ?_))
   refine ln (qn (xb ?_))
   obtain ⟨d2, c9, i6, i7⟩ := H
   refine xl (σ := Option Addr × Nat × Nat × Int) (fun s => [(1, (ptr b5 0)), (7, (.slice s.1 s.2.1 s.2.2.1)), (24, (.slice c7 a4 c2)), (25, (.int .i64 (a4 : Int))), (26, (.int .i64 s.2.2.2))]) (fun s h' => d2 s.1 s.2.1 s.2.2.1 s.2.2.2 h' ∧ True) (fun s h' => c9 s.1 s.2.1 s.2.2.1 s.2.2.2 h') (none, 0, 0, 0) ⟨i6, trivial⟩ (hc rfl (hc rfl (hc rfl (hc rfl (hc rfl hn))))) ?_
   rintro ⟨a5, a0, a1, v⟩ ρ h3 ⟨i5, -⟩
   have H := i7 a5 a0 a1 v h3 i5
   refine xs (xr ?_)
   refine lv rfl rfl (vr rfl rfl rfl) ?_
   refine ln (qn (xs ?_))
   refine xc (b := decide (v < (a4 : Int))) rfl (fun d8 => ?_) (fun d8 => ?_)
   ·replace H := H.1 d8
    refine xi (qn ?_)
    obtain ⟨d3, d7, e0⟩ := H
    refine xk (fun ρ h' => ∃ a6 : Option Addr, ∃ a2 a3 : Nat, (d3 a6 a2 a3 h' ∧ True) ∧ Has ρ [(1, (ptr b5 0)), (7, (.slice a6 a2 a3)), (24, (.slice c7 a4 c2)), (25, (.int .i64 (a4 : Int))), (26, (.int .i64 v))]) ?_ ?_
    ·have H := d7; clear d7 e0
     refine xb (xs (xr ?_))
     obtain ⟨a9, b0, f2, i1, i0, Hq⟩ := H
     subst f2
     have H := Hq; clear Hq
     refine lv rfl rfl (v := (ptr a9 (b0 + (Int.toNat v) * 8))) (vi TyTG.el22 rfl rfl i1 i0) ?_
     obtain ⟨b3, b6, b2, b7, b9, b4, a7, a8, g8, i4, g9, g0, f9, i8, g1, j1, H⟩ := H
     refine lv rfl rfl (vL (vs := [(.int .i64 b3), (.string b6), (.string b2), (.int .i64 b7), (.bool b9), (.int .i64 b4), (.int .i64 a7), (.int .i64 a8)]) TyTG.agg40 TyTG.sz40 rfl (cc g8 (cc i4 (cc g9 (cc g0 (cc f9 (cc i8 (cc g1 (cc j1 cn))))))))) ?_
     refine lp rfl rfl (hn_alloc TyTG.z40 ?_)
     intro m h5 f1 f3
     have g2 := ext_pushed_f83_sh f3
     have e9 : Array.size h3 ≤ m := Nat.le_of_eq (Eq.symm f1)
     have e7 : h5[m]? = some (.cells #[(.int .i64 0), (.string ByteArray.empty), (.string ByteArray.empty), (.int .i64 0), (.bool false), (.int .i64 0), (.int .i64 0), (.int .i64 0)] 40 (0, 0)) := by rw [f3]; exact push_new f1
     refine lp rfl rfl (hn_stores (vs := [(.int .i64 b3), (.string b6), (.string b2), (.int .i64 b7), (.bool b9), (.int .i64 b4), (.int .i64 a7), (.int .i64 a8)]) rfl rfl TyTG.sz40 rfl (HWs_row e7 (by simp)) ?_)
     intro h6 e5
     have b1 : h6[m]? = some (.cells #[(.int .i64 b3), (.string b6), (.string b2), (.int .i64 b7), (.bool b9), (.int .i64 b4), (.int .i64 a7), (.int .i64 a8)] 40 (0, 0)) := row_hsets_eq e5 e7 (by simp [sets])
     have i3 := ext_hsets e5 g2 e9
     refine ln (qn (xs (xr ?_)))
     refine lv rfl rfl (vm rfl) (lv rfl rfl (v := (ptr m 6)) (vf TyTG.fld40_6 (b := m) (o := 0) rfl) (lv rfl rfl (vl TyTG.agg3 rfl (rc b1 rfl)) ?_))
     replace H := H m h6 e9 (row_lt b1) i3
     refine lp rfl rfl (hn_buildSlice (n := 1) (vs := [(0, (.int .i64 a7))]) (cs := #[(.int .i64 a7)]) TyTG.u26 TyTG.sz3 TyTG.z3 rfl rfl (by kernel_rfl) ?_)
     intro nb h7 g6 f0
     replace H := H nb h7 g6 f0
     have g4 := ext_pushed_f83_sh f0
     replace b1 := Ext.row g4 b1
     refine lp rfl rfl (hs_append rfl rfl (HAppend.mono H ?_))
     rintro _ h8 ⟨g5, ap, c6, c5, rfl, H⟩
     replace b1 := Kp.row g5 (by simp) b1
     refine lv rfl rfl (va rfl) ?_
     refine ln (qn (xs (xr ?_)))
     refine lv rfl rfl (v := (ptr m 7)) (vf TyTG.fld40_7 (b := m) (o := 0) rfl) (lv rfl rfl (vl TyTG.agg3 rfl (rc b1 rfl)) (lv rfl rfl (vr rfl rfl rfl) ?_))
     refine ln (qn ?_)
     refine xc (b := decide (a8 ≥ 0)) rfl (fun d6 => ?_) (fun d6 => ?_)
     ·replace H := H.1 d6
      refine xr ?_
      refine lv rfl rfl (vm rfl) (lv rfl rfl (v := (ptr m 7)) (vf TyTG.fld40_7 (b := m) (o := 0) rfl) (lv rfl rfl (vl TyTG.agg3 rfl (rc b1 rfl)) ?_))
      refine lp rfl rfl (hn_buildSlice (n := 1) (vs := [(0, (.int .i64 a8))]) (cs := #[(.int .i64 a8)]) TyTG.u26 TyTG.sz3 TyTG.z3 rfl rfl (by kernel_rfl) ?_)
      intro d0 h9 j0 e8
      replace H := H d0 h9 j0 e8
      have g3 := ext_pushed_f83_sh e8
      replace b1 := Ext.row g3 b1
      refine lp rfl rfl (hs_append rfl rfl (HAppend.mono H ?_))
      rintro _ f4 ⟨c8, c3, c4, rfl, H⟩
      refine lv rfl rfl (va rfl) ?_
      refine ln (bn (qn ?_))
      exact ⟨_, _, _, ⟨H, trivial⟩, (hc rfl (hc rfl (hc rfl (hc rfl (hc rfl hn)))))⟩
     ·replace H := H.2 d6
      refine xi (bn (qn ?_))
      exact ⟨_, _, _, ⟨H, trivial⟩, (hc rfl (hc rfl (hc rfl (hc rfl (hc rfl hn)))))⟩
    ·rintro ρ h4 ⟨a6, a2, a3, ⟨f8, -⟩, hH⟩
     have H := e0 a6 a2 a3 h4 f8; clear d7 e0
     refine xh _ hH ?_
     refine xr ?_
     refine lv rfl rfl (vr rfl rfl rfl) (lv rfl rfl (vm rfl) ?_)
     refine ln (qn ?_)
     exact ⟨(a6, a2, a3, IntKind.i64.wrap (v + 1)), ⟨⟨H.1, trivial⟩, H.2⟩, (hc rfl (hc rfl (hc rfl (hc rfl (hc rfl hn)))))⟩
   ·replace H := H.2 d8
    refine xe (qe (qe (bh (qn (xs (xr ?_))))))
    refine lv rfl rfl (vm rfl) ?_
    refine lp rfl rfl (sc TyTG.cb34 rfl (HC.mono H ?_))
    rintro _ f6 ⟨rfl, H⟩
    refine ln (qn (xs (xr ?_)))
    refine lv rfl rfl (vm rfl) (lv rfl rfl (v := (.func (.func 36) #[] #[(ptr b5 0)])) (hv_makeFunc (fv := []) (cv := [(ptr b5 0)]) rfl rfl) ?_)
    refine lp rfl rfl (sc TyTG.cb35 rfl (HC.mono H ?_))
    rintro _ e3 ⟨r, rfl, H⟩
    refine lv rfl rfl (va rfl) ?_
    refine ln (qn (xs (xs (xr ?_))))
    refine lv rfl rfl (vm rfl) (lv rfl rfl (vr rfl rfl rfl) ?_)
    refine ln (qn ?_)
    refine xc (b := decide (r < 0)) rfl (fun d9 => ?_) (fun d9 => ?_)
    ·replace H := H.1 d9
     refine xs (xr ?_)
     refine lv rfl rfl (va rfl) (lv rfl rfl (va rfl) ?_)
     refine ln (qn (xt (qr ?_)))
     exact endQ_ret _ (res_two Tryz.results21 (rv_tmp rfl) (rv_tmp rfl)) H
    ·replace H := H.2 d9
     refine xi (qn (xs (xr ?_)))
     refine lv rfl rfl (vm rfl) (lv rfl rfl (vm rfl) ?_)
     obtain ⟨b8, c0, f2, i2, f7, Hq⟩ := H
     subst f2
     have H := Hq; clear Hq
     refine lv rfl rfl (v := (ptr b8 (c0 + (Int.toNat r) * 1))) (vi TyTG.el26 rfl rfl i2 f7) ?_
     obtain ⟨d1, i9, H⟩ := H
     refine lv rfl rfl (vl TyTG.agg3 rfl i9) (lv rfl rfl (va rfl) (lv rfl rfl (va rfl) ?_))
     refine ln (qn (xt ?_))
     exact endQ_ret _ (res_two Tryz.results21 (rv_tmp rfl) (rv_tmp rfl)) H
theorem f36_sh (n : Int) (a1 : Nat) (a0 : Nat) (h : Heap) (R : Value → Heap → Prop)
  (H : (∃ x : Option Addr, ∃ a3 a2 : Nat, hcell h a1 a0 = some (.slice x a3 a2) ∧ HC Tryz.prog 37 #[(.slice x a3 a2), (.int .i64 n)] h (fun vv h1 => ∃ r : Option Addr, ∃ a5 a4 : Nat, vv = (.slice r a5 a4) ∧ HC Tryz.prog 32 #[(.slice r a5 a4)] h1 (fun vv h2 => ∃ r0 : Bool, ∃ r1 : ByteArray, vv = (.tuple #[(.bool r0), (.string r1)]) ∧ R (.bool (!r0)) h2)))) :
  HC Tryz.prog 36 #[(.int .i64 n), (ptr a1 a0)] h R := by
 refine hc_of (args := [(.int .i64 n), (ptr a1 a0)]) Tryz.func36 rfl Tryz.ntmps36 (Nat.le_of_ble_eq_true rfl) ?_
 refine xs (xr ?_)
 refine lv rfl rfl (va rfl) ?_
 refine ln (qn (xs (xr ?_)))
 obtain ⟨x, a3, a2, a6, H⟩ := H
 refine lv rfl rfl (vl TyTG.agg22 rfl a6) (lv rfl rfl (vm rfl) ?_)
 refine lp rfl rfl (sc TyTG.cb37 rfl (HC.mono H ?_))
 rintro _ h1 ⟨r, a5, a4, rfl, H⟩
 refine lp rfl rfl (sc TyTG.cb32 rfl (HC.mono H ?_))
 rintro _ h2 ⟨r0, r1, rfl, H⟩
 refine lv rfl rfl (vm rfl) (lv rfl rfl (vx rfl rfl) (lv rfl rfl (vx rfl rfl) (lv rfl rfl (va rfl) (lv rfl rfl (va rfl) ?_))))
 refine ln (qn (xs (xr ?_)))
 refine lv rfl rfl (vm rfl) (lv rfl rfl (v := (.bool (!r0))) (hv_not (b := r0) rfl) (lv rfl rfl (va rfl) ?_))
 refine ln (qn (xt ?_))
 exact endQ_ret _ (res_one Tryz.results36 (rv_tmp rfl)) H
theorem f18_sh (l : Option Addr) (a4 : Nat) (a5 : Nat) (h : Heap) (R : Value → Heap → Prop)
  (H : HC Tryz.prog 17 #[(.slice l a4 a5)] h (fun vv h1 => ∃ r : Int, vv = (.int .i64 r) ∧ (((r != 0) = true → R (.tuple #[(.bool false), (.string ByteArray.empty), (.int .i64 r)]) h1) ∧ ((r != 0) = false → HC Tryz.prog 9 #[(.slice l a4 a5)] h1 (fun vv h2 => ∃ a7 : Option Addr, ∃ a0 a8 : Nat, vv = (.slice a7 a0 a8) ∧ (∃ (I2 : Int → Heap → Prop) (b8 : Int → Heap → Nat), I2 0 h2 ∧ (∀ (i : Int) (h3 : Heap), I2 i h3 → (((decide (i < (a0 : Int))) = true → (∃ a3 a2 : Nat, a7 = some ⟨a3, a2, none⟩ ∧ (0 : Int) ≤ i ∧ i < (a0 : Int) ∧ (∃ x : ByteArray, hcell h3 a3 (a2 + (Int.toNat i) * 1) = some (.string x) ∧ HC Tryz.prog 27 #[(.slice l a4 a5), (.string x)] h3 (fun vv h4 => ∃ c4 : Option Addr, ∃ a6 b7 : Nat, vv = (.slice c4 a6 b7) ∧ (((decide ((a6 : Int) > 24)) = true → R (.tuple #[(.bool false), (.string ByteArray.empty), (.int .i64 250)]) h4) ∧ ((decide ((a6 : Int) > 24)) = false → (I2 (IntKind.i64.wrap (i + 1)) h4 ∧ b8 (IntKind.i64.wrap (i + 1)) h4 < b8 i h3))))))) ∧ ((decide (i < (a0 : Int))) = false → (∃ (b2 : Int → Heap → Prop) (b1 : Int → Heap → Nat), b2 0 h3 ∧ (∀ (a1 : Int) (h5 : Heap), b2 a1 h5 → (((decide (a1 < (a0 : Int))) = true → (∃ a3 a2 : Nat, a7 = some ⟨a3, a2, none⟩ ∧ (0 : Int) ≤ a1 ∧ a1 < (a0 : Int) ∧ (∃ x : ByteArray, hcell h5 a3 (a2 + (Int.toNat a1) * 1) = some (.string x) ∧ HC Tryz.prog 11 #[(.slice l a4 a5), (.string x)] h5 (fun vv h6 => ∃ r0 : Option Addr, ∃ a9 b0 : Nat, ∃ r1 : Int, vv = (.tuple #[(.slice r0 a9 b0), (.int .i64 r1)]) ∧ (((r1 != 0) = true → (∃ b3 : ByteArray, hcell h6 a3 (a2 + (Int.toNat a1) * 1) = some (.string b3) ∧ R (.tuple #[(.bool false), (.string b3), (.int .i64 0)]) h6)) ∧ ((r1 != 0) = false → (b2 (IntKind.i64.wrap (a1 + 1)) h6 ∧ b1 (IntKind.i64.wrap (a1 + 1)) h6 < b1 a1 h5))))))) ∧ ((decide (a1 < (a0 : Int))) = false → R (.tuple #[(.bool true), (.string ByteArray.empty), (.int .i64 0)]) h5))))))))))))) :
  HC Tryz.prog 18 #[(.slice l a4 a5)] h R := by
 refine hc_of (args := [(.slice l a4 a5)]) Tryz.func18 rfl Tryz.ntmps18 (Nat.le_of_ble_eq_true rfl) ?_
 refine xs (xr ?_)
 refine lv rfl rfl (va rfl) (lv rfl rfl (va rfl) (lv rfl rfl (va rfl) ?_))
 refine ln (qn (xs (xs (xr ?_))))
 refine lv rfl rfl (vm rfl) ?_
 refine lp rfl rfl (sc TyTG.cb17 rfl (HC.mono H ?_))
 rintro _ h1 ⟨r, rfl, H⟩
 refine lv rfl rfl (va rfl) ?_
 refine ln (qn (xs (xr ?_)))
 refine lv rfl rfl (vm rfl) (lv rfl rfl (vr rfl rfl rfl) ?_)
 refine ln (qn ?_)
 refine xc (b := r != 0) rfl (fun c0 => ?_) (fun c0 => ?_)
 ·replace H := H.1 c0
  refine xs (xr ?_)
  refine lv rfl rfl (vm rfl) (lv rfl rfl (va rfl) (lv rfl rfl (va rfl) (lv rfl rfl (va rfl) ?_)))
  refine ln (qn (xt (qr ?_)))
  exact endQ_ret _ (res_three Tryz.results18 (rv_tmp rfl) (rv_tmp rfl) (rv_tmp rfl)) H
 ·replace H := H.2 c0
  refine xi (qn (xs (xr ?_)))
  refine lv rfl rfl (vm rfl) ?_
  refine lp rfl rfl (sc TyTG.cb9 rfl (HC.mono H ?_))
  rintro _ h2 ⟨a7, a0, a8, rfl, H⟩
  refine lv rfl rfl (va rfl) ?_
  refine ln (qn (xs (xs (xr ?_))))
  refine lv rfl rfl (va rfl) ?_
  refine ln (qn (xb ?_))
  obtain ⟨I2, b8, d2, d4⟩ := H
  refine xl (σ := Int) (fun s => [(0, (.slice l a4 a5)), (6, (.slice a7 a0 a8)), (7, (.int .i64 s))]) (fun s h' => I2 s h' ∧ True) (fun s h' => b8 s h') 0 ⟨d2, trivial⟩ (hc rfl (hc rfl (hc rfl hn))) ?_
  rintro i ρ h3 ⟨d3, -⟩
  have H := d4 i h3 d3
  refine xs (xs (xr ?_))
  refine lv rfl rfl (vm rfl) (lv rfl rfl (vm rfl) (lv rfl rfl (v := (.int .i64 (a0 : Int))) (hv_len (n := a0) TyTG.u24 rfl) (lv rfl rfl (vr rfl rfl rfl) ?_)))
  refine ln (qn ?_)
  refine xc (b := decide (i < (a0 : Int))) rfl (fun c3 => ?_) (fun c3 => ?_)
  ·replace H := H.1 c3
   refine xi (qn (xs (xb (xs (xr ?_)))))
   refine lv rfl rfl (vm rfl) (lv rfl rfl (vm rfl) (lv rfl rfl (vm rfl) ?_))
   obtain ⟨a3, a2, c1, d1, d5, Hq⟩ := H
   subst c1
   have H := Hq; clear Hq
   refine lv rfl rfl (v := (ptr a3 (a2 + (Int.toNat i) * 1))) (vi TyTG.el24 rfl rfl d1 d5) ?_
   obtain ⟨x, c7, H⟩ := H
   refine lv rfl rfl (vl TyTG.agg9 rfl c7) ?_
   refine lp rfl rfl (sc TyTG.cb27 rfl (HC.mono H ?_))
   rintro _ h4 ⟨c4, a6, b7, rfl, H⟩
   refine lv rfl rfl (v := (.int .i64 (a6 : Int))) (hv_len (n := a6) TyTG.u26 rfl) (lv rfl rfl (vr rfl rfl rfl) ?_)
   refine ln (qn ?_)
   refine xc (b := decide ((a6 : Int) > 24)) rfl (fun b5 => ?_) (fun b5 => ?_)
   ·replace H := H.1 b5
    refine xs (xr ?_)
    refine lv rfl rfl (va rfl) (lv rfl rfl (va rfl) (lv rfl rfl (va rfl) ?_))
    refine ln (qn (xt (br (qr (qr (br (qr ?_)))))))
    exact endQ_ret _ (res_three Tryz.results18 (rv_tmp rfl) (rv_tmp rfl) (rv_tmp rfl)) H
   ·replace H := H.2 b5
    refine xi (bn (qn (xr ?_)))
    refine lv rfl rfl (vm rfl) (lv rfl rfl (vr rfl rfl rfl) (lv rfl rfl (va rfl) ?_))
    refine ln (qn ?_)
    exact ⟨IntKind.i64.wrap (i + 1), ⟨⟨H.1, trivial⟩, H.2⟩, (hc rfl (hc rfl (hc rfl hn)))⟩
  ·replace H := H.2 c3
   refine xe (qe (qe (bh (qn (xs (xs (xr ?_)))))))
   refine lv rfl rfl (va rfl) ?_
   refine ln (qn (xb ?_))
   obtain ⟨b2, b1, c9, c6⟩ := H
   refine xl (σ := Int) (fun s => [(0, (.slice l a4 a5)), (6, (.slice a7 a0 a8)), (8, (.int .i64 s))]) (fun s h' => b2 s h' ∧ True) (fun s h' => b1 s h') 0 ⟨c9, trivial⟩ (hc rfl (hc rfl (hc rfl hn))) ?_
   rintro a1 ρ h5 ⟨d0, -⟩
   have H := c6 a1 h5 d0
   refine xs (xs (xr ?_))
   refine lv rfl rfl (vm rfl) (lv rfl rfl (vm rfl) (lv rfl rfl (v := (.int .i64 (a0 : Int))) (hv_len (n := a0) TyTG.u24 rfl) (lv rfl rfl (vr rfl rfl rfl) ?_)))
   refine ln (qn ?_)
   refine xc (b := decide (a1 < (a0 : Int))) rfl (fun b4 => ?_) (fun b4 => ?_)
   ·replace H := H.1 b4
    refine xi (qn (xs (xb (xs (xr ?_)))))
    refine lv rfl rfl (vm rfl) (lv rfl rfl (vm rfl) (lv rfl rfl (vm rfl) ?_))
    obtain ⟨a3, a2, c1, b9, c2, Hq⟩ := H
    subst c1
    have H := Hq; clear Hq
    refine lv rfl rfl (v := (ptr a3 (a2 + (Int.toNat a1) * 1))) (vi TyTG.el24 rfl rfl b9 c2) ?_
    obtain ⟨x, c5, H⟩ := H
    refine lv rfl rfl (vl TyTG.agg9 rfl c5) ?_
    refine lp rfl rfl (sc TyTG.cb11 rfl (HC.mono H ?_))
    rintro _ h6 ⟨r0, a9, b0, r1, rfl, H⟩
    refine lv rfl rfl (vm rfl) (lv rfl rfl (vx rfl rfl) (lv rfl rfl (vx rfl rfl) (lv rfl rfl (va rfl) (lv rfl rfl (va rfl) ?_))))
    refine ln (qn (xs (xr ?_)))
    refine lv rfl rfl (vm rfl) (lv rfl rfl (vr rfl rfl rfl) ?_)
    refine ln (qn ?_)
    refine xc (b := r1 != 0) rfl (fun b6 => ?_) (fun b6 => ?_)
    ·replace H := H.1 b6
     refine xs ?_
     refine hx_draw TyTG.mixed [.pure, .pure, .pure, .read, .pure, .pure, .pure] [0, 1, 2, 3, 4, 5, 6] (by kernel_rfl) ?_
     refine pp (i := 0) rfl (wanted_0 rfl) rfl (.slice (some ⟨a3, a2, none⟩) a0 a8) (fun _ => vm rfl) ?_
     refine pp (i := 1) rfl (wanted_0 rfl) rfl (.int .i64 a1) (fun _ => vm rfl) ?_
     refine pp (i := 2) rfl (wanted_0 rfl) rfl (ptr a3 (a2 + (Int.toNat a1) * 1)) (fun _ => vi TyTG.el24 rfl rfl b9 c2) ?_
     obtain ⟨b3, c8, H⟩ := H
     refine pr (i := 3) rfl (wanted_0 rfl) rfl (.string b3) (fun _ he => vl TyTG.agg9 rfl (Ext.cell he c8)) ?_
     refine pp (i := 4) rfl (wanted_0 rfl) rfl (.bool false) (fun _ => va rfl) ?_
     refine pp (i := 5) rfl (wanted_0 rfl) rfl (.string b3) (fun _ => va rfl) ?_
     refine pp (i := 6) rfl (wanted_0 rfl) rfl (.int .i64 0) (fun _ => va rfl) ?_
     refine hp_nil ?_
     refine qn (xt (br (qr (qr (br (qr ?_))))))
     exact endQ_ret _ (res_three Tryz.results18 (rv_tmp rfl) (rv_tmp rfl) (rv_tmp rfl)) H
    ·replace H := H.2 b6
     refine xi (bn (qn (xr ?_)))
     refine lv rfl rfl (vm rfl) (lv rfl rfl (vr rfl rfl rfl) (lv rfl rfl (va rfl) ?_))
     refine ln (qn ?_)
     exact ⟨IntKind.i64.wrap (a1 + 1), ⟨⟨H.1, trivial⟩, H.2⟩, (hc rfl (hc rfl (hc rfl hn)))⟩
   ·replace H := H.2 b4
    refine xe (qe (qe (bh (qn (xs (xr ?_))))))
    refine lv rfl rfl (va rfl) (lv rfl rfl (va rfl) (lv rfl rfl (va rfl) ?_))
    refine ln (qn (xt ?_))
    exact endQ_ret _ (res_three Tryz.results18 (rv_tmp rfl) (rv_tmp rfl) (rv_tmp rfl)) H
theorem f20_sh (l : Option Addr) (b4 : Nat) (c5 : Nat) (n : Int) (h : Heap) (R : Value → Heap → Prop)
  (H : (∃ (I1 : Option Addr → Nat → Nat → Int → Heap → Prop) (d4 : Option Addr → Nat → Nat → Int → Heap → Nat), I1 none 0 0 0 h ∧ (∀ (c2 : Option Addr) (a9 : Nat) (b0 : Nat) (i : Int) (h1 : Heap), I1 c2 a9 b0 i h1 → (((decide (i < (b4 : Int))) = true → (∃ A9 : Option Addr → Nat → Nat → Heap → Prop, (∃ c0 b9 : Nat, l = some ⟨c0, b9, none⟩ ∧ (0 : Int) ≤ i ∧ i < (b4 : Int) ∧ (∃ a1 : Int, ∃ a5 a3 : ByteArray, ∃ b3 : Int, ∃ a6 : Bool, ∃ a2 a0 a4 : Int, hcell h1 c0 (b9 + (Int.toNat i) * 8) = some (.int .i64 a1) ∧ hcell h1 c0 ((b9 + (Int.toNat i) * 8) + 1) = some (.string a5) ∧ hcell h1 c0 ((b9 + (Int.toNat i) * 8) + 2) = some (.string a3) ∧ hcell h1 c0 ((b9 + (Int.toNat i) * 8) + 3) = some (.int .i64 b3) ∧ hcell h1 c0 ((b9 + (Int.toNat i) * 8) + 4) = some (.bool a6) ∧ hcell h1 c0 ((b9 + (Int.toNat i) * 8) + 5) = some (.int .i64 a2) ∧ hcell h1 c0 ((b9 + (Int.toNat i) * 8) + 6) = some (.int .i64 a0) ∧ hcell h1 c0 ((b9 + (Int.toNat i) * 8) + 7) = some (.int .i64 a4) ∧ (((decide (a0 > n)) = true → (∀ (h4 : Heap), Ext h1 h4 → (A9 c2 a9 b0 h4))) ∧ ((decide (a0 > n)) = false → (∀ mc : ByteArray, mc = (bif decide (a4 > n) then bif a1 == 1 then ByteArray.empty else a3 else a3) → (∀ b6 : Int, b6 = (bif decide (a4 > n) then 0 else b3) → (∀ b5 : Int, b5 = (bif decide (a4 > n) then (-1) else a4) → (∀ (h5 : Heap), Ext h1 h5 → (∀ nb c9, nb = Array.size h5 → c9 = Array.push h5 (.cells #[(.int .i64 a1), (.string a5), (.string mc), (.int .i64 b6), (.bool (!(decide (a4 > n)) && a6)), (.int .i64 a2), (.int .i64 a0), (.int .i64 b5)] 40) → HAppend Tryz.prog 22 22 (.slice c2 a9 b0) (.slice (some ⟨nb, 0, none⟩) 1 1) c9 (fun vv e8 => ∃ ap : Option Addr, ∃ c8 c7 : Nat, vv = (.slice ap c8 c7) ∧ (A9 ap c8 c7 e8))))))))))) ∧ (∀ (b2 : Option Addr) (a7 : Nat) (a8 : Nat) (h2 : Heap), A9 b2 a7 a8 h2 → (I1 b2 a7 a8 (IntKind.i64.wrap (i + 1)) h2 ∧ d4 b2 a7 a8 (IntKind.i64.wrap (i + 1)) h2 < d4 c2 a9 b0 i h1)))) ∧ ((decide (i < (b4 : Int))) = false → R (.slice c2 a9 b0) h1))))) :
  HC Tryz.prog 20 #[(.slice l b4 c5), (.int .i64 n)] h R := by
 refine hc_of (args := [(.slice l b4 c5), (.int .i64 n)]) Tryz.func20 rfl Tryz.ntmps20 (Nat.le_of_ble_eq_true rfl) ?_
 refine xs (xr ?_)
 refine lv rfl rfl (va rfl) ?_
 refine ln (qn (xs (xr ?_)))
 refine lv rfl rfl (va rfl) ?_
 refine ln (qn (xs (xs (xr ?_))))
 refine lv rfl rfl (va rfl) ?_
 refine ln (qn (xb ?_))
 obtain ⟨I1, d4, g6, g8⟩ := H
 refine xl (σ := Option Addr × Nat × Nat × Int) (fun s => [(0, (.slice l b4 c5)), (1, (.int .i64 n)), (5, (.slice s.1 s.2.1 s.2.2.1)), (6, (.int .i64 s.2.2.2))]) (fun s h' => I1 s.1 s.2.1 s.2.2.1 s.2.2.2 h' ∧ True) (fun s h' => d4 s.1 s.2.1 s.2.2.1 s.2.2.2 h') (none, 0, 0, 0) ⟨g6, trivial⟩ (hc rfl (hc rfl (hc rfl (hc rfl hn)))) ?_
 rintro ⟨c2, a9, b0, i⟩ ρ h1 ⟨g9, -⟩
 have H := g8 c2 a9 b0 i h1 g9
 refine xs (xs (xr ?_))
 refine lv rfl rfl (vm rfl) (lv rfl rfl (vm rfl) (lv rfl rfl (v := (.int .i64 (b4 : Int))) (hv_len (n := b4) TyTG.u22 rfl) (lv rfl rfl (vr rfl rfl rfl) ?_)))
 refine ln (qn ?_)
 refine xc (b := decide (i < (b4 : Int))) rfl (fun e4 => ?_) (fun e4 => ?_)
 ·replace H := H.1 e4
  refine xi (qn ?_)
  obtain ⟨A9, e5, e2⟩ := H
  refine xk (fun ρ h' => ∃ b2 : Option Addr, ∃ a7 a8 : Nat, (A9 b2 a7 a8 h' ∧ True) ∧ Has ρ [(0, (.slice l b4 c5)), (1, (.int .i64 n)), (5, (.slice b2 a7 a8)), (6, (.int .i64 i))]) ?_ ?_
  ·have H := e5; clear e5 e2
   refine xb (xs (xr ?_))
   refine lv rfl rfl (vm rfl) (lv rfl rfl (vm rfl) ?_)
   obtain ⟨c0, b9, g7, e9, g4, Hq⟩ := H
   subst g7
   have H := Hq; clear Hq
   refine lv rfl rfl (v := (ptr c0 (b9 + (Int.toNat i) * 8))) (vi TyTG.el22 rfl rfl e9 g4) ?_
   obtain ⟨a1, a5, a3, b3, a6, a2, a0, a4, f6, g1, g0, f3, f8, g5, g3, f4, H⟩ := H
   refine lv rfl rfl (vL (vs := [(.int .i64 a1), (.string a5), (.string a3), (.int .i64 b3), (.bool a6), (.int .i64 a2), (.int .i64 a0), (.int .i64 a4)]) TyTG.agg40 TyTG.sz40 rfl (cc f6 (cc g1 (cc g0 (cc f3 (cc f8 (cc g5 (cc g3 (cc f4 cn))))))))) ?_
   refine lp rfl rfl (hn_alloc TyTG.z40 ?_)
   intro m h3 d7 d5
   have g2 := ext_pushed_f83_sh d5
   have c4 : Array.size h1 ≤ m := Nat.le_of_eq (Eq.symm d7)
   have d8 : h3[m]? = some (.cells #[(.int .i64 0), (.string ByteArray.empty), (.string ByteArray.empty), (.int .i64 0), (.bool false), (.int .i64 0), (.int .i64 0), (.int .i64 0)] 40 (0, 0)) := by rw [d5]; exact push_new d7
   refine lp rfl rfl (hn_stores (vs := [(.int .i64 a1), (.string a5), (.string a3), (.int .i64 b3), (.bool a6), (.int .i64 a2), (.int .i64 a0), (.int .i64 a4)]) rfl rfl TyTG.sz40 rfl (HWs_row d8 (by simp)) ?_)
   intro h4 e7
   have c3 : h4[m]? = some (.cells #[(.int .i64 a1), (.string a5), (.string a3), (.int .i64 b3), (.bool a6), (.int .i64 a2), (.int .i64 a0), (.int .i64 a4)] 40 (0, 0)) := row_hsets_eq e7 d8 (by simp [sets])
   have d2 := ext_hsets e7 g2 c4
   refine ln (qn (xs (xs (xr ?_))))
   refine lv rfl rfl (v := (ptr m 6)) (vf TyTG.fld40_6 (b := m) (o := 0) rfl) (lv rfl rfl (vl TyTG.agg3 rfl (rc c3 rfl)) (lv rfl rfl (vm rfl) (lv rfl rfl (vr rfl rfl rfl) ?_)))
   refine ln (qn ?_)
   refine xc (b := decide (a0 > n)) rfl (fun d3 => ?_) (fun d3 => ?_)
   ·replace H := H.1 d3
    refine xe (qe (bh ?_))
    replace H := H h4 d2
    refine qn ?_
    exact ⟨_, _, _, ⟨H, trivial⟩, (hc rfl (hc rfl (hc rfl (hc rfl hn))))⟩
   ·replace H := H.2 d3
    refine xi (qn ?_)
    obtain ⟨mc, hq31⟩ : ∃ q : ByteArray, q = (bif decide (a4 > n) then bif a1 == 1 then ByteArray.empty else a3 else a3) := ⟨_, rfl⟩
    replace H := H mc hq31
    obtain ⟨b6, hq32⟩ : ∃ q : Int, q = (bif decide (a4 > n) then 0 else b3) := ⟨_, rfl⟩
    replace H := H b6 hq32
    obtain ⟨b5, hq33⟩ : ∃ q : Int, q = (bif decide (a4 > n) then (-1) else a4) := ⟨_, rfl⟩
    replace H := H b5 hq33
    refine xk (fun ρ h' => (Ext h1 h' ∧ h'[m]? = some (.cells #[(.int .i64 a1), (.string a5), (.string mc), (.int .i64 b6), (.bool (!(decide (a4 > n)) && a6)), (.int .i64 a2), (.int .i64 a0), (.int .i64 b5)] 40 (0, 0)) ∧ True) ∧ Has ρ [(0, (.slice (some ⟨c0, b9, none⟩) b4 c5)), (1, (.int .i64 n)), (5, (.slice c2 a9 b0)), (6, (.int .i64 i)), (7, (ptr m 0))]) ?_ ?_
    ·refine xs (xr ?_)
     refine lv rfl rfl (v := (ptr m 7)) (vf TyTG.fld40_7 (b := m) (o := 0) rfl) (lv rfl rfl (vl TyTG.agg3 rfl (rc c3 rfl)) (lv rfl rfl (vm rfl) (lv rfl rfl (vr rfl rfl rfl) ?_)))
     refine ln (qn ?_)
     refine xc (b := decide (a4 > n)) rfl (fun b1 => ?_) (fun b1 => ?_)
     ·refine xs (xr ?_)
      refine lv rfl rfl (v := (ptr m 7)) (vf TyTG.fld40_7 (b := m) (o := 0) rfl) ?_
      refine lp rfl rfl (hn_store (v := (.int .i64 (-1))) rfl rfl TyTG.sz3 rfl (HW_row c3 (by simp)) ?_)
      intro h6 e0
      have d0 : h6[m]? = some (.cells #[(.int .i64 a1), (.string a5), (.string a3), (.int .i64 b3), (.bool a6), (.int .i64 a2), (.int .i64 a0), (.int .i64 (-1))] 40 (0, 0)) := row_hset_eq e0 c3 rfl
      have f0 := ext_hset e0 d2 c4
      refine lv rfl rfl (v := (ptr m 3)) (vf TyTG.fld40_3 (b := m) (o := 0) rfl) ?_
      refine lp rfl rfl (hn_store (v := (.int .i64 0)) rfl rfl TyTG.sz27 rfl (HW_row d0 (by simp)) ?_)
      intro h7 e3
      have c6 : h7[m]? = some (.cells #[(.int .i64 a1), (.string a5), (.string a3), (.int .i64 0), (.bool a6), (.int .i64 a2), (.int .i64 a0), (.int .i64 (-1))] 40 (0, 0)) := row_hset_eq e3 d0 rfl
      have f9 := ext_hset e3 f0 c4
      refine lv rfl rfl (v := (ptr m 4)) (vf TyTG.fld40_4 (b := m) (o := 0) rfl) ?_
      refine lp rfl rfl (hn_store (v := (.bool false)) rfl rfl TyTG.sz4 rfl (HW_row c6 (by simp)) ?_)
      intro h8 d6
      have b7 : h8[m]? = some (.cells #[(.int .i64 a1), (.string a5), (.string a3), (.int .i64 0), (.bool false), (.int .i64 a2), (.int .i64 a0), (.int .i64 (-1))] 40 (0, 0)) := row_hset_eq d6 c6 rfl
      have e6 := ext_hset d6 f9 c4
      refine ln (qn (xs (xr ?_)))
      refine lv rfl rfl (v := (ptr m 0)) (vf TyTG.fld40_0 (b := m) (o := 0) rfl) (lv rfl rfl (vl TyTG.agg3 rfl (rc b7 rfl)) (lv rfl rfl (vr rfl rfl rfl) ?_))
      refine ln (qn ?_)
      refine xc (b := a1 == 1) rfl (fun b8 => ?_) (fun b8 => ?_)
      ·refine xr ?_
       refine lv rfl rfl (v := (ptr m 2)) (vf TyTG.fld40_2 (b := m) (o := 0) rfl) ?_
       refine lp rfl rfl (hn_store (v := (.string ByteArray.empty)) rfl rfl TyTG.sz9 rfl (HW_row b7 (by simp)) ?_)
       intro h9 d9
       have d1 : h9[m]? = some (.cells #[(.int .i64 a1), (.string a5), (.string ByteArray.empty), (.int .i64 0), (.bool false), (.int .i64 a2), (.int .i64 a0), (.int .i64 (-1))] 40 (0, 0)) := row_hset_eq d9 b7 rfl
       have f7 := ext_hset d9 e6 c4
       refine ln (qn ?_)
       exact ⟨⟨f7, (row_congr d1 (by first | rfl | ((try rw [b1]); (try rw [b8]); (try rw [hq31]); (try rw [hq32]); (try rw [hq33]); (try rw [b1]); (try rw [b8]); all_goals first | rfl | (simp only [Bool.true_or, Bool.or_true, Bool.false_or, Bool.or_false, Bool.true_and, Bool.and_true, Bool.false_and, Bool.and_false, Bool.not_true, Bool.not_false, Bool.cond_true, Bool.cond_false]; done)) | simp [b1, b8, hq31, hq32, hq33, b1, b8])), trivial⟩, (hc rfl (hc rfl (hc rfl (hc rfl (hc rfl hn)))))⟩
      ·refine xi (qn ?_)
       exact ⟨⟨e6, (row_congr b7 (by first | rfl | ((try rw [b1]); (try rw [b8]); (try rw [hq31]); (try rw [hq32]); (try rw [hq33]); (try rw [b1]); (try rw [b8]); all_goals first | rfl | (simp only [Bool.true_or, Bool.or_true, Bool.false_or, Bool.or_false, Bool.true_and, Bool.and_true, Bool.false_and, Bool.and_false, Bool.not_true, Bool.not_false, Bool.cond_true, Bool.cond_false]; done)) | simp [b1, b8, hq31, hq32, hq33, b1, b8])), trivial⟩, (hc rfl (hc rfl (hc rfl (hc rfl (hc rfl hn)))))⟩
     ·refine xi (qn ?_)
      exact ⟨⟨d2, (row_congr c3 (by first | rfl | ((try rw [b1]); (try rw [hq31]); (try rw [hq32]); (try rw [hq33]); (try rw [b1]); all_goals first | rfl | (simp only [Bool.true_or, Bool.or_true, Bool.false_or, Bool.or_false, Bool.true_and, Bool.and_true, Bool.false_and, Bool.and_false, Bool.not_true, Bool.not_false, Bool.cond_true, Bool.cond_false]; done)) | simp [b1, hq31, hq32, hq33, b1])), trivial⟩, (hc rfl (hc rfl (hc rfl (hc rfl (hc rfl hn)))))⟩
    ·rintro ρ h5 ⟨⟨f5, c1, -⟩, hH⟩
     refine xh _ hH ?_
     refine xr ?_
     refine lv rfl rfl (vm rfl) (lv rfl rfl (vL (vs := [(.int .i64 a1), (.string a5), (.string mc), (.int .i64 b6), (.bool (!(decide (a4 > n)) && a6)), (.int .i64 a2), (.int .i64 a0), (.int .i64 b5)]) TyTG.agg40 TyTG.sz40 rfl (cc (rc c1 rfl) (cc (rc c1 rfl) (cc (rc c1 rfl) (cc (rc c1 rfl) (cc (rc c1 rfl) (cc (rc c1 rfl) (cc (rc c1 rfl) (cc (rc c1 rfl) cn))))))))) ?_)
     replace H := H h5 f5
     refine lp rfl rfl (hn_buildSlice (n := 1) (vs := [(0, (.agg #[(.int .i64 a1), (.string a5), (.string mc), (.int .i64 b6), (.bool (!(decide (a4 > n)) && a6)), (.int .i64 a2), (.int .i64 a0), (.int .i64 b5)]))]) (cs := #[(.int .i64 a1), (.string a5), (.string mc), (.int .i64 b6), (.bool (!(decide (a4 > n)) && a6)), (.int .i64 a2), (.int .i64 a0), (.int .i64 b5)]) TyTG.u22 TyTG.sz40 TyTG.z40 rfl rfl (by kernel_rfl) ?_)
     intro nb c9 f2 e1
     replace H := H nb c9 f2 e1
     have i0 := ext_pushed_f83_sh e1
     refine lp rfl rfl (hs_append rfl rfl (HAppend.mono H ?_))
     rintro _ e8 ⟨ap, c8, c7, rfl, H⟩
     refine lv rfl rfl (va rfl) ?_
     refine ln (bn (qn ?_))
     exact ⟨_, _, _, ⟨H, trivial⟩, (hc rfl (hc rfl (hc rfl (hc rfl hn))))⟩
  ·rintro ρ h2 ⟨b2, a7, a8, ⟨f1, -⟩, hH⟩
   have H := e2 b2 a7 a8 h2 f1; clear e5 e2
   refine xh _ hH ?_
   refine xr ?_
   refine lv rfl rfl (vm rfl) (lv rfl rfl (vr rfl rfl rfl) (lv rfl rfl (va rfl) ?_))
   refine ln (qn ?_)
   exact ⟨(b2, a7, a8, IntKind.i64.wrap (i + 1)), ⟨⟨H.1, trivial⟩, H.2⟩, (hc rfl (hc rfl (hc rfl (hc rfl hn))))⟩
 ·replace H := H.2 e4
  refine xe (qe (qe (bh (qn (xs (xr ?_))))))
  refine lv rfl rfl (vm rfl) (lv rfl rfl (va rfl) ?_)
  refine ln (qn (xt ?_))
  exact endQ_ret _ (res_one Tryz.results20 (rv_tmp rfl)) H
theorem f22_sh (l : Option Addr) (a2 : Nat) (a8 : Nat) (h : Heap) (R : Value → Heap → Prop)
  (H : HC Tryz.prog 18 #[(.slice l a2 a8)] h (fun vv h1 => ∃ r0 : Bool, ∃ r1 : ByteArray, ∃ r2 : Int, vv = (.tuple #[(.bool r0), (.string r1), (.int .i64 r2)]) ∧ (((r2 != 0) = true → R (.tuple #[(.int .i64 0), (.int .i64 r2)]) h1) ∧ ((r2 != 0) = false → ((r0 = true → R (.tuple #[(.int .i64 (-1)), (.int .i64 0)]) h1) ∧ (r0 = false → (∃ (I3 : Int → Int → Heap → Prop) (b9 : Int → Int → Heap → Nat), I3 (-1) 0 h1 ∧ (∀ (a0 : Int) (i : Int) (h2 : Heap), I3 a0 i h2 → (((decide (i < (IntKind.i64.wrap (2 * (a2 : Int))))) = true → (∃ b1 : Int → Heap → Prop, (∃ a7 a6 : Nat, l = some ⟨a7, a6, none⟩ ∧ (0 : Int) ≤ IntKind.i64.wrap (Int.tdiv i 2) ∧ IntKind.i64.wrap (Int.tdiv i 2) < (a2 : Int) ∧ (∃ x : Int, hcell h2 a7 ((a6 + (Int.toNat (IntKind.i64.wrap (Int.tdiv i 2))) * 8) + 6) = some (.int .i64 x) ∧ (∃ n : Int, ((((Int.tmod i 2) == 1) = true → (∃ b2 : Int, hcell h2 a7 ((a6 + (Int.toNat (IntKind.i64.wrap (Int.tdiv i 2))) * 8) + 7) = some (.int .i64 b2) ∧ (n = b2))) ∧ (((Int.tmod i 2) == 1) = false → (n = x))) ∧ ((((decide (n < 0)) || ((decide (a0 ≥ 0)) && (decide (n ≥ a0)))) = true → (b1 a0 h2)) ∧ (((decide (n < 0)) || ((decide (a0 ≥ 0)) && (decide (n ≥ a0)))) = false → HC Tryz.prog 20 #[(.slice (some ⟨a7, a6, none⟩) a2 a8), (.int .i64 n)] h2 (fun vv h4 => ∃ r : Option Addr, ∃ c1 c0 : Nat, vv = (.slice r c1 c0) ∧ HC Tryz.prog 18 #[(.slice r c1 c0)] h4 (fun vv h5 => ∃ a4 : Bool, ∃ b0 : ByteArray, ∃ a9 : Int, vv = (.tuple #[(.bool a4), (.string b0), (.int .i64 a9)]) ∧ (((!a4) = true → (b1 n h5)) ∧ ((!a4) = false → (b1 a0 h5)))))))))) ∧ (∀ (a3 : Int) (h3 : Heap), b1 a3 h3 → (I3 a3 (IntKind.i64.wrap (i + 1)) h3 ∧ b9 a3 (IntKind.i64.wrap (i + 1)) h3 < b9 a0 i h2)))) ∧ ((decide (i < (IntKind.i64.wrap (2 * (a2 : Int))))) = false → R (.tuple #[(.int .i64 a0), (.int .i64 0)]) h2)))))))))) :
  HC Tryz.prog 22 #[(.slice l a2 a8)] h R := by
 refine hc_of (args := [(.slice l a2 a8)]) Tryz.func22 rfl Tryz.ntmps22 (Nat.le_of_ble_eq_true rfl) ?_
 refine xs (xr ?_)
 refine lv rfl rfl (va rfl) (lv rfl rfl (va rfl) ?_)
 refine ln (qn (xs (xr ?_)))
 refine lv rfl rfl (vm rfl) ?_
 refine lp rfl rfl (sc TyTG.cb18 rfl (HC.mono H ?_))
 rintro _ h1 ⟨r0, r1, r2, rfl, H⟩
 refine lv rfl rfl (vm rfl) (lv rfl rfl (vx rfl rfl) (lv rfl rfl (vx rfl rfl) (lv rfl rfl (vx rfl rfl) (lv rfl rfl (va rfl) (lv rfl rfl (va rfl) ?_)))))
 refine lv rfl rfl (va rfl) ?_
 refine ln (qn (xs (xs (xr ?_))))
 refine lv rfl rfl (vm rfl) (lv rfl rfl (vr rfl rfl rfl) ?_)
 refine ln (qn ?_)
 refine xc (b := r2 != 0) rfl (fun c5 => ?_) (fun c5 => ?_)
 ·replace H := H.1 c5
  refine xs (xr ?_)
  refine lv rfl rfl (vm rfl) (lv rfl rfl (va rfl) (lv rfl rfl (va rfl) ?_))
  refine ln (qn (xt (qr ?_)))
  exact endQ_ret _ (res_two Tryz.results22 (rv_tmp rfl) (rv_tmp rfl)) H
 ·replace H := H.2 c5
  refine xi (qn (xs (xs (xr ?_))))
  refine lv rfl rfl (vm rfl) ?_
  refine ln (qn ?_)
  refine xc (b := r0) rfl (fun c7 => ?_) (fun c7 => ?_)
  ·replace H := H.1 c7
   refine xs (xr ?_)
   refine lv rfl rfl (va rfl) (lv rfl rfl (va rfl) ?_)
   refine ln (qn (xt (qr ?_)))
   exact endQ_ret _ (res_two Tryz.results22 (rv_tmp rfl) (rv_tmp rfl)) H
  ·replace H := H.2 c7
   refine xi (qn (xs (xr ?_)))
   refine lv rfl rfl (va rfl) ?_
   refine ln (qn (xs (xs (xr ?_))))
   refine lv rfl rfl (va rfl) ?_
   refine ln (qn (xb ?_))
   obtain ⟨I3, b9, d2, d1⟩ := H
   refine xl (σ := Int × Int) (fun s => [(0, (.slice l a2 a8)), (7, (.int .i64 s.1)), (8, (.int .i64 s.2))]) (fun s h' => I3 s.1 s.2 h' ∧ True) (fun s h' => b9 s.1 s.2 h') ((-1), 0) ⟨d2, trivial⟩ (hc rfl (hc rfl (hc rfl hn))) ?_
   rintro ⟨a0, i⟩ ρ h2 ⟨d4, -⟩
   have H := d1 a0 i h2 d4
   refine xs (xs (xr ?_))
   refine lv rfl rfl (vm rfl) (lv rfl rfl (vm rfl) (lv rfl rfl (v := (.int .i64 (a2 : Int))) (hv_len (n := a2) TyTG.u22 rfl) (lv rfl rfl (vr rfl rfl rfl) (lv rfl rfl (vr rfl rfl rfl) ?_))))
   refine ln (qn ?_)
   refine xc (b := decide (i < (IntKind.i64.wrap (2 * (a2 : Int))))) rfl (fun c4 => ?_) (fun c4 => ?_)
   ·replace H := H.1 c4
    refine xi (qn ?_)
    obtain ⟨b1, c6, b4⟩ := H
    refine xk (fun ρ h' => ∃ a3 : Int, (b1 a3 h' ∧ True) ∧ Has ρ [(0, (.slice l a2 a8)), (7, (.int .i64 a3)), (8, (.int .i64 i))]) ?_ ?_
    ·have H := c6; clear c6 b4
     refine xb (xs (xr ?_))
     refine lv rfl rfl (vm rfl) (lv rfl rfl (vm rfl) (lv rfl rfl (v := (.int .i64 (IntKind.i64.wrap (Int.tdiv i 2)))) (hv_quo rfl rfl (by decide)) ?_))
     obtain ⟨a7, a6, d3, c2, c3, Hq⟩ := H
     subst d3
     have H := Hq; clear Hq
     refine lv rfl rfl (v := (ptr a7 (a6 + (Int.toNat (IntKind.i64.wrap (Int.tdiv i 2))) * 8))) (vi TyTG.el22 rfl rfl c2 c3) (lv rfl rfl (v := (ptr a7 ((a6 + (Int.toNat (IntKind.i64.wrap (Int.tdiv i 2))) * 8) + 6))) (vf TyTG.fld40_6 (b := a7) (o := a6 + (Int.toNat (IntKind.i64.wrap (Int.tdiv i 2))) * 8) rfl) ?_)
     obtain ⟨x, c9, H⟩ := H
     refine lv rfl rfl (vl TyTG.agg3 rfl c9) (lv rfl rfl (va rfl) ?_)
     refine ln (qn ?_)
     obtain ⟨n, b5, b6⟩ := H
     refine xk (fun ρ h' => h2 = h' ∧ Has ρ [(0, (.slice (some ⟨a7, a6, none⟩) a2 a8)), (7, (.int .i64 a0)), (8, (.int .i64 i)), (9, (.int .i64 n))]) ?_ ?_
     ·have H := b5; clear b5 b6
      refine xs (xr ?_)
      refine lv rfl rfl (vm rfl) (lv rfl rfl (v := (.int .i64 (Int.tmod i 2))) (hv_rem rfl rfl (by decide)) (lv rfl rfl (vr rfl rfl rfl) ?_))
      refine ln (qn ?_)
      refine xc (b := (Int.tmod i 2) == 1) rfl (fun b7 => ?_) (fun b7 => ?_)
      ·replace H := H.1 b7
       refine xr ?_
       refine lv rfl rfl (vm rfl) (lv rfl rfl (vm rfl) (lv rfl rfl (v := (.int .i64 (IntKind.i64.wrap (Int.tdiv i 2)))) (hv_quo rfl rfl (by decide)) (lv rfl rfl (v := (ptr a7 (a6 + (Int.toNat (IntKind.i64.wrap (Int.tdiv i 2))) * 8))) (vi TyTG.el22 rfl rfl c2 c3) (lv rfl rfl (v := (ptr a7 ((a6 + (Int.toNat (IntKind.i64.wrap (Int.tdiv i 2))) * 8) + 7))) (vf TyTG.fld40_7 (b := a7) (o := a6 + (Int.toNat (IntKind.i64.wrap (Int.tdiv i 2))) * 8) rfl) ?_))))
       obtain ⟨b2, d0, H⟩ := H
       refine lv rfl rfl (vl TyTG.agg3 rfl d0) (lv rfl rfl (va rfl) ?_)
       refine ln (qn ?_)
       obtain rfl := H
       exact ⟨rfl, (hc rfl (hc rfl (hc rfl (hc rfl hn))))⟩
      ·replace H := H.2 b7
       refine xi (qn ?_)
       obtain rfl := H
       exact ⟨rfl, (hc rfl (hc rfl (hc rfl (hc rfl hn))))⟩
     ·have H := b6; clear b5 b6
      rintro ρ _ ⟨rfl, hH⟩
      refine xh _ hH ?_
      refine xs ?_
      refine xk (fun ρ h' => h2 = h' ∧ Has ρ [(0, (.slice (some ⟨a7, a6, none⟩) a2 a8)), (7, (.int .i64 a0)), (8, (.int .i64 i)), (9, (.int .i64 n)), (55, (.bool ((decide (n < 0)) || ((decide (a0 ≥ 0)) && (decide (n ≥ a0))))))]) ?_ ?_
      ·refine xr ?_
       refine lv rfl rfl (vm rfl) (lv rfl rfl (vr rfl rfl rfl) (lv rfl rfl (vm rfl) ?_))
       rcases bool_or (decide (n < 0)) with a1 | a1
       ·refine lo (wanted_n rfl rfl rfl a1) rfl ?_
        refine lo (wanted_n rfl rfl rfl a1) rfl ?_
        refine lo (wanted_n rfl rfl rfl a1) rfl ?_
        refine lo (wanted_u rfl rfl rfl) rfl ?_
        refine lo (wanted_u rfl rfl rfl) rfl ?_
        refine lo (wanted_u rfl rfl rfl) rfl ?_
        refine lo (wanted_n rfl rfl rfl a1) rfl ?_
        refine lv rfl rfl (v := (.bool true)) (hv_pick_t rfl a1 rfl) ?_
        refine ln (qn ?_)
        exact ⟨rfl, (hc rfl (hc rfl (hc rfl (hc rfl (hc (show ((.bool true) : Value) = (.bool ((decide (n < 0)) || ((decide (a0 ≥ 0)) && (decide (n ≥ a0))))) from (by first | rfl | ((try rw [a1]); all_goals first | rfl | (simp only [Bool.true_or, Bool.or_true, Bool.false_or, Bool.or_false, Bool.true_and, Bool.and_true, Bool.false_and, Bool.and_false, Bool.not_true, Bool.not_false, Bool.cond_true, Bool.cond_false]; done)) | simp [a1])) hn)))))⟩
       ·refine ly (wanted_y rfl rfl rfl a1) rfl (HStep.of_val (v := (.int .i64 a0)) (vm rfl) ?_)
        refine ly (wanted_y rfl rfl rfl a1) rfl (HStep.of_val (v := (.bool (decide (a0 ≥ 0)))) (vr rfl rfl rfl) ?_)
        refine ly (wanted_y rfl rfl rfl a1) rfl (HStep.of_val (v := (.bool (decide (a0 ≥ 0)))) (vm rfl) ?_)
        rcases bool_or (decide (a0 ≥ 0)) with a5 | a5
        ·refine ly (wanted_y rfl rfl rfl a5) rfl (HStep.of_val (v := (.int .i64 n)) (vm rfl) ?_)
         refine ly (wanted_y rfl rfl rfl a5) rfl (HStep.of_val (v := (.int .i64 a0)) (vm rfl) ?_)
         refine ly (wanted_y rfl rfl rfl a5) rfl (HStep.of_val (v := (.bool (decide (n ≥ a0)))) (vr rfl rfl rfl) ?_)
         refine ly (wanted_y rfl rfl rfl a1) rfl (HStep.of_val (v := (.bool (decide (n ≥ a0)))) (hv_pick_t rfl a5 rfl) ?_)
         refine lv rfl rfl (v := (.bool (decide (n ≥ a0)))) (hv_pick_f rfl a1 rfl) ?_
         refine ln (qn ?_)
         exact ⟨rfl, (hc rfl (hc rfl (hc rfl (hc rfl (hc (show ((.bool (decide (n ≥ a0))) : Value) = (.bool ((decide (n < 0)) || ((decide (a0 ≥ 0)) && (decide (n ≥ a0))))) from (by first | rfl | ((try rw [a1]); (try rw [a5]); all_goals first | rfl | (simp only [Bool.true_or, Bool.or_true, Bool.false_or, Bool.or_false, Bool.true_and, Bool.and_true, Bool.false_and, Bool.and_false, Bool.not_true, Bool.not_false, Bool.cond_true, Bool.cond_false]; done)) | simp [a1, a5])) hn)))))⟩
        ·refine lo (wanted_n rfl rfl rfl a5) rfl ?_
         refine lo (wanted_n rfl rfl rfl a5) rfl ?_
         refine lo (wanted_n rfl rfl rfl a5) rfl ?_
         refine ly (wanted_y rfl rfl rfl a1) rfl (HStep.of_val (v := (.bool false)) (hv_pick_f rfl a5 rfl) ?_)
         refine lv rfl rfl (v := (.bool false)) (hv_pick_f rfl a1 rfl) ?_
         refine ln (qn ?_)
         exact ⟨rfl, (hc rfl (hc rfl (hc rfl (hc rfl (hc (show ((.bool false) : Value) = (.bool ((decide (n < 0)) || ((decide (a0 ≥ 0)) && (decide (n ≥ a0))))) from (by first | rfl | ((try rw [a1]); (try rw [a5]); all_goals first | rfl | (simp only [Bool.true_or, Bool.or_true, Bool.false_or, Bool.or_false, Bool.true_and, Bool.and_true, Bool.false_and, Bool.and_false, Bool.not_true, Bool.not_false, Bool.cond_true, Bool.cond_false]; done)) | simp [a1, a5])) hn)))))⟩
      ·rintro ρ _ ⟨rfl, hH⟩
       refine xh _ hH ?_
       refine xc (b := ((decide (n < 0)) || ((decide (a0 ≥ 0)) && (decide (n ≥ a0))))) rfl (fun b3 => ?_) (fun b3 => ?_)
       ·replace H := H.1 b3
        refine xe (qe (bh (qn ?_)))
        exact ⟨_, ⟨H, trivial⟩, (hc rfl (hc rfl (hc rfl hn)))⟩
       ·replace H := H.2 b3
        refine xi (qn (xs (xr ?_)))
        refine lv rfl rfl (vm rfl) (lv rfl rfl (vm rfl) ?_)
        refine lp rfl rfl (sc TyTG.cb20 rfl (HC.mono H ?_))
        rintro _ h4 ⟨r, c1, c0, rfl, H⟩
        refine lp rfl rfl (sc TyTG.cb18 rfl (HC.mono H ?_))
        rintro _ h5 ⟨a4, b0, a9, rfl, H⟩
        refine lv rfl rfl (vm rfl) (lv rfl rfl (vx rfl rfl) (lv rfl rfl (vx rfl rfl) (lv rfl rfl (vx rfl rfl) (lv rfl rfl (va rfl) (lv rfl rfl (va rfl) ?_)))))
        refine lv rfl rfl (va rfl) ?_
        refine ln (qn (xs (xr ?_)))
        refine lv rfl rfl (vm rfl) (lv rfl rfl (v := (.bool (!a4))) (hv_not (b := a4) rfl) ?_)
        refine ln (qn ?_)
        refine xc (b := !a4) rfl (fun b8 => ?_) (fun b8 => ?_)
        ·replace H := H.1 b8
         refine xr ?_
         refine lv rfl rfl (vm rfl) (lv rfl rfl (va rfl) ?_)
         refine ln (bn (qn ?_))
         exact ⟨_, ⟨H, trivial⟩, (hc rfl (hc rfl (hc rfl hn)))⟩
        ·replace H := H.2 b8
         refine xi (bn (qn ?_))
         exact ⟨_, ⟨H, trivial⟩, (hc rfl (hc rfl (hc rfl hn)))⟩
    ·rintro ρ h3 ⟨a3, ⟨c8, -⟩, hH⟩
     have H := b4 a3 h3 c8; clear c6 b4
     refine xh _ hH ?_
     refine xr ?_
     refine lv rfl rfl (vm rfl) (lv rfl rfl (vr rfl rfl rfl) (lv rfl rfl (va rfl) ?_))
     refine ln (qn ?_)
     exact ⟨(a3, IntKind.i64.wrap (i + 1)), ⟨⟨H.1, trivial⟩, H.2⟩, (hc rfl (hc rfl (hc rfl hn)))⟩
   ·replace H := H.2 c4
    refine xe (qe (qe (bh (qn (xs (xr ?_))))))
    refine lv rfl rfl (vm rfl) (lv rfl rfl (va rfl) (lv rfl rfl (va rfl) ?_))
    refine ln (qn (xt ?_))
    exact endQ_ret _ (res_two Tryz.results22 (rv_tmp rfl) (rv_tmp rfl)) H
theorem f7_sh (l : Option Addr) (a7 : Nat) (a8 : Nat) (h : Heap) (R : Value → Heap → Prop)
  (H : HC Tryz.prog 8 #[] h (fun vv h1 => ∃ r : Bool, vv = (.bool r) ∧ (((!r) = true → R (.bool false) h1) ∧ ((!r) = false → HC Tryz.prog 16 #[(.slice l a7 a8)] h1 (fun vv h2 => ∃ r0 : Bool, ∃ r1 : ByteArray, ∃ r2 : Int, vv = (.tuple #[(.bool r0), (.string r1), (.int .i64 r2)]) ∧ HC Tryz.prog 18 #[(.slice l a7 a8)] h2 (fun vv h3 => ∃ a2 : Bool, ∃ a0 : ByteArray, ∃ a1 : Int, vv = (.tuple #[(.bool a2), (.string a0), (.int .i64 a1)]) ∧ ((((r0 != a2) || ((!decide (r1 = a0)) || (r2 != a1))) = true → R (.bool false) h3) ∧ (((r0 != a2) || ((!decide (r1 = a0)) || (r2 != a1))) = false → HC Tryz.prog 21 #[(.slice l a7 a8)] h3 (fun vv h4 => ∃ a5 a3 : Int, vv = (.tuple #[(.int .i64 a5), (.int .i64 a3)]) ∧ HC Tryz.prog 22 #[(.slice l a7 a8)] h4 (fun vv h5 => ∃ a6 a4 : Int, vv = (.tuple #[(.int .i64 a6), (.int .i64 a4)]) ∧ R (.bool ((a5 == a6) && (a3 == a4))) h5)))))))))) :
  HC Tryz.prog 7 #[(.slice l a7 a8)] h R := by
 refine hc_of (args := [(.slice l a7 a8)]) Tryz.func7 rfl Tryz.ntmps7 (Nat.le_of_ble_eq_true rfl) ?_
 refine xs (xr ?_)
 refine lv rfl rfl (va rfl) ?_
 refine ln (qn (xs (xs (xr ?_))))
 refine lp rfl rfl (sc TyTG.cb8 rfl (HC.mono H ?_))
 rintro _ h1 ⟨r, rfl, H⟩
 refine lv rfl rfl (v := (.bool (!r))) (hv_not (b := r) rfl) ?_
 refine ln (qn ?_)
 refine xc (b := !r) rfl (fun b3 => ?_) (fun b3 => ?_)
 ·replace H := H.1 b3
  refine xs (xr ?_)
  refine lv rfl rfl (va rfl) ?_
  refine ln (qn (xt (qr ?_)))
  exact endQ_ret _ (res_one Tryz.results7 (rv_tmp rfl)) H
 ·replace H := H.2 b3
  refine xi (qn (xs (xr ?_)))
  refine lv rfl rfl (vm rfl) ?_
  refine lp rfl rfl (sc TyTG.cb16 rfl (HC.mono H ?_))
  rintro _ h2 ⟨r0, r1, r2, rfl, H⟩
  refine lv rfl rfl (vm rfl) (lv rfl rfl (vx rfl rfl) (lv rfl rfl (vx rfl rfl) (lv rfl rfl (vx rfl rfl) (lv rfl rfl (va rfl) (lv rfl rfl (va rfl) ?_)))))
  refine lv rfl rfl (va rfl) ?_
  refine ln (qn (xs (xr ?_)))
  refine lv rfl rfl (vm rfl) ?_
  refine lp rfl rfl (sc TyTG.cb18 rfl (HC.mono H ?_))
  rintro _ h3 ⟨a2, a0, a1, rfl, H⟩
  refine lv rfl rfl (vm rfl) (lv rfl rfl (vx rfl rfl) (lv rfl rfl (vx rfl rfl) (lv rfl rfl (vx rfl rfl) (lv rfl rfl (va rfl) (lv rfl rfl (va rfl) ?_)))))
  refine lv rfl rfl (va rfl) ?_
  refine ln (qn (xs ?_))
  refine xk (fun ρ h' => h3 = h' ∧ Has ρ [(0, (.slice l a7 a8)), (37, (.bool ((r0 != a2) || ((!decide (r1 = a0)) || (r2 != a1)))))]) ?_ ?_
  ·refine xr ?_
   refine lv rfl rfl (vm rfl) (lv rfl rfl (vm rfl) (lv rfl rfl (v := (.bool (r0 != a2))) (hv_eqBool TyTG.u4 rfl rfl rfl) (lv rfl rfl (vm rfl) ?_)))
   rcases bool_or (r0 != a2) with a9 | a9
   ·refine lo (wanted_n rfl rfl rfl a9) rfl ?_
    refine lo (wanted_n rfl rfl rfl a9) rfl ?_
    refine lo (wanted_n rfl rfl rfl a9) rfl ?_
    refine lv rfl rfl (v := (.bool true)) (hv_pick_t rfl a9 rfl) (lv rfl rfl (vm rfl) ?_)
    refine lo (wanted_n rfl rfl (c := true) rfl rfl) rfl ?_
    refine lo (wanted_n rfl rfl (c := true) rfl rfl) rfl ?_
    refine lo (wanted_n rfl rfl (c := true) rfl rfl) rfl ?_
    refine lv rfl rfl (v := (.bool true)) (hv_pick (t := true) rfl rfl) ?_
    refine ln (qn ?_)
    exact ⟨rfl, (hc rfl (hc (show ((.bool true) : Value) = (.bool ((r0 != a2) || ((!decide (r1 = a0)) || (r2 != a1)))) from (by first | rfl | ((try rw [a9]); all_goals first | rfl | (simp only [Bool.true_or, Bool.or_true, Bool.false_or, Bool.or_false, Bool.true_and, Bool.and_true, Bool.false_and, Bool.and_false, Bool.not_true, Bool.not_false, Bool.cond_true, Bool.cond_false]; done)) | simp [a9])) hn))⟩
   ·refine ly (wanted_y rfl rfl rfl a9) rfl (HStep.of_val (v := (.string r1)) (vm rfl) ?_)
    refine ly (wanted_y rfl rfl rfl a9) rfl (HStep.of_val (v := (.string a0)) (vm rfl) ?_)
    refine ly (wanted_y rfl rfl rfl a9) rfl (HStep.of_val (v := (.bool (!decide (r1 = a0)))) (hv_str rfl rfl rfl) ?_)
    refine lv rfl rfl (v := (.bool (!decide (r1 = a0)))) (hv_pick_f rfl a9 rfl) (lv rfl rfl (vm rfl) ?_)
    rcases bool_or (!decide (r1 = a0)) with b1 | b1
    ·refine lo (wanted_n rfl rfl rfl b1) rfl ?_
     refine lo (wanted_n rfl rfl rfl b1) rfl ?_
     refine lo (wanted_n rfl rfl rfl b1) rfl ?_
     refine lv rfl rfl (v := (.bool true)) (hv_pick_t rfl b1 rfl) ?_
     refine ln (qn ?_)
     exact ⟨rfl, (hc rfl (hc (show ((.bool true) : Value) = (.bool ((r0 != a2) || ((!decide (r1 = a0)) || (r2 != a1)))) from (by first | rfl | ((try rw [a9]); (try rw [b1]); all_goals first | rfl | (simp only [Bool.true_or, Bool.or_true, Bool.false_or, Bool.or_false, Bool.true_and, Bool.and_true, Bool.false_and, Bool.and_false, Bool.not_true, Bool.not_false, Bool.cond_true, Bool.cond_false]; done)) | simp [a9, b1])) hn))⟩
    ·refine ly (wanted_y rfl rfl rfl b1) rfl (HStep.of_val (v := (.int .i64 r2)) (vm rfl) ?_)
     refine ly (wanted_y rfl rfl rfl b1) rfl (HStep.of_val (v := (.int .i64 a1)) (vm rfl) ?_)
     refine ly (wanted_y rfl rfl rfl b1) rfl (HStep.of_val (v := (.bool (r2 != a1))) (vr rfl rfl rfl) ?_)
     refine lv rfl rfl (v := (.bool (r2 != a1))) (hv_pick_f rfl b1 rfl) ?_
     refine ln (qn ?_)
     exact ⟨rfl, (hc rfl (hc (show ((.bool (r2 != a1)) : Value) = (.bool ((r0 != a2) || ((!decide (r1 = a0)) || (r2 != a1)))) from (by first | rfl | ((try rw [a9]); (try rw [b1]); all_goals first | rfl | (simp only [Bool.true_or, Bool.or_true, Bool.false_or, Bool.or_false, Bool.true_and, Bool.and_true, Bool.false_and, Bool.and_false, Bool.not_true, Bool.not_false, Bool.cond_true, Bool.cond_false]; done)) | simp [a9, b1])) hn))⟩
  ·rintro ρ _ ⟨rfl, hH⟩
   refine xh _ hH ?_
   refine xc (b := ((r0 != a2) || ((!decide (r1 = a0)) || (r2 != a1)))) rfl (fun b2 => ?_) (fun b2 => ?_)
   ·replace H := H.1 b2
    refine xs (xr ?_)
    refine lv rfl rfl (va rfl) ?_
    refine ln (qn (xt (qr ?_)))
    exact endQ_ret _ (res_one Tryz.results7 (rv_tmp rfl)) H
   ·replace H := H.2 b2
    refine xi (qn (xs (xr ?_)))
    refine lv rfl rfl (vm rfl) ?_
    refine lp rfl rfl (sc TyTG.cb21 rfl (HC.mono H ?_))
    rintro _ h4 ⟨a5, a3, rfl, H⟩
    refine lv rfl rfl (vm rfl) (lv rfl rfl (vx rfl rfl) (lv rfl rfl (vx rfl rfl) (lv rfl rfl (va rfl) (lv rfl rfl (va rfl) ?_))))
    refine ln (qn (xs (xr ?_)))
    refine lv rfl rfl (vm rfl) ?_
    refine lp rfl rfl (sc TyTG.cb22 rfl (HC.mono H ?_))
    rintro _ h5 ⟨a6, a4, rfl, H⟩
    refine lv rfl rfl (vm rfl) (lv rfl rfl (vx rfl rfl) (lv rfl rfl (vx rfl rfl) (lv rfl rfl (va rfl) (lv rfl rfl (va rfl) ?_))))
    refine ln (qn ?_)
    refine xk (fun ρ h' => h5 = h' ∧ Has ρ [(2, (.bool ((a5 == a6) && (a3 == a4))))]) ?_ ?_
    ·refine xr ?_
     refine lv rfl rfl (vm rfl) (lv rfl rfl (vm rfl) (lv rfl rfl (vr rfl rfl rfl) (lv rfl rfl (vm rfl) ?_)))
     rcases bool_or (a5 == a6) with b0 | b0
     ·refine ly (wanted_y rfl rfl rfl b0) rfl (HStep.of_val (v := (.int .i64 a3)) (vm rfl) ?_)
      refine ly (wanted_y rfl rfl rfl b0) rfl (HStep.of_val (v := (.int .i64 a4)) (vm rfl) ?_)
      refine ly (wanted_y rfl rfl rfl b0) rfl (HStep.of_val (v := (.bool (a3 == a4))) (vr rfl rfl rfl) ?_)
      refine lv rfl rfl (v := (.bool (a3 == a4))) (hv_pick_t rfl b0 rfl) (lv rfl rfl (va rfl) ?_)
      refine ln (qn ?_)
      exact ⟨rfl, (hc (show ((.bool (a3 == a4)) : Value) = (.bool ((a5 == a6) && (a3 == a4))) from (by first | rfl | ((try rw [b0]); all_goals first | rfl | (simp only [Bool.true_or, Bool.or_true, Bool.false_or, Bool.or_false, Bool.true_and, Bool.and_true, Bool.false_and, Bool.and_false, Bool.not_true, Bool.not_false, Bool.cond_true, Bool.cond_false]; done)) | simp [b0])) hn)⟩
     ·refine lo (wanted_n rfl rfl rfl b0) rfl ?_
      refine lo (wanted_n rfl rfl rfl b0) rfl ?_
      refine lo (wanted_n rfl rfl rfl b0) rfl ?_
      refine lv rfl rfl (v := (.bool false)) (hv_pick_f rfl b0 rfl) (lv rfl rfl (va rfl) ?_)
      refine ln (qn ?_)
      exact ⟨rfl, (hc (show ((.bool false) : Value) = (.bool ((a5 == a6) && (a3 == a4))) from (by first | rfl | ((try rw [b0]); all_goals first | rfl | (simp only [Bool.true_or, Bool.or_true, Bool.false_or, Bool.or_false, Bool.true_and, Bool.and_true, Bool.false_and, Bool.and_false, Bool.not_true, Bool.not_false, Bool.cond_true, Bool.cond_false]; done)) | simp [b0])) hn)⟩
    ·rintro ρ _ ⟨rfl, hH⟩
     refine xh _ hH ?_
     refine xt ?_
     exact endQ_ret _ (res_one Tryz.results7 (rv_tmp rfl)) H
theorem f94_sh (x : Option Addr) (a0 : Nat) (a1 : Nat) (h : Heap) (R : Value → Heap → Prop)
  (H : HC Tryz.prog 57 #[(.int .u64 (IntKind.u64.wrap (a0 : Int)))] h (fun vv h1 => ∃ r : Int, vv = (.int .i64 r) ∧ HC Tryz.prog 118 #[(.slice x a0 a1), (.int .i64 0), (.int .i64 (a0 : Int)), (.int .i64 r)] h1 (fun vv h2 => vv = (.tuple #[]) ∧ R (.tuple #[]) h2))) :
  HC Tryz.prog 94 #[(.slice x a0 a1)] h R := by
 refine hc_of (args := [(.slice x a0 a1)]) Tryz.func94 rfl Tryz.ntmps94 (Nat.le_of_ble_eq_true rfl) ?_
 refine xs (xr ?_)
 refine lv rfl rfl (vm rfl) (lv rfl rfl (v := (.int .i64 (a0 : Int))) (hv_len (n := a0) TyTG.u24 rfl) (lv rfl rfl (va rfl) ?_))
 refine ln (qn (xr ?_))
 refine lv rfl rfl (vm rfl) (lv rfl rfl (vm rfl) (lv rfl rfl (vm rfl) (lv rfl rfl (v := (.int .u64 (IntKind.u64.wrap (a0 : Int)))) (hv_convInt TyTG.u3 TyTG.u88 rfl) ?_)))
 refine lp rfl rfl (sc TyTG.cb57 rfl (HC.mono H ?_))
 rintro _ h1 ⟨r, rfl, H⟩
 refine lp rfl rfl (sc TyTG.cb118 rfl (HC.mono H ?_))
 rintro _ h2 ⟨rfl, H⟩
 refine ln ?_
 exact endQ_n _ (res_none Tryz.results94 ) H
theorem f118_sh (a8 : Option Addr) (a4 : Nat) (a5 : Nat) (a : Int) (b : Int) (c1 : Int) (h : Heap) (R : Value → Heap → Prop)
  (H : (∃ (I1 : Int → Int → Int → Bool → Bool → Heap → Prop) (c0 : Int → Int → Int → Bool → Bool → Heap → Nat), I1 a b c1 true true h ∧ (∀ (a2 : Int) (a3 : Int) (a9 : Int) (a1 : Bool) (a0 : Bool) (h1 : Heap), I1 a2 a3 a9 a1 a0 h1 → (((decide ((IntKind.i64.wrap (a3 - a2)) ≤ 12)) = true → HC Tryz.prog 127 #[(.slice a8 a4 a5), (.int .i64 a2), (.int .i64 a3)] h1 (fun vv h2 => vv = (.tuple #[]) ∧ R (.tuple #[]) h2)) ∧ ((decide ((IntKind.i64.wrap (a3 - a2)) ≤ 12)) = false → (((a9 == 0) = true → HC Tryz.prog 128 #[(.slice a8 a4 a5), (.int .i64 a2), (.int .i64 a3)] h1 (fun vv h3 => vv = (.tuple #[]) ∧ R (.tuple #[]) h3)) ∧ ((a9 == 0) = false → (∃ c4 : Int → Heap → Prop, (((!a1) = true → HC Tryz.prog 129 #[(.slice a8 a4 a5), (.int .i64 a2), (.int .i64 a3)] h1 (fun vv h5 => vv = (.tuple #[]) ∧ (c4 (IntKind.i64.wrap (a9 - 1)) h5))) ∧ ((!a1) = false → (c4 a9 h1))) ∧ (∀ (a7 : Int) (h4 : Heap), c4 a7 h4 → HC Tryz.prog 130 #[(.slice a8 a4 a5), (.int .i64 a2), (.int .i64 a3)] h4 (fun vv h6 => ∃ r0 r1 : Int, vv = (.tuple #[(.int .i64 r0), (.int .i64 r1)]) ∧ (∃ c5 : Int → Int → Heap → Prop, (((r1 == 2) = true → HC Tryz.prog 131 #[(.slice a8 a4 a5), (.int .i64 a2), (.int .i64 a3)] h6 (fun vv h8 => vv = (.tuple #[]) ∧ (c5 (IntKind.i64.wrap ((IntKind.i64.wrap (a3 - 1)) - (IntKind.i64.wrap (r0 - a2)))) 1 h8))) ∧ ((r1 == 2) = false → (c5 r0 r1 h6))) ∧ (∀ (b1 : Int) (b2 : Int) (h7 : Heap), c5 b1 b2 h7 → (∃ c7 : Heap → Prop, (((a1 && (a0 && (b2 == 1))) = true → HC Tryz.prog 132 #[(.slice a8 a4 a5), (.int .i64 a2), (.int .i64 a3)] h7 (fun vv e2 => ∃ r : Bool, vv = (.bool r) ∧ ((r = true → R (.tuple #[]) e2) ∧ (r = false → (c7 e2))))) ∧ ((a1 && (a0 && (b2 == 1))) = false → (c7 h7))) ∧ (∀ (h9 : Heap), c7 h9 → (∃ c8 : Bool → Heap → Prop, (((decide (a2 > 0)) = true → (∃ b7 b6 : Nat, a8 = some ⟨b7, b6, none⟩ ∧ (0 : Int) ≤ IntKind.i64.wrap (a2 - 1) ∧ IntKind.i64.wrap (a2 - 1) < (a4 : Int) ∧ (∃ x : ByteArray, hcell h9 b7 (b6 + (Int.toNat (IntKind.i64.wrap (a2 - 1))) * 1) = some (.string x) ∧ ((0 : Int) ≤ b1 ∧ b1 < (a4 : Int) ∧ (∃ c3 : ByteArray, hcell h9 b7 (b6 + (Int.toNat b1) * 1) = some (.string c3) ∧ HC Tryz.prog 133 #[(.string x), (.string c3)] h9 (fun vv f0 => ∃ c2 : Bool, vv = (.bool c2) ∧ (c8 (!c2) f0))))))) ∧ ((decide (a2 > 0)) = false → (c8 false h9))) ∧ (∀ (b8 : Bool) (c6 : Heap), c8 b8 c6 → ((b8 = true → HC Tryz.prog 134 #[(.slice a8 a4 a5), (.int .i64 a2), (.int .i64 a3), (.int .i64 b1)] c6 (fun vv e7 => ∃ b9 : Int, vv = (.int .i64 b9) ∧ (I1 b9 a3 a7 a1 a0 e7 ∧ c0 b9 a3 a7 a1 a0 e7 < c0 a2 a3 a9 a1 a0 h1))) ∧ (b8 = false → HC Tryz.prog 135 #[(.slice a8 a4 a5), (.int .i64 a2), (.int .i64 a3), (.int .i64 b1)] c6 (fun vv e1 => ∃ a6 : Int, ∃ b3 : Bool, vv = (.tuple #[(.int .i64 a6), (.bool b3)]) ∧ (((decide ((IntKind.i64.wrap (a6 - a2)) < (IntKind.i64.wrap (a3 - a6)))) = true → HC Tryz.prog 118 #[(.slice a8 a4 a5), (.int .i64 a2), (.int .i64 a6), (.int .i64 a7)] e1 (fun vv e3 => vv = (.tuple #[]) ∧ (I1 (IntKind.i64.wrap (a6 + 1)) a3 a7 (decide ((IntKind.i64.wrap (a6 - a2)) ≥ (IntKind.i64.wrap (Int.tdiv (IntKind.i64.wrap (a3 - a2)) 8)))) b3 e3 ∧ c0 (IntKind.i64.wrap (a6 + 1)) a3 a7 (decide ((IntKind.i64.wrap (a6 - a2)) ≥ (IntKind.i64.wrap (Int.tdiv (IntKind.i64.wrap (a3 - a2)) 8)))) b3 e3 < c0 a2 a3 a9 a1 a0 h1))) ∧ ((decide ((IntKind.i64.wrap (a6 - a2)) < (IntKind.i64.wrap (a3 - a6)))) = false → HC Tryz.prog 118 #[(.slice a8 a4 a5), (.int .i64 (IntKind.i64.wrap (a6 + 1))), (.int .i64 a3), (.int .i64 a7)] e1 (fun vv e9 => vv = (.tuple #[]) ∧ (I1 a2 a6 a7 (decide ((IntKind.i64.wrap (a3 - a6)) ≥ (IntKind.i64.wrap (Int.tdiv (IntKind.i64.wrap (a3 - a2)) 8)))) b3 e9 ∧ c0 a2 a6 a7 (decide ((IntKind.i64.wrap (a3 - a6)) ≥ (IntKind.i64.wrap (Int.tdiv (IntKind.i64.wrap (a3 - a2)) 8)))) b3 e9 < c0 a2 a3 a9 a1 a0 h1))))))))))))))))))))))) :
  HC Tryz.prog 118 #[(.slice a8 a4 a5), (.int .i64 a), (.int .i64 b), (.int .i64 c1)] h R := by
 refine hc_of (args := [(.slice a8 a4 a5), (.int .i64 a), (.int .i64 b), (.int .i64 c1)]) Tryz.func118 rfl Tryz.ntmps118 (Nat.le_of_ble_eq_true rfl) ?_
 refine xs (xr ?_)
 refine lv rfl rfl (va rfl) ?_
 refine ln (qn (xs (xr ?_)))
 refine lv rfl rfl (va rfl) ?_
 refine ln (qn (xb ?_))
 obtain ⟨I1, c0, g1, g3⟩ := H
 refine xl (σ := Int × Int × Int × Bool × Bool) (fun s => [(0, (.slice a8 a4 a5)), (1, (.int .i64 s.1)), (2, (.int .i64 s.2.1)), (3, (.int .i64 s.2.2.1)), (8, (.bool s.2.2.2.1)), (9, (.bool s.2.2.2.2))]) (fun s h' => I1 s.1 s.2.1 s.2.2.1 s.2.2.2.1 s.2.2.2.2 h' ∧ True) (fun s h' => c0 s.1 s.2.1 s.2.2.1 s.2.2.2.1 s.2.2.2.2 h') (a, b, c1, true, true) ⟨g1, trivial⟩ (hc rfl (hc rfl (hc rfl (hc rfl (hc rfl (hc rfl hn)))))) ?_
 rintro ⟨a2, a3, a9, a1, a0⟩ ρ h1 ⟨g4, -⟩
 have H := g3 a2 a3 a9 a1 a0 h1 g4
 refine xb (xs (xr ?_))
 refine lv rfl rfl (vm rfl) (lv rfl rfl (vm rfl) (lv rfl rfl (vr rfl rfl rfl) (lv rfl rfl (va rfl) ?_)))
 refine ln (qn (xs (xs (xr ?_))))
 refine lv rfl rfl (vm rfl) (lv rfl rfl (vr rfl rfl rfl) ?_)
 refine ln (qn ?_)
 refine xc (b := decide ((IntKind.i64.wrap (a3 - a2)) ≤ 12)) rfl (fun e6 => ?_) (fun e6 => ?_)
 ·replace H := H.1 e6
  refine xs (xr ?_)
  refine lv rfl rfl (vm rfl) (lv rfl rfl (vm rfl) (lv rfl rfl (vm rfl) ?_))
  refine lp rfl rfl (sc TyTG.cb127 rfl (HC.mono H ?_))
  rintro _ h2 ⟨rfl, H⟩
  refine ln (qn (xt (qr (br (qr (br ?_))))))
  exact endQ_ret _ (res_none Tryz.results118 ) H
 ·replace H := H.2 e6
  refine xi (qn (xs (xs (xr ?_))))
  refine lv rfl rfl (vm rfl) (lv rfl rfl (vr rfl rfl rfl) ?_)
  refine ln (qn ?_)
  refine xc (b := a9 == 0) rfl (fun e8 => ?_) (fun e8 => ?_)
  ·replace H := H.1 e8
   refine xs (xr ?_)
   refine lv rfl rfl (vm rfl) (lv rfl rfl (vm rfl) (lv rfl rfl (vm rfl) ?_))
   refine lp rfl rfl (sc TyTG.cb128 rfl (HC.mono H ?_))
   rintro _ h3 ⟨rfl, H⟩
   refine ln (qn (xt (qr (br (qr (br ?_))))))
   exact endQ_ret _ (res_none Tryz.results118 ) H
  ·replace H := H.2 e8
   refine xi (qn ?_)
   obtain ⟨c4, e4, e5⟩ := H
   refine xk (fun ρ h' => ∃ a7 : Int, (c4 a7 h' ∧ True) ∧ Has ρ [(0, (.slice a8 a4 a5)), (1, (.int .i64 a2)), (2, (.int .i64 a3)), (3, (.int .i64 a7)), (8, (.bool a1)), (9, (.bool a0)), (10, (.int .i64 (IntKind.i64.wrap (a3 - a2))))]) ?_ ?_
   ·have H := e4; clear e4 e5
    refine xs (xr ?_)
    refine lv rfl rfl (vm rfl) (lv rfl rfl (v := (.bool (!a1))) (hv_not (b := a1) rfl) ?_)
    refine ln (qn ?_)
    refine xc (b := !a1) rfl (fun d8 => ?_) (fun d8 => ?_)
    ·replace H := H.1 d8
     refine xs (xr ?_)
     refine lv rfl rfl (vm rfl) (lv rfl rfl (vm rfl) (lv rfl rfl (vm rfl) ?_))
     refine lp rfl rfl (sc TyTG.cb129 rfl (HC.mono H ?_))
     rintro _ h5 ⟨rfl, H⟩
     refine ln (qn (xr ?_))
     refine lv rfl rfl (vm rfl) (lv rfl rfl (vr rfl rfl rfl) (lv rfl rfl (va rfl) ?_))
     refine ln (qn ?_)
     exact ⟨_, ⟨H, trivial⟩, (hc rfl (hc rfl (hc rfl (hc rfl (hc rfl (hc rfl (hc rfl hn)))))))⟩
    ·replace H := H.2 d8
     refine xi (qn ?_)
     exact ⟨_, ⟨H, trivial⟩, (hc rfl (hc rfl (hc rfl (hc rfl (hc rfl (hc rfl (hc rfl hn)))))))⟩
   ·rintro ρ h4 ⟨a7, ⟨f1, -⟩, hH⟩
    have H := e5 a7 h4 f1; clear e4 e5
    refine xh _ hH ?_
    refine xs (xr ?_)
    refine lv rfl rfl (vm rfl) (lv rfl rfl (vm rfl) (lv rfl rfl (vm rfl) ?_))
    refine lp rfl rfl (sc TyTG.cb130 rfl (HC.mono H ?_))
    rintro _ h6 ⟨r0, r1, rfl, H⟩
    refine lv rfl rfl (vm rfl) (lv rfl rfl (vx rfl rfl) (lv rfl rfl (vx rfl rfl) (lv rfl rfl (va rfl) (lv rfl rfl (va rfl) ?_))))
    refine ln (qn ?_)
    obtain ⟨c5, d4, d9⟩ := H
    refine xk (fun ρ h' => ∃ b1 b2 : Int, (c5 b1 b2 h' ∧ True) ∧ Has ρ [(0, (.slice a8 a4 a5)), (1, (.int .i64 a2)), (2, (.int .i64 a3)), (3, (.int .i64 a7)), (8, (.bool a1)), (9, (.bool a0)), (10, (.int .i64 (IntKind.i64.wrap (a3 - a2)))), (11, (.int .i64 b1)), (12, (.int .i64 b2))]) ?_ ?_
    ·have H := d4; clear d4 d9
     refine xs (xr ?_)
     refine lv rfl rfl (vm rfl) (lv rfl rfl (vr rfl rfl rfl) ?_)
     refine ln (qn ?_)
     refine xc (b := r1 == 2) rfl (fun d6 => ?_) (fun d6 => ?_)
     ·replace H := H.1 d6
      refine xs (xr ?_)
      refine lv rfl rfl (vm rfl) (lv rfl rfl (vm rfl) (lv rfl rfl (vm rfl) ?_))
      refine lp rfl rfl (sc TyTG.cb131 rfl (HC.mono H ?_))
      rintro _ h8 ⟨rfl, H⟩
      refine ln (qn (xs (xr ?_)))
      refine lv rfl rfl (vm rfl) (lv rfl rfl (vr rfl rfl rfl) (lv rfl rfl (vm rfl) (lv rfl rfl (vm rfl) (lv rfl rfl (vr rfl rfl rfl) (lv rfl rfl (vr rfl rfl rfl) ?_)))))
      refine lv rfl rfl (va rfl) ?_
      refine ln (qn (xr ?_))
      refine lv rfl rfl (va rfl) ?_
      refine ln (qn ?_)
      exact ⟨_, _, ⟨H, trivial⟩, (hc rfl (hc rfl (hc rfl (hc rfl (hc rfl (hc rfl (hc rfl (hc rfl (hc rfl hn)))))))))⟩
     ·replace H := H.2 d6
      refine xi (qn ?_)
      exact ⟨_, _, ⟨H, trivial⟩, (hc rfl (hc rfl (hc rfl (hc rfl (hc rfl (hc rfl (hc rfl (hc rfl (hc rfl hn)))))))))⟩
    ·rintro ρ h7 ⟨b1, b2, ⟨f5, -⟩, hH⟩
     have H := d9 b1 b2 h7 f5; clear d4 d9
     refine xh _ hH ?_
     obtain ⟨c7, d7, d2⟩ := H
     refine xk (fun ρ h' => (c7 h' ∧ True) ∧ Has ρ [(0, (.slice a8 a4 a5)), (1, (.int .i64 a2)), (2, (.int .i64 a3)), (3, (.int .i64 a7)), (8, (.bool a1)), (9, (.bool a0)), (10, (.int .i64 (IntKind.i64.wrap (a3 - a2)))), (11, (.int .i64 b1))]) ?_ ?_
     ·have H := d7; clear d7 d2
      refine xk (fun ρ h' => h7 = h' ∧ Has ρ [(0, (.slice a8 a4 a5)), (1, (.int .i64 a2)), (2, (.int .i64 a3)), (3, (.int .i64 a7)), (8, (.bool a1)), (9, (.bool a0)), (10, (.int .i64 (IntKind.i64.wrap (a3 - a2)))), (11, (.int .i64 b1)), (68, (.bool (a1 && (a0 && (b2 == 1)))))]) ?_ ?_
      ·refine xr ?_
       refine lv rfl rfl (vm rfl) (lv rfl rfl (vm rfl) ?_)
       rcases bool_or (a1) with b4 | b4
       ·refine ly (wanted_y rfl rfl rfl b4) rfl (HStep.of_val (v := (.bool a0)) (vm rfl) ?_)
        refine lv rfl rfl (v := (.bool a0)) (hv_pick_t rfl b4 rfl) (lv rfl rfl (vm rfl) ?_)
        rcases bool_or (a0) with b5 | b5
        ·refine ly (wanted_y rfl rfl rfl b5) rfl (HStep.of_val (v := (.int .i64 b2)) (vm rfl) ?_)
         refine ly (wanted_y rfl rfl rfl b5) rfl (HStep.of_val (v := (.bool (b2 == 1))) (vr rfl rfl rfl) ?_)
         refine lv rfl rfl (v := (.bool (b2 == 1))) (hv_pick_t rfl b5 rfl) ?_
         refine ln (qn ?_)
         exact ⟨rfl, (hc rfl (hc rfl (hc rfl (hc rfl (hc rfl (hc rfl (hc rfl (hc rfl (hc (show ((.bool (b2 == 1)) : Value) = (.bool (a1 && (a0 && (b2 == 1)))) from (by first | rfl | ((try rw [b4]); (try rw [b5]); all_goals first | rfl | (simp only [Bool.true_or, Bool.or_true, Bool.false_or, Bool.or_false, Bool.true_and, Bool.and_true, Bool.false_and, Bool.and_false, Bool.not_true, Bool.not_false, Bool.cond_true, Bool.cond_false]; done)) | simp [b4, b5])) hn)))))))))⟩
        ·refine lo (wanted_n rfl rfl rfl b5) rfl ?_
         refine lo (wanted_n rfl rfl rfl b5) rfl ?_
         refine lv rfl rfl (v := (.bool false)) (hv_pick_f rfl b5 rfl) ?_
         refine ln (qn ?_)
         exact ⟨rfl, (hc rfl (hc rfl (hc rfl (hc rfl (hc rfl (hc rfl (hc rfl (hc rfl (hc (show ((.bool false) : Value) = (.bool (a1 && (a0 && (b2 == 1)))) from (by first | rfl | ((try rw [b4]); (try rw [b5]); all_goals first | rfl | (simp only [Bool.true_or, Bool.or_true, Bool.false_or, Bool.or_false, Bool.true_and, Bool.and_true, Bool.false_and, Bool.and_false, Bool.not_true, Bool.not_false, Bool.cond_true, Bool.cond_false]; done)) | simp [b4, b5])) hn)))))))))⟩
       ·refine lo (wanted_n rfl rfl rfl b4) rfl ?_
        refine lv rfl rfl (v := (.bool false)) (hv_pick_f rfl b4 rfl) (lv rfl rfl (vm rfl) ?_)
        refine lo (wanted_n rfl rfl (c := false) rfl rfl) rfl ?_
        refine lo (wanted_n rfl rfl (c := false) rfl rfl) rfl ?_
        refine lv rfl rfl (v := (.bool false)) (hv_pick (t := false) rfl rfl) ?_
        refine ln (qn ?_)
        exact ⟨rfl, (hc rfl (hc rfl (hc rfl (hc rfl (hc rfl (hc rfl (hc rfl (hc rfl (hc (show ((.bool false) : Value) = (.bool (a1 && (a0 && (b2 == 1)))) from (by first | rfl | ((try rw [b4]); all_goals first | rfl | (simp only [Bool.true_or, Bool.or_true, Bool.false_or, Bool.or_false, Bool.true_and, Bool.and_true, Bool.false_and, Bool.and_false, Bool.not_true, Bool.not_false, Bool.cond_true, Bool.cond_false]; done)) | simp [b4])) hn)))))))))⟩
      ·rintro ρ _ ⟨rfl, hH⟩
       refine xh _ hH ?_
       refine xc (b := (a1 && (a0 && (b2 == 1)))) rfl (fun c9 => ?_) (fun c9 => ?_)
       ·replace H := H.1 c9
        refine xs (xr ?_)
        refine lv rfl rfl (vm rfl) (lv rfl rfl (vm rfl) (lv rfl rfl (vm rfl) ?_))
        refine lp rfl rfl (sc TyTG.cb132 rfl (HC.mono H ?_))
        rintro _ e2 ⟨r, rfl, H⟩
        refine ln (qn ?_)
        refine xc (b := r) rfl (fun d1 => ?_) (fun d1 => ?_)
        ·replace H := H.1 d1
         refine xt (qr (br (qr (br ?_))))
         exact endQ_ret _ (res_none Tryz.results118 ) H
        ·replace H := H.2 d1
         refine xi (qn ?_)
         exact ⟨⟨H, trivial⟩, (hc rfl (hc rfl (hc rfl (hc rfl (hc rfl (hc rfl (hc rfl (hc rfl hn))))))))⟩
       ·replace H := H.2 c9
        refine xi (qn ?_)
        exact ⟨⟨H, trivial⟩, (hc rfl (hc rfl (hc rfl (hc rfl (hc rfl (hc rfl (hc rfl (hc rfl hn))))))))⟩
     ·rintro ρ h9 ⟨⟨f9, -⟩, hH⟩
      have H := d2 h9 f9; clear d7 d2
      refine xh _ hH ?_
      refine xs ?_
      obtain ⟨c8, e0, d5⟩ := H
      refine xk (fun ρ h' => ∃ b8 : Bool, (c8 b8 h' ∧ True) ∧ Has ρ [(0, (.slice a8 a4 a5)), (1, (.int .i64 a2)), (2, (.int .i64 a3)), (3, (.int .i64 a7)), (8, (.bool a1)), (9, (.bool a0)), (10, (.int .i64 (IntKind.i64.wrap (a3 - a2)))), (11, (.int .i64 b1)), (87, (.bool b8))]) ?_ ?_
      ·have H := e0; clear e0 d5
       refine hx_draw TyTG.mixed [.pure, .pure, .pure, .pure, .pure, .pure, .pure, .read, .pure, .pure, .pure, .read, .wild, .pure, .pure] [0, 1, 2, 3, 4, 5, 6, 7, 8, 9, 10, 11, 12, 13, 14] (by kernel_rfl) ?_
       refine pp (i := 0) rfl (wanted_0 rfl) rfl (.int .i64 a2) (fun _ => vm rfl) ?_
       refine pp (i := 1) rfl (wanted_0 rfl) rfl (.bool (decide (a2 > 0))) (fun _ => vr rfl rfl rfl) ?_
       refine pp (i := 2) rfl (wanted_0 rfl) rfl (.bool (decide (a2 > 0))) (fun _ => vm rfl) ?_
       rcases bool_or (decide (a2 > 0)) with b0 | b0
       ·replace H := H.1 b0
        refine pp (i := 3) rfl (wanted_y rfl rfl rfl b0) rfl (.slice a8 a4 a5) (fun _ => vm rfl) ?_
        refine pp (i := 4) rfl (wanted_y rfl rfl rfl b0) rfl (.int .i64 a2) (fun _ => vm rfl) ?_
        refine pp (i := 5) rfl (wanted_y rfl rfl rfl b0) rfl (.int .i64 (IntKind.i64.wrap (a2 - 1))) (fun _ => vr rfl rfl rfl) ?_
        obtain ⟨b7, b6, g2, f8, f3, Hq⟩ := H
        subst g2
        have H := Hq; clear Hq
        refine pp (i := 6) rfl (wanted_y rfl rfl rfl b0) rfl (ptr b7 (b6 + (Int.toNat (IntKind.i64.wrap (a2 - 1))) * 1)) (fun _ => vi TyTG.el24 rfl rfl f8 f3) ?_
        obtain ⟨x, f4, H⟩ := H
        refine pr (i := 7) rfl (wanted_y rfl rfl rfl b0) rfl (.string x) (fun _ he => vl TyTG.agg9 rfl (Ext.cell he f4)) ?_
        refine pp (i := 8) rfl (wanted_y rfl rfl rfl b0) rfl (.slice (some ⟨b7, b6, none⟩) a4 a5) (fun _ => vm rfl) ?_
        refine pp (i := 9) rfl (wanted_y rfl rfl rfl b0) rfl (.int .i64 b1) (fun _ => vm rfl) ?_
        obtain ⟨f6, f7, H⟩ := H
        refine pp (i := 10) rfl (wanted_y rfl rfl rfl b0) rfl (ptr b7 (b6 + (Int.toNat b1) * 1)) (fun _ => vi TyTG.el24 rfl rfl f6 f7) ?_
        obtain ⟨c3, g0, H⟩ := H
        refine pr (i := 11) rfl (wanted_y rfl rfl rfl b0) rfl (.string c3) (fun _ he => vl TyTG.agg9 rfl (Ext.cell he g0)) ?_
        refine hp_wild (i := 12) rfl (wanted_y rfl rfl rfl b0) rfl (sc TyTG.cb133 rfl (HC.mono H ?_))
        rintro _ f0 ⟨c2, rfl, H⟩
        refine pp (i := 13) rfl (wanted_y rfl rfl rfl b0) rfl (.bool (!c2)) (fun _ => hv_not (b := c2) rfl) ?_
        refine pp (i := 14) rfl (wanted_0 rfl) rfl (.bool (!c2)) (fun _ => hv_pick_t rfl b0 rfl) ?_
        refine hp_nil ?_
        refine qn ?_
        exact ⟨_, ⟨H, trivial⟩, (hc rfl (hc rfl (hc rfl (hc rfl (hc rfl (hc rfl (hc rfl (hc rfl (hc rfl hn)))))))))⟩
       ·replace H := H.2 b0
        refine pn (i := 3) rfl (wanted_n rfl rfl rfl b0) ?_
        refine pn (i := 4) rfl (wanted_n rfl rfl rfl b0) ?_
        refine pn (i := 5) rfl (wanted_n rfl rfl rfl b0) ?_
        refine pn (i := 6) rfl (wanted_n rfl rfl rfl b0) ?_
        refine pn (i := 7) rfl (wanted_n rfl rfl rfl b0) ?_
        refine pn (i := 8) rfl (wanted_n rfl rfl rfl b0) ?_
        refine pn (i := 9) rfl (wanted_n rfl rfl rfl b0) ?_
        refine pn (i := 10) rfl (wanted_n rfl rfl rfl b0) ?_
        refine pn (i := 11) rfl (wanted_n rfl rfl rfl b0) ?_
        refine pn (i := 12) rfl (wanted_n rfl rfl rfl b0) ?_
        refine pn (i := 13) rfl (wanted_n rfl rfl rfl b0) ?_
        refine pp (i := 14) rfl (wanted_0 rfl) rfl (.bool false) (fun _ => hv_pick_f rfl b0 rfl) ?_
        refine hp_nil ?_
        refine qn ?_
        exact ⟨_, ⟨H, trivial⟩, (hc rfl (hc rfl (hc rfl (hc rfl (hc rfl (hc rfl (hc rfl (hc rfl (hc rfl hn)))))))))⟩
      ·rintro ρ c6 ⟨b8, ⟨f2, -⟩, hH⟩
       have H := d5 b8 c6 f2; clear e0 d5
       refine xh _ hH ?_
       refine xc (b := b8) rfl (fun d0 => ?_) (fun d0 => ?_)
       ·replace H := H.1 d0
        refine xs (xr ?_)
        refine lv rfl rfl (vm rfl) (lv rfl rfl (vm rfl) (lv rfl rfl (vm rfl) (lv rfl rfl (vm rfl) ?_)))
        refine lp rfl rfl (sc TyTG.cb134 rfl (HC.mono H ?_))
        rintro _ e7 ⟨b9, rfl, H⟩
        refine lv rfl rfl (va rfl) ?_
        refine ln (qn (xs (xr ?_)))
        refine lv rfl rfl (vm rfl) (lv rfl rfl (va rfl) ?_)
        refine ln (qn (xe (qe (bh (qn ?_)))))
        exact ⟨(b9, a3, a7, a1, a0), ⟨⟨H.1, trivial⟩, H.2⟩, (hc rfl (hc rfl (hc rfl (hc rfl (hc rfl (hc rfl hn))))))⟩
       ·replace H := H.2 d0
        refine xi (qn (xs (xr ?_)))
        refine lv rfl rfl (vm rfl) (lv rfl rfl (vm rfl) (lv rfl rfl (vm rfl) (lv rfl rfl (vm rfl) ?_)))
        refine lp rfl rfl (sc TyTG.cb135 rfl (HC.mono H ?_))
        rintro _ e1 ⟨a6, b3, rfl, H⟩
        refine lv rfl rfl (vm rfl) (lv rfl rfl (vx rfl rfl) (lv rfl rfl (vx rfl rfl) (lv rfl rfl (va rfl) (lv rfl rfl (va rfl) ?_))))
        refine ln (qn (xs (xr ?_)))
        refine lv rfl rfl (vm rfl) (lv rfl rfl (va rfl) ?_)
        refine ln (qn (xs (xr ?_)))
        refine lv rfl rfl (vm rfl) (lv rfl rfl (vm rfl) (lv rfl rfl (vr rfl rfl rfl) (lv rfl rfl (vm rfl) (lv rfl rfl (vm rfl) (lv rfl rfl (vr rfl rfl rfl) ?_)))))
        refine lv rfl rfl (va rfl) (lv rfl rfl (va rfl) ?_)
        refine ln (qn (xs (xr ?_)))
        refine lv rfl rfl (vm rfl) (lv rfl rfl (v := (.int .i64 (IntKind.i64.wrap (Int.tdiv (IntKind.i64.wrap (a3 - a2)) 8)))) (hv_quo rfl rfl (by decide)) (lv rfl rfl (va rfl) ?_))
        refine ln (qn (xs (xr ?_)))
        refine lv rfl rfl (vm rfl) (lv rfl rfl (vm rfl) (lv rfl rfl (vr rfl rfl rfl) ?_))
        refine ln (qn ?_)
        refine xc (b := decide ((IntKind.i64.wrap (a6 - a2)) < (IntKind.i64.wrap (a3 - a6)))) rfl (fun d3 => ?_) (fun d3 => ?_)
        ·replace H := H.1 d3
         refine xs (xr ?_)
         refine lv rfl rfl (vm rfl) (lv rfl rfl (vm rfl) (lv rfl rfl (vr rfl rfl rfl) (lv rfl rfl (va rfl) ?_)))
         refine ln (qn (xs (xr ?_)))
         refine lv rfl rfl (vm rfl) (lv rfl rfl (vm rfl) (lv rfl rfl (vm rfl) (lv rfl rfl (vm rfl) ?_)))
         refine lp rfl rfl (sc TyTG.cb118 rfl (HC.mono H ?_))
         rintro _ e3 ⟨rfl, H⟩
         refine ln (qn (xr ?_))
         refine lv rfl rfl (vm rfl) (lv rfl rfl (vr rfl rfl rfl) (lv rfl rfl (va rfl) ?_))
         refine ln (bn (qn ?_))
         exact ⟨(IntKind.i64.wrap (a6 + 1), a3, a7, decide ((IntKind.i64.wrap (a6 - a2)) ≥ (IntKind.i64.wrap (Int.tdiv (IntKind.i64.wrap (a3 - a2)) 8))), b3), ⟨⟨H.1, trivial⟩, H.2⟩, (hc rfl (hc rfl (hc rfl (hc rfl (hc rfl (hc rfl hn))))))⟩
        ·replace H := H.2 d3
         refine xs (xr ?_)
         refine lv rfl rfl (vm rfl) (lv rfl rfl (vm rfl) (lv rfl rfl (vr rfl rfl rfl) (lv rfl rfl (va rfl) ?_)))
         refine ln (qn (xs (xr ?_)))
         refine lv rfl rfl (vm rfl) (lv rfl rfl (vm rfl) (lv rfl rfl (vr rfl rfl rfl) (lv rfl rfl (vm rfl) (lv rfl rfl (vm rfl) ?_))))
         refine lp rfl rfl (sc TyTG.cb118 rfl (HC.mono H ?_))
         rintro _ e9 ⟨rfl, H⟩
         refine ln (qn (xr ?_))
         refine lv rfl rfl (vm rfl) (lv rfl rfl (va rfl) ?_)
         refine ln (bn (qn ?_))
         exact ⟨(a2, a6, a7, decide ((IntKind.i64.wrap (a3 - a6)) ≥ (IntKind.i64.wrap (Int.tdiv (IntKind.i64.wrap (a3 - a2)) 8))), b3), ⟨⟨H.1, trivial⟩, H.2⟩, (hc rfl (hc rfl (hc rfl (hc rfl (hc rfl (hc rfl hn))))))⟩
theorem f127_sh (a6 : Option Addr) (a3 : Nat) (a4 : Nat) (a : Int) (b : Int) (h : Heap) (R : Value → Heap → Prop)
  (H : (∃ (I1 : Int → Heap → Prop) (b6 : Int → Heap → Nat), I1 (IntKind.i64.wrap (a + 1)) h ∧ (∀ (i : Int) (h1 : Heap), I1 i h1 → (((decide (i < b)) = true → (∃ (I7 : Int → Heap → Prop) (b7 : Int → Heap → Nat), I7 i h1 ∧ (∀ (j : Int) (h2 : Heap), I7 j h2 → (∃ b2 : Bool → Heap → Prop, (((decide (j > a)) = true → (∃ a7 a5 : Nat, a6 = some ⟨a7, a5, none⟩ ∧ (0 : Int) ≤ j ∧ j < (a3 : Int) ∧ (∃ x : ByteArray, hcell h2 a7 (a5 + (Int.toNat j) * 1) = some (.string x) ∧ ((0 : Int) ≤ IntKind.i64.wrap (j - 1) ∧ IntKind.i64.wrap (j - 1) < (a3 : Int) ∧ (∃ b1 : ByteArray, hcell h2 a7 (a5 + (Int.toNat (IntKind.i64.wrap (j - 1))) * 1) = some (.string b1) ∧ HC Tryz.prog 133 #[(.string x), (.string b1)] h2 (fun vv h4 => ∃ r : Bool, vv = (.bool r) ∧ (b2 r h4))))))) ∧ ((decide (j > a)) = false → (b2 false h2))) ∧ (∀ (a8 : Bool) (h3 : Heap), b2 a8 h3 → ((a8 = true → (∃ a0 a1 : Nat, a6 = some ⟨a0, a1, none⟩ ∧ (0 : Int) ≤ IntKind.i64.wrap (j - 1) ∧ IntKind.i64.wrap (j - 1) < (a3 : Int) ∧ (∃ a9 : ByteArray, hcell h3 a0 (a1 + (Int.toNat (IntKind.i64.wrap (j - 1))) * 1) = some (.string a9) ∧ ((0 : Int) ≤ j ∧ j < (a3 : Int) ∧ (∃ b0 : ByteArray, hcell h3 a0 (a1 + (Int.toNat j) * 1) = some (.string b0) ∧ (HW h3 a0 (a1 + (Int.toNat j) * 1) ∧ ∀ h5, h5 = hset h3 a0 (a1 + (Int.toNat j) * 1) (.string a9) → (HW h5 a0 (a1 + (Int.toNat (IntKind.i64.wrap (j - 1))) * 1) ∧ ∀ h6, h6 = hset h5 a0 (a1 + (Int.toNat (IntKind.i64.wrap (j - 1))) * 1) (.string b0) → (I7 (IntKind.i64.wrap (j - 1)) h6 ∧ b7 (IntKind.i64.wrap (j - 1)) h6 < b7 j h2)))))))) ∧ (a8 = false → (I1 (IntKind.i64.wrap (i + 1)) h3 ∧ b6 (IntKind.i64.wrap (i + 1)) h3 < b6 i h1)))))))) ∧ ((decide (i < b)) = false → R (.tuple #[]) h1))))) :
  HC Tryz.prog 127 #[(.slice a6 a3 a4), (.int .i64 a), (.int .i64 b)] h R := by
 refine hc_of (args := [(.slice a6 a3 a4), (.int .i64 a), (.int .i64 b)]) Tryz.func127 rfl Tryz.ntmps127 (Nat.le_of_ble_eq_true rfl) ?_
 refine xs (xr ?_)
 refine lv rfl rfl (vm rfl) (lv rfl rfl (vr rfl rfl rfl) (lv rfl rfl (va rfl) ?_))
 refine ln (qn (xb ?_))
 obtain ⟨I1, b6, e0, e1⟩ := H
 refine xl (σ := Int) (fun s => [(0, (.slice a6 a3 a4)), (1, (.int .i64 a)), (2, (.int .i64 b)), (6, (.int .i64 s))]) (fun s h' => I1 s h' ∧ True) (fun s h' => b6 s h') (IntKind.i64.wrap (a + 1)) ⟨e0, trivial⟩ (hc rfl (hc rfl (hc rfl (hc rfl hn)))) ?_
 rintro i ρ h1 ⟨e2, -⟩
 have H := e1 i h1 e2
 refine xs (xs (xr ?_))
 refine lv rfl rfl (vm rfl) (lv rfl rfl (vm rfl) (lv rfl rfl (vr rfl rfl rfl) ?_))
 refine ln (qn ?_)
 refine xc (b := decide (i < b)) rfl (fun c0 => ?_) (fun c0 => ?_)
 ·replace H := H.1 c0
  refine xi (qn (xs (xb (xs (xr ?_)))))
  refine lv rfl rfl (vm rfl) (lv rfl rfl (va rfl) ?_)
  refine ln (qn (xb ?_))
  obtain ⟨I7, b7, d9, d4⟩ := H
  refine xl (σ := Int) (fun s => [(0, (.slice a6 a3 a4)), (1, (.int .i64 a)), (2, (.int .i64 b)), (6, (.int .i64 i)), (7, (.int .i64 s))]) (fun s h' => I7 s h' ∧ True) (fun s h' => b7 s h') i ⟨d9, trivial⟩ (hc rfl (hc rfl (hc rfl (hc rfl (hc rfl hn))))) ?_
  rintro j ρ h2 ⟨d2, -⟩
  have H := d4 j h2 d2
  refine xs ?_
  obtain ⟨b2, b3, b4⟩ := H
  refine xk (fun ρ h' => ∃ a8 : Bool, (b2 a8 h' ∧ True) ∧ Has ρ [(0, (.slice a6 a3 a4)), (1, (.int .i64 a)), (2, (.int .i64 b)), (6, (.int .i64 i)), (7, (.int .i64 j)), (30, (.bool a8))]) ?_ ?_
  ·have H := b3; clear b3 b4
   refine hx_draw TyTG.mixed [.pure, .pure, .pure, .pure, .pure, .pure, .pure, .read, .pure, .pure, .pure, .pure, .read, .wild, .pure] [0, 1, 2, 3, 4, 5, 6, 7, 8, 9, 10, 11, 12, 13, 14] (by kernel_rfl) ?_
   refine pp (i := 0) rfl (wanted_0 rfl) rfl (.int .i64 j) (fun _ => vm rfl) ?_
   refine pp (i := 1) rfl (wanted_0 rfl) rfl (.int .i64 a) (fun _ => vm rfl) ?_
   refine pp (i := 2) rfl (wanted_0 rfl) rfl (.bool (decide (j > a))) (fun _ => vr rfl rfl rfl) ?_
   refine pp (i := 3) rfl (wanted_0 rfl) rfl (.bool (decide (j > a))) (fun _ => vm rfl) ?_
   rcases bool_or (decide (j > a)) with a2 | a2
   ·replace H := H.1 a2
    refine pp (i := 4) rfl (wanted_y rfl rfl rfl a2) rfl (.slice a6 a3 a4) (fun _ => vm rfl) ?_
    refine pp (i := 5) rfl (wanted_y rfl rfl rfl a2) rfl (.int .i64 j) (fun _ => vm rfl) ?_
    obtain ⟨a7, a5, c3, d5, c4, Hq⟩ := H
    subst c3
    have H := Hq; clear Hq
    refine pp (i := 6) rfl (wanted_y rfl rfl rfl a2) rfl (ptr a7 (a5 + (Int.toNat j) * 1)) (fun _ => vi TyTG.el24 rfl rfl d5 c4) ?_
    obtain ⟨x, d8, H⟩ := H
    refine pr (i := 7) rfl (wanted_y rfl rfl rfl a2) rfl (.string x) (fun _ he => vl TyTG.agg9 rfl (Ext.cell he d8)) ?_
    refine pp (i := 8) rfl (wanted_y rfl rfl rfl a2) rfl (.slice (some ⟨a7, a5, none⟩) a3 a4) (fun _ => vm rfl) ?_
    refine pp (i := 9) rfl (wanted_y rfl rfl rfl a2) rfl (.int .i64 j) (fun _ => vm rfl) ?_
    refine pp (i := 10) rfl (wanted_y rfl rfl rfl a2) rfl (.int .i64 (IntKind.i64.wrap (j - 1))) (fun _ => vr rfl rfl rfl) ?_
    obtain ⟨d7, c5, H⟩ := H
    refine pp (i := 11) rfl (wanted_y rfl rfl rfl a2) rfl (ptr a7 (a5 + (Int.toNat (IntKind.i64.wrap (j - 1))) * 1)) (fun _ => vi TyTG.el24 rfl rfl d7 c5) ?_
    obtain ⟨b1, c9, H⟩ := H
    refine pr (i := 12) rfl (wanted_y rfl rfl rfl a2) rfl (.string b1) (fun _ he => vl TyTG.agg9 rfl (Ext.cell he c9)) ?_
    refine hp_wild (i := 13) rfl (wanted_y rfl rfl rfl a2) rfl (sc TyTG.cb133 rfl (HC.mono H ?_))
    rintro _ h4 ⟨r, rfl, H⟩
    refine pp (i := 14) rfl (wanted_0 rfl) rfl (.bool r) (fun _ => hv_pick_t rfl a2 rfl) ?_
    refine hp_nil ?_
    refine qn ?_
    exact ⟨_, ⟨H, trivial⟩, (hc rfl (hc rfl (hc rfl (hc rfl (hc rfl (hc rfl hn))))))⟩
   ·replace H := H.2 a2
    refine pn (i := 4) rfl (wanted_n rfl rfl rfl a2) ?_
    refine pn (i := 5) rfl (wanted_n rfl rfl rfl a2) ?_
    refine pn (i := 6) rfl (wanted_n rfl rfl rfl a2) ?_
    refine pn (i := 7) rfl (wanted_n rfl rfl rfl a2) ?_
    refine pn (i := 8) rfl (wanted_n rfl rfl rfl a2) ?_
    refine pn (i := 9) rfl (wanted_n rfl rfl rfl a2) ?_
    refine pn (i := 10) rfl (wanted_n rfl rfl rfl a2) ?_
    refine pn (i := 11) rfl (wanted_n rfl rfl rfl a2) ?_
    refine pn (i := 12) rfl (wanted_n rfl rfl rfl a2) ?_
    refine pn (i := 13) rfl (wanted_n rfl rfl rfl a2) ?_
    refine pp (i := 14) rfl (wanted_0 rfl) rfl (.bool false) (fun _ => hv_pick_f rfl a2 rfl) ?_
    refine hp_nil ?_
    refine qn ?_
    exact ⟨_, ⟨H, trivial⟩, (hc rfl (hc rfl (hc rfl (hc rfl (hc rfl (hc rfl hn))))))⟩
  ·rintro ρ h3 ⟨a8, ⟨c8, -⟩, hH⟩
   have H := b4 a8 h3 c8; clear b3 b4
   refine xh _ hH ?_
   refine xc (b := a8) rfl (fun b5 => ?_) (fun b5 => ?_)
   ·replace H := H.1 b5
    refine xi (qn (xs (xb ?_)))
    refine hx_draw TyTG.mixed [.pure, .pure, .pure, .pure, .pure, .pure, .pure, .pure, .pure, .read, .pure, .pure, .pure, .read, .pure, .wild, .pure, .wild] [0, 1, 2, 3, 4, 5, 6, 7, 8, 9, 10, 11, 12, 13, 14, 15, 16, 17] (by kernel_rfl) ?_
    refine pp (i := 0) rfl (wanted_0 rfl) rfl (.slice a6 a3 a4) (fun _ => vm rfl) ?_
    refine pp (i := 1) rfl (wanted_0 rfl) rfl (.int .i64 j) (fun _ => vm rfl) ?_
    refine pp (i := 2) rfl (wanted_0 rfl) rfl (.slice a6 a3 a4) (fun _ => vm rfl) ?_
    refine pp (i := 3) rfl (wanted_0 rfl) rfl (.int .i64 j) (fun _ => vm rfl) ?_
    refine pp (i := 4) rfl (wanted_0 rfl) rfl (.int .i64 (IntKind.i64.wrap (j - 1))) (fun _ => vr rfl rfl rfl) ?_
    refine pp (i := 5) rfl (wanted_0 rfl) rfl (.slice a6 a3 a4) (fun _ => vm rfl) ?_
    refine pp (i := 6) rfl (wanted_0 rfl) rfl (.int .i64 j) (fun _ => vm rfl) ?_
    refine pp (i := 7) rfl (wanted_0 rfl) rfl (.int .i64 (IntKind.i64.wrap (j - 1))) (fun _ => vr rfl rfl rfl) ?_
    obtain ⟨a0, a1, c3, c1, c2, Hq⟩ := H
    subst c3
    have H := Hq; clear Hq
    refine pp (i := 8) rfl (wanted_0 rfl) rfl (ptr a0 (a1 + (Int.toNat (IntKind.i64.wrap (j - 1))) * 1)) (fun _ => vi TyTG.el24 rfl rfl c1 c2) ?_
    obtain ⟨a9, c6, H⟩ := H
    refine pr (i := 9) rfl (wanted_0 rfl) rfl (.string a9) (fun _ he => vl TyTG.agg9 rfl (Ext.cell he c6)) ?_
    refine pp (i := 10) rfl (wanted_0 rfl) rfl (.slice (some ⟨a0, a1, none⟩) a3 a4) (fun _ => vm rfl) ?_
    refine pp (i := 11) rfl (wanted_0 rfl) rfl (.int .i64 j) (fun _ => vm rfl) ?_
    obtain ⟨b8, b9, H⟩ := H
    refine pp (i := 12) rfl (wanted_0 rfl) rfl (ptr a0 (a1 + (Int.toNat j) * 1)) (fun _ => vi TyTG.el24 rfl rfl b8 b9) ?_
    obtain ⟨b0, c7, H⟩ := H
    refine pr (i := 13) rfl (wanted_0 rfl) rfl (.string b0) (fun _ he => vl TyTG.agg9 rfl (Ext.cell he c7)) ?_
    refine pp (i := 14) rfl (wanted_0 rfl) rfl (ptr a0 (a1 + (Int.toNat j) * 1)) (fun _ => vi TyTG.el24 rfl rfl b8 b9) ?_
    obtain ⟨d6, H⟩ := H
    refine hp_wild (i := 15) rfl (wanted_0 rfl) rfl (hn_store (v := (.string a9)) rfl rfl TyTG.sz9 rfl d6 ?_)
    intro h5 d3
    replace H := H h5 d3
    refine pp (i := 16) rfl (wanted_0 rfl) rfl (ptr a0 (a1 + (Int.toNat (IntKind.i64.wrap (j - 1))) * 1)) (fun _ => vi TyTG.el24 rfl rfl c1 c2) ?_
    obtain ⟨d0, H⟩ := H
    refine hp_wild (i := 17) rfl (wanted_0 rfl) rfl (hn_store (v := (.string b0)) rfl rfl TyTG.sz9 rfl d0 ?_)
    intro h6 d1
    replace H := H h6 d1
    refine hp_nil ?_
    refine bn (qn (xr ?_))
    refine lv rfl rfl (vm rfl) (lv rfl rfl (vr rfl rfl rfl) (lv rfl rfl (va rfl) ?_))
    refine ln (qn ?_)
    exact ⟨IntKind.i64.wrap (j - 1), ⟨⟨H.1, trivial⟩, H.2⟩, (hc rfl (hc rfl (hc rfl (hc rfl (hc rfl hn)))))⟩
   ·replace H := H.2 b5
    refine xe (qe (qe (bh (bn (qn (xr ?_))))))
    refine lv rfl rfl (vm rfl) (lv rfl rfl (vr rfl rfl rfl) (lv rfl rfl (va rfl) ?_))
    refine ln (qn ?_)
    exact ⟨IntKind.i64.wrap (i + 1), ⟨⟨H.1, trivial⟩, H.2⟩, (hc rfl (hc rfl (hc rfl (hc rfl hn))))⟩
 ·replace H := H.2 c0
  refine xe (qe (qe (bh ?_)))
  exact endQ_n _ (res_none Tryz.results127 ) H
theorem f57_sh (x : Int) (h : Heap) (R : Value → Heap → Prop)
  (H : HC Tryz.prog 83 #[(.int .u64 x)] h (fun vv h1 => ∃ r : Int, vv = (.int .i64 r) ∧ R (.int .i64 r) h1)) :
  HC Tryz.prog 57 #[(.int .u64 x)] h R := by
 refine hc_of (args := [(.int .u64 x)]) Tryz.func57 rfl Tryz.ntmps57 (Nat.le_of_ble_eq_true rfl) ?_
 refine xs (xr ?_)
 refine lv rfl rfl (va rfl) ?_
 refine ln (qn (xs ?_))
 refine xc (b := false) rfl (fun hb => by cases hb) (fun _ => ?_)
 refine xi (qn (xs (xr ?_)))
 refine lv rfl rfl (vm rfl) ?_
 refine lp rfl rfl (sc TyTG.cb83 rfl (HC.mono H ?_))
 rintro _ h1 ⟨r, rfl, H⟩
 refine lv rfl rfl (va rfl) ?_
 refine ln (qn (xt ?_))
 exact endQ_ret _ (res_one Tryz.results57 (rv_tmp rfl)) H
theorem f83_sh (x : Int) (h : Heap) (R : Value → Heap → Prop)
  (H : (∀ a3 : Int, a3 = (bif decide (x ≥ 4294967296) then Int.fdiv x (2 ^ min (Int.toNat 32) 64) else x) → (∀ n : Int, n = (bif decide (x ≥ 4294967296) then 32 else 0) → (∀ a2 : Int, a2 = (bif decide (a3 ≥ 65536) then Int.fdiv a3 (2 ^ min (Int.toNat 16) 64) else a3) → (∀ a5 : Int, a5 = (bif decide (a3 ≥ 65536) then IntKind.i64.wrap (n + 16) else n) → (∀ a7 : Int, a7 = (bif decide (a2 ≥ 256) then Int.fdiv a2 (2 ^ min (Int.toNat 8) 64) else a2) → (∀ a6 : Int, a6 = (bif decide (a2 ≥ 256) then IntKind.i64.wrap (a5 + 8) else a5) → ((0 : Int) ≤ IntKind.u8.wrap a7 ∧ ∃ u : UInt8, (ByteArray.mk #[0, 1, 2, 2, 3, 3, 3, 3, 4, 4, 4, 4, 4, 4, 4, 4, 5, 5, 5, 5, 5, 5, 5, 5, 5, 5, 5, 5, 5, 5, 5, 5, 6, 6, 6, 6, 6, 6, 6, 6, 6, 6, 6, 6, 6, 6, 6, 6, 6, 6, 6, 6, 6, 6, 6, 6, 6, 6, 6, 6, 6, 6, 6, 6, 7, 7, 7, 7, 7, 7, 7, 7, 7, 7, 7, 7, 7, 7, 7, 7, 7, 7, 7, 7, 7, 7, 7, 7, 7, 7, 7, 7, 7, 7, 7, 7, 7, 7, 7, 7, 7, 7, 7, 7, 7, 7, 7, 7, 7, 7, 7, 7, 7, 7, 7, 7, 7, 7, 7, 7, 7, 7, 7, 7, 7, 7, 7, 7, 8, 8, 8, 8, 8, 8, 8, 8, 8, 8, 8, 8, 8, 8, 8, 8, 8, 8, 8, 8, 8, 8, 8, 8, 8, 8, 8, 8, 8, 8, 8, 8, 8, 8, 8, 8, 8, 8, 8, 8, 8, 8, 8, 8, 8, 8, 8, 8, 8, 8, 8, 8, 8, 8, 8, 8, 8, 8, 8, 8, 8, 8, 8, 8, 8, 8, 8, 8, 8, 8, 8, 8, 8, 8, 8, 8, 8, 8, 8, 8, 8, 8, 8, 8, 8, 8, 8, 8, 8, 8, 8, 8, 8, 8, 8, 8, 8, 8, 8, 8, 8, 8, 8, 8, 8, 8, 8, 8, 8, 8, 8, 8, 8, 8, 8, 8, 8, 8, 8, 8, 8, 8, 8, 8, 8, 8, 8, 8])[Int.toNat (IntKind.u8.wrap a7)]? = some u ∧ R (.int .i64 (IntKind.i64.wrap (a6 + (IntKind.i64.wrap (UInt8.toNat u : Int))))) h)))))))) :
  HC Tryz.prog 83 #[(.int .u64 x)] h R := by
 refine hc_of (args := [(.int .u64 x)]) Tryz.func83 rfl Tryz.ntmps83 (Nat.le_of_ble_eq_true rfl) ?_
 refine xs (xr ?_)
 refine lv rfl rfl (va rfl) ?_
 refine ln (qn ?_)
 obtain ⟨a3, hq3⟩ : ∃ q : Int, q = (bif decide (x ≥ 4294967296) then Int.fdiv x (2 ^ min (Int.toNat 32) 64) else x) := ⟨_, rfl⟩
 replace H := H a3 hq3
 obtain ⟨n, hq4⟩ : ∃ q : Int, q = (bif decide (x ≥ 4294967296) then 32 else 0) := ⟨_, rfl⟩
 replace H := H n hq4
 refine xk (fun ρ h' => h = h' ∧ Has ρ [(0, (.int .u64 a3)), (2, (.int .i64 n))]) ?_ ?_
 ·refine xs (xr ?_)
  refine lv rfl rfl (vm rfl) (lv rfl rfl (vr rfl rfl rfl) ?_)
  refine ln (qn ?_)
  refine xc (b := decide (x ≥ 4294967296)) rfl (fun a4 => ?_) (fun a4 => ?_)
  ·refine xs (xr ?_)
   refine lv rfl rfl (vm rfl) (lv rfl rfl (v := (.int .u64 (Int.fdiv x (2 ^ min (Int.toNat 32) 64)))) (hv_shift rfl rfl (by decide) rfl) (lv rfl rfl (va rfl) ?_))
   refine ln (qn (xr ?_))
   refine lv rfl rfl (va rfl) ?_
   refine ln (qn ?_)
   exact ⟨rfl, (hc (show ((.int .u64 (Int.fdiv x (2 ^ min (Int.toNat 32) 64))) : Value) = (.int .u64 a3) from (by first | rfl | ((try rw [a4]); (try rw [hq3]); (try rw [hq4]); (try rw [a4]); all_goals first | rfl | (simp only [Bool.true_or, Bool.or_true, Bool.false_or, Bool.or_false, Bool.true_and, Bool.and_true, Bool.false_and, Bool.and_false, Bool.not_true, Bool.not_false, Bool.cond_true, Bool.cond_false]; done)) | simp [a4, hq3, hq4, a4])) (hc (show ((.int .i64 32) : Value) = (.int .i64 n) from (by first | rfl | ((try rw [a4]); (try rw [hq3]); (try rw [hq4]); (try rw [a4]); all_goals first | rfl | (simp only [Bool.true_or, Bool.or_true, Bool.false_or, Bool.or_false, Bool.true_and, Bool.and_true, Bool.false_and, Bool.and_false, Bool.not_true, Bool.not_false, Bool.cond_true, Bool.cond_false]; done)) | simp [a4, hq3, hq4, a4])) hn))⟩
  ·refine xi (qn ?_)
   exact ⟨rfl, (hc (show ((.int .u64 x) : Value) = (.int .u64 a3) from (by first | rfl | ((try rw [a4]); (try rw [hq3]); (try rw [hq4]); (try rw [a4]); all_goals first | rfl | (simp only [Bool.true_or, Bool.or_true, Bool.false_or, Bool.or_false, Bool.true_and, Bool.and_true, Bool.false_and, Bool.and_false, Bool.not_true, Bool.not_false, Bool.cond_true, Bool.cond_false]; done)) | simp [a4, hq3, hq4, a4])) (hc (show ((.int .i64 0) : Value) = (.int .i64 n) from (by first | rfl | ((try rw [a4]); (try rw [hq3]); (try rw [hq4]); (try rw [a4]); all_goals first | rfl | (simp only [Bool.true_or, Bool.or_true, Bool.false_or, Bool.or_false, Bool.true_and, Bool.and_true, Bool.false_and, Bool.and_false, Bool.not_true, Bool.not_false, Bool.cond_true, Bool.cond_false]; done)) | simp [a4, hq3, hq4, a4])) hn))⟩
 ·rintro ρ _ ⟨rfl, hH⟩
  refine xh _ hH ?_
  obtain ⟨a2, hq8⟩ : ∃ q : Int, q = (bif decide (a3 ≥ 65536) then Int.fdiv a3 (2 ^ min (Int.toNat 16) 64) else a3) := ⟨_, rfl⟩
  replace H := H a2 hq8
  obtain ⟨a5, hq9⟩ : ∃ q : Int, q = (bif decide (a3 ≥ 65536) then IntKind.i64.wrap (n + 16) else n) := ⟨_, rfl⟩
  replace H := H a5 hq9
  refine xk (fun ρ h' => h = h' ∧ Has ρ [(0, (.int .u64 a2)), (2, (.int .i64 a5))]) ?_ ?_
  ·refine xs (xr ?_)
   refine lv rfl rfl (vm rfl) (lv rfl rfl (vr rfl rfl rfl) ?_)
   refine ln (qn ?_)
   refine xc (b := decide (a3 ≥ 65536)) rfl (fun a1 => ?_) (fun a1 => ?_)
   ·refine xs (xr ?_)
    refine lv rfl rfl (vm rfl) (lv rfl rfl (v := (.int .u64 (Int.fdiv a3 (2 ^ min (Int.toNat 16) 64)))) (hv_shift rfl rfl (by decide) rfl) (lv rfl rfl (va rfl) ?_))
    refine ln (qn (xr ?_))
    refine lv rfl rfl (vm rfl) (lv rfl rfl (vr rfl rfl rfl) (lv rfl rfl (va rfl) ?_))
    refine ln (qn ?_)
    exact ⟨rfl, (hc (show ((.int .u64 (Int.fdiv a3 (2 ^ min (Int.toNat 16) 64))) : Value) = (.int .u64 a2) from (by first | rfl | ((try rw [a1]); (try rw [hq8]); (try rw [hq9]); (try rw [a1]); all_goals first | rfl | (simp only [Bool.true_or, Bool.or_true, Bool.false_or, Bool.or_false, Bool.true_and, Bool.and_true, Bool.false_and, Bool.and_false, Bool.not_true, Bool.not_false, Bool.cond_true, Bool.cond_false]; done)) | simp [a1, hq8, hq9, a1])) (hc (show ((.int .i64 (IntKind.i64.wrap (n + 16))) : Value) = (.int .i64 a5) from (by first | rfl | ((try rw [a1]); (try rw [hq8]); (try rw [hq9]); (try rw [a1]); all_goals first | rfl | (simp only [Bool.true_or, Bool.or_true, Bool.false_or, Bool.or_false, Bool.true_and, Bool.and_true, Bool.false_and, Bool.and_false, Bool.not_true, Bool.not_false, Bool.cond_true, Bool.cond_false]; done)) | simp [a1, hq8, hq9, a1])) hn))⟩
   ·refine xi (qn ?_)
    exact ⟨rfl, (hc (show ((.int .u64 a3) : Value) = (.int .u64 a2) from (by first | rfl | ((try rw [a1]); (try rw [hq8]); (try rw [hq9]); (try rw [a1]); all_goals first | rfl | (simp only [Bool.true_or, Bool.or_true, Bool.false_or, Bool.or_false, Bool.true_and, Bool.and_true, Bool.false_and, Bool.and_false, Bool.not_true, Bool.not_false, Bool.cond_true, Bool.cond_false]; done)) | simp [a1, hq8, hq9, a1])) (hc (show ((.int .i64 n) : Value) = (.int .i64 a5) from (by first | rfl | ((try rw [a1]); (try rw [hq8]); (try rw [hq9]); (try rw [a1]); all_goals first | rfl | (simp only [Bool.true_or, Bool.or_true, Bool.false_or, Bool.or_false, Bool.true_and, Bool.and_true, Bool.false_and, Bool.and_false, Bool.not_true, Bool.not_false, Bool.cond_true, Bool.cond_false]; done)) | simp [a1, hq8, hq9, a1])) hn))⟩
  ·rintro ρ _ ⟨rfl, hH⟩
   refine xh _ hH ?_
   obtain ⟨a7, hq13⟩ : ∃ q : Int, q = (bif decide (a2 ≥ 256) then Int.fdiv a2 (2 ^ min (Int.toNat 8) 64) else a2) := ⟨_, rfl⟩
   replace H := H a7 hq13
   obtain ⟨a6, hq14⟩ : ∃ q : Int, q = (bif decide (a2 ≥ 256) then IntKind.i64.wrap (a5 + 8) else a5) := ⟨_, rfl⟩
   replace H := H a6 hq14
   refine xk (fun ρ h' => h = h' ∧ Has ρ [(0, (.int .u64 a7)), (2, (.int .i64 a6))]) ?_ ?_
   ·refine xs (xr ?_)
    refine lv rfl rfl (vm rfl) (lv rfl rfl (vr rfl rfl rfl) ?_)
    refine ln (qn ?_)
    refine xc (b := decide (a2 ≥ 256)) rfl (fun a0 => ?_) (fun a0 => ?_)
    ·refine xs (xr ?_)
     refine lv rfl rfl (vm rfl) (lv rfl rfl (v := (.int .u64 (Int.fdiv a2 (2 ^ min (Int.toNat 8) 64)))) (hv_shift rfl rfl (by decide) rfl) (lv rfl rfl (va rfl) ?_))
     refine ln (qn (xr ?_))
     refine lv rfl rfl (vm rfl) (lv rfl rfl (vr rfl rfl rfl) (lv rfl rfl (va rfl) ?_))
     refine ln (qn ?_)
     exact ⟨rfl, (hc (show ((.int .u64 (Int.fdiv a2 (2 ^ min (Int.toNat 8) 64))) : Value) = (.int .u64 a7) from (by first | rfl | ((try rw [a0]); (try rw [hq13]); (try rw [hq14]); (try rw [a0]); all_goals first | rfl | (simp only [Bool.true_or, Bool.or_true, Bool.false_or, Bool.or_false, Bool.true_and, Bool.and_true, Bool.false_and, Bool.and_false, Bool.not_true, Bool.not_false, Bool.cond_true, Bool.cond_false]; done)) | simp [a0, hq13, hq14, a0])) (hc (show ((.int .i64 (IntKind.i64.wrap (a5 + 8))) : Value) = (.int .i64 a6) from (by first | rfl | ((try rw [a0]); (try rw [hq13]); (try rw [hq14]); (try rw [a0]); all_goals first | rfl | (simp only [Bool.true_or, Bool.or_true, Bool.false_or, Bool.or_false, Bool.true_and, Bool.and_true, Bool.false_and, Bool.and_false, Bool.not_true, Bool.not_false, Bool.cond_true, Bool.cond_false]; done)) | simp [a0, hq13, hq14, a0])) hn))⟩
    ·refine xi (qn ?_)
     exact ⟨rfl, (hc (show ((.int .u64 a2) : Value) = (.int .u64 a7) from (by first | rfl | ((try rw [a0]); (try rw [hq13]); (try rw [hq14]); (try rw [a0]); all_goals first | rfl | (simp only [Bool.true_or, Bool.or_true, Bool.false_or, Bool.or_false, Bool.true_and, Bool.and_true, Bool.false_and, Bool.and_false, Bool.not_true, Bool.not_false, Bool.cond_true, Bool.cond_false]; done)) | simp [a0, hq13, hq14, a0])) (hc (show ((.int .i64 a5) : Value) = (.int .i64 a6) from (by first | rfl | ((try rw [a0]); (try rw [hq13]); (try rw [hq14]); (try rw [a0]); all_goals first | rfl | (simp only [Bool.true_or, Bool.or_true, Bool.false_or, Bool.or_false, Bool.true_and, Bool.and_true, Bool.false_and, Bool.and_false, Bool.not_true, Bool.not_false, Bool.cond_true, Bool.cond_false]; done)) | simp [a0, hq13, hq14, a0])) hn))⟩
   ·rintro ρ _ ⟨rfl, hH⟩
    refine xh _ hH ?_
    refine xs (xr ?_)
    refine lv rfl rfl (vm rfl) (lv rfl rfl (vm rfl) (lv rfl rfl (v := (.int .u8 (IntKind.u8.wrap a7))) (hv_convInt TyTG.u125 TyTG.u5 rfl) ?_))
    obtain ⟨a8, u, a9, H⟩ := H
    refine lv rfl rfl (v := (.int .u8 (UInt8.toNat u : Int))) (hv_indexStr TyTG.u9 rfl rfl a8 a9) (lv rfl rfl (v := (.int .i64 (IntKind.i64.wrap (UInt8.toNat u : Int)))) (hv_convInt TyTG.u5 TyTG.u3 rfl) (lv rfl rfl (vr rfl rfl rfl) (lv rfl rfl (va rfl) ?_)))
    refine ln (qn (xt ?_))
    exact endQ_ret _ (res_one Tryz.results83 (rv_tmp rfl)) H
end Go.Proofs.YtfjcciaabkjkgaaGreatDoor
namespace Go.Proofs.YtfjcciaabkjkgaaGreatDoor
open Go Go.Shelf Go.Sort
section
variable {α : Type} [Inhabited α]
def eOne (enc : α → Value) (h1 : OneCell enc) : Elt α := ⟨1, fun x => [enc x], fun _ => rfl, fun x v hv => by simp at hv; subst hv; rw [← one_eq]; exact h1 x⟩
theorem holds1 {enc : α → Value} {h1 : OneCell enc} {T : TypeId} {N : Nat} {b o c : Nat} {L : List α} {w : World} (s : Sl (eOne enc h1) w.heap (some ⟨b, o, none⟩) c L) (ow : Own 1 T N w.heap (some ⟨b, o, none⟩) c) : Holds enc w b o L.toArray := by
  intro j hj
  have hj' : j < L.length := by simpa using hj
  obtain ⟨b', o', e, hc⟩ := s.at (List.getElem?_eq_getElem hj')
  cases e
  have h2 : hcell w.heap b (o + j * 1) = some (enc L[j]) := hc.1
  rw [Nat.mul_one] at h2
  have e1 : L.toArray[j]! = L[j] := by simp [hj']
  rw [e1]
  refine ⟨by rw [cell_hcell]; exact h2, ?_⟩
  rcases ow with ⟨e, _⟩ | ⟨b2, o2, cs, e, _, h2, _⟩
  · cases e
  · cases e
    unfold World.frozen?
    simp only [h2]
    simp
theorem heap_sort1 {enc : α → Value} {h1 : OneCell enc} {T : TypeId} {N : Nat} {b o c : Nat} {L : List α} {w : World} (s : Sl (eOne enc h1) w.heap (some ⟨b, o, none⟩) c L) (ow : Own 1 T N w.heap (some ⟨b, o, none⟩) c) {d : Array α} (hd : d.size = L.length) (m : Nat) (os : Array Obj) :
    Fr (· = b) w.heap (sortWorld enc w b o m d os).heap ∧ Sl (eOne enc h1) (sortWorld enc w b o m d os).heap (some ⟨b, o, none⟩) c d.toList ∧ Own 1 T N (sortWorld enc w b o m d os).heap (some ⟨b, o, none⟩) c ∧ Sim w (sortWorld enc w b o m d os) := by
  rcases ow with ⟨e, _⟩ | ⟨b2, o2, cs, e, hlow, h2, h3⟩
  · cases e
  cases e
  have hh : (sortWorld enc w b o m d os).heap = (w.heap.modify b (onCells (putCells enc o d))) ++ os := rfl
  have hlt := row_lt h2
  have hrow : (sortWorld enc w b o m d os).heap[b]? = some (.cells (putCells enc o d cs) T (0, 0)) := by
    rw [hh, Array.getElem?_append, if_pos (by simpa using hlt), Array.getElem?_modify, if_pos rfl, h2]; rfl
  have hother : ∀ i, i < w.heap.size → i ≠ b → (sortWorld enc w b o m d os).heap[i]? = w.heap[i]? := fun i hi hn => by
    rw [hh, Array.getElem?_append, if_pos (by simpa using hi), Array.getElem?_modify, if_neg (Ne.symm hn)]
  have hle := s.le
  refine ⟨⟨by rw [hh]; simp, fun i hi hn => hother i hi hn⟩, Sl.of_row hrow (by simpa [hd] using hle) fun j v hv => ?_, .inr ⟨b, o, _, rfl, hlow, hrow, by simpa [putCells] using h3⟩, ⟨rfl, rfl, rfl, by rw [hh]; simp, fun i hi => ?_⟩⟩
  · obtain ⟨i, x, r, h4, h5, e⟩ := flat_inv (eOne enc h1) d.toList j v hv
    have hr := (List.getElem?_eq_some_iff.1 h5).1
    rw [(eOne enc h1).len] at hr
    have hr0 : r = 0 := by have : (eOne enc h1).k = 1 := rfl; omega
    subst hr0
    have ei : j = i := by have : (eOne enc h1).k = 1 := rfl; rw [this] at e; omega
    subst ei
    have hjd : j < d.size := by have := (List.getElem?_eq_some_iff.1 h4).1; simpa using this
    have hv' : v = enc x := by simpa [eOne] using h5.symm
    subst hv'
    have hjc : o + j < cs.size := by omega
    have h6 : d[j]? = some x := by simpa using h4
    have e3 : d[j]! = x := by
      obtain ⟨h7, h8⟩ := Array.getElem?_eq_some_iff.1 h6
      rw [getElem!_pos d j h7, h8]
    unfold putCells
    rw [Array.getElem?_mapIdx, Array.getElem?_eq_getElem hjc, Option.map_some, if_pos ⟨by omega, by omega⟩, show o + j - o = j by omega, e3]
  · by_cases hib : i = b
    · subst hib; rw [h2] at hi; cases hi
    · rw [hother i (row_lt hi) hib]; exact hi
end
end Go.Proofs.YtfjcciaabkjkgaaGreatDoor
namespace Go.Proofs.YtfjcciaabkjkgaaGreatDoor
open Go Go.Shelf Go.Proofs
def Lay.sortS_ren : Go.Shelf.Ren := ⟨fun | 190 => 94 | 125 => 57 | 258 => 118 | 128 => 82 | 129 => 83 | 302 => 127 | 303 => 128 | 304 => 129 | 305 => 130 | 306 => 131 | 307 => 132 | 308 => 133 | 309 => 134 | 310 => 135 | 333 => 142 | 329 => 97 | 330 => 98 | 334 => 143 | 335 => 144 | 336 => 116 | 344 => 151 | n => n, fun | 31 => 24 | 9 => 9 | 3 => 3 | 46 => 88 | 0 => 0 | 51 => 67 | 53 => 125 | 4 => 4 | 183 => 116 | 182 => 115 | 131 => 121 | 5 => 5 | 218 => 132 | 222 => 136 | 228 => 153 | 229 => 154 | n => n, fun | n => n⟩
theorem Lay.sortS : Go.Proofs.Lays.n190 Tryz.prog Lay.sortS_ren := {
  mixed := by kernel_rfl,
  f125 := Tryz.func57.trans (congrArg some (by kernel_rfl)),
  f128 := Tryz.func82.trans (congrArg some (by kernel_rfl)),
  f129 := Tryz.func83.trans (congrArg some (by kernel_rfl)),
  f190 := Tryz.func94.trans (congrArg some (by kernel_rfl)),
  f258 := Tryz.func118.trans (congrArg some (by kernel_rfl)),
  f302 := Tryz.func127.trans (congrArg some (by kernel_rfl)),
  f303 := Tryz.func128.trans (congrArg some (by kernel_rfl)),
  f304 := Tryz.func129.trans (congrArg some (by kernel_rfl)),
  f305 := Tryz.func130.trans (congrArg some (by kernel_rfl)),
  f306 := Tryz.func131.trans (congrArg some (by kernel_rfl)),
  f307 := Tryz.func132.trans (congrArg some (by kernel_rfl)),
  f308 := Tryz.func133.trans (congrArg some (by kernel_rfl)),
  f309 := Tryz.func134.trans (congrArg some (by kernel_rfl)),
  f310 := Tryz.func135.trans (congrArg some (by kernel_rfl)),
  f329 := Tryz.func97.trans (congrArg some (by kernel_rfl)),
  f330 := Tryz.func98.trans (congrArg some (by kernel_rfl)),
  f333 := Tryz.func142.trans (congrArg some (by kernel_rfl)),
  f334 := Tryz.func143.trans (congrArg some (by kernel_rfl)),
  f335 := Tryz.func144.trans (congrArg some (by kernel_rfl)),
  f336 := Tryz.func116.trans (congrArg some (by kernel_rfl)),
  f344 := Tryz.func151.trans (congrArg some (by kernel_rfl)),
  t0 := Tryz.underlying0,
  a0 := Tryz.isAgg0,
  z0 := Tryz.sizeOf0,
  v0 := Tryz.zeroValue0,
  t3 := Tryz.underlying3,
  a3 := Tryz.isAgg3,
  z3 := Tryz.sizeOf3,
  v3 := Tryz.zeroValue3,
  t4 := Tryz.underlying4,
  a4 := Tryz.isAgg4,
  z4 := Tryz.sizeOf4,
  v4 := Tryz.zeroValue4,
  t5 := Tryz.underlying5,
  a5 := Tryz.isAgg5,
  z5 := Tryz.sizeOf5,
  v5 := Tryz.zeroValue5,
  t9 := Tryz.underlying9,
  a9 := Tryz.isAgg9,
  z9 := Tryz.sizeOf9,
  v9 := Tryz.zeroValue9,
  t31 := Tryz.underlying24,
  a31 := Tryz.isAgg24,
  z31 := Tryz.sizeOf24,
  v31 := Tryz.zeroValue24,
  t46 := Tryz.underlying88,
  a46 := Tryz.isAgg88,
  z46 := Tryz.sizeOf88,
  v46 := Tryz.zeroValue88,
  t51 := Tryz.underlying67,
  a51 := Tryz.isAgg67,
  z51 := Tryz.sizeOf67,
  v51 := Tryz.zeroValue67,
  t53 := Tryz.underlying125,
  a53 := Tryz.isAgg125,
  z53 := Tryz.sizeOf125,
  v53 := Tryz.zeroValue125,
  t131 := Tryz.underlying121,
  a131 := Tryz.isAgg121,
  z131 := Tryz.sizeOf121,
  v131 := Tryz.zeroValue121,
  t182 := Tryz.underlying115,
  a182 := Tryz.isAgg115,
  z182 := Tryz.sizeOf115,
  v182 := Tryz.zeroValue115,
  t183 := Tryz.underlying116,
  a183 := Tryz.isAgg116,
  z183 := Tryz.sizeOf116,
  v183 := Tryz.zeroValue116,
  t218 := Tryz.underlying132,
  a218 := Tryz.isAgg132,
  z218 := Tryz.sizeOf132,
  v218 := Tryz.zeroValue132,
  t222 := Tryz.underlying136,
  a222 := Tryz.isAgg136,
  z222 := Tryz.sizeOf136,
  v222 := Tryz.zeroValue136,
  t228 := Tryz.underlying153,
  a228 := Tryz.isAgg153,
  z228 := Tryz.sizeOf153,
  v228 := Tryz.zeroValue153,
  t229 := Tryz.underlying154,
  a229 := Tryz.isAgg154,
  z229 := Tryz.sizeOf154,
  v229 := Tryz.zeroValue154 }
def Lay.sortI_ren : Go.Shelf.Ren := ⟨fun | 189 => 34 | 125 => 57 | 257 => 56 | 128 => 82 | 129 => 83 | 294 => 73 | 295 => 74 | 296 => 75 | 297 => 76 | 298 => 77 | 299 => 78 | 216 => 79 | 300 => 80 | 301 => 81 | 328 => 96 | 329 => 97 | 330 => 98 | 331 => 99 | 332 => 100 | 215 => 101 | 343 => 119 | n => n, fun | 28 => 26 | 3 => 3 | 46 => 88 | 0 => 0 | 51 => 67 | 53 => 125 | 4 => 4 | 183 => 116 | 182 => 115 | 131 => 121 | 5 => 5 | 9 => 9 | 218 => 132 | 222 => 136 | 228 => 153 | 229 => 154 | n => n, fun | n => n⟩
theorem Lay.sortI : Go.Proofs.Lays.n189 Tryz.prog Lay.sortI_ren := {
  mixed := by kernel_rfl,
  f125 := Tryz.func57.trans (congrArg some (by kernel_rfl)),
  f128 := Tryz.func82.trans (congrArg some (by kernel_rfl)),
  f129 := Tryz.func83.trans (congrArg some (by kernel_rfl)),
  f189 := Tryz.func34.trans (congrArg some (by kernel_rfl)),
  f215 := Tryz.func101.trans (congrArg some (by kernel_rfl)),
  f216 := Tryz.func79.trans (congrArg some (by kernel_rfl)),
  f257 := Tryz.func56.trans (congrArg some (by kernel_rfl)),
  f294 := Tryz.func73.trans (congrArg some (by kernel_rfl)),
  f295 := Tryz.func74.trans (congrArg some (by kernel_rfl)),
  f296 := Tryz.func75.trans (congrArg some (by kernel_rfl)),
  f297 := Tryz.func76.trans (congrArg some (by kernel_rfl)),
  f298 := Tryz.func77.trans (congrArg some (by kernel_rfl)),
  f299 := Tryz.func78.trans (congrArg some (by kernel_rfl)),
  f300 := Tryz.func80.trans (congrArg some (by kernel_rfl)),
  f301 := Tryz.func81.trans (congrArg some (by kernel_rfl)),
  f328 := Tryz.func96.trans (congrArg some (by kernel_rfl)),
  f329 := Tryz.func97.trans (congrArg some (by kernel_rfl)),
  f330 := Tryz.func98.trans (congrArg some (by kernel_rfl)),
  f331 := Tryz.func99.trans (congrArg some (by kernel_rfl)),
  f332 := Tryz.func100.trans (congrArg some (by kernel_rfl)),
  f343 := Tryz.func119.trans (congrArg some (by kernel_rfl)),
  t0 := Tryz.underlying0,
  a0 := Tryz.isAgg0,
  z0 := Tryz.sizeOf0,
  v0 := Tryz.zeroValue0,
  t3 := Tryz.underlying3,
  a3 := Tryz.isAgg3,
  z3 := Tryz.sizeOf3,
  v3 := Tryz.zeroValue3,
  t4 := Tryz.underlying4,
  a4 := Tryz.isAgg4,
  z4 := Tryz.sizeOf4,
  v4 := Tryz.zeroValue4,
  t5 := Tryz.underlying5,
  a5 := Tryz.isAgg5,
  z5 := Tryz.sizeOf5,
  v5 := Tryz.zeroValue5,
  t9 := Tryz.underlying9,
  a9 := Tryz.isAgg9,
  z9 := Tryz.sizeOf9,
  v9 := Tryz.zeroValue9,
  t28 := Tryz.underlying26,
  a28 := Tryz.isAgg26,
  z28 := Tryz.sizeOf26,
  v28 := Tryz.zeroValue26,
  t46 := Tryz.underlying88,
  a46 := Tryz.isAgg88,
  z46 := Tryz.sizeOf88,
  v46 := Tryz.zeroValue88,
  t51 := Tryz.underlying67,
  a51 := Tryz.isAgg67,
  z51 := Tryz.sizeOf67,
  v51 := Tryz.zeroValue67,
  t53 := Tryz.underlying125,
  a53 := Tryz.isAgg125,
  z53 := Tryz.sizeOf125,
  v53 := Tryz.zeroValue125,
  t131 := Tryz.underlying121,
  a131 := Tryz.isAgg121,
  z131 := Tryz.sizeOf121,
  v131 := Tryz.zeroValue121,
  t182 := Tryz.underlying115,
  a182 := Tryz.isAgg115,
  z182 := Tryz.sizeOf115,
  v182 := Tryz.zeroValue115,
  t183 := Tryz.underlying116,
  a183 := Tryz.isAgg116,
  z183 := Tryz.sizeOf116,
  v183 := Tryz.zeroValue116,
  t218 := Tryz.underlying132,
  a218 := Tryz.isAgg132,
  z218 := Tryz.sizeOf132,
  v218 := Tryz.zeroValue132,
  t222 := Tryz.underlying136,
  a222 := Tryz.isAgg136,
  z222 := Tryz.sizeOf136,
  v222 := Tryz.zeroValue136,
  t228 := Tryz.underlying153,
  a228 := Tryz.isAgg153,
  z228 := Tryz.sizeOf153,
  v228 := Tryz.zeroValue153,
  t229 := Tryz.underlying154,
  a229 := Tryz.isAgg154,
  z229 := Tryz.sizeOf154,
  v229 := Tryz.zeroValue154 }
end Go.Proofs.YtfjcciaabkjkgaaGreatDoor
namespace Go.Proofs.YtfjcciaabkjkgaaGreatDoor
open Go Ml Go.Shelf Go.Sort
theorem shut_ext {h h5 h6 : Heap} (x : Ext h h5) (s : Shut' h.size h5 h6) : Ext h h6 := ⟨by rw [s.size]; exact x.size, fun b hb => (s.low hb).trans (x.block b hb)⟩
theorem sl_shut {α : Type} {E : Elt α} {h h' : Heap} {N : Nat} {a : Option Addr} {c : Nat} {L : List α} (s : Sl E h a c L) (sh : Shut' N h h') : Sl E h' a c L :=
  ⟨s.le, s.ex.imp id fun ⟨b, o, e, hc⟩ => ⟨b, o, e, fun i y hy => HCells.mk fun j v hv => shut_cell sh ((hc i y hy).get hv)⟩⟩
theorem own_shut {k : Nat} {T : TypeId} {M N : Nat} {h h' : Heap} {a : Option Addr} {c : Nat} (w : Own k T M h a c) (sh : Shut' N h h') : Own k T M h' a c :=
  w.imp id fun ⟨b, o, cs, e, h1, h2, h3⟩ => ⟨b, o, cs, e, h1, sh.row h2 (by simp), h3⟩
theorem Sl.conv {α β : Type} {E : Elt α} {E' : Elt β} (f : α → β) (hk : E'.k = E.k) (he : ∀ x, E'.enc (f x) = E.enc x) {h : Heap} {a : Option Addr} {c : Nat} {L : List α} (s : Sl E h a c L) : Sl E' h a c (L.map f) := by
  refine ⟨by rw [List.length_map]; exact s.le, s.ex.imp id fun ⟨b, o, e, hc⟩ => ⟨b, o, e, fun i y hy => ?_⟩⟩
  rw [List.getElem?_map] at hy
  cases hx : L[i]? with
  | none => rw [hx] at hy; cases hy
  | some x =>
    rw [hx] at hy
    simp only [Option.map_some, Option.some.injEq] at hy
    subst hy
    rw [he, hk]; exact hc i x hx
def ofU (l : List UInt8) : ByteArray := ⟨l.toArray⟩
theorem one_S : OneCell encStr := fun _ => rfl
abbrev eL : Elt (List UInt8) := eOne encStr one_S
section
variable {h : Heap} {a : Option Addr} {c N : Nat} {L : List ByteArray}
set_option maxRecDepth 100000 in
theorem sortS_c (s : Sl eStr h a c L) (w : Own eStr.k tS N h a c) (hl : L.length < 4611686018427387904) :
    HC Tryz.prog 94 #[.slice a L.length c] h fun v h' => v = .tuple #[] ∧ Fr (blkA a) h h' ∧ ∃ L', L'.Perm L ∧ L'.Pairwise (fun x y => slt y x = false) ∧ Sl eStr h' a c L' ∧ Own eStr.k tS N h' a c := by
  by_cases h0 : L = []
  · subst h0
    refine f94_sh _ _ _ _ _ (f57_sh _ _ _ (f83_sh _ _ _ ?_))
    intro x1 e1 n e2 x2 e3 n1 e4 x3 e5 n2 e6
    have x1e : x1 = 0 := e1
    subst x1e
    have x2e : x2 = 0 := e3
    subst x2e
    have x3e : x3 = 0 := e5
    subst x3e
    refine ⟨by decide, 0, by kernel_rfl, _, rfl, _, rfl, ?_⟩
    refine f118_sh _ _ _ _ _ _ _ _ ⟨fun x y _ _ _ hh => x = 0 ∧ y = 0 ∧ h = hh, fun _ _ _ _ _ _ => 0, ⟨rfl, rfl, rfl⟩, ?_⟩
    rintro _ _ _ _ _ _ ⟨rfl, rfl, rfl⟩
    refine ⟨fun _ => f127_sh _ _ _ _ _ _ _ ⟨fun i hh => i = 1 ∧ h = hh, fun _ _ => 0, ⟨rfl, rfl⟩, ?_⟩, fun e => absurd e (by decide)⟩
    rintro _ _ ⟨rfl, rfl⟩
    exact ⟨fun e => absurd e (by decide), fun _ => ⟨rfl, rfl, rfl, Fr.refl _ _, [], List.Perm.refl _, List.Pairwise.nil, s, w⟩⟩
  · obtain ⟨b, o, rfl, _⟩ := s.addr (List.length_pos_iff.2 h0)
    intro w0 hw
    subst hw
    have hb : b < w0.heap.size := (w.low (blkA_of rfl)).2
    have s' : Sl eL w0.heap (some ⟨b, o, none⟩) c (L.map fun x => x.data.toList) := Sl.conv (E := eStr) (E' := eL) (fun x => x.data.toList) rfl (fun x => rfl) s
    have w' : Own 1 tS N w0.heap (some ⟨b, o, none⟩) c := w
    have hH : Holds encStr w0 b o (L.map fun x => x.data.toList).toArray := holds1 s' w'
    have hcon := Any.slices_Sort_string Lay.sortS b o c (L.map fun x => x.data.toList) w0 hH hb (by simpa using hl)
    rw [List.length_map] at hcon
    refine hcon.mono ?_
    rintro e w1 ⟨rfl, n, os, rfl⟩
    have hp := List.mergeSort_perm (L.map fun x => x.data.toList) (fun x y => decide (x ≤ y))
    have hsrt := List.pairwise_mergeSort (le := fun x y : List UInt8 => decide (x ≤ y)) (fun x y z h1 h2 => by simp only [decide_eq_true_eq] at *; exact List.le_trans h1 h2) (fun x y => by simp only [Bool.or_eq_true, decide_eq_true_eq]; exact List.le_total x y) (L.map fun x => x.data.toList)
    generalize hM : ((L.map fun x => x.data.toList).mergeSort fun x y => decide (x ≤ y)) = M at *
    obtain ⟨f1, s1, o1, m1⟩ := heap_sort1 s' w' (d := M.toArray) (by simp [hp.length_eq]) n os
    have s2 : Sl eL (sortWorld encStr w0 b o n M.toArray os).heap (some ⟨b, o, none⟩) c M := by simpa using s1
    refine ⟨_, rfl, m1, rfl, f1.mono fun i _ e => blkA_some.2 e, M.map ofU, ?_, ?_, Sl.conv (E := eL) (E' := eStr) ofU rfl (fun x => rfl) s2, o1⟩
    · have := hp.map ofU
      rw [List.map_map] at this
      refine this.trans ?_
      have e : (ofU ∘ fun x : ByteArray => x.data.toList) = id := by funext x; rfl
      rw [e, List.map_id]
    · rw [List.pairwise_map]
      refine hsrt.imp fun {x y} h => ?_
      have h := of_decide_eq_true h
      unfold slt
      rw [decide_eq_false_iff_not]
      exact List.not_lt.2 h
end
theorem cbK : CallB Tryz.prog 95 := fun _ _ => Tryz.call95 _ _
def Yk (m : Nat) (h : Heap) (b : Nat) : Prop := b ≠ m ∧ b ≠ h.size
section
variable {h : Heap} {y : Value} {R : Value → Heap → Prop} {mb m : Nat} {kv : List (ByteArray × Value)}
theorem keys_go (r : hcell h mb 0 = some (.map (some m))) (ml : MapL h m Value.string kv) (hv : ∀ p ∈ kv, ∃ (a : Option Addr) (n c : Nat), p.2 = .slice a n c) (J : List ByteArray → Heap → Prop) (j0 : ∀ h1, Ext h h1 → h1.size = h.size + 1 → J [] h1) (jst : ∀ D hh hh', J D hh → Fr (· = h.size) hh hh' → J D hh')
    (step : ∀ D k hh, D.length < kv.length → h.size < hh.size → J D hh → HCV Tryz.prog y [.string k] hh fun vv h' => Fr (Yk m h) hh h' ∧ vv = .bool true ∧ J (D ++ [k]) h') (fin : ∀ D hh, D.Perm (kv.map (·.1)) → J D hh → R (.tuple #[]) hh) :
    HCF Tryz.prog (.func (.func 95) #[] #[ptr mb 0]) [y] h R := by
  refine ⟨_, [], [ptr mb 0], rfl, cbK, ?_⟩
  refine f95_sh _ _ _ _ _ ⟨_, r, m, rfl, kv, ml, fun it h1 eit x1 z1 i1 => ⟨fun hh => ∃ D td cu, Itr hh it m Value.string kv td cu ∧ (D ++ td.map (·.1)).Perm (kv.map (·.1)) ∧ h.size < hh.size ∧ J D hh, fun hh => leastOf fun n => ∃ D td cu, Itr hh it m Value.string kv td cu ∧ (D ++ td.map (·.1)).Perm (kv.map (·.1)) ∧ h.size < hh.size ∧ J D hh ∧ td.length = n, ⟨[], kv, none, i1, List.Perm.refl _, by omega, j0 h1 x1 z1⟩, ?_⟩⟩
  rintro h2 hI
  obtain ⟨⟨D, td, cu, i2, p2, z2, j2, hn⟩, _⟩ := leastOf_spec (p := fun n => ∃ D td cu, Itr h2 it m Value.string kv td cu ∧ (D ++ td.map (·.1)).Perm (kv.map (·.1)) ∧ h.size < h2.size ∧ J D h2 ∧ td.length = n) (let ⟨D, td, cu, a, b, c, d⟩ := hI; ⟨_, D, td, cu, a, b, c, d, rfl⟩)
  refine ⟨m, kv, td, cu, i2, fun more h3 td1 cu1 o3 i3 nx => ?_⟩
  have j3 := jst D h2 h3 j2 (by rw [← eit]; exact o3.fr)
  refine ⟨fun em => ?_, fun em => ?_⟩
  · obtain ⟨s1, q, s2, rfl, rfl, rfl⟩ := nx.2 em
    have hq : q ∈ kv := by
      have hk : q.1 ∈ (D ++ (s1 ++ q :: s2).map (·.1)) := by simp
      obtain ⟨es, c, seen, c0, a1, a2, a3, a4, a5, a6, a7, a8⟩ := i3
      obtain ⟨e, he, s', e1, e2, e3, e4⟩ := a8 q rfl
      have : (e.key, e.val) ∈ kv.map fun p => (Value.string p.1, p.2) := by rw [← a2]; exact List.mem_map_of_mem he
      obtain ⟨p, hp, ep⟩ := List.mem_map.1 this
      simp only [Prod.mk.injEq] at ep
      rw [e3, e4] at ep
      have e5 : p = q := by
        obtain ⟨p1, p2⟩ := p; obtain ⟨q1, q2⟩ := q
        simp only [Value.string.injEq] at ep
        rw [ep.1, ep.2]
      rw [← e5]; exact hp
    obtain ⟨xa, xn, xc, hx⟩ := hv q hq
    have hlen := p2.length_eq
    simp only [List.length_append, List.length_map, List.length_cons] at hlen
    refine ⟨m, kv, _, q, i3, xa, xn, xc, hx, (step D q.1 h3 (by omega) (by have := o3.size; omega) j3).mono ?_⟩
    rintro _ h4 ⟨f4, rfl, j4⟩
    refine ⟨true, rfl, fun e => by simp at e, fun _ => ?_⟩
    have i4 := i3.fr f4 (fun q => q.1 rfl) (fun q => q.2 eit)
    have p4 : ((D ++ [q.1]) ++ (s1 ++ s2).map (·.1)).Perm (kv.map (·.1)) := by
      refine List.Perm.trans ?_ p2
      rw [List.append_assoc]
      refine List.Perm.append_left _ ?_
      rw [List.map_append, List.map_append, List.map_cons]
      exact (List.perm_middle (l₁ := s1.map (·.1)) (l₂ := s2.map (·.1))).symm
    have z4 : h.size < h4.size := by have := o3.size; have := f4.size; omega
    refine ⟨⟨_, _, _, i4, p4, z4, j4⟩, ?_⟩
    have := (leastOf_spec (p := fun n => ∃ D td cu, Itr h4 it m Value.string kv td cu ∧ (D ++ td.map (·.1)).Perm (kv.map (·.1)) ∧ h.size < h4.size ∧ J D h4 ∧ td.length = n) ⟨_, _, _, _, i4, p4, z4, j4, rfl⟩).2 _ ⟨_, _, _, i4, p4, z4, j4, rfl⟩
    show leastOf _ < leastOf _
    rw [← hn]
    simp only [List.length_append, List.length_cons] at this ⊢
    omega
  · have ht := nx.1 em
    subst ht
    rw [List.map_nil, List.append_nil] at p2
    exact fin D h3 p2 j3
end
def Tells (seq : Value) (kv : List (ByteArray × Value)) (m : Nat) (h : Heap) : Prop := ∀ (y : Value) (R : Value → Heap → Prop) (J : List ByteArray → Heap → Prop), (∀ h1, Ext h h1 → h1.size = h.size + 1 → J [] h1) → (∀ D hh hh', J D hh → Fr (· = h.size) hh hh' → J D hh') →
    (∀ D k hh, D.length < kv.length → h.size < hh.size → J D hh → HCV Tryz.prog y [.string k] hh fun vv h' => Fr (Yk m h) hh h' ∧ vv = .bool true ∧ J (D ++ [k]) h') → (∀ D hh, D.Perm (kv.map (·.1)) → J D hh → R (.tuple #[]) hh) → HCF Tryz.prog seq [y] h R
section
variable {h : Heap} {seq : Value} {m : Nat} {kv : List (ByteArray × Value)}
theorem collect_c (hm : m < h.size) (hg : ∀ h2, Ext h h2 → Tells seq kv m h2) (hl : kv.length ≤ 8796093022208) : HC Tryz.prog 117 #[.slice none 0 0, seq] h fun v h' => Ext h h' ∧ ∃ a c L, v = .slice a L.length c ∧ L.Perm (kv.map (·.1)) ∧ Sl eStr h' a c L ∧ Own eStr.k tS h.size h' a c := by
  refine f117_sh _ _ _ _ _ _ fun sv h1 e1 eh1 Lp l h2 y stay el x2 z2 L2 hyld => ?_
  have x1 : Ext h h1 := by rw [eh1]; exact Ext.push _ _
  have r1 : h1[sv]? = some (.cells #[.slice none 0 0] 24 (0, 0)) := by rw [eh1]; exact push_new e1
  have z1 : h1.size = h.size + 1 := by rw [eh1]; simp
  clear eh1
  have x02 := x1.trans x2
  refine hg h2 x02 y _ (fun D hh => Lp .ready none hh ∧ (∃ a c, hh[sv]? = some (.cells #[.slice a D.length c] 24 (0, 0)) ∧ Sl eStr hh a c D ∧ Own eStr.k tS (h2.size + 1) hh a c) ∧ Ext h hh ∧ h2.size + 1 ≤ hh.size)
    (fun h3 x3 z3 => ⟨stay _ _ _ _ L2 (x3.block l (by omega)), ⟨none, 0, (x2.trans x3).row r1, Sl.nil _ _, Own.nil _ _ _ _⟩, x02.trans x3, by omega⟩) ?_ ?_ ?_
  · rintro D hh hh' ⟨lp, ⟨a, c, r, s, w⟩, x, z⟩ f
    have := f.size
    refine ⟨stay _ _ _ _ lp (f.block l (by omega) (by omega)), ⟨a, c, f.row r (by omega), s.fr f fun b hb q => ?_, w.fr f fun b hb q => ?_⟩, ((x.fr _).trans f fun _ _ q => q).ext fun i hi q => by omega, by omega⟩
    · have := (w.low hb).1; omega
    · have := (w.low hb).1; omega
  · rintro D k hh hD zh ⟨lp, ⟨a, c, r, s, w⟩, x, z⟩
    refine hyld k hh _ lp ⟨lp, fun h6 o6 lp6 => ?_⟩
    have r6 := o6.fr.row r (by omega)
    have nl : ∀ b, blkA a b → ¬ b = l := fun b hb q => by have := (w.low hb).1; omega
    have s6 := s.fr o6.fr nl
    have w6 := w.fr o6.fr nl
    have z6 := o6.size
    refine ⟨a, _, c, by rw [hcell_row r6]; rfl, fun nb h7 en e7 => ?_⟩
    refine app_onb (x := k) aS en e7 rfl s6 w6 (by omega) rfl (by omega) fun a' c' h8 f8 s8 w8 nw => ⟨a', _, c', rfl, ?_⟩
    have r8 := f8.row r6 (own_ne w6 r6 (by decide))
    refine ⟨HW_row r8 (by simp), fun h9 e9 => ?_⟩
    have f9 : Fr (· = sv) h8 h9 := fr_hset_of e9
    have r9 : h9[sv]? = some (.cells #[.slice a' (D.length + 1) c'] 24 (0, 0)) := by rw [e9]; exact hset_row r8
    have na : ∀ b, blkA a b → h2.size + 1 ≤ b := fun b hb => (w6.low hb).1
    have na' : ∀ b, blkA a' b → h2.size + 1 ≤ b := fun b hb => (w8.low hb).1
    have lp9 : Lp .busy none h9 := stay _ _ _ _ (stay _ _ _ _ lp6 (f8.block l (by omega) fun q => by have := na l q; omega)) (f9.block l (by have := f8.size; omega) (by omega))
    refine ⟨lp9, fun h10 o10 lp10 => ⟨?_, rfl, lp10, ⟨a', c', ?_, ?_, ?_⟩, ?_, ?_⟩⟩
    · refine (((o6.fr.mono fun i _ q => ?_).trans (f8.mono fun i _ q => ?_) fun _ _ q => q).trans (f9.mono fun i _ q => ?_) fun _ _ q => q).trans (o10.fr.mono fun i _ q => ?_) fun _ _ q => q
      · subst q; exact ⟨by omega, by omega⟩
      · have := na i q; exact ⟨by omega, by omega⟩
      · subst q; exact ⟨by omega, by omega⟩
      · subst q; exact ⟨by omega, by omega⟩
    · rw [List.length_append]; exact o10.fr.row r9 (by omega)
    · exact (s8.fr f9 fun b hb q => by have := na' b hb; omega).fr o10.fr fun b hb q => by have := na' b hb; omega
    · exact (w8.fr f9 fun b hb q => by have := na' b hb; omega).fr o10.fr fun b hb q => by have := na' b hb; omega
    · exact (((((x.fr (fun b => h.size ≤ b)).trans o6.fr fun i hi q => by omega).trans f8 fun i hi q => by have := na i q; omega).trans f9 fun i hi q => by omega).trans o10.fr fun i hi q => by omega).ext fun i hi q => by omega
    · have := f8.size; have := f9.size; have := o10.size; omega
  · rintro D hh hp ⟨lp, ⟨a, c, r, s, w⟩, x, z⟩
    refine ⟨.ready, none, lp, by simp, fun h5 o5 _ => ⟨rfl, ?_⟩⟩
    have nl : ∀ b, blkA a b → ¬ b = l := fun b hb q => by have := (w.low hb).1; omega
    have r5 := o5.fr.row r (by omega)
    refine ⟨a, _, c, by rw [hcell_row r5]; rfl, fun h11 sh => ⟨?_, a, c, D, rfl, hp, sl_shut (s.fr o5.fr nl) sh, (own_shut (w.fr o5.fr nl) sh).down (by omega)⟩⟩
    exact shut_ext (((x.fr _).trans o5.fr fun _ _ q => q).ext fun i hi q => by omega) sh
theorem sorted_c (hm : m < h.size) (hg : ∀ h2, Ext h h2 → Tells seq kv m h2) (hl : kv.length ≤ 8796093022208) (hn : (kv.map (·.1)).Nodup) : HC Tryz.prog 71 #[seq] h fun v h' => Ext h h' ∧ ∃ a c L, v = .slice a L.length c ∧ L.Perm (kv.map (·.1)) ∧ L.Pairwise (fun x y => slt x y = true) ∧ Sl eStr h' a c L ∧ Own eStr.k tS h.size h' a c := by
  refine f71_sh _ _ _ (f93_sh _ _ _ ((collect_c hm hg hl).mono ?_))
  rintro _ h1 ⟨x1, a, c, L, rfl, hp, s, w⟩
  have hlen := hp.length_eq
  rw [List.length_map] at hlen
  refine ⟨a, _, c, rfl, a, _, c, rfl, (sortS_c s w (by omega)).mono ?_⟩
  rintro _ h2 ⟨rfl, f2, L', hp', hs, s', w'⟩
  refine ⟨rfl, ((x1.fr _).trans f2 fun _ _ q => q).ext fun i hi q => by have := (w.low q).1; omega, a, c, L', by rw [hp'.length_eq], hp'.trans hp, ?_, s', w'⟩
  have hnd : L'.Nodup := (hp'.trans hp).nodup_iff.2 hn
  refine (hs.and hnd).imp fun {x y} ⟨h1, h2⟩ => ?_
  rcases slt_or (a := y) (b := x) h1 with e | e
  · exact absurd e.symm h2
  · exact e
theorem keys_tell {mb : Nat} (r : ∀ h2, Ext h h2 → hcell h2 mb 0 = some (.map (some m))) (ml : MapL h m Value.string kv) (hv : ∀ p ∈ kv, ∃ (a : Option Addr) (n c : Nat), p.2 = .slice a n c) : ∀ h2, Ext h h2 → Tells (.func (.func 95) #[] #[ptr mb 0]) kv m h2 :=
  fun h2 x2 y R J j0 jst step fin => keys_go (r h2 x2) (ml.ext x2) hv J j0 jst step fin
end
theorem nodup_gen {α : Type} : ∀ {L S : List α}, L.Nodup → (∀ x ∈ L, x ∈ S) → L.length ≤ S.length
  | [], _, _, _ => Nat.zero_le _
  | x :: L, S, hn, hs => by
    obtain ⟨h1, h2⟩ := List.nodup_cons.1 hn
    obtain ⟨s, t, rfl⟩ := List.append_of_mem (hs x List.mem_cons_self)
    have := nodup_gen (L := L) (S := s ++ t) h2 fun y hy => by
      have := hs y (List.mem_cons_of_mem _ hy)
      rcases List.mem_append.1 this with q | q
      · exact List.mem_append_left _ q
      · rcases List.mem_cons.1 q with e | q
        · exact absurd (e ▸ hy) h1
        · exact List.mem_append_right _ q
    simp only [List.length_append, List.length_cons] at this ⊢
    omega
theorem lk_in : ∀ {kv : List (Str × Value)} {k : Str}, k ∈ kv.map (·.1) → ∃ v, lk kv k = some v
  | (c, u) :: t, k, h => by
    simp only [lk]
    by_cases e : c = k
    · exact ⟨u, by simp [e]⟩
    · rw [List.map_cons] at h
      rcases List.mem_cons.1 h with q | q
      · exact absurd q.symm e
      · obtain ⟨v, hv⟩ := lk_in q
        exact ⟨v, by simp [e, hv]⟩
theorem lk_val {kv : List (Str × Value)} (hn : (kv.map (·.1)).Nodup) {p : Str × Value} (hp : p ∈ kv) : lk kv p.1 = some p.2 := by
  obtain ⟨v, hv⟩ := lk_in (List.mem_map_of_mem (f := (·.1)) hp)
  have hm := lk_mem _ _ _ hv
  obtain ⟨i, hi, e1⟩ := List.getElem_of_mem hp
  obtain ⟨j, hj, e2⟩ := List.getElem_of_mem hm
  have hp := List.pairwise_iff_getElem.1 hn
  have key : (kv.map (·.1))[i]'(by simpa using hi) = (kv.map (·.1))[j]'(by simpa using hj) := by
    rw [List.getElem_map, List.getElem_map, e1, e2]
  have : i = j := by
    rcases Nat.lt_trichotomy i j with q | q | q
    · exact absurd key (hp i j (by simpa using hi) (by simpa using hj) q)
    · exact q
    · exact absurd key.symm (hp j i (by simpa using hj) (by simpa using hi) q)
  subst this
  rw [hv, ← e1, e2]
section
variable {h : Heap} {la : Option Addr} {lc : Nat} {l : List Mv}
theorem ofN_ne {key : Str} : ofN l key ≠ [] ↔ ∃ m ∈ l, keyed m = true ∧ m.key = key := by
  constructor
  · intro q
    obtain ⟨i, hi⟩ := List.exists_mem_of_ne_nil _ q
    have hi2 := hi
    unfold ofN at hi2
    rw [List.mem_filter] at hi2
    have hil := ofN_in i hi
    rw [mv_at hil] at hi2
    have := hi2.2
    simp only [Bool.and_eq_true, decide_eq_true_eq] at this
    exact ⟨l[i], List.getElem_mem hil, this⟩
  · rintro ⟨m, hm, h1, h2⟩ e
    obtain ⟨i, hi, rfl⟩ := List.getElem_of_mem hm
    have : i ∈ ofN l key := by
      unfold ofN
      rw [List.mem_filter, mv_at hi]
      exact ⟨List.mem_range.2 hi, by simp [h1, h2]⟩
    rw [e] at this; cases this
theorem byK_kv {N : Nat} {mb : Nat} {σ : Str → Option Addr × Nat} (B : ByK N h mb (fun key => ofN l key) σ) : ∃ kv, MapL h mb Value.string kv ∧ (∀ p ∈ kv, p.2 = .slice (σ p.1).1 (ofN l p.1).length (σ p.1).2) ∧ ∀ key, key ∈ kv.map (·.1) ↔ ofN l key ≠ [] := by
  obtain ⟨kv, mk, hn, hs⟩ := B.map
  have hin : ∀ key, key ∈ kv.map (·.1) → ofN l key ≠ [] := fun key hk q => by
    obtain ⟨v, hv⟩ := lk_in hk
    rw [hn key q] at hv; cases hv
  refine ⟨kv, mk, fun p hp => ?_, fun key => ⟨hin key, fun q => ?_⟩⟩
  · have h1 := lk_val mk.nodup hp
    rw [hs p.1 (hin _ (List.mem_map_of_mem hp))] at h1
    exact (Option.some.inj h1).symm
  · exact List.mem_map.2 ⟨_, lk_mem _ _ _ (hs key q), rfl⟩
theorem lkeys_c (sl : Sl eMv h la lc l) (hl : l.length ≤ 1048576) :
    HC Tryz.prog 55 #[.slice la l.length lc] h fun v h' => Ext h h' ∧ ∃ K a c, v = .slice a (List.length K) c ∧ Sl eStr h' a c K ∧ KeysP l K ∧ K.length ≤ l.length := by
  refine f55_sh _ _ _ _ _ ((byKey_c sl hl).mono ?_)
  rintro _ h1 ⟨x1, mb, σ, rfl, lo, B⟩
  refine ⟨some mb, rfl, f72_sh _ _ _ fun kb h2 e2 eh2 => ⟨_, rfl, ?_⟩⟩
  have r2 : h2[kb]? = some (.cells #[.map (some mb)] 45 (0, 0)) := by rw [eh2]; exact push_new e2
  have x2 : Ext h1 h2 := by rw [eh2]; exact Ext.push _ _
  clear eh2
  obtain ⟨kv, mk, hval, hkey⟩ := byK_kv (B.ext x2)
  have hlen : kv.length ≤ l.length := by
    have := nodup_gen (L := kv.map (·.1)) (S := l.map (·.key)) mk.nodup fun k hk => by
      obtain ⟨m, hm, _, e⟩ := ofN_ne.1 ((hkey k).1 hk)
      exact List.mem_map.2 ⟨m, hm, e⟩
    simpa using this
  refine (sorted_c mk.lt (keys_tell (fun h3 x3 => by rw [hcell_row (x3.row r2)]; rfl) mk fun p hp => ⟨_, _, _, hval p hp⟩) (by omega) mk.nodup).mono ?_
  rintro _ h3 ⟨x3, a, c, K, rfl, hp, hs, sK, wK⟩
  exact ⟨a, _, c, rfl, x1.trans (x2.trans x3), K, a, c, rfl, sK, ⟨hs, fun k => by rw [hp.mem_iff, hkey, ofN_ne]⟩, by have := hp.length_eq; rw [List.length_map] at this; omega⟩
end
end Go.Proofs.YtfjcciaabkjkgaaGreatDoor
namespace Go.Proofs.YtfjcciaabkjkgaaGreatDoor
open Go Ml
namespace Ml
def LinK (l : List Mv) (ok : Bool) (k : Str) : Prop :=
  (ok = true ∧ k = ByteArray.empty ∧ LinP l) ∨ (ok = false ∧ ¬ Cmp l (ofK l (All l) k) stX ∧ ∀ k', slt k' k = true → Cmp l (ofK l (All l) k') stX)
theorem LinK.unique {l : List Mv} {ok ok' : Bool} {k k' : Str} (a : LinK l ok k) (b : LinK l ok' k') : ok = ok' ∧ k = k' := by
  rcases a with ⟨a1, a2, a3⟩ | ⟨a1, a2, a3⟩ <;> rcases b with ⟨b1, b2, b3⟩ | ⟨b1, b2, b3⟩
  · exact ⟨a1.trans b1.symm, a2.trans b2.symm⟩
  · exact absurd (a3 k') b2
  · exact absurd (b3 k) a2
  · refine ⟨a1.trans b1.symm, ?_⟩
    cases e : slt k k' with
    | true => exact absurd (b3 k e) a2
    | false =>
      rcases slt_or (a := k) (b := k') e with q | q
      · exact q
      · exact absurd (a3 k' q) b2
def LinearR (l : List Mv) (ok : Bool) (k : Str) (e : Int) : Prop :=
  (chkL l ≠ 0 ∧ ok = false ∧ k = ByteArray.empty ∧ e = 230) ∨ (chkL l = 0 ∧ (∃ key, 24 < (ofN l key).length) ∧ ok = false ∧ k = ByteArray.empty ∧ e = 250) ∨ (chkL l = 0 ∧ (∀ key, (ofN l key).length ≤ 24) ∧ e = 0 ∧ LinK l ok k)
theorem LinearR.unique {l : List Mv} {ok ok' : Bool} {k k' : Str} {e e' : Int} (a : LinearR l ok k e) (b : LinearR l ok' k' e') : ok = ok' ∧ k = k' ∧ e = e' := by
  rcases a with ⟨a1, rfl, rfl, rfl⟩ | ⟨a1, ⟨ka, a2⟩, rfl, rfl, rfl⟩ | ⟨a1, a2, rfl, a3⟩ <;> rcases b with ⟨b1, rfl, rfl, rfl⟩ | ⟨b1, ⟨kb, b2⟩, rfl, rfl, rfl⟩ | ⟨b1, b2, rfl, b3⟩
  · exact ⟨rfl, rfl, rfl⟩
  · exact absurd b1 a1
  · exact absurd b1 a1
  · exact absurd a1 b1
  · exact ⟨rfl, rfl, rfl⟩
  · have := b2 ka; omega
  · exact absurd a1 b1
  · have := a2 kb; omega
  · obtain ⟨q1, q2⟩ := a3.unique b3
    exact ⟨q1, q2, rfl⟩
section
variable {l : List Mv} {K : List Str}
theorem linK_no (p : KeysP l K) {j : Nat} (hj : j < K.length) (hn : ¬ Cmp l (ofK l (All l) K[j]) stX) (hb : ∀ i (hi : i < K.length), i < j → Cmp l (ofK l (All l) K[i]) stX) : LinK l false K[j] := by
  refine .inr ⟨rfl, hn, fun k' hk' => ?_⟩
  by_cases q : k' ∈ K
  · obtain ⟨i, hi, rfl⟩ := List.getElem_of_mem q
    refine hb i hi ?_
    have hp := List.pairwise_iff_getElem.1 p.srt
    rcases Nat.lt_trichotomy i j with r | r | r
    · exact r
    · subst r; rw [slt_irrefl] at hk'; cases hk'
    · have := slt_trans hk' (hp j i hj hi r)
      rw [slt_irrefl] at this; cases this
  · refine no_key fun i hi r => q ((p.mem k').2 ⟨l[i], List.getElem_mem hi, ?_⟩)
    rw [← mv_at hi]; exact r
theorem linK_yes (p : KeysP l K) (hb : ∀ i (hi : i < K.length), Cmp l (ofK l (All l) K[i]) stX) : LinK l true ByteArray.empty := by
  refine .inl ⟨rfl, rfl, fun k' => ?_⟩
  by_cases q : k' ∈ K
  · obtain ⟨i, hi, rfl⟩ := List.getElem_of_mem q
    exact hb i hi
  · refine no_key fun i hi r => q ((p.mem k').2 ⟨l[i], List.getElem_mem hi, ?_⟩)
    rw [← mv_at hi]; exact r
end
end Ml
section
variable {h : Heap} {la : Option Addr} {lc : Nat} {l : List Mv}
set_option maxHeartbeats 4000000 in
theorem many_c (sl : Sl eMv h la lc l) (hl : l.length ≤ 1048576) :
    HC Tryz.prog 31 #[.slice la l.length lc] h fun v h' => Ext h h' ∧ ∃ r : Bool, v = .bool r ∧ (r = true ↔ ∃ key, 24 < (ofN l key).length) := by
  refine f31_sh _ _ _ _ _ ((byKey_c sl hl).mono ?_)
  rintro _ h1 ⟨x1, mb, σ, rfl, lo, B⟩
  obtain ⟨kv, mk, hval, hkey⟩ := byK_kv B
  refine ⟨some mb, rfl, mb, rfl, kv, mk, fun it h2 eit x2 z2 i2 => ?_⟩
  refine ⟨fun hh => ∃ D td cu, Itr hh it mb Value.string kv td cu ∧ (D ++ td).Perm kv ∧ Ext h1 hh ∧ ∀ p ∈ D, (ofN l p.1).length ≤ 24,
    fun hh => leastOf fun n => ∃ D td cu, Itr hh it mb Value.string kv td cu ∧ (D ++ td).Perm kv ∧ Ext h1 hh ∧ (∀ p ∈ D, (ofN l p.1).length ≤ 24) ∧ td.length = n, ⟨[], kv, none, i2, List.Perm.refl _, x2, fun p hp => by cases hp⟩, ?_⟩
  rintro h3 hI
  obtain ⟨⟨D, td, cu, i3, p3, x3, b3, hn⟩, _⟩ := leastOf_spec (p := fun n => ∃ D td cu, Itr h3 it mb Value.string kv td cu ∧ (D ++ td).Perm kv ∧ Ext h1 h3 ∧ (∀ p ∈ D, (ofN l p.1).length ≤ 24) ∧ td.length = n) (let ⟨D, td, cu, a, b, c, d⟩ := hI; ⟨_, D, td, cu, a, b, c, d, rfl⟩)
  refine ⟨mb, kv, td, cu, i3, fun more h4 td1 cu1 o4 i4 nx => ?_⟩
  have x4 : Ext h1 h4 := ext_fr x3 o4.fr fun b e => by omega
  refine ⟨fun em => ?_, fun em => ?_⟩
  · obtain ⟨s1, q, s2, rfl, rfl, rfl⟩ := nx.2 em
    have hq : q ∈ kv := p3.mem_iff.1 (by simp)
    refine ⟨mb, kv, _, q, i4, _, _, _, hval q hq, fun g => ⟨x1.trans x4, true, rfl, ⟨fun _ => ⟨q.1, by have := of_decide_eq_true g; omega⟩, fun _ => rfl⟩⟩, fun g => ?_⟩
    have g24 : (ofN l q.1).length ≤ 24 := by have := of_decide_eq_false g; omega
    have p4 : ((D ++ [q]) ++ (s1 ++ s2)).Perm kv := by
      refine List.Perm.trans ?_ p3
      rw [List.append_assoc]
      refine List.Perm.append_left _ ?_
      exact (List.perm_middle (l₁ := s1) (l₂ := s2)).symm
    have b4 : ∀ p ∈ D ++ [q], (ofN l p.1).length ≤ 24 := fun p hp => by
      rcases List.mem_append.1 hp with r | r
      · exact b3 p r
      · have : p = q := by simpa using r
        rw [this]; exact g24
    refine ⟨⟨D ++ [q], _, _, i4, p4, x4, b4⟩, ?_⟩
    have := (leastOf_spec (p := fun n => ∃ D td cu, Itr h4 it mb Value.string kv td cu ∧ (D ++ td).Perm kv ∧ Ext h1 h4 ∧ (∀ p ∈ D, (ofN l p.1).length ≤ 24) ∧ td.length = n) ⟨_, _, _, _, i4, p4, x4, b4, rfl⟩).2 _ ⟨_, _, _, i4, p4, x4, b4, rfl⟩
    show leastOf _ < leastOf _
    rw [← hn]
    simp only [List.length_append, List.length_cons] at this ⊢
    omega
  · have ht := nx.1 em
    subst ht
    rw [List.append_nil] at p3
    refine ⟨x1.trans x4, false, rfl, ⟨fun q => (by cases q), fun ⟨key, hk⟩ => ?_⟩⟩
    exfalso
    have hne : ofN l key ≠ [] := fun q => by rw [q] at hk; simp at hk
    obtain ⟨p, hp, e⟩ := List.mem_map.1 ((hkey key).2 hne)
    have := b3 p (p3.mem_iff.2 hp)
    rw [e] at this
    omega
theorem srh_fresh {nm : Nat → List Mt → Str} {N lo : Nat} {own : List Nat} {key : Str} {oa : Option Addr} {oc : Nat} (sl : Sl eMv h la lc l) (hla : ∀ b, blkA la b → b < N) (so : Sl eN h oa oc own) (hoa : ∀ b, blkA oa b → lo ≤ b) (hN : N ≤ lo) (hlo : lo ≤ h.size) (hne : 0 < own.length) (hol : own.length ≤ 31) (hin : ∀ i ∈ own, i < l.length) (hll : l.length ≤ 4611686018427387904) (hd : own.Nodup) (ho : OfOne l own key) :
    HC Tryz.prog 43 #[.slice la l.length lc, .slice oa own.length oc] h fun v h' => Ext h h' ∧ ∃ p mb, v = ptr p 0 ∧ h.size ≤ mb ∧ Srh nm N lo h'.size h' p mb l own key := by
  refine (newSearch_c sl so hne hol hin hll).mono ?_
  rintro v h' ⟨x1, p, mb, W, wa, wc, hv, p1, p2, m1, m2, S, k1, k2, mk, hw⟩
  have s1 := x1.size
  refine ⟨x1, p, mb, hv, m1, ⟨W, la, oa, wa, lc, oc, wc, S, k1, k2, hla, fun b hb => ⟨hoa b hb, ?_⟩, fun b hb => ⟨by have := (hw b hb).1; omega, (hw b hb).2⟩⟩, hd, ho, hol, hin, hN, ⟨by omega, p2⟩, ⟨by omega, m2⟩, [], mk, fun n => ⟨0, rfl, fun q => by omega⟩⟩
  have := sl_lt (by decide) so hne hb; omega
theorem one_ofN {key : Str} : OfOne l (ofN l key) key := fun i hi => by
  unfold ofN at hi
  rw [List.mem_filter] at hi
  simpa using hi.2
set_option maxHeartbeats 4000000 in
theorem linear_c {Tb : Heap → Prop} {Pm : List Mt → Prop} {nm : Nat → List Mt → Str} (M : Nmr h.size Tb Pm nm l) (tb : Tb h) (sl : Sl eMv h la lc l) (hl : l.length ≤ 1048576) (h24 : ∀ key, (ofN l key).length ≤ 24) :
    HC Tryz.prog 32 #[.slice la l.length lc] h fun v h' => Ext h h' ∧ ∃ ok k, v = .tuple #[.bool ok, .string k] ∧ LinK l ok k := by
  refine f32_sh _ _ _ _ _ ((byKey_c sl hl).mono ?_)
  rintro _ h1 ⟨x1, mb, σ, rfl, lo, B⟩
  refine ⟨some mb, rfl, (lkeys_c (sl.ext x1) hl).mono ?_⟩
  rintro _ h2 ⟨x2, K, ka, kc, rfl, sK, pK, hKl⟩
  have x02 := x1.trans x2
  refine ⟨ka, _, kc, rfl, fun v h3 => ∃ j : Nat, v = j ∧ j ≤ K.length ∧ Ext h2 h3 ∧ ∀ i (hi : i < K.length), i < j → Cmp l (ofK l (All l) K[i]) stX, fun v _ => K.length - v.toNat, ⟨0, rfl, Nat.zero_le _, Ext.refl _, fun i _ q => by omega⟩, ?_⟩
  rintro _ h3 ⟨j, rfl, hj, x3, hC⟩
  have x03 := x02.trans x3
  refine ⟨fun hlt => ?_, fun hge => ?_⟩
  · have hjl := lt_of_dec hlt
    obtain ⟨b, o, ea, d⟩ := (sK.ext x3).at (List.getElem?_eq_getElem hjl)
    have B3 := (B.ext x2).ext x3
    have hne : ofN l K[j] ≠ [] := ofN_ne.2 ((pK.mem _).1 (List.getElem_mem hjl))
    have hl0 : 0 < l.length := by
      obtain ⟨i, hi⟩ := List.exists_mem_of_ne_nil _ hne
      have := ofN_in i hi; omega
    obtain ⟨kv, mk, hn, hs⟩ := B3.map
    obtain ⟨so, wo⟩ := B3.sl _ hne
    have hown := h24 K[j]
    have z1 := x1.size; have z2 := x2.size; have z3 := x3.size
    have hmb := B.mbN
    have hm3 := mk.lt
    refine ⟨b, o, ea, by omega, by omega, _, d.1, mb, rfl, kv, mk, _, _, _, by rw [hs _ hne]; rfl, (srh_fresh (nm := nm) (N := h.size) (lo := mb + 1) (key := K[j]) (sl.ext x03) (fun b hb => sl_lt (by decide) sl hl0 hb) so (fun b hb => (wo.low hb).1) (by omega) (by omega) (List.length_pos_iff.2 hne) (by omega) ofN_in M.ll (lt_nodup (ofN_lt _)) one_ofN).mono ?_⟩
    rintro _ h4 ⟨x4, p, ms, rfl, fm, S4⟩
    refine ⟨some ⟨p, 0, none⟩, rfl, (shown_c M S4 (M.ext (x03.trans x4) tb)).mono ?_⟩
    rintro _ h5 ⟨r, rfl, hr, f5, S5⟩
    have x5 : Ext h2 h5 := ext_fr (x3.trans x4) f5 fun b e => by omega
    rw [ofN_mem] at hr
    refine ⟨r, rfl, fun e => ?_, fun e => ?_⟩
    · refine ⟨x02.trans x5, false, _, rfl, linK_no pK hjl (fun c => ?_) hC⟩
      rw [hr.2 c] at e; cases e
    · rw [wadd j (by omega)]
      refine ⟨⟨j + 1, rfl, hjl, x5, fun i hi hij => ?_⟩, by simp only [Int.toNat_natCast]; omega⟩
      rcases Nat.lt_or_ge i j with q | q
      · exact hC i hi q
      · have : i = j := by omega
        subst this
        exact hr.1 (by simpa using e)
  · have hjl : j = K.length := by have := ge_of_dec hge; omega
    subst hjl
    exact ⟨x03, true, _, rfl, linK_yes pK fun i hi => hC i hi hi⟩
theorem Linear_c {Tb : Heap → Prop} {Pm : List Mt → Prop} {nm : Nat → List Mt → Str} (M : ∀ h', Ext h h' → Nmr h'.size Tb Pm nm l) (hx : ∀ {h h'}, Ext h h' → Tb h → Tb h') (tb : Tb h) (sl : Sl eMv h la lc l) (hl : l.length ≤ 1048576) :
    HC Tryz.prog 16 #[.slice la l.length lc] h fun v h' => Ext h h' ∧ ∃ ok k e, v = .tuple #[.bool ok, .string k, .int .i64 e] ∧ LinearR l ok k e := by
  refine f16_sh _ _ _ _ _ ((right_c sl (by omega)).mono ?_)
  rintro _ h1 ⟨rfl, x1⟩
  refine ⟨_, rfl, fun g => ?_, fun g => ?_⟩
  · have g : chkL l ≠ 0 := by simpa using g
    exact ⟨x1, false, _, _, rfl, .inl ⟨g, rfl, rfl, chk_val g⟩⟩
  have h0 : chkL l = 0 := by simpa using g
  refine (many_c (sl.ext x1) hl).mono ?_
  rintro _ h2 ⟨x2, r, rfl, hr⟩
  have x02 := x1.trans x2
  refine ⟨r, rfl, fun e => ⟨x02, false, _, _, rfl, .inr (.inl ⟨h0, hr.1 e, rfl, rfl, rfl⟩)⟩, fun e => ?_⟩
  have h24 : ∀ key, (ofN l key).length ≤ 24 := fun key => Nat.le_of_not_lt fun q => by
    rw [hr.2 ⟨key, q⟩] at e; cases e
  refine (linear_c (M _ x02) (hx x02 tb) (sl.ext x02) hl h24).mono ?_
  rintro _ h3 ⟨x3, ok, k, rfl, hk⟩
  exact ⟨ok, k, rfl, x02.trans x3, ok, k, 0, rfl, .inr (.inr ⟨h0, h24, rfl, hk⟩)⟩
set_option maxHeartbeats 4000000 in
theorem rlinear_c (sl : Sl eMv h la lc l) (hl : l.length ≤ 1048576) :
    HC Tryz.prog 18 #[.slice la l.length lc] h fun v h' => Ext h h' ∧ ∃ ok k e, v = .tuple #[.bool ok, .string k, .int .i64 e] ∧ LinearR l ok k e := by
  refine f18_sh _ _ _ _ _ ((rcheck_l sl (by omega)).mono ?_)
  rintro _ h1 ⟨rfl, x1⟩
  refine ⟨_, rfl, fun g => ?_, fun g => ?_⟩
  · have g : chkL l ≠ 0 := by simpa using g
    exact ⟨x1, false, _, _, rfl, .inl ⟨g, rfl, rfl, chk_val g⟩⟩
  have h0 : chkL l = 0 := by simpa using g
  refine (rkeys_c (sl.ext x1) (by omega)).mono ?_
  rintro _ h2 ⟨x2, K, ka, kc, rfl, sK, wK, pK, hKl⟩
  have x02 := x1.trans x2
  refine ⟨ka, _, kc, rfl, fun i h3 => ∃ j : Nat, i = j ∧ j ≤ K.length ∧ Ext h2 h3 ∧ ∀ t (ht : t < K.length), t < j → (ofN l K[t]).length ≤ 24, fun i _ => K.length - i.toNat, ⟨0, rfl, Nat.zero_le _, Ext.refl _, fun t _ q => by omega⟩, ?_⟩
  rintro _ h3 ⟨j, rfl, hj, x3, hM⟩
  have x03 := x02.trans x3
  refine ⟨fun hlt => ?_, fun hge => ?_⟩
  · have hjl := lt_of_dec hlt
    obtain ⟨b, o, ea, d⟩ := (sK.ext x3).at (List.getElem?_eq_getElem hjl)
    refine ⟨b, o, ea, by omega, by omega, _, d.1, (of_c (sl.ext x03) hl _).mono ?_⟩
    rintro _ h4 ⟨x4, oa, oc, rfl, so, wo⟩
    refine ⟨oa, _, oc, rfl, fun g2 => ⟨x03.trans x4, false, _, _, rfl, .inr (.inl ⟨h0, ⟨K[j], by have := of_decide_eq_true g2; omega⟩, rfl, rfl, rfl⟩)⟩, fun g2 => ?_⟩
    rw [wadd j (by omega)]
    refine ⟨⟨j + 1, rfl, hjl, x3.trans x4, fun t ht htj => ?_⟩, by simp only [Int.toNat_natCast]; omega⟩
    rcases Nat.lt_or_ge t j with q | q
    · exact hM t ht q
    · have : t = j := by omega
      subst this
      have := of_decide_eq_false g2; omega
  · have hjl : j = K.length := by have := ge_of_dec hge; omega
    subst hjl
    have h24 : ∀ key, (ofN l key).length ≤ 24 := fun key => by
      by_cases q : ofN l key = []
      · rw [q]; simp
      · have hm : key ∈ K := (pK.mem key).2 (ofN_ne.1 q)
        obtain ⟨t, ht, rfl⟩ := List.getElem_of_mem hm
        exact hM t ht ht
    refine ⟨fun i h5 => ∃ j : Nat, i = j ∧ j ≤ K.length ∧ Ext h2 h5 ∧ ∀ t (ht : t < K.length), t < j → Cmp l (ofK l (All l) K[t]) stX, fun i _ => K.length - i.toNat, ⟨0, rfl, Nat.zero_le _, x3, fun t _ q => by omega⟩, ?_⟩
    rintro _ h5 ⟨j, rfl, hj, x5, hC⟩
    have x05 := x02.trans x5
    refine ⟨fun hlt => ?_, fun hge => ?_⟩
    · have hjl := lt_of_dec hlt
      obtain ⟨b, o, ea, d⟩ := (sK.ext x5).at (List.getElem?_eq_getElem hjl)
      refine ⟨b, o, ea, by omega, by omega, _, d.1, (rkey_c (sl.ext x05) hl _).mono ?_⟩
      rintro _ h6 ⟨x6, A, r, aa, ac, rfl, sA, hA⟩
      have hL : LeastR l (ofN l K[j]) A r := by
        rcases hA with ⟨q, _⟩ | ⟨_, q, _⟩ | ⟨_, _, q⟩
        · exact absurd h0 q
        · have := h24 K[j]; omega
        · exact q
      have hc : r = 0 ↔ Cmp l (ofK l (All l) K[j]) stX := by
        rcases hL with ⟨q, gr⟩ | ⟨q, _, hn⟩
        · have := gr.cmp
          rw [ofN_mem] at this
          exact ⟨fun _ => this, fun _ => q⟩
        · rw [ofN_mem] at hn
          exact ⟨fun e => by omega, fun c => absurd c hn⟩
      refine ⟨aa, _, ac, r, rfl, fun e => ⟨_, x6.cell d.1, x05.trans x6, false, _, _, rfl, .inr (.inr ⟨h0, h24, rfl, linK_no pK hjl (fun c => ?_) hC⟩)⟩, fun e => ?_⟩
      · rw [hc.2 c] at e; simp at e
      · rw [wadd j (by omega)]
        refine ⟨⟨j + 1, rfl, hjl, x5.trans x6, fun t ht htj => ?_⟩, by simp only [Int.toNat_natCast]; omega⟩
        rcases Nat.lt_or_ge t j with q | q
        · exact hC t ht q
        · have : t = j := by omega
          subst this
          exact hc.1 (by simpa using e)
    · have hjl : j = K.length := by have := ge_of_dec hge; omega
      subst hjl
      exact ⟨x05, true, _, _, rfl, .inr (.inr ⟨h0, h24, rfl, linK_yes pK fun i hi => hC i hi hi⟩)⟩
theorem Linear_t {T : Go.Lib.PrintTabs} {h0 : Heap} (t : TabsH T h0 h) (sl : Sl eMv h la lc l) (hl : l.length ≤ 524288) (hv : ∀ m ∈ l, m.val.size ≤ 1048576) :
    HC Tryz.prog 16 #[.slice la l.length lc] h fun v h' => Ext h h' ∧ ∃ ok k e, v = .tuple #[.bool ok, .string k, .int .i64 e] ∧ LinearR l ok k e :=
  Linear_c (Tb := TabsH T h0) (fun h' x => nmr_c (Nat.le_trans t.2.size x.size) hl hv) tabs_ext t sl (by omega)
end
end Go.Proofs.YtfjcciaabkjkgaaGreatDoor
