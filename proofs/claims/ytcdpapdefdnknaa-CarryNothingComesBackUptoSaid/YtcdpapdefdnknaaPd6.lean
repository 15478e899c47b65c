import Derived.Test.YtcdpapdefdnknaaProg
import Derived.Test.YtcdpapdefdnknaaPd1
import Derived.Test.YtcdpapdefdnknaaPd2
import Derived.Test.YtcdpapdefdnknaaPd3
import Derived.Test.YtcdpapdefdnknaaPd5
namespace Go.Proofs.Ytcdpapdefdnknaa
namespace Cy
open Go
def stp (hv : Int) : Int := ibor .u64 (mix (IntKind.u64.wrap (hv + 1))) 1
def atv (hv : Int) : Nat → Int
  | 0 => mix hv
  | j + 1 => IntKind.u64.wrap (atv hv j + stp hv)
def plc (b : Nat) (hv : Int) (j : Nat) : Nat := (atv hv j % b).toNat
theorem mix_U (x : Int) : U64 (mix x) := ibxor_U _ _
theorem atv_U (hv : Int) : ∀ j, U64 (atv hv j)
  | 0 => mix_U _
  | _ + 1 => wrapU _
theorem atv_mul (hv : Int) : ∀ j : Nat, atv hv j = IntKind.u64.wrap (mix hv + (j : Int) * stp hv)
  | 0 => by rw [show ((0 : Nat) : Int) * stp hv = 0 by simp, Int.add_zero]; exact (uW (mix_U _)).symm
  | j + 1 => by
    simp only [atv]
    rw [atv_mul hv j, uAdd]
    congr 1
    rw [show ((j + 1 : Nat) : Int) = (j : Int) + 1 by omega, Int.add_mul, Int.one_mul, Int.add_assoc]
theorem plc_lt {b : Nat} (hb : 0 < b) (hv : Int) (j : Nat) : plc b hv j < b := by
  unfold plc
  have h1 := Int.emod_nonneg (atv hv j) (show (b : Int) ≠ 0 by omega)
  have h2 := Int.emod_lt_of_pos (atv hv j) (show (0 : Int) < b by omega)
  omega
theorem plc_eq {b : Nat} (hb : 0 < b) (hb2 : b ≤ 1048576) (hv : Int) (j : Nat) : IntKind.i64.wrap (Int.tmod (atv hv j) (IntKind.u64.wrap (b : Int))) = ((plc b hv j : Nat) : Int) := by
  rw [uW (x := (b : Int)) ⟨by omega, by omega⟩, Int.tmod_eq_emod_of_nonneg (atv_U hv j).1]
  unfold plc
  have h1 := Int.emod_nonneg (atv hv j) (show (b : Int) ≠ 0 by omega)
  have h2 := Int.emod_lt_of_pos (atv hv j) (show (0 : Int) < b by omega)
  rw [w64 (by omega) (by omega)]; omega
def Bits (k : Nat) (W : List Int) (F : Nat → Bool) : Prop := ∀ (i : Nat) (hi : i < W.length), (0 ≤ W[i] ∧ W[i] < 2 ^ k) ∧ ∀ j, j < k → W[i].toNat.testBit j = F (k * i + j)
theorem Bits.zero (k n : Nat) : Bits k (List.replicate n 0) fun _ => false := fun i hi => by
  rw [List.getElem_replicate]
  refine ⟨⟨Int.le_refl _, Int.pow_pos (by decide)⟩, fun j _ => ?_⟩
  simp
theorem int_pow (j : Nat) : (2 : Int) ^ j = ((2 ^ j : Nat) : Int) := by simp
theorem Bits.or {k : Nat} {W : List Int} {F : Nat → Bool} (b : Bits k W F) {i j : Nat} (hi : i < W.length) (hj : j < k) : Bits k (W.set i ((W[i].toNat ||| 2 ^ j : Nat) : Int)) fun q => F q || decide (q = k * i + j) := fun i' hi' => by
  have hi2 : i' < W.length := by simpa using hi'
  obtain ⟨b1, b2⟩ := b i' hi2
  by_cases e : i = i'
  · subst e
    rw [List.getElem_set_self]
    have hp : 2 ^ j < 2 ^ k := Nat.pow_lt_pow_right (by decide) hj
    have hW : W[i].toNat < 2 ^ k := by have := b1.2; rw [int_pow] at this; omega
    have hor : W[i].toNat ||| 2 ^ j < 2 ^ k := Nat.or_lt_two_pow hW hp
    refine ⟨⟨by omega, by rw [int_pow]; omega⟩, fun j' hj' => ?_⟩
    rw [Int.toNat_natCast, Nat.testBit_or, b2 j' hj', Nat.testBit_two_pow]
    congr 1
    rw [decide_eq_decide]
    omega
  · rw [List.getElem_set_ne e]
    refine ⟨b1, fun j' hj' => ?_⟩
    rw [b2 j' hj']
    have : ¬ k * i' + j' = k * i + j := fun q => by
      have h1 : (k * i' + j') / k = i' := by rw [Nat.mul_add_div (by omega), Nat.div_eq_of_lt hj']; rfl
      have h2 : (k * i + j) / k = i := by rw [Nat.mul_add_div (by omega), Nat.div_eq_of_lt hj]; rfl
      rw [q, h2] at h1; exact e h1
    simp [this]
theorem Bits.congr {k : Nat} {W : List Int} {F G : Nat → Bool} (b : Bits k W F) (e : ∀ q, F q = G q) : Bits k W G := fun i hi => ⟨(b i hi).1, fun j hj => by rw [(b i hi).2 j hj, e]⟩
theorem fdiv_pow {x : Int} (h : 0 ≤ x) (j : Nat) : Int.fdiv x (2 ^ j) = ((x.toNat / 2 ^ j : Nat) : Int) := by
  rw [Int.fdiv_eq_ediv_of_nonneg _ (Int.le_of_lt (Int.pow_pos (by decide)))]
  obtain ⟨n, rfl⟩ : ∃ n : Nat, x = n := ⟨x.toNat, by omega⟩
  rw [int_pow, Int.toNat_natCast]; rfl
theorem u64_pow {x : Int} (h : 0 ≤ x ∧ x < 2 ^ 64) : U64 x := ⟨h.1, by have := h.2; simpa using this⟩
theorem bit_m {x : Int} (h : U64 x) (j : Nat) : ((iband .u64 (Int.fdiv x (2 ^ j)) 1) == 0) = !(x.toNat.testBit j) := by
  rw [fdiv_pow h.1, Nat.testBit_eq_decide_div_mod_eq]
  have hle : x.toNat / 2 ^ j ≤ x.toNat := Nat.div_le_self _ _
  have h1 := h.1; have h2 := h.2
  generalize x.toNat / 2 ^ j = q at *
  rw [band ⟨by omega, by omega⟩ ⟨by decide, by decide⟩, Int.toNat_natCast, show (1 : Int).toNat = 1 from rfl, Nat.and_one_is_mod]
  rcases Nat.mod_two_eq_zero_or_one q with e | e <;> rw [e] <;> rfl
theorem bit_r {x : Int} (h : 0 ≤ x) (j : Nat) : ((Int.tmod (Int.fdiv x (2 ^ j)) 2) == 0) = !(x.toNat.testBit j) := by
  rw [fdiv_pow h, Nat.testBit_eq_decide_div_mod_eq]
  generalize x.toNat / 2 ^ j = q
  rw [show (2 : Int) = ((2 : Nat) : Int) from rfl, tmod_nat]
  rcases Nat.mod_two_eq_zero_or_one q with e | e <;> rw [e] <;> rfl
theorem one_pow {j : Nat} (hj : j < 64) : IntKind.u64.wrap (1 * 2 ^ j) = ((2 ^ j : Nat) : Int) := by
  have : 2 ^ j < 2 ^ 64 := Nat.pow_lt_pow_right (by decide) hj
  rw [Int.one_mul, int_pow]
  generalize 2 ^ j = q at *
  rw [uW ⟨by omega, by omega⟩]
theorem or_m {x : Int} (h : U64 x) {j : Nat} (hj : j < 64) : ibor .u64 x (IntKind.u64.wrap (1 * 2 ^ j)) = ((x.toNat ||| 2 ^ j : Nat) : Int) := by
  have : 2 ^ j < 2 ^ 64 := Nat.pow_lt_pow_right (by decide) hj
  rw [one_pow hj]
  generalize 2 ^ j = q at *
  rw [bor h ⟨by omega, by omega⟩, Int.toNat_natCast]
theorem or_r {x : Int} (h : 0 ≤ x ∧ x < 256) {j : Nat} (hj : j < 8) : ibor .u8 x (IntKind.u8.wrap (1 * 2 ^ j)) = ((x.toNat ||| 2 ^ j : Nat) : Int) := by
  have hp : 2 ^ j < 2 ^ 8 := Nat.pow_lt_pow_right (by decide) hj
  rw [Int.one_mul, int_pow]
  generalize 2 ^ j = q at *
  rw [wu8 (by omega) (by omega)]
  have bv : ∀ {n : Int}, 0 ≤ n → n < 256 → (BitVec.ofInt 8 n).toNat = n.toNat := fun {n} h0 h1 => by
    rw [BitVec.toNat_ofInt]
    have : n % ((2 : Nat) ^ 8 : Nat) = n := Int.emod_eq_of_lt h0 (by omega)
    rw [this]
  unfold ibor
  show IntKind.u8.wrap ((BitVec.ofInt 8 x ||| BitVec.ofInt 8 (q : Int)).toNat : Int) = _
  have hl : (BitVec.ofInt 8 x ||| BitVec.ofInt 8 (q : Int)).toNat < 2 ^ 8 := BitVec.isLt _
  rw [wu8 (by omega) (by omega), BitVec.toNat_or, bv h.1 h.2, bv (by omega) (by omega), Int.toNat_natCast]
def mayF (b s : Nat) (F : Nat → Bool) (hv : Int) : Bool := (List.range s).all fun j => F (plc b hv j)
def addT (b : Nat) (F : Nat → Bool) (hv : Int) : Nat → Nat → Bool
  | 0 => F
  | j + 1 => fun q => addT b F hv j q || decide (q = plc b hv j)
def addF (b s : Nat) (F : Nat → Bool) (hv : Int) : Nat → Bool := addT b F hv s
theorem addT_old {b : Nat} {F : Nat → Bool} {hv : Int} {q : Nat} (h : F q = true) : ∀ j, addT b F hv j q = true
  | 0 => h
  | j + 1 => by simp only [addT, addT_old h j, Bool.true_or]
theorem addT_new {b : Nat} {F : Nat → Bool} {hv : Int} {i : Nat} : ∀ {j : Nat}, i < j → addT b F hv j (plc b hv i) = true
  | j + 1, h => by
    by_cases e : i = j
    · subst e; simp [addT]
    · simp only [addT, addT_new (show i < j by omega), Bool.true_or]
theorem may_old {b s : Nat} {F : Nat → Bool} {hv hw : Int} (h : mayF b s F hw = true) : mayF b s (addF b s F hv) hw = true := by
  unfold mayF at *
  rw [List.all_eq_true] at *
  exact fun j hj => addT_old (h j hj) s
theorem may_new {b s : Nat} {F : Nat → Bool} {hv : Int} : mayF b s (addF b s F hv) hv = true := by
  unfold mayF
  rw [List.all_eq_true]
  exact fun j hj => addT_new (List.mem_range.1 hj)
def fltOf (b s : Nat) (X : List ByteArray) : Nat → Bool := X.foldl (fun F k => addF b s F (hsh k)) fun _ => false
theorem flt_snoc (b s : Nat) (X : List ByteArray) (k : ByteArray) : fltOf b s (X ++ [k]) = addF b s (fltOf b s X) (hsh k) := by unfold fltOf; rw [List.foldl_append]; rfl
end Cy
end Go.Proofs.Ytcdpapdefdnknaa
namespace Go.Proofs.Ytcdpapdefdnknaa
open Go
open Go.Proofs.Ytcdpapdefdnknaa renaming hl_val → lv, hl_step → lp, hl_nil → ln, hl_yes → ly, hl_no → lo, hx_seq → xs, hx_region → xr, hx_cond → xc, hx_block → xb, hx_loopT → xl, hx_cut → xk, hx_has → xh, hx_skip → xi, hx_ret → xt, hx_exit → xe, seqQ_n → qn, seqQ_ret → qr, seqQ_exit → qe, blockQ_n → bn, blockQ_ret → br, blockQ_here → bh, hv_move → vm, hv_assign → va, hv_arith → vr, hv_load → vl, hv_loads → vL, hv_extract → vx, hv_field → vf, hv_build → vb, hv_index → vi, hp_pure → pp, hp_read → pr, hp_no → pn, has_cons → hc, has_nil → hn, hcells_cons → cc, hcells_nil → cn, rowcell → rc, hs_call → sc, ht_one → to
set_option maxRecDepth 100000
set_option maxHeartbeats 4000000
theorem TyTE.agg3 : aggB Try.prog 3 = some false := by kernel_rfl
theorem TyTE.agg31 : aggB Try.prog 31 = some false := by kernel_rfl
theorem TyTE.agg36 : aggB Try.prog 36 = some true := by kernel_rfl
theorem TyTE.agg4 : aggB Try.prog 4 = some false := by kernel_rfl
theorem TyTE.agg47 : aggB Try.prog 47 = some false := by kernel_rfl
theorem TyTE.agg5 : aggB Try.prog 5 = some false := by kernel_rfl
theorem TyTE.agg50 : aggB Try.prog 50 = some false := by kernel_rfl
theorem TyTE.agg53 : aggB Try.prog 53 = some false := by kernel_rfl
theorem TyTE.agg78 : aggB Try.prog 78 = some false := by kernel_rfl
theorem TyTE.agg9 : aggB Try.prog 9 = some false := by kernel_rfl
theorem TyTE.by31 : byB Try.prog 31 = some 8 := by kernel_rfl
theorem TyTE.by5 : byB Try.prog 5 = some 1 := by kernel_rfl
theorem TyTE.cb30 : CallB Try.prog 30 := fun _ _ => Try.call30 _ _
theorem TyTE.cb32 : CallB Try.prog 32 := fun _ _ => Try.call32 _ _
theorem TyTE.cb33 : CallB Try.prog 33 := fun _ _ => Try.call33 _ _
theorem TyTE.cb34 : CallB Try.prog 34 := fun _ _ => Try.call34 _ _
theorem TyTE.cb35 : CallB Try.prog 35 := fun _ _ => Try.call35 _ _
theorem TyTE.cb36 : CallB Try.prog 36 := fun _ _ => Try.call36 _ _
theorem TyTE.cb37 : CallB Try.prog 37 := fun _ _ => Try.call37 _ _
theorem TyTE.cb38 : CallB Try.prog 38 := fun _ _ => Try.call38 _ _
theorem TyTE.cb39 : CallB Try.prog 39 := fun _ _ => Try.call39 _ _
theorem TyTE.cb41 : CallB Try.prog 41 := fun _ _ => Try.call41 _ _
theorem TyTE.cb42 : CallB Try.prog 42 := fun _ _ => Try.call42 _ _
theorem TyTE.cb43 : CallB Try.prog 43 := fun _ _ => Try.call43 _ _
theorem TyTE.cb49 : CallB Try.prog 49 := fun _ _ => Try.call49 _ _
theorem TyTE.cb51 : CallB Try.prog 51 := fun _ _ => Try.call51 _ _
theorem TyTE.cb56 : CallB Try.prog 56 := fun _ _ => Try.call56 _ _
theorem TyTE.cb61 : CallB Try.prog 61 := fun _ _ => Try.call61 _ _
theorem TyTE.el32 : elB Try.prog 32 = some 4 := by kernel_rfl
theorem TyTE.el53 : elB Try.prog 53 = some 1 := by kernel_rfl
theorem TyTE.el57 : elB Try.prog 57 = some 1 := by kernel_rfl
theorem TyTE.el58 : elB Try.prog 58 = some 1 := by kernel_rfl
theorem TyTE.el78 : elB Try.prog 78 = some 1 := by kernel_rfl
theorem TyTE.el82 : elB Try.prog 82 = some 1 := by kernel_rfl
theorem TyTE.fld36_1 : fldB Try.prog 36 1 = some 1 := by kernel_rfl
theorem TyTE.fld36_2 : fldB Try.prog 36 2 = some 2 := by kernel_rfl
theorem TyTE.fld56_1 : fldB Try.prog 56 1 = some 1 := by kernel_rfl
theorem TyTE.fld56_2 : fldB Try.prog 56 2 = some 2 := by kernel_rfl
theorem TyTE.fld80_0 : fldB Try.prog 80 0 = some 0 := by kernel_rfl
theorem TyTE.fld80_1 : fldB Try.prog 80 1 = some 1 := by kernel_rfl
theorem TyTE.fld80_2 : fldB Try.prog 80 2 = some 2 := by kernel_rfl
theorem TyTE.mixed : Try.prog.follows .mixedOrders = true := by kernel_rfl
theorem TyTE.pl36 : plB Try.prog 36 = some [(0, 1), (1, 1), (2, 1), (3, 1)] := by kernel_rfl
theorem TyTE.pl56 : plB Try.prog 56 = some [(0, 1), (1, 1), (2, 1)] := by kernel_rfl
theorem TyTE.pl80 : plB Try.prog 80 = some [(0, 1), (1, 1), (2, 1)] := by kernel_rfl
theorem TyTE.sz31 : szB Try.prog 31 = some 1 := by kernel_rfl
theorem TyTE.sz36 : szB Try.prog 36 = some 4 := by kernel_rfl
theorem TyTE.sz4 : szB Try.prog 4 = some 1 := by kernel_rfl
theorem TyTE.sz5 : szB Try.prog 5 = some 1 := by kernel_rfl
theorem TyTE.sz9 : szB Try.prog 9 = some 1 := by kernel_rfl
theorem TyTE.u3 : Try.prog.underlying 3 = some (.int .i64) := by kernel_rfl
theorem TyTE.u31 : Try.prog.underlying 31 = some (.int .u64) := by kernel_rfl
theorem TyTE.u32 : Try.prog.underlying 32 = some (.slice 36) := by kernel_rfl
theorem TyTE.u5 : Try.prog.underlying 5 = some (.int .u8) := by kernel_rfl
theorem TyTE.u53 : Try.prog.underlying 53 = some (.slice 5) := by kernel_rfl
theorem TyTE.u57 : Try.prog.underlying 57 = some (.slice 47) := by kernel_rfl
theorem TyTE.u58 : Try.prog.underlying 58 = some (.slice 50) := by kernel_rfl
theorem TyTE.u78 : Try.prog.underlying 78 = some (.slice 31) := by kernel_rfl
theorem TyTE.u81 : Try.prog.underlying 81 = some (.map 9 31) := by kernel_rfl
theorem TyTE.u82 : Try.prog.underlying 82 = some (.slice 9) := by kernel_rfl
theorem TyTE.u9 : Try.prog.underlying 9 = some (.string) := by kernel_rfl
theorem TyTE.up50 : Try.prog.underlying 50 = some (.pointer 56) := by kernel_rfl
theorem TyTE.z31 : zeroB Try.prog 31 (.int .u64 0) := by unfold zeroB; kernel_rfl
theorem TyTE.z36 : zeroB Try.prog 36 (.agg #[(.int .i64 0), (.int .u64 0), (.string ByteArray.empty), (.string ByteArray.empty)]) := by unfold zeroB; kernel_rfl
theorem TyTE.z4 : zeroB Try.prog 4 (.bool false) := by unfold zeroB; kernel_rfl
theorem TyTE.z5 : zeroB Try.prog 5 (.int .u8 0) := by unfold zeroB; kernel_rfl
theorem TyTE.z56 : zeroB Try.prog 56 (.agg #[(.int .i64 0), (.int .i64 0), (.slice none 0 0)]) := by unfold zeroB; kernel_rfl
theorem TyTE.z80 : zeroB Try.prog 80 (.agg #[(.slice none 0 0), (.int .i64 0), (.int .i64 0)]) := by unfold zeroB; kernel_rfl
theorem TyTE.z9 : zeroB Try.prog 9 (.string ByteArray.empty) := by unfold zeroB; kernel_rfl
theorem ext_pushed_f22_sh {h h1 : Heap} {o : Obj} (e : h1 = Array.push h o) : Ext h h1 := by rw [e]; exact Ext.push _ _
theorem f60_sh (a9 : Value) (b3 : Nat) (b1 : Nat) (a3 : Nat) (a2 : Nat) (h : Heap) (R : Value → Heap → Prop)
  (H : (∃ x : Int, hcell h b3 b1 = some (.int .u64 x) ∧ (∃ r : Int, (∀ h4, Ext h h4 → HC Try.prog 61 #[(.int .u64 x)] h4 (fun vv h' => vv = (.int .u64 r) ∧ h' = h4)) ∧ (∃ a1 : Int, (∀ h3, Ext h h3 → HC Try.prog 61 #[(.int .u64 (IntKind.u64.wrap (x + 1)))] h3 (fun vv h' => vv = (.int .u64 a1) ∧ h' = h3)) ∧ (∃ b6 : Option Addr, hcell h a3 a2 = some (.pointer b6) ∧ (∃ a7 a6 : Nat, b6 = some ⟨a7, a6, none⟩ ∧ (∃ b0 : Int, hcell h a7 (a6 + 2) = some (.int .i64 b0) ∧ (∃ (I6 : Int → Int → Heap → Prop) (b7 : Int → Int → Heap → Nat), I6 r 0 h ∧ (∀ (a0 : Int) (v : Int) (h1 : Heap), I6 a0 v h1 → (((decide (v < b0)) = true → (∃ b8 : Option Addr, hcell h1 a3 a2 = some (.pointer b8) ∧ (∃ a5 a4 : Nat, b8 = some ⟨a5, a4, none⟩ ∧ (∃ a8 : Int, hcell h1 a5 (a4 + 1) = some (.int .i64 a8) ∧ (IntKind.u64.wrap a8 ≠ 0 ∧ HCV Try.prog a9 [(.int .i64 (IntKind.i64.wrap (Int.tmod a0 (IntKind.u64.wrap a8))))] h1 (fun vv h2 => ∃ b2 : Bool, vv = (.bool b2) ∧ (((!b2) = true → R (.tuple #[]) h2) ∧ ((!b2) = false → (I6 (IntKind.u64.wrap (a0 + (ibor .u64 a1 1))) (IntKind.i64.wrap (v + 1)) h2 ∧ b7 (IntKind.u64.wrap (a0 + (ibor .u64 a1 1))) (IntKind.i64.wrap (v + 1)) h2 < b7 a0 v h1))))))))) ∧ ((decide (v < b0)) = false → R (.tuple #[]) h1))))))))))) :
  HC Try.prog 60 #[a9, (ptr b3 b1), (ptr a3 a2)] h R := by
 refine hc_of (args := [a9, (ptr b3 b1), (ptr a3 a2)]) Try.func60 rfl Try.ntmps60 (Nat.le_of_ble_eq_true rfl) ?_
 refine xs ?_
 refine hx_draw TyTE.mixed [.read, .read, .read, .pure, .read, .pure, .pure, .pure] [0, 1, 2, 3, 4, 5, 6, 7] (by kernel_rfl) ?_
 obtain ⟨x, c0, H⟩ := H
 refine pr (i := 0) rfl (wanted_0 rfl) rfl (.int .u64 x) (fun _ he => vl TyTE.agg31 rfl (Ext.cell he c0)) ?_
 obtain ⟨r, d0, H⟩ := H
 refine pr (i := 1) rfl (wanted_0 rfl) rfl (.int .u64 r) (fun _ he => hv_call TyTE.cb61 (vs := [(.int .u64 x)]) rfl (d0 _ he)) ?_
 refine pr (i := 2) rfl (wanted_0 rfl) rfl (.int .u64 x) (fun _ he => vl TyTE.agg31 rfl (Ext.cell he c0)) ?_
 refine pp (i := 3) rfl (wanted_0 rfl) rfl (.int .u64 (IntKind.u64.wrap (x + 1))) (fun _ => vr rfl rfl rfl) ?_
 obtain ⟨a1, c5, H⟩ := H
 refine pr (i := 4) rfl (wanted_0 rfl) rfl (.int .u64 a1) (fun _ he => hv_call TyTE.cb61 (vs := [(.int .u64 (IntKind.u64.wrap (x + 1)))]) rfl (c5 _ he)) ?_
 refine pp (i := 5) rfl (wanted_0 rfl) rfl (.int .u64 (ibor .u64 a1 1)) (fun _ => hv_bits rfl rfl rfl) ?_
 refine pp (i := 6) rfl (wanted_0 rfl) rfl (.int .u64 r) (fun _ => va rfl) ?_
 refine pp (i := 7) rfl (wanted_0 rfl) rfl (.int .u64 (ibor .u64 a1 1)) (fun _ => va rfl) ?_
 refine hp_nil ?_
 refine qn (xs (xr ?_))
 obtain ⟨b6, c8, H⟩ := H
 refine lv rfl rfl (vl TyTE.agg47 rfl c8) ?_
 obtain ⟨a7, a6, b9, Hq⟩ := H
 subst b9
 have H := Hq; clear Hq
 refine lv rfl rfl (v := (ptr a7 a6)) (hv_nil rfl) (lv rfl rfl (v := (ptr a7 (a6 + 2))) (vf TyTE.fld80_2 (b := a7) (o := a6) rfl) ?_)
 obtain ⟨b0, c9, H⟩ := H
 refine lv rfl rfl (vl TyTE.agg3 rfl c9) (lv rfl rfl (vm rfl) ?_)
 refine ln (qn (xb ?_))
 obtain ⟨I6, b7, c6, c7⟩ := H
 refine xl (σ := Int × Int) (fun s => [(0, a9), (2, (ptr a3 a2)), (4, (.int .u64 s.1)), (5, (.int .u64 (ibor .u64 a1 1))), (15, (.int .i64 b0)), (16, (.int .i64 s.2))]) (fun s h' => I6 s.1 s.2 h' ∧ True) (fun s h' => b7 s.1 s.2 h') (r, 0) ⟨c6, trivial⟩ (hc rfl (hc rfl (hc rfl (hc rfl (hc rfl (hc rfl hn)))))) ?_
 rintro ⟨a0, v⟩ ρ h1 ⟨c2, -⟩
 have H := c7 a0 v h1 c2
 refine xs (xr ?_)
 refine lv rfl rfl (vr rfl rfl rfl) ?_
 refine ln (qn (xs ?_))
 refine xc (b := decide (v < b0)) rfl (fun b4 => ?_) (fun b4 => ?_)
 ·replace H := H.1 b4
  refine xi (qn (xs (xb (xs (xs (xr ?_))))))
  refine lv rfl rfl (vm rfl) (lv rfl rfl (vm rfl) ?_)
  obtain ⟨b8, c1, H⟩ := H
  refine lv rfl rfl (vl TyTE.agg47 rfl c1) ?_
  obtain ⟨a5, a4, b9, Hq⟩ := H
  subst b9
  have H := Hq; clear Hq
  refine lv rfl rfl (v := (ptr a5 a4)) (hv_nil rfl) (lv rfl rfl (v := (ptr a5 (a4 + 1))) (vf TyTE.fld80_1 (b := a5) (o := a4) rfl) ?_)
  obtain ⟨a8, c3, H⟩ := H
  refine lv rfl rfl (vl TyTE.agg3 rfl c3) (lv rfl rfl (v := (.int .u64 (IntKind.u64.wrap a8))) (hv_convInt TyTE.u3 TyTE.u31 rfl) ?_)
  obtain ⟨c4, H⟩ := H
  refine lv rfl rfl (v := (.int .u64 (Int.tmod a0 (IntKind.u64.wrap a8)))) (hv_rem rfl rfl c4) (lv rfl rfl (v := (.int .i64 (IntKind.i64.wrap (Int.tmod a0 (IntKind.u64.wrap a8))))) (hv_convInt TyTE.u31 TyTE.u3 rfl) ?_)
  refine lp rfl rfl (hs_callF (vs := [(.int .i64 (IntKind.i64.wrap (Int.tmod a0 (IntKind.u64.wrap a8))))]) rfl rfl (HCV.mono H ?_))
  rintro _ h2 ⟨b2, rfl, H⟩
  refine lv rfl rfl (v := (.bool (!b2))) (hv_not (b := b2) rfl) ?_
  refine ln (qn ?_)
  refine xc (b := !b2) rfl (fun b5 => ?_) (fun b5 => ?_)
  ·replace H := H.1 b5
   refine xt (qr (br (qr (qr (br ?_)))))
   exact endQ_ret _ (res_none Try.results60 ) H
  ·replace H := H.2 b5
   refine xi (qn (xr ?_))
   refine lv rfl rfl (vm rfl) (lv rfl rfl (vm rfl) (lv rfl rfl (vr rfl rfl rfl) (lv rfl rfl (va rfl) ?_)))
   refine ln (bn (qn (xr ?_)))
   refine lv rfl rfl (vr rfl rfl rfl) (lv rfl rfl (vm rfl) ?_)
   refine ln (qn ?_)
   exact ⟨(IntKind.u64.wrap (a0 + (ibor .u64 a1 1)), IntKind.i64.wrap (v + 1)), ⟨⟨H.1, trivial⟩, H.2⟩, (hc rfl (hc rfl (hc rfl (hc rfl (hc rfl (hc rfl hn))))))⟩
 ·replace H := H.2 b4
  refine xe (qe (qe (bh ?_)))
  exact endQ_n _ (res_none Try.results60 ) H
theorem f49_sh (a2 : Nat) (a3 : Nat) (a1 : Int) (h : Heap) (R : Value → Heap → Prop)
  (H : (∀ f h1, f = Array.size h → h1 = Array.push h (.cells #[(ptr a2 a3)] 47) → (∀ a0 h2, a0 = Array.size h1 → h2 = Array.push h1 (.cells #[(.int .u64 a1)] 31) → R (.func (.func 60) #[] #[(ptr a0 0), (ptr f 0)]) h2))) :
  HC Try.prog 49 #[(ptr a2 a3), (.int .u64 a1)] h R := by
 refine hc_of (args := [(ptr a2 a3), (.int .u64 a1)]) Try.func49 rfl Try.ntmps49 (Nat.le_of_ble_eq_true rfl) ?_
 refine xs (xr ?_)
 refine lp rfl rfl (hn_box (v := (ptr a2 a3)) rfl ?_)
 intro f h1 a6 a5
 replace H := H f h1 a6 a5
 have a8 := ext_pushed_f22_sh a5
 refine lp rfl rfl (hn_box (v := (.int .u64 a1)) rfl ?_)
 intro a0 h2 a7 a4
 replace H := H a0 h2 a7 a4
 have a9 := ext_pushed_f22_sh a4
 refine lv rfl rfl (va rfl) ?_
 refine ln (qn (xs (xr ?_)))
 refine lv rfl rfl (v := (.func (.func 60) #[] #[(ptr a0 0), (ptr f 0)])) (hv_makeFunc (fv := []) (cv := [(ptr a0 0), (ptr f 0)]) rfl rfl) (lv rfl rfl (va rfl) ?_)
 refine ln (qn (xt ?_))
 exact endQ_ret _ (res_one Try.results49 (rv_tmp rfl)) H
theorem f33_sh (c9 : Nat) (d5 : Nat) (b7 : Int) (h : Heap) (R : Value → Heap → Prop)
  (H : (∀ f h1, f = Array.size h → h1 = Array.push h (.cells #[(ptr c9 d5)] 47) → (∃ x : Option Addr, hcell h1 f 0 = some (.pointer x) ∧ (∃ r : Bool, HC Try.prog 37 #[(.pointer x)] h1 (fun vv h' => vv = (.bool r) ∧ h' = h1) ∧ (((!r) = true → (∀ h2, Shut' (Array.size h) h1 h2 → R (.bool false) h2)) ∧ ((!r) = false → (∀ a1 h3, a1 = Array.size h1 → h3 = Array.push h1 (.cells #[(.bool false)] 4) → (HW h3 a1 0 ∧ ∀ h4, h4 = hset h3 a1 0 (.bool false) → (∃ c3 : Option Addr, hcell h4 f 0 = some (.pointer c3) ∧ HC Try.prog 49 #[(.pointer c3), (.int .u64 b7)] h4 (fun vv h5 => ∃ d6 : Value, vv = d6 ∧ (∀ (a2 : LoopState → Option Code → Heap → Prop) (l : Nat) (h6 : Heap) (y : Value), (∀ s p h h', a2 s p h → h'[l]? = h[l]? → a2 s p h') → l = Array.size h5 + 1 → Ext h5 h6 → Array.size h6 = Array.size h5 + 2 → a2 .ready none h6 → (∀ (it : Int) (h7 : Heap) (e0 : Value → Heap → Prop), a2 .ready none h7 → (a2 .ready none h7 ∧ ∀ a5, Only l h7 a5 → a2 .busy none a5 → ((0 : Int) ≤ Int.tmod it 64 ∧ (∃ c1 : Heap → Prop, (∃ b5 : Bool, hcell a5 a1 0 = some (.bool b5) ∧ ((b5 = true → (HW a5 a1 0 ∧ ∀ d2, d2 = hset a5 a1 0 (.bool true) → (c1 d2))) ∧ (b5 = false → (∃ d4 : Option Addr, hcell a5 f 0 = some (.pointer d4) ∧ (∃ a8 a6 : Nat, d4 = some ⟨a8, a6, none⟩ ∧ (∃ d3 : Option Addr, ∃ d1 d9 : Nat, hcell a5 a8 a6 = some (.slice d3 d1 d9) ∧ (∃ b3 b4 : Nat, d3 = some ⟨b3, b4, none⟩ ∧ (0 : Int) ≤ IntKind.i64.wrap (Int.tdiv it 64) ∧ IntKind.i64.wrap (Int.tdiv it 64) < (d1 : Int) ∧ (∃ b0 : Int, hcell a5 b3 (b4 + (Int.toNat (IntKind.i64.wrap (Int.tdiv it 64))) * 1) = some (.int .u64 b0) ∧ (HW a5 a1 0 ∧ ∀ c7, c7 = hset a5 a1 0 (.bool ((iband .u64 b0 (IntKind.u64.wrap (1 * 2 ^ min (Int.toNat (Int.tmod it 64)) 64))) == 0)) → (c1 c7)))))))))) ∧ (∀ (b1 : Heap), c1 b1 → (∃ c8 : Option Addr, hcell b1 f 0 = some (.pointer c8) ∧ (∃ a9 a7 : Nat, c8 = some ⟨a9, a7, none⟩ ∧ (∃ d0 : Option Addr, ∃ b2 c0 : Nat, hcell b1 a9 a7 = some (.slice d0 b2 c0) ∧ (∃ a4 a3 : Nat, d0 = some ⟨a4, a3, none⟩ ∧ (0 : Int) ≤ IntKind.i64.wrap (Int.tdiv it 64) ∧ IntKind.i64.wrap (Int.tdiv it 64) < (b2 : Int) ∧ (∃ b9 : Int, hcell b1 a4 (a3 + (Int.toNat (IntKind.i64.wrap (Int.tdiv it 64))) * 1) = some (.int .u64 b9) ∧ (HW b1 a4 (a3 + (Int.toNat (IntKind.i64.wrap (Int.tdiv it 64))) * 1) ∧ ∀ c4, c4 = hset b1 a4 (a3 + (Int.toNat (IntKind.i64.wrap (Int.tdiv it 64))) * 1) (.int .u64 (ibor .u64 b9 (IntKind.u64.wrap (1 * 2 ^ min (Int.toNat (Int.tmod it 64)) 64)))) → (a2 .busy none c4 ∧ ∀ d7, Only l c4 d7 → a2 .ready none d7 → e0 (.bool true) d7))))))))))) → HCV Try.prog y [(.int .i64 it)] h7 e0) → HCF Try.prog d6 [y] h6 (fun _ h8 => ∃ (st : LoopState) (b8 : Option Code), a2 st b8 h8 ∧ st ≠ .busy ∧ ∀ h9, Only l h8 h9 → a2 .exhausted b8 h9 → ((b8 = none ∧ (∃ c2 : Bool, hcell h9 a1 0 = some (.bool c2) ∧ (∀ e6, Shut' (Array.size h) h9 e6 → R (.bool c2) e6)))))))))))))))) :
  HC Try.prog 33 #[(ptr c9 d5), (.int .u64 b7)] h R := by
 refine hc_ofM (args := [(ptr c9 d5), (.int .u64 b7)]) Try.func33 rfl Try.ntmps33 (Nat.le_of_ble_eq_true rfl) ?_
 refine xs (xr ?_)
 refine lp rfl rfl (hn_box (v := (ptr c9 d5)) rfl ?_)
 intro f h1 i9 e4
 replace H := H f h1 i9 e4
 have j3 := ext_pushed_f22_sh e4
 refine lv rfl rfl (va rfl) ?_
 refine ln (qn (xs (xs (xr ?_))))
 obtain ⟨x, j0, H⟩ := H
 refine lv rfl rfl (vl TyTE.agg47 rfl j0) ?_
 obtain ⟨r, j1, H⟩ := H
 refine lv rfl rfl (hv_call TyTE.cb37 (vs := [(.pointer x)]) rfl j1) (lv rfl rfl (v := (.bool (!r))) (hv_not (b := r) rfl) ?_)
 refine ln (qn ?_)
 refine xc (b := !r) rfl (fun d8 => ?_) (fun d8 => ?_)
 ·replace H := H.1 d8
  refine xs (xr ?_)
  refine lv rfl rfl (va rfl) ?_
  refine ln (qn (xt (qr ?_)))
  exact endQM_ret _ (fun h' hs => ⟨res_one Try.results33 (rv_tmp rfl), H h' hs⟩)
 ·replace H := H.2 d8
  refine xi (qn (xs (xr ?_)))
  refine lp rfl rfl (hn_alloc TyTE.z4 ?_)
  intro a1 h3 j2 e5
  replace H := H a1 h3 j2 e5
  have j4 := ext_pushed_f22_sh e5
  obtain ⟨f4, H⟩ := H
  refine lp rfl rfl (hn_store (v := (.bool false)) rfl rfl TyTE.sz4 rfl f4 ?_)
  intro h4 f0
  replace H := H h4 f0
  refine ln (qn (xs (xs (xr ?_))))
  obtain ⟨c3, f2, H⟩ := H
  refine lv rfl rfl (vl TyTE.agg47 rfl f2) (lv rfl rfl (vm rfl) ?_)
  refine lp rfl rfl (sc TyTE.cb49 rfl (HC.mono H ?_))
  rintro d6 h5 ⟨_, rfl, H⟩
  refine ln (qn (xb ?_))
  refine hx_range rfl rfl rfl (fun h6 l i7 i4 i6 g7 => ?_)
  refine HCF.mono (H (fun st p h => LoopAt h l _ _ _ _ _ st p) l h6 _ (fun s p h h' k e => k.same e) i7 i4 i6 g7 ?_) ?_
  ·intro it h7 e0 f1 H
   refine hcv_yield f1 rfl rfl ?_
   refine xr ?_
   refine lv rfl rfl (va rfl) ?_
   refine ln ?_
   obtain ⟨i8, H⟩ := H
   refine ⟨rfl, i8, ?_⟩
   intro a5 f3 i3
   replace H := H a5 f3 i3
   refine xb (xs (xr ?_))
   refine lv rfl rfl (vm rfl) (lv rfl rfl (v := (.int .i64 (Int.tmod it 64))) (hv_rem rfl rfl (by decide)) ?_)
   obtain ⟨i0, H⟩ := H
   refine lv rfl rfl (v := (.int .u64 (IntKind.u64.wrap (1 * 2 ^ min (Int.toNat (Int.tmod it 64)) 64)))) (hv_shift rfl rfl i0 rfl) (lv rfl rfl (va rfl) ?_)
   refine ln (qn ?_)
   obtain ⟨c1, c6, c5⟩ := H
   refine xk (fun ρ h' => (c1 h' ∧ True) ∧ Has ρ [(2, (ptr f 0)), (6, (.int .i64 it)), (7, (.int .u64 (IntKind.u64.wrap (1 * 2 ^ min (Int.toNat (Int.tmod it 64)) 64))))]) ?_ ?_
   ·have H := c6; clear c6 c5
    refine xr ?_
    obtain ⟨b5, f5, H⟩ := H
    refine lv rfl rfl (vl TyTE.agg4 rfl f5) (lv rfl rfl (vm rfl) ?_)
    rcases bool_or (b5) with a0 | a0
    ·replace H := H.1 a0
     refine lo (wanted_n rfl rfl rfl a0) rfl ?_
     refine lo (wanted_n rfl rfl rfl a0) rfl ?_
     refine lo (wanted_n rfl rfl rfl a0) rfl ?_
     refine lo (wanted_n rfl rfl rfl a0) rfl ?_
     refine lo (wanted_n rfl rfl rfl a0) rfl ?_
     refine lo (wanted_n rfl rfl rfl a0) rfl ?_
     refine lo (wanted_n rfl rfl rfl a0) rfl ?_
     refine lo (wanted_n rfl rfl rfl a0) rfl ?_
     refine lo (wanted_n rfl rfl rfl a0) rfl ?_
     refine lo (wanted_n rfl rfl rfl a0) rfl ?_
     refine lo (wanted_n rfl rfl rfl a0) rfl ?_
     refine lv rfl rfl (v := (.bool true)) (hv_pick_t rfl a0 rfl) ?_
     obtain ⟨f8, H⟩ := H
     refine lp rfl rfl (hn_store (v := (.bool true)) rfl rfl TyTE.sz4 rfl f8 ?_)
     intro d2 g3
     replace H := H d2 g3
     refine ln (qn ?_)
     exact ⟨⟨H, trivial⟩, (hc rfl (hc rfl (hc rfl hn)))⟩
    ·replace H := H.2 a0
     obtain ⟨d4, i5, H⟩ := H
     refine ly (wanted_y rfl rfl rfl a0) rfl (HStep.of_val (v := (.pointer d4)) (vl TyTE.agg47 rfl i5) ?_)
     obtain ⟨a8, a6, b6, Hq⟩ := H
     subst b6
     have H := Hq; clear Hq
     refine ly (wanted_y rfl rfl rfl a0) rfl (HStep.of_val (v := (ptr a8 a6)) (hv_nil rfl) ?_)
     refine ly (wanted_y rfl rfl rfl a0) rfl (HStep.of_val (v := (ptr a8 a6)) (vf TyTE.fld80_0 (b := a8) (o := a6) rfl) ?_)
     obtain ⟨d3, d1, d9, g9, H⟩ := H
     refine ly (wanted_y rfl rfl rfl a0) rfl (HStep.of_val (v := (.slice d3 d1 d9)) (vl TyTE.agg78 rfl g9) ?_)
     refine ly (wanted_y rfl rfl rfl a0) rfl (HStep.of_val (v := (.int .i64 it)) (vm rfl) ?_)
     refine ly (wanted_y rfl rfl rfl a0) rfl (HStep.of_val (v := (.int .i64 (IntKind.i64.wrap (Int.tdiv it 64)))) (hv_quo rfl rfl (by decide)) ?_)
     obtain ⟨b3, b4, b6, g5, e8, Hq⟩ := H
     subst b6
     have H := Hq; clear Hq
     refine ly (wanted_y rfl rfl rfl a0) rfl (HStep.of_val (v := (ptr b3 (b4 + (Int.toNat (IntKind.i64.wrap (Int.tdiv it 64))) * 1))) (vi TyTE.el78 rfl rfl g5 e8) ?_)
     obtain ⟨b0, g6, H⟩ := H
     refine ly (wanted_y rfl rfl rfl a0) rfl (HStep.of_val (v := (.int .u64 b0)) (vl TyTE.agg31 rfl g6) ?_)
     refine ly (wanted_y rfl rfl rfl a0) rfl (HStep.of_val (v := (.int .u64 (IntKind.u64.wrap (1 * 2 ^ min (Int.toNat (Int.tmod it 64)) 64)))) (vm rfl) ?_)
     refine ly (wanted_y rfl rfl rfl a0) rfl (HStep.of_val (v := (.int .u64 (iband .u64 b0 (IntKind.u64.wrap (1 * 2 ^ min (Int.toNat (Int.tmod it 64)) 64))))) (hv_bits rfl rfl rfl) ?_)
     refine ly (wanted_y rfl rfl rfl a0) rfl (HStep.of_val (v := (.bool ((iband .u64 b0 (IntKind.u64.wrap (1 * 2 ^ min (Int.toNat (Int.tmod it 64)) 64))) == 0))) (vr rfl rfl rfl) ?_)
     refine lv rfl rfl (v := (.bool ((iband .u64 b0 (IntKind.u64.wrap (1 * 2 ^ min (Int.toNat (Int.tmod it 64)) 64))) == 0))) (hv_pick_f rfl a0 rfl) ?_
     obtain ⟨g2, H⟩ := H
     refine lp rfl rfl (hn_store (v := (.bool ((iband .u64 b0 (IntKind.u64.wrap (1 * 2 ^ min (Int.toNat (Int.tmod it 64)) 64))) == 0))) rfl rfl TyTE.sz4 rfl g2 ?_)
     intro c7 g8
     replace H := H c7 g8
     refine ln (qn ?_)
     exact ⟨⟨H, trivial⟩, (hc rfl (hc rfl (hc rfl hn)))⟩
   ·rintro ρ b1 ⟨⟨e9, -⟩, hH⟩
    have H := c5 b1 e9; clear c6 c5
    refine xh _ hH ?_
    refine xr ?_
    obtain ⟨c8, g0, H⟩ := H
    refine lv rfl rfl (vl TyTE.agg47 rfl g0) ?_
    obtain ⟨a9, a7, b6, Hq⟩ := H
    subst b6
    have H := Hq; clear Hq
    refine lv rfl rfl (v := (ptr a9 a7)) (hv_nil rfl) (lv rfl rfl (v := (ptr a9 a7)) (vf TyTE.fld80_0 (b := a9) (o := a7) rfl) ?_)
    obtain ⟨d0, b2, c0, f9, H⟩ := H
    refine lv rfl rfl (vl TyTE.agg78 rfl f9) (lv rfl rfl (vm rfl) (lv rfl rfl (v := (.int .i64 (IntKind.i64.wrap (Int.tdiv it 64)))) (hv_quo rfl rfl (by decide)) ?_))
    obtain ⟨a4, a3, b6, e1, e2, Hq⟩ := H
    subst b6
    have H := Hq; clear Hq
    refine lv rfl rfl (v := (ptr a4 (a3 + (Int.toNat (IntKind.i64.wrap (Int.tdiv it 64))) * 1))) (vi TyTE.el78 rfl rfl e1 e2) ?_
    obtain ⟨b9, g1, H⟩ := H
    refine lv rfl rfl (vl TyTE.agg31 rfl g1) (lv rfl rfl (vm rfl) (lv rfl rfl (v := (.int .u64 (ibor .u64 b9 (IntKind.u64.wrap (1 * 2 ^ min (Int.toNat (Int.tmod it 64)) 64))))) (hv_bits rfl rfl rfl) (lv rfl rfl (v := (ptr a4 (a3 + (Int.toNat (IntKind.i64.wrap (Int.tdiv it 64))) * 1))) (vi TyTE.el78 rfl rfl e1 e2) ?_)))
    obtain ⟨g4, H⟩ := H
    refine lp rfl rfl (hn_store (v := (.int .u64 (ibor .u64 b9 (IntKind.u64.wrap (1 * 2 ^ min (Int.toNat (Int.tmod it 64)) 64))))) rfl rfl TyTE.sz31 rfl g4 ?_)
    intro c4 i1
    replace H := H c4 i1
    refine ln (bn ?_)
    exact H
  ·rintro _ h8 ⟨st, b8, f7, e3, H⟩
   refine ⟨st, b8, f7, e3, ?_⟩
   intro h9 f6 i2
   replace H := H h9 f6 i2
   obtain ⟨rfl, H⟩ := H
   refine jumpQ_n ?_
   refine bn (qn (xs (xr ?_)))
   obtain ⟨c2, e7, H⟩ := H
   refine lv rfl rfl (vl TyTE.agg4 rfl e7) (lv rfl rfl (va rfl) ?_)
   refine ln (qn (xt ?_))
   exact endQM_ret _ (fun h' hs => ⟨res_one Try.results33 (rv_tmp rfl), H h' hs⟩)
theorem f41_sh (b5 : Nat) (b9 : Nat) (a8 : Int) (h : Heap) (R : Value → Heap → Prop)
  (H : (∀ f h1, f = Array.size h → h1 = Array.push h (.cells #[(ptr b5 b9)] 47) → (∀ nb h2, nb = Array.size h1 → h2 = Array.push h1 (.cells #[(.bool false)] 4) → (∃ x : Option Addr, hcell h2 f 0 = some (.pointer x) ∧ (∃ r : Bool, HC Try.prog 37 #[(.pointer x)] h2 (fun vv h' => vv = (.bool r) ∧ h' = h2) ∧ (((!r) = true → (HW h2 nb 0 ∧ ∀ h3, h3 = hset h2 nb 0 (.bool false) → (∃ a9 : Bool, hcell h3 nb 0 = some (.bool a9) ∧ (∀ h4, Shut' (Array.size h) h3 h4 → R (.bool a9) h4)))) ∧ ((!r) = false → HC Try.prog 49 #[(.pointer x), (.int .u64 a8)] h2 (fun vv h5 => ∃ c0 : Value, vv = c0 ∧ (∀ (a0 : LoopState → Option Code → Heap → Prop) (l : Nat) (h6 : Heap) (y : Value), (∀ s p h h', a0 s p h → h'[l]? = h[l]? → a0 s p h') → l = Array.size h5 + 1 → Ext h5 h6 → Array.size h6 = Array.size h5 + 2 → a0 .ready none h6 → (∀ (it : Int) (h7 : Heap) (b7 : Value → Heap → Prop), a0 .ready none h7 → (a0 .ready none h7 ∧ ∀ a1, Only l h7 a1 → a0 .busy none a1 → (∃ b8 : Option Addr, hcell a1 f 0 = some (.pointer b8) ∧ (∃ a2 a3 : Nat, b8 = some ⟨a2, a3, none⟩ ∧ (∃ b4 : Option Addr, ∃ b6 c3 : Nat, hcell a1 a2 a3 = some (.slice b4 b6 c3) ∧ (∃ a7 a6 : Nat, b4 = some ⟨a7, a6, none⟩ ∧ (0 : Int) ≤ IntKind.i64.wrap (Int.tdiv it 64) ∧ IntKind.i64.wrap (Int.tdiv it 64) < (b6 : Int) ∧ (∃ a4 : Int, hcell a1 a7 (a6 + (Int.toNat (IntKind.i64.wrap (Int.tdiv it 64))) * 1) = some (.int .u64 a4) ∧ ((0 : Int) ≤ Int.tmod it 64 ∧ ((((iband .u64 (Int.fdiv a4 (2 ^ min (Int.toNat (Int.tmod it 64)) 64)) 1) == 0) = true → (HW a1 nb 0 ∧ ∀ b1, b1 = hset a1 nb 0 (.bool false) → (a0 .busy none b1 ∧ ∀ c4, Only l b1 c4 → a0 .done (some .ret) c4 → b7 (.bool false) c4))) ∧ (((iband .u64 (Int.fdiv a4 (2 ^ min (Int.toNat (Int.tmod it 64)) 64)) 1) == 0) = false → (a0 .busy none a1 ∧ ∀ c5, Only l a1 c5 → a0 .ready none c5 → b7 (.bool true) c5)))))))))) → HCV Try.prog y [(.int .i64 it)] h7 b7) → HCF Try.prog c0 [y] h6 (fun _ h8 => ∃ (st : LoopState) (a5 : Option Code), a0 st a5 h8 ∧ st ≠ .busy ∧ ∀ h9, Only l h8 h9 → a0 .exhausted a5 h9 → ((a5 = none ∧ (HW h9 nb 0 ∧ ∀ b2, b2 = hset h9 nb 0 (.bool true) → (∃ a9 : Bool, hcell b2 nb 0 = some (.bool a9) ∧ (∀ c7, Shut' (Array.size h) b2 c7 → R (.bool a9) c7)))) ∨ (a5 = some .ret ∧ (∃ b0 : Bool, hcell h9 nb 0 = some (.bool b0) ∧ (∀ d1, Shut' (Array.size h) h9 d1 → R (.bool b0) d1)))))))))))))) :
  HC Try.prog 41 #[(ptr b5 b9), (.int .u64 a8)] h R := by
 refine hc_ofM (args := [(ptr b5 b9), (.int .u64 a8)]) Try.func41 rfl Try.ntmps41 (Nat.le_of_ble_eq_true rfl) ?_
 refine xs (xr ?_)
 refine lp rfl rfl (hn_box (v := (ptr b5 b9)) rfl ?_)
 intro f h1 f8 c8
 replace H := H f h1 f8 c8
 have g2 := ext_pushed_f22_sh c8
 refine lp rfl rfl (hn_alloc TyTE.z4 ?_)
 intro nb h2 g0 c9
 replace H := H nb h2 g0 c9
 have g1 := ext_pushed_f22_sh c9
 refine ln (qn (xs (xs (xr ?_))))
 obtain ⟨x, d0, H⟩ := H
 refine lv rfl rfl (vl TyTE.agg47 rfl d0) ?_
 obtain ⟨r, f9, H⟩ := H
 refine lv rfl rfl (hv_call TyTE.cb37 (vs := [(.pointer x)]) rfl f9) (lv rfl rfl (v := (.bool (!r))) (hv_not (b := r) rfl) ?_)
 refine ln (qn ?_)
 refine xc (b := !r) rfl (fun c1 => ?_) (fun c1 => ?_)
 ·replace H := H.1 c1
  refine xs (xr ?_)
  obtain ⟨d8, H⟩ := H
  refine lp rfl rfl (hn_store (v := (.bool false)) rfl rfl TyTE.sz4 rfl d8 ?_)
  intro h3 d4
  replace H := H h3 d4
  refine ln (qn (xt (qr ?_)))
  obtain ⟨a9, d6, H⟩ := H
  exact endQM_ret _ (fun h' hs => ⟨res_one Try.results41 (rv_cell1 TyTE.agg4 rfl (shut_cell hs d6)), H h' hs⟩)
 ·replace H := H.2 c1
  refine xi (qn (xs (xs (xr ?_))))
  refine lv rfl rfl (vl TyTE.agg47 rfl d0) (lv rfl rfl (vm rfl) ?_)
  refine lp rfl rfl (sc TyTE.cb49 rfl (HC.mono H ?_))
  rintro c0 h5 ⟨_, rfl, H⟩
  refine ln (qn (xb ?_))
  refine hx_range rfl rfl rfl (fun h6 l f6 f2 f4 e9 => ?_)
  refine HCF.mono (H (fun st p h => LoopAt h l _ _ _ _ _ st p) l h6 _ (fun s p h h' k e => k.same e) f6 f2 f4 e9 ?_) ?_
  ·intro it h7 b7 d5 H
   refine hcv_yield d5 rfl rfl ?_
   refine xr ?_
   refine lv rfl rfl (va rfl) ?_
   refine ln ?_
   obtain ⟨f7, H⟩ := H
   refine ⟨rfl, f7, ?_⟩
   intro a1 d7 f1
   replace H := H a1 d7 f1
   refine xb (xs (xr ?_))
   obtain ⟨b8, e6, H⟩ := H
   refine lv rfl rfl (vl TyTE.agg47 rfl e6) ?_
   obtain ⟨a2, a3, c2, Hq⟩ := H
   subst c2
   have H := Hq; clear Hq
   refine lv rfl rfl (v := (ptr a2 a3)) (hv_nil rfl) (lv rfl rfl (v := (ptr a2 a3)) (vf TyTE.fld80_0 (b := a2) (o := a3) rfl) ?_)
   obtain ⟨b4, b6, c3, f5, H⟩ := H
   refine lv rfl rfl (vl TyTE.agg78 rfl f5) (lv rfl rfl (vm rfl) (lv rfl rfl (v := (.int .i64 (IntKind.i64.wrap (Int.tdiv it 64)))) (hv_quo rfl rfl (by decide)) ?_))
   obtain ⟨a7, a6, c2, d2, f3, Hq⟩ := H
   subst c2
   have H := Hq; clear Hq
   refine lv rfl rfl (v := (ptr a7 (a6 + (Int.toNat (IntKind.i64.wrap (Int.tdiv it 64))) * 1))) (vi TyTE.el78 rfl rfl d2 f3) ?_
   obtain ⟨a4, d9, H⟩ := H
   refine lv rfl rfl (vl TyTE.agg31 rfl d9) (lv rfl rfl (vm rfl) (lv rfl rfl (v := (.int .i64 (Int.tmod it 64))) (hv_rem rfl rfl (by decide)) ?_))
   obtain ⟨e7, H⟩ := H
   refine lv rfl rfl (v := (.int .u64 (Int.fdiv a4 (2 ^ min (Int.toNat (Int.tmod it 64)) 64)))) (hv_shift rfl rfl e7 rfl) (lv rfl rfl (v := (.int .u64 (iband .u64 (Int.fdiv a4 (2 ^ min (Int.toNat (Int.tmod it 64)) 64)) 1))) (hv_bits rfl rfl rfl) (lv rfl rfl (vr rfl rfl rfl) ?_))
   refine ln (qn ?_)
   refine xc (b := (iband .u64 (Int.fdiv a4 (2 ^ min (Int.toNat (Int.tmod it 64)) 64)) 1) == 0) rfl (fun b3 => ?_) (fun b3 => ?_)
   ·replace H := H.1 b3
    refine xs (xr ?_)
    obtain ⟨e4, H⟩ := H
    refine lp rfl rfl (hn_store (v := (.bool false)) rfl rfl TyTE.sz4 rfl e4 ?_)
    intro b1 e5
    replace H := H b1 e5
    refine ln (qn (xt (br ?_)))
    exact H
   ·replace H := H.2 b3
    refine xi (bn ?_)
    exact H
  ·rintro _ h8 ⟨st, a5, e3, c6, H⟩
   refine ⟨st, a5, e3, c6, ?_⟩
   intro h9 e0 f0
   replace H := H h9 e0 f0
   rcases H with ⟨rfl, H⟩ | ⟨rfl, H⟩
   ·refine jumpQ_n ?_
    refine bn (qn (xs (xr ?_)))
    obtain ⟨d3, H⟩ := H
    refine lp rfl rfl (hn_store (v := (.bool true)) rfl rfl TyTE.sz4 rfl d3 ?_)
    intro b2 e2
    replace H := H b2 e2
    refine ln (qn (xt ?_))
    obtain ⟨a9, e1, H⟩ := H
    exact endQM_ret _ (fun h' hs => ⟨res_one Try.results41 (rv_cell1 TyTE.agg4 rfl (shut_cell hs e1)), H h' hs⟩)
   ·refine jumpQ_ret ?_
    refine br (qr ?_)
    obtain ⟨b0, e8, H⟩ := H
    exact endQM_ret _ (fun h' hs => ⟨res_one Try.results41 (rv_cell1 TyTE.agg4 rfl (shut_cell hs e8)), H h' hs⟩)
theorem f35_sh (a0 : Nat) (a1 : Nat) (hv : Int) (h : Heap) (R : Value → Heap → Prop)
  (H : (∃ r : Bool, HC Try.prog 43 #[(ptr a0 a1), (.int .u64 hv)] h (fun vv h' => vv = (.bool r) ∧ h' = h) ∧ (∃ (I2 : Int → Heap → Prop) (a8 : Int → Heap → Nat), I2 0 h ∧ (∀ (j : Int) (h1 : Heap), I2 j h1 → (∃ x : Int, hcell h1 a0 (a1 + 1) = some (.int .i64 x) ∧ (((decide (j < x)) = true → (∃ a2 : Int, HC Try.prog 51 #[(ptr a0 a1), (.int .u64 hv), (.int .i64 j)] h1 (fun vv h' => vv = (.int .i64 a2) ∧ h' = h1) ∧ (∃ a7 : Option Addr, ∃ a6 a9 : Nat, hcell h1 a0 (a1 + 2) = some (.slice a7 a6 a9) ∧ (∃ a4 a3 : Nat, a7 = some ⟨a4, a3, none⟩ ∧ (0 : Int) ≤ IntKind.i64.wrap (Int.tdiv a2 8) ∧ IntKind.i64.wrap (Int.tdiv a2 8) < (a6 : Int) ∧ (∃ a5 : Int, hcell h1 a4 (a3 + (Int.toNat (IntKind.i64.wrap (Int.tdiv a2 8))) * 1) = some (.int .u8 a5) ∧ ((0 : Int) ≤ Int.tmod a2 8 ∧ (HW h1 a4 (a3 + (Int.toNat (IntKind.i64.wrap (Int.tdiv a2 8))) * 1) ∧ ∀ h2, h2 = hset h1 a4 (a3 + (Int.toNat (IntKind.i64.wrap (Int.tdiv a2 8))) * 1) (.int .u8 (ibor .u8 a5 (IntKind.u8.wrap (1 * 2 ^ min (Int.toNat (Int.tmod a2 8)) 8)))) → (I2 (IntKind.i64.wrap (j + 1)) h2 ∧ a8 (IntKind.i64.wrap (j + 1)) h2 < a8 j h1)))))))) ∧ ((decide (j < x)) = false → R (.bool (!r)) h1))))))) :
  HC Try.prog 35 #[(ptr a0 a1), (.int .u64 hv)] h R := by
 refine hc_of (args := [(ptr a0 a1), (.int .u64 hv)]) Try.func35 rfl Try.ntmps35 (Nat.le_of_ble_eq_true rfl) ?_
 refine xs (xr ?_)
 refine lv rfl rfl (va rfl) ?_
 refine ln (qn (xs (xr ?_)))
 refine lv rfl rfl (vm rfl) (lv rfl rfl (vm rfl) ?_)
 obtain ⟨r, c2, H⟩ := H
 refine lv rfl rfl (hv_call TyTE.cb43 (vs := [(ptr a0 a1), (.int .u64 hv)]) rfl c2) (lv rfl rfl (va rfl) ?_)
 refine ln (qn (xs (xs (xr ?_))))
 refine lv rfl rfl (va rfl) ?_
 refine ln (qn (xb ?_))
 obtain ⟨I2, a8, c1, b8⟩ := H
 refine xl (σ := Int) (fun s => [(0, (ptr a0 a1)), (1, (.int .u64 hv)), (5, (.bool r)), (6, (.int .i64 s))]) (fun s h' => I2 s h' ∧ True) (fun s h' => a8 s h') 0 ⟨c1, trivial⟩ (hc rfl (hc rfl (hc rfl (hc rfl hn)))) ?_
 rintro j ρ h1 ⟨b9, -⟩
 have H := b8 j h1 b9
 refine xs (xs (xr ?_))
 refine lv rfl rfl (vm rfl) (lv rfl rfl (vm rfl) (lv rfl rfl (v := (ptr a0 a1)) (hv_nil rfl) (lv rfl rfl (v := (ptr a0 (a1 + 1))) (vf TyTE.fld56_1 (b := a0) (o := a1) rfl) ?_)))
 obtain ⟨x, c4, H⟩ := H
 refine lv rfl rfl (vl TyTE.agg3 rfl c4) (lv rfl rfl (vr rfl rfl rfl) ?_)
 refine ln (qn ?_)
 refine xc (b := decide (j < x)) rfl (fun b0 => ?_) (fun b0 => ?_)
 ·replace H := H.1 b0
  refine xi (qn (xs (xb (xs (xr ?_)))))
  refine lv rfl rfl (vm rfl) (lv rfl rfl (vm rfl) (lv rfl rfl (vm rfl) ?_))
  obtain ⟨a2, c3, H⟩ := H
  refine lv rfl rfl (hv_call TyTE.cb51 (vs := [(ptr a0 a1), (.int .u64 hv), (.int .i64 j)]) rfl c3) (lv rfl rfl (va rfl) ?_)
  refine ln (qn ?_)
  refine hx_draw TyTE.mixed [.pure, .pure, .pure, .read, .pure, .pure, .pure, .pure, .pure, .read, .pure, .pure, .pure, .read, .pure, .pure, .pure, .pure, .pure, .wild] [0, 1, 2, 3, 4, 5, 6, 7, 8, 9, 10, 11, 12, 13, 14, 15, 16, 17, 18, 19] (by kernel_rfl) ?_
  refine pp (i := 0) rfl (wanted_0 rfl) rfl (ptr a0 a1) (fun _ => vm rfl) ?_
  refine pp (i := 1) rfl (wanted_0 rfl) rfl (ptr a0 a1) (fun _ => hv_nil rfl) ?_
  refine pp (i := 2) rfl (wanted_0 rfl) rfl (ptr a0 (a1 + 2)) (fun _ => vf TyTE.fld56_2 (b := a0) (o := a1) rfl) ?_
  obtain ⟨a7, a6, a9, b2, H⟩ := H
  refine pr (i := 3) rfl (wanted_0 rfl) rfl (.slice a7 a6 a9) (fun _ he => vl TyTE.agg53 rfl (Ext.cell he b2)) ?_
  refine pp (i := 4) rfl (wanted_0 rfl) rfl (.int .i64 a2) (fun _ => vm rfl) ?_
  refine pp (i := 5) rfl (wanted_0 rfl) rfl (.int .i64 (IntKind.i64.wrap (Int.tdiv a2 8))) (fun _ => hv_quo rfl rfl (by decide)) ?_
  refine pp (i := 6) rfl (wanted_0 rfl) rfl (ptr a0 a1) (fun _ => vm rfl) ?_
  refine pp (i := 7) rfl (wanted_0 rfl) rfl (ptr a0 a1) (fun _ => hv_nil rfl) ?_
  refine pp (i := 8) rfl (wanted_0 rfl) rfl (ptr a0 (a1 + 2)) (fun _ => vf TyTE.fld56_2 (b := a0) (o := a1) rfl) ?_
  refine pr (i := 9) rfl (wanted_0 rfl) rfl (.slice a7 a6 a9) (fun _ he => vl TyTE.agg53 rfl (Ext.cell he b2)) ?_
  refine pp (i := 10) rfl (wanted_0 rfl) rfl (.int .i64 a2) (fun _ => vm rfl) ?_
  refine pp (i := 11) rfl (wanted_0 rfl) rfl (.int .i64 (IntKind.i64.wrap (Int.tdiv a2 8))) (fun _ => hv_quo rfl rfl (by decide)) ?_
  obtain ⟨a4, a3, c0, b1, b3, Hq⟩ := H
  subst c0
  have H := Hq; clear Hq
  refine pp (i := 12) rfl (wanted_0 rfl) rfl (ptr a4 (a3 + (Int.toNat (IntKind.i64.wrap (Int.tdiv a2 8))) * 1)) (fun _ => vi TyTE.el53 rfl rfl b1 b3) ?_
  obtain ⟨a5, b5, H⟩ := H
  refine pr (i := 13) rfl (wanted_0 rfl) rfl (.int .u8 a5) (fun _ he => vl TyTE.agg5 rfl (Ext.cell he b5)) ?_
  refine pp (i := 14) rfl (wanted_0 rfl) rfl (.int .i64 a2) (fun _ => vm rfl) ?_
  refine pp (i := 15) rfl (wanted_0 rfl) rfl (.int .i64 (Int.tmod a2 8)) (fun _ => hv_rem rfl rfl (by decide)) ?_
  obtain ⟨b6, H⟩ := H
  refine pp (i := 16) rfl (wanted_0 rfl) rfl (.int .u8 (IntKind.u8.wrap (1 * 2 ^ min (Int.toNat (Int.tmod a2 8)) 8))) (fun _ => hv_shift rfl rfl b6 rfl) ?_
  refine pp (i := 17) rfl (wanted_0 rfl) rfl (.int .u8 (ibor .u8 a5 (IntKind.u8.wrap (1 * 2 ^ min (Int.toNat (Int.tmod a2 8)) 8)))) (fun _ => hv_bits rfl rfl rfl) ?_
  refine pp (i := 18) rfl (wanted_0 rfl) rfl (ptr a4 (a3 + (Int.toNat (IntKind.i64.wrap (Int.tdiv a2 8))) * 1)) (fun _ => vi TyTE.el53 rfl rfl b1 b3) ?_
  obtain ⟨b7, H⟩ := H
  refine hp_wild (i := 19) rfl (wanted_0 rfl) rfl (hn_store (v := (.int .u8 (ibor .u8 a5 (IntKind.u8.wrap (1 * 2 ^ min (Int.toNat (Int.tmod a2 8)) 8))))) rfl rfl TyTE.sz5 rfl b7 ?_)
  intro h2 b4
  replace H := H h2 b4
  refine hp_nil ?_
  refine bn (qn (xr ?_))
  refine lv rfl rfl (vm rfl) (lv rfl rfl (vr rfl rfl rfl) (lv rfl rfl (va rfl) ?_))
  refine ln (qn ?_)
  exact ⟨IntKind.i64.wrap (j + 1), ⟨⟨H.1, trivial⟩, H.2⟩, (hc rfl (hc rfl (hc rfl (hc rfl hn))))⟩
 ·replace H := H.2 b0
  refine xe (qe (qe (bh (qn (xs (xr ?_))))))
  refine lv rfl rfl (vm rfl) (lv rfl rfl (v := (.bool (!r))) (hv_not (b := r) rfl) (lv rfl rfl (va rfl) ?_))
  refine ln (qn (xt ?_))
  exact endQ_ret _ (res_one Try.results35 (rv_tmp rfl)) H
theorem f30_sh (a0 : Int) (a1 : Int) (h : Heap) (R : Value → Heap → Prop)
  (H : ((((decide (a0 < 1)) || ((decide (a0 > 1048576)) || ((decide (a1 < 1)) || (decide (a1 > 8))))) = true → R (.tuple #[(.pointer none), (.int .i64 150)]) h) ∧ (((decide (a0 < 1)) || ((decide (a0 > 1048576)) || ((decide (a1 < 1)) || (decide (a1 > 8))))) = false → ((0 : Int) ≤ IntKind.i64.wrap (Int.tdiv (IntKind.i64.wrap (a0 + 7)) 8) ∧ 1 * (IntKind.i64.wrap (Int.tdiv (IntKind.i64.wrap (a0 + 7)) 8)) ≤ 140737488355328 ∧ IntKind.i64.wrap (Int.tdiv (IntKind.i64.wrap (a0 + 7)) 8) ≤ 140737488355328 ∧ ∀ nb h1, nb = Array.size h → h1 = Array.push h (.cells (zcells [(.int .u8 0)] (Int.toNat (IntKind.i64.wrap (Int.tdiv (IntKind.i64.wrap (a0 + 7)) 8)))).toArray 5) → (∀ a5 h2, a5 = Array.size h1 → h2 = Array.push h1 (.cells #[(.int .i64 a0), (.int .i64 a1), (.slice (some ⟨nb, 0, none⟩) (Int.toNat (IntKind.i64.wrap (Int.tdiv (IntKind.i64.wrap (a0 + 7)) 8))) (Int.toNat (IntKind.i64.wrap (Int.tdiv (IntKind.i64.wrap (a0 + 7)) 8))))] 56) → R (.tuple #[(ptr a5 0), (.int .i64 0)]) h2))))) :
  HC Try.prog 30 #[(.int .i64 a0), (.int .i64 a1)] h R := by
 refine hc_of (args := [(.int .i64 a0), (.int .i64 a1)]) Try.func30 rfl Try.ntmps30 (Nat.le_of_ble_eq_true rfl) ?_
 refine xs (xr ?_)
 refine lv rfl rfl (va rfl) (lv rfl rfl (va rfl) ?_)
 refine ln (qn (xs ?_))
 refine xk (fun ρ h' => h = h' ∧ Has ρ [(0, (.int .i64 a0)), (1, (.int .i64 a1)), (19, (.bool ((decide (a0 < 1)) || ((decide (a0 > 1048576)) || ((decide (a1 < 1)) || (decide (a1 > 8)))))))]) ?_ ?_
 ·refine xr ?_
  refine lv rfl rfl (vm rfl) (lv rfl rfl (vr rfl rfl rfl) (lv rfl rfl (vm rfl) ?_))
  rcases bool_or (decide (a0 < 1)) with a2 | a2
  ·refine lo (wanted_n rfl rfl rfl a2) rfl ?_
   refine lo (wanted_n rfl rfl rfl a2) rfl ?_
   refine lv rfl rfl (v := (.bool true)) (hv_pick_t rfl a2 rfl) (lv rfl rfl (vm rfl) ?_)
   refine lo (wanted_n rfl rfl (c := true) rfl rfl) rfl ?_
   refine lo (wanted_n rfl rfl (c := true) rfl rfl) rfl ?_
   refine lv rfl rfl (v := (.bool true)) (hv_pick (t := true) rfl rfl) (lv rfl rfl (vm rfl) ?_)
   refine lo (wanted_n rfl rfl (c := true) rfl rfl) rfl ?_
   refine lo (wanted_n rfl rfl (c := true) rfl rfl) rfl ?_
   refine lv rfl rfl (v := (.bool true)) (hv_pick (t := true) rfl rfl) ?_
   refine ln (qn ?_)
   exact ⟨rfl, (hc rfl (hc rfl (hc (show ((.bool true) : Value) = (.bool ((decide (a0 < 1)) || ((decide (a0 > 1048576)) || ((decide (a1 < 1)) || (decide (a1 > 8)))))) from (by first | rfl | ((try rw [a2]); all_goals first | rfl | (simp only [Bool.true_or, Bool.or_true, Bool.false_or, Bool.or_false, Bool.true_and, Bool.and_true, Bool.false_and, Bool.and_false, Bool.not_true, Bool.not_false, Bool.cond_true, Bool.cond_false]; done)) | simp [a2])) hn)))⟩
  ·refine ly (wanted_y rfl rfl rfl a2) rfl (HStep.of_val (v := (.int .i64 a0)) (vm rfl) ?_)
   refine ly (wanted_y rfl rfl rfl a2) rfl (HStep.of_val (v := (.bool (decide (a0 > 1048576)))) (vr rfl rfl rfl) ?_)
   refine lv rfl rfl (v := (.bool (decide (a0 > 1048576)))) (hv_pick_f rfl a2 rfl) (lv rfl rfl (vm rfl) ?_)
   rcases bool_or (decide (a0 > 1048576)) with a3 | a3
   ·refine lo (wanted_n rfl rfl rfl a3) rfl ?_
    refine lo (wanted_n rfl rfl rfl a3) rfl ?_
    refine lv rfl rfl (v := (.bool true)) (hv_pick_t rfl a3 rfl) (lv rfl rfl (vm rfl) ?_)
    refine lo (wanted_n rfl rfl (c := true) rfl rfl) rfl ?_
    refine lo (wanted_n rfl rfl (c := true) rfl rfl) rfl ?_
    refine lv rfl rfl (v := (.bool true)) (hv_pick (t := true) rfl rfl) ?_
    refine ln (qn ?_)
    exact ⟨rfl, (hc rfl (hc rfl (hc (show ((.bool true) : Value) = (.bool ((decide (a0 < 1)) || ((decide (a0 > 1048576)) || ((decide (a1 < 1)) || (decide (a1 > 8)))))) from (by first | rfl | ((try rw [a2]); (try rw [a3]); all_goals first | rfl | (simp only [Bool.true_or, Bool.or_true, Bool.false_or, Bool.or_false, Bool.true_and, Bool.and_true, Bool.false_and, Bool.and_false, Bool.not_true, Bool.not_false, Bool.cond_true, Bool.cond_false]; done)) | simp [a2, a3])) hn)))⟩
   ·refine ly (wanted_y rfl rfl rfl a3) rfl (HStep.of_val (v := (.int .i64 a1)) (vm rfl) ?_)
    refine ly (wanted_y rfl rfl rfl a3) rfl (HStep.of_val (v := (.bool (decide (a1 < 1)))) (vr rfl rfl rfl) ?_)
    refine lv rfl rfl (v := (.bool (decide (a1 < 1)))) (hv_pick_f rfl a3 rfl) (lv rfl rfl (vm rfl) ?_)
    rcases bool_or (decide (a1 < 1)) with a4 | a4
    ·refine lo (wanted_n rfl rfl rfl a4) rfl ?_
     refine lo (wanted_n rfl rfl rfl a4) rfl ?_
     refine lv rfl rfl (v := (.bool true)) (hv_pick_t rfl a4 rfl) ?_
     refine ln (qn ?_)
     exact ⟨rfl, (hc rfl (hc rfl (hc (show ((.bool true) : Value) = (.bool ((decide (a0 < 1)) || ((decide (a0 > 1048576)) || ((decide (a1 < 1)) || (decide (a1 > 8)))))) from (by first | rfl | ((try rw [a2]); (try rw [a3]); (try rw [a4]); all_goals first | rfl | (simp only [Bool.true_or, Bool.or_true, Bool.false_or, Bool.or_false, Bool.true_and, Bool.and_true, Bool.false_and, Bool.and_false, Bool.not_true, Bool.not_false, Bool.cond_true, Bool.cond_false]; done)) | simp [a2, a3, a4])) hn)))⟩
    ·refine ly (wanted_y rfl rfl rfl a4) rfl (HStep.of_val (v := (.int .i64 a1)) (vm rfl) ?_)
     refine ly (wanted_y rfl rfl rfl a4) rfl (HStep.of_val (v := (.bool (decide (a1 > 8)))) (vr rfl rfl rfl) ?_)
     refine lv rfl rfl (v := (.bool (decide (a1 > 8)))) (hv_pick_f rfl a4 rfl) ?_
     refine ln (qn ?_)
     exact ⟨rfl, (hc rfl (hc rfl (hc (show ((.bool (decide (a1 > 8))) : Value) = (.bool ((decide (a0 < 1)) || ((decide (a0 > 1048576)) || ((decide (a1 < 1)) || (decide (a1 > 8)))))) from (by first | rfl | ((try rw [a2]); (try rw [a3]); (try rw [a4]); all_goals first | rfl | (simp only [Bool.true_or, Bool.or_true, Bool.false_or, Bool.or_false, Bool.true_and, Bool.and_true, Bool.false_and, Bool.and_false, Bool.not_true, Bool.not_false, Bool.cond_true, Bool.cond_false]; done)) | simp [a2, a3, a4])) hn)))⟩
 ·rintro ρ _ ⟨rfl, hH⟩
  refine xh _ hH ?_
  refine xc (b := ((decide (a0 < 1)) || ((decide (a0 > 1048576)) || ((decide (a1 < 1)) || (decide (a1 > 8)))))) rfl (fun a7 => ?_) (fun a7 => ?_)
  ·replace H := H.1 a7
   refine xs (xr ?_)
   refine lv rfl rfl (va rfl) (lv rfl rfl (va rfl) ?_)
   refine ln (qn (xt (qr ?_)))
   exact endQ_ret _ (res_two Try.results30 (rv_tmp rfl) (rv_tmp rfl)) H
  ·replace H := H.2 a7
   refine xi (qn (xs (xr ?_)))
   refine lv rfl rfl (vm rfl) (lv rfl rfl (vm rfl) (lv rfl rfl (vm rfl) (lv rfl rfl (vr rfl rfl rfl) (lv rfl rfl (v := (.int .i64 (IntKind.i64.wrap (Int.tdiv (IntKind.i64.wrap (a0 + 7)) 8)))) (hv_quo rfl rfl (by decide)) ?_))))
   obtain ⟨b2, b1, b3, H⟩ := H
   refine lp rfl rfl (hn_make (z := (.int .u8 0)) (zs := [(.int .u8 0)]) (n := IntKind.i64.wrap (Int.tdiv (IntKind.i64.wrap (a0 + 7)) 8)) TyTE.u53 TyTE.sz5 TyTE.by5 TyTE.z5 rfl rfl b2 b1 b3 rfl rfl ?_)
   intro nb h1 a9 a8
   replace H := H nb h1 a9 a8
   have b4 := ext_pushed_f22_sh a8
   refine lv rfl rfl (v := (.agg #[(.int .i64 a0), (.int .i64 a1), (.slice (some ⟨nb, 0, none⟩) (Int.toNat (IntKind.i64.wrap (Int.tdiv (IntKind.i64.wrap (a0 + 7)) 8))) (Int.toNat (IntKind.i64.wrap (Int.tdiv (IntKind.i64.wrap (a0 + 7)) 8))))])) (vb (vs := [(0, (.int .i64 a0)), (1, (.int .i64 a1)), (2, (.slice (some ⟨nb, 0, none⟩) (Int.toNat (IntKind.i64.wrap (Int.tdiv (IntKind.i64.wrap (a0 + 7)) 8))) (Int.toNat (IntKind.i64.wrap (Int.tdiv (IntKind.i64.wrap (a0 + 7)) 8)))))]) (cs := #[(.int .i64 a0), (.int .i64 a1), (.slice (some ⟨nb, 0, none⟩) (Int.toNat (IntKind.i64.wrap (Int.tdiv (IntKind.i64.wrap (a0 + 7)) 8))) (Int.toNat (IntKind.i64.wrap (Int.tdiv (IntKind.i64.wrap (a0 + 7)) 8))))]) TyTE.z56 TyTE.pl56 rfl (by kernel_rfl)) ?_
   refine lp rfl rfl (hn_box (v := (.agg #[(.int .i64 a0), (.int .i64 a1), (.slice (some ⟨nb, 0, none⟩) (Int.toNat (IntKind.i64.wrap (Int.tdiv (IntKind.i64.wrap (a0 + 7)) 8))) (Int.toNat (IntKind.i64.wrap (Int.tdiv (IntKind.i64.wrap (a0 + 7)) 8))))])) rfl ?_)
   intro a5 h2 b0 a6
   replace H := H a5 h2 b0 a6
   have b5 := ext_pushed_f22_sh a6
   refine lv rfl rfl (va rfl) (lv rfl rfl (va rfl) ?_)
   refine ln (qn (xt ?_))
   exact endQ_ret _ (res_two Try.results30 (rv_tmp rfl) (rv_tmp rfl)) H
theorem f32_sh (a0 : Int) (a1 : Int) (h : Heap) (R : Value → Heap → Prop)
  (H : ((((decide (a0 < 1)) || ((decide (a0 > 1048576)) || ((decide (a1 < 1)) || (decide (a1 > 8))))) = true → R (.tuple #[(.pointer none), (.int .i64 150)]) h) ∧ (((decide (a0 < 1)) || ((decide (a0 > 1048576)) || ((decide (a1 < 1)) || (decide (a1 > 8))))) = false → ((0 : Int) ≤ IntKind.i64.wrap (Int.tdiv (IntKind.i64.wrap ((IntKind.i64.wrap (a0 + 64)) - 1)) 64) ∧ 8 * (IntKind.i64.wrap (Int.tdiv (IntKind.i64.wrap ((IntKind.i64.wrap (a0 + 64)) - 1)) 64)) ≤ 140737488355328 ∧ IntKind.i64.wrap (Int.tdiv (IntKind.i64.wrap ((IntKind.i64.wrap (a0 + 64)) - 1)) 64) ≤ 140737488355328 ∧ ∀ nb h1, nb = Array.size h → h1 = Array.push h (.cells (zcells [(.int .u64 0)] (Int.toNat (IntKind.i64.wrap (Int.tdiv (IntKind.i64.wrap ((IntKind.i64.wrap (a0 + 64)) - 1)) 64)))).toArray 31) → (∀ a5 h2, a5 = Array.size h1 → h2 = Array.push h1 (.cells #[(.slice (some ⟨nb, 0, none⟩) (Int.toNat (IntKind.i64.wrap (Int.tdiv (IntKind.i64.wrap ((IntKind.i64.wrap (a0 + 64)) - 1)) 64))) (Int.toNat (IntKind.i64.wrap (Int.tdiv (IntKind.i64.wrap ((IntKind.i64.wrap (a0 + 64)) - 1)) 64)))), (.int .i64 a0), (.int .i64 a1)] 80) → R (.tuple #[(ptr a5 0), (.int .i64 0)]) h2))))) :
  HC Try.prog 32 #[(.int .i64 a0), (.int .i64 a1)] h R := by
 refine hc_of (args := [(.int .i64 a0), (.int .i64 a1)]) Try.func32 rfl Try.ntmps32 (Nat.le_of_ble_eq_true rfl) ?_
 refine xs (xr ?_)
 refine lv rfl rfl (va rfl) (lv rfl rfl (va rfl) ?_)
 refine ln (qn (xs ?_))
 refine xk (fun ρ h' => h = h' ∧ Has ρ [(0, (.int .i64 a0)), (1, (.int .i64 a1)), (19, (.bool ((decide (a0 < 1)) || ((decide (a0 > 1048576)) || ((decide (a1 < 1)) || (decide (a1 > 8)))))))]) ?_ ?_
 ·refine xr ?_
  refine lv rfl rfl (vm rfl) (lv rfl rfl (vr rfl rfl rfl) (lv rfl rfl (vm rfl) ?_))
  rcases bool_or (decide (a0 < 1)) with a2 | a2
  ·refine lo (wanted_n rfl rfl rfl a2) rfl ?_
   refine lo (wanted_n rfl rfl rfl a2) rfl ?_
   refine lv rfl rfl (v := (.bool true)) (hv_pick_t rfl a2 rfl) (lv rfl rfl (vm rfl) ?_)
   refine lo (wanted_n rfl rfl (c := true) rfl rfl) rfl ?_
   refine lo (wanted_n rfl rfl (c := true) rfl rfl) rfl ?_
   refine lv rfl rfl (v := (.bool true)) (hv_pick (t := true) rfl rfl) (lv rfl rfl (vm rfl) ?_)
   refine lo (wanted_n rfl rfl (c := true) rfl rfl) rfl ?_
   refine lo (wanted_n rfl rfl (c := true) rfl rfl) rfl ?_
   refine lv rfl rfl (v := (.bool true)) (hv_pick (t := true) rfl rfl) ?_
   refine ln (qn ?_)
   exact ⟨rfl, (hc rfl (hc rfl (hc (show ((.bool true) : Value) = (.bool ((decide (a0 < 1)) || ((decide (a0 > 1048576)) || ((decide (a1 < 1)) || (decide (a1 > 8)))))) from (by first | rfl | ((try rw [a2]); all_goals first | rfl | (simp only [Bool.true_or, Bool.or_true, Bool.false_or, Bool.or_false, Bool.true_and, Bool.and_true, Bool.false_and, Bool.and_false, Bool.not_true, Bool.not_false, Bool.cond_true, Bool.cond_false]; done)) | simp [a2])) hn)))⟩
  ·refine ly (wanted_y rfl rfl rfl a2) rfl (HStep.of_val (v := (.int .i64 a0)) (vm rfl) ?_)
   refine ly (wanted_y rfl rfl rfl a2) rfl (HStep.of_val (v := (.bool (decide (a0 > 1048576)))) (vr rfl rfl rfl) ?_)
   refine lv rfl rfl (v := (.bool (decide (a0 > 1048576)))) (hv_pick_f rfl a2 rfl) (lv rfl rfl (vm rfl) ?_)
   rcases bool_or (decide (a0 > 1048576)) with a3 | a3
   ·refine lo (wanted_n rfl rfl rfl a3) rfl ?_
    refine lo (wanted_n rfl rfl rfl a3) rfl ?_
    refine lv rfl rfl (v := (.bool true)) (hv_pick_t rfl a3 rfl) (lv rfl rfl (vm rfl) ?_)
    refine lo (wanted_n rfl rfl (c := true) rfl rfl) rfl ?_
    refine lo (wanted_n rfl rfl (c := true) rfl rfl) rfl ?_
    refine lv rfl rfl (v := (.bool true)) (hv_pick (t := true) rfl rfl) ?_
    refine ln (qn ?_)
    exact ⟨rfl, (hc rfl (hc rfl (hc (show ((.bool true) : Value) = (.bool ((decide (a0 < 1)) || ((decide (a0 > 1048576)) || ((decide (a1 < 1)) || (decide (a1 > 8)))))) from (by first | rfl | ((try rw [a2]); (try rw [a3]); all_goals first | rfl | (simp only [Bool.true_or, Bool.or_true, Bool.false_or, Bool.or_false, Bool.true_and, Bool.and_true, Bool.false_and, Bool.and_false, Bool.not_true, Bool.not_false, Bool.cond_true, Bool.cond_false]; done)) | simp [a2, a3])) hn)))⟩
   ·refine ly (wanted_y rfl rfl rfl a3) rfl (HStep.of_val (v := (.int .i64 a1)) (vm rfl) ?_)
    refine ly (wanted_y rfl rfl rfl a3) rfl (HStep.of_val (v := (.bool (decide (a1 < 1)))) (vr rfl rfl rfl) ?_)
    refine lv rfl rfl (v := (.bool (decide (a1 < 1)))) (hv_pick_f rfl a3 rfl) (lv rfl rfl (vm rfl) ?_)
    rcases bool_or (decide (a1 < 1)) with a4 | a4
    ·refine lo (wanted_n rfl rfl rfl a4) rfl ?_
     refine lo (wanted_n rfl rfl rfl a4) rfl ?_
     refine lv rfl rfl (v := (.bool true)) (hv_pick_t rfl a4 rfl) ?_
     refine ln (qn ?_)
     exact ⟨rfl, (hc rfl (hc rfl (hc (show ((.bool true) : Value) = (.bool ((decide (a0 < 1)) || ((decide (a0 > 1048576)) || ((decide (a1 < 1)) || (decide (a1 > 8)))))) from (by first | rfl | ((try rw [a2]); (try rw [a3]); (try rw [a4]); all_goals first | rfl | (simp only [Bool.true_or, Bool.or_true, Bool.false_or, Bool.or_false, Bool.true_and, Bool.and_true, Bool.false_and, Bool.and_false, Bool.not_true, Bool.not_false, Bool.cond_true, Bool.cond_false]; done)) | simp [a2, a3, a4])) hn)))⟩
    ·refine ly (wanted_y rfl rfl rfl a4) rfl (HStep.of_val (v := (.int .i64 a1)) (vm rfl) ?_)
     refine ly (wanted_y rfl rfl rfl a4) rfl (HStep.of_val (v := (.bool (decide (a1 > 8)))) (vr rfl rfl rfl) ?_)
     refine lv rfl rfl (v := (.bool (decide (a1 > 8)))) (hv_pick_f rfl a4 rfl) ?_
     refine ln (qn ?_)
     exact ⟨rfl, (hc rfl (hc rfl (hc (show ((.bool (decide (a1 > 8))) : Value) = (.bool ((decide (a0 < 1)) || ((decide (a0 > 1048576)) || ((decide (a1 < 1)) || (decide (a1 > 8)))))) from (by first | rfl | ((try rw [a2]); (try rw [a3]); (try rw [a4]); all_goals first | rfl | (simp only [Bool.true_or, Bool.or_true, Bool.false_or, Bool.or_false, Bool.true_and, Bool.and_true, Bool.false_and, Bool.and_false, Bool.not_true, Bool.not_false, Bool.cond_true, Bool.cond_false]; done)) | simp [a2, a3, a4])) hn)))⟩
 ·rintro ρ _ ⟨rfl, hH⟩
  refine xh _ hH ?_
  refine xc (b := ((decide (a0 < 1)) || ((decide (a0 > 1048576)) || ((decide (a1 < 1)) || (decide (a1 > 8)))))) rfl (fun a7 => ?_) (fun a7 => ?_)
  ·replace H := H.1 a7
   refine xs (xr ?_)
   refine lv rfl rfl (va rfl) (lv rfl rfl (va rfl) ?_)
   refine ln (qn (xt (qr ?_)))
   exact endQ_ret _ (res_two Try.results32 (rv_tmp rfl) (rv_tmp rfl)) H
  ·replace H := H.2 a7
   refine xi (qn (xs (xr ?_)))
   refine lv rfl rfl (vm rfl) (lv rfl rfl (vr rfl rfl rfl) (lv rfl rfl (vr rfl rfl rfl) (lv rfl rfl (v := (.int .i64 (IntKind.i64.wrap (Int.tdiv (IntKind.i64.wrap ((IntKind.i64.wrap (a0 + 64)) - 1)) 64)))) (hv_quo rfl rfl (by decide)) ?_)))
   obtain ⟨b2, b1, b3, H⟩ := H
   refine lp rfl rfl (hn_make (z := (.int .u64 0)) (zs := [(.int .u64 0)]) (n := IntKind.i64.wrap (Int.tdiv (IntKind.i64.wrap ((IntKind.i64.wrap (a0 + 64)) - 1)) 64)) TyTE.u78 TyTE.sz31 TyTE.by31 TyTE.z31 rfl rfl b2 b1 b3 rfl rfl ?_)
   intro nb h1 a9 a8
   replace H := H nb h1 a9 a8
   have b4 := ext_pushed_f22_sh a8
   refine lv rfl rfl (vm rfl) (lv rfl rfl (vm rfl) (lv rfl rfl (v := (.agg #[(.slice (some ⟨nb, 0, none⟩) (Int.toNat (IntKind.i64.wrap (Int.tdiv (IntKind.i64.wrap ((IntKind.i64.wrap (a0 + 64)) - 1)) 64))) (Int.toNat (IntKind.i64.wrap (Int.tdiv (IntKind.i64.wrap ((IntKind.i64.wrap (a0 + 64)) - 1)) 64)))), (.int .i64 a0), (.int .i64 a1)])) (vb (vs := [(0, (.slice (some ⟨nb, 0, none⟩) (Int.toNat (IntKind.i64.wrap (Int.tdiv (IntKind.i64.wrap ((IntKind.i64.wrap (a0 + 64)) - 1)) 64))) (Int.toNat (IntKind.i64.wrap (Int.tdiv (IntKind.i64.wrap ((IntKind.i64.wrap (a0 + 64)) - 1)) 64))))), (1, (.int .i64 a0)), (2, (.int .i64 a1))]) (cs := #[(.slice (some ⟨nb, 0, none⟩) (Int.toNat (IntKind.i64.wrap (Int.tdiv (IntKind.i64.wrap ((IntKind.i64.wrap (a0 + 64)) - 1)) 64))) (Int.toNat (IntKind.i64.wrap (Int.tdiv (IntKind.i64.wrap ((IntKind.i64.wrap (a0 + 64)) - 1)) 64)))), (.int .i64 a0), (.int .i64 a1)]) TyTE.z80 TyTE.pl80 rfl (by kernel_rfl)) ?_))
   refine lp rfl rfl (hn_box (v := (.agg #[(.slice (some ⟨nb, 0, none⟩) (Int.toNat (IntKind.i64.wrap (Int.tdiv (IntKind.i64.wrap ((IntKind.i64.wrap (a0 + 64)) - 1)) 64))) (Int.toNat (IntKind.i64.wrap (Int.tdiv (IntKind.i64.wrap ((IntKind.i64.wrap (a0 + 64)) - 1)) 64)))), (.int .i64 a0), (.int .i64 a1)])) rfl ?_)
   intro a5 h2 b0 a6
   replace H := H a5 h2 b0 a6
   have b5 := ext_pushed_f22_sh a6
   refine lv rfl rfl (va rfl) (lv rfl rfl (va rfl) ?_)
   refine ln (qn (xt ?_))
   exact endQ_ret _ (res_two Try.results32 (rv_tmp rfl) (rv_tmp rfl)) H
theorem f19_sh (a0 : Nat) (a1 : Nat) (h : Heap) (R : Value → Heap → Prop)
  (H : (∃ r : Bool, HC Try.prog 37 #[(ptr a0 a1)] h (fun vv h' => vv = (.bool r) ∧ h' = h) ∧ (((!r) = true → R (.slice none 0 0) h) ∧ ((!r) = false → (∃ x : Int, hcell h a0 (a1 + 1) = some (.int .i64 x) ∧ ((0 : Int) ≤ IntKind.i64.wrap (Int.tdiv (IntKind.i64.wrap (x + 7)) 8) ∧ 1 * (IntKind.i64.wrap (Int.tdiv (IntKind.i64.wrap (x + 7)) 8)) ≤ 140737488355328 ∧ IntKind.i64.wrap (Int.tdiv (IntKind.i64.wrap (x + 7)) 8) ≤ 140737488355328 ∧ ∀ nb h1, nb = Array.size h → h1 = Array.push h (.cells (zcells [(.int .u8 0)] (Int.toNat (IntKind.i64.wrap (Int.tdiv (IntKind.i64.wrap (x + 7)) 8)))).toArray 5) → (∃ (a6 : Int → Heap → Prop) (a5 : Int → Heap → Nat), a6 0 h1 ∧ (∀ (v : Int) (h2 : Heap), a6 v h2 → (((decide (v < (((Int.toNat (IntKind.i64.wrap (Int.tdiv (IntKind.i64.wrap (x + 7)) 8))) : Nat) : Int))) = true → (∃ a9 : Option Addr, ∃ a8 b0 : Nat, hcell h2 a0 a1 = some (.slice a9 a8 b0) ∧ (∃ a3 a2 : Nat, a9 = some ⟨a3, a2, none⟩ ∧ (0 : Int) ≤ IntKind.i64.wrap (Int.tdiv v 8) ∧ IntKind.i64.wrap (Int.tdiv v 8) < (a8 : Int) ∧ (∃ a4 : Int, hcell h2 a3 (a2 + (Int.toNat (IntKind.i64.wrap (Int.tdiv v 8))) * 1) = some (.int .u64 a4) ∧ ((0 : Int) ≤ IntKind.i64.wrap (8 * (Int.tmod v 8)) ∧ ((0 : Int) ≤ v ∧ v < (((Int.toNat (IntKind.i64.wrap (Int.tdiv (IntKind.i64.wrap (x + 7)) 8))) : Nat) : Int) ∧ (HW h2 nb (0 + (Int.toNat v) * 1) ∧ ∀ h3, h3 = hset h2 nb (0 + (Int.toNat v) * 1) (.int .u8 (IntKind.u8.wrap (Int.fdiv a4 (2 ^ min (Int.toNat (IntKind.i64.wrap (8 * (Int.tmod v 8)))) 64)))) → (a6 (IntKind.i64.wrap (v + 1)) h3 ∧ a5 (IntKind.i64.wrap (v + 1)) h3 < a5 v h2)))))))) ∧ ((decide (v < (((Int.toNat (IntKind.i64.wrap (Int.tdiv (IntKind.i64.wrap (x + 7)) 8))) : Nat) : Int))) = false → R (.slice (some ⟨nb, 0, none⟩) (Int.toNat (IntKind.i64.wrap (Int.tdiv (IntKind.i64.wrap (x + 7)) 8))) (Int.toNat (IntKind.i64.wrap (Int.tdiv (IntKind.i64.wrap (x + 7)) 8)))) h2)))))))))) :
  HC Try.prog 19 #[(ptr a0 a1)] h R := by
 refine hc_of (args := [(ptr a0 a1)]) Try.func19 rfl Try.ntmps19 (Nat.le_of_ble_eq_true rfl) ?_
 refine xs (xr ?_)
 refine lv rfl rfl (va rfl) ?_
 refine ln (qn (xs (xs (xr ?_))))
 refine lv rfl rfl (vm rfl) ?_
 obtain ⟨r, d1, H⟩ := H
 refine lv rfl rfl (hv_call TyTE.cb37 (vs := [(ptr a0 a1)]) rfl d1) (lv rfl rfl (v := (.bool (!r))) (hv_not (b := r) rfl) ?_)
 refine ln (qn ?_)
 refine xc (b := !r) rfl (fun b1 => ?_) (fun b1 => ?_)
 ·replace H := H.1 b1
  refine xs (xr ?_)
  refine lv rfl rfl (va rfl) ?_
  refine ln (qn (xt (qr ?_)))
  exact endQ_ret _ (res_one Try.results19 (rv_tmp rfl)) H
 ·replace H := H.2 b1
  refine xi (qn (xs (xr ?_)))
  refine lv rfl rfl (vm rfl) (lv rfl rfl (v := (ptr a0 a1)) (hv_nil rfl) (lv rfl rfl (v := (ptr a0 (a1 + 1))) (vf TyTE.fld80_1 (b := a0) (o := a1) rfl) ?_))
  obtain ⟨x, c5, H⟩ := H
  refine lv rfl rfl (vl TyTE.agg3 rfl c5) (lv rfl rfl (vr rfl rfl rfl) (lv rfl rfl (v := (.int .i64 (IntKind.i64.wrap (Int.tdiv (IntKind.i64.wrap (x + 7)) 8)))) (hv_quo rfl rfl (by decide)) ?_))
  obtain ⟨c6, d0, c9, H⟩ := H
  refine lp rfl rfl (hn_make (z := (.int .u8 0)) (zs := [(.int .u8 0)]) (n := IntKind.i64.wrap (Int.tdiv (IntKind.i64.wrap (x + 7)) 8)) TyTE.u53 TyTE.sz5 TyTE.by5 TyTE.z5 rfl rfl c6 d0 c9 rfl rfl ?_)
  intro nb h1 c8 b2
  replace H := H nb h1 c8 b2
  have d2 := ext_pushed_f22_sh b2
  refine lv rfl rfl (va rfl) ?_
  refine ln (qn (xs (xs (xr ?_))))
  refine lv rfl rfl (vm rfl) (lv rfl rfl (v := (.int .i64 (((Int.toNat (IntKind.i64.wrap (Int.tdiv (IntKind.i64.wrap (x + 7)) 8))) : Nat) : Int))) (hv_len (n := (Int.toNat (IntKind.i64.wrap (Int.tdiv (IntKind.i64.wrap (x + 7)) 8)))) TyTE.u53 rfl) (lv rfl rfl (vm rfl) ?_))
  refine ln (qn (xb ?_))
  obtain ⟨a6, a5, c2, b4⟩ := H
  refine xl (σ := Int) (fun s => [(0, (ptr a0 a1)), (3, (.slice (some ⟨nb, 0, none⟩) (Int.toNat (IntKind.i64.wrap (Int.tdiv (IntKind.i64.wrap (x + 7)) 8))) (Int.toNat (IntKind.i64.wrap (Int.tdiv (IntKind.i64.wrap (x + 7)) 8))))), (16, (.int .i64 (((Int.toNat (IntKind.i64.wrap (Int.tdiv (IntKind.i64.wrap (x + 7)) 8))) : Nat) : Int))), (17, (.int .i64 s))]) (fun s h' => a6 s h' ∧ True) (fun s h' => a5 s h') 0 ⟨c2, trivial⟩ (hc rfl (hc rfl (hc rfl (hc rfl hn)))) ?_
  rintro v ρ h2 ⟨c1, -⟩
  have H := b4 v h2 c1
  refine xs (xr ?_)
  refine lv rfl rfl (vr rfl rfl rfl) ?_
  refine ln (qn (xs ?_))
  refine xc (b := decide (v < (((Int.toNat (IntKind.i64.wrap (Int.tdiv (IntKind.i64.wrap (x + 7)) 8))) : Nat) : Int))) rfl (fun a7 => ?_) (fun a7 => ?_)
  ·replace H := H.1 a7
   refine xi (qn (xs (xb (xs (xr ?_)))))
   refine lv rfl rfl (vm rfl) (lv rfl rfl (va rfl) ?_)
   refine ln (qn (xr ?_))
   refine lv rfl rfl (vm rfl) (lv rfl rfl (vm rfl) (lv rfl rfl (vm rfl) (lv rfl rfl (v := (ptr a0 a1)) (hv_nil rfl) (lv rfl rfl (v := (ptr a0 a1)) (vf TyTE.fld80_0 (b := a0) (o := a1) rfl) ?_))))
   obtain ⟨a9, a8, b0, c0, H⟩ := H
   refine lv rfl rfl (vl TyTE.agg78 rfl c0) (lv rfl rfl (vm rfl) (lv rfl rfl (v := (.int .i64 (IntKind.i64.wrap (Int.tdiv v 8)))) (hv_quo rfl rfl (by decide)) ?_))
   obtain ⟨a3, a2, c7, b5, b9, Hq⟩ := H
   subst c7
   have H := Hq; clear Hq
   refine lv rfl rfl (v := (ptr a3 (a2 + (Int.toNat (IntKind.i64.wrap (Int.tdiv v 8))) * 1))) (vi TyTE.el78 rfl rfl b5 b9) ?_
   obtain ⟨a4, b6, H⟩ := H
   refine lv rfl rfl (vl TyTE.agg31 rfl b6) (lv rfl rfl (vm rfl) (lv rfl rfl (v := (.int .i64 (Int.tmod v 8))) (hv_rem rfl rfl (by decide)) (lv rfl rfl (vr rfl rfl rfl) ?_)))
   obtain ⟨b8, H⟩ := H
   refine lv rfl rfl (v := (.int .u64 (Int.fdiv a4 (2 ^ min (Int.toNat (IntKind.i64.wrap (8 * (Int.tmod v 8)))) 64)))) (hv_shift rfl rfl b8 rfl) (lv rfl rfl (v := (.int .u8 (IntKind.u8.wrap (Int.fdiv a4 (2 ^ min (Int.toNat (IntKind.i64.wrap (8 * (Int.tmod v 8)))) 64))))) (hv_convInt TyTE.u31 TyTE.u5 rfl) ?_)
   obtain ⟨c4, b7, H⟩ := H
   refine lv rfl rfl (v := (ptr nb (0 + (Int.toNat v) * 1))) (vi TyTE.el53 rfl rfl c4 b7) ?_
   obtain ⟨b3, H⟩ := H
   refine lp rfl rfl (hn_store (v := (.int .u8 (IntKind.u8.wrap (Int.fdiv a4 (2 ^ min (Int.toNat (IntKind.i64.wrap (8 * (Int.tmod v 8)))) 64))))) rfl rfl TyTE.sz5 rfl b3 ?_)
   intro h3 c3
   replace H := H h3 c3
   refine ln (bn (qn (xr ?_)))
   refine lv rfl rfl (vr rfl rfl rfl) (lv rfl rfl (vm rfl) ?_)
   refine ln (qn ?_)
   exact ⟨IntKind.i64.wrap (v + 1), ⟨⟨H.1, trivial⟩, H.2⟩, (hc rfl (hc rfl (hc rfl (hc rfl hn))))⟩
  ·replace H := H.2 a7
   refine xe (qe (qe (bh (qn (xs (xr ?_))))))
   refine lv rfl rfl (vm rfl) (lv rfl rfl (va rfl) ?_)
   refine ln (qn (xt ?_))
   exact endQ_ret _ (res_one Try.results19 (rv_tmp rfl)) H
theorem f17_sh (a6 : Int) (a5 : Int) (l : Option Addr) (a4 : Nat) (b1 : Nat) (h : Heap) (R : Value → Heap → Prop)
  (H : HC Try.prog 32 #[(.int .i64 a6), (.int .i64 a5)] h (fun vv h1 => Ext h h1 ∧ ∃ r0 : Option Addr, ∃ r1 : Int, vv = (.tuple #[(.pointer r0), (.int .i64 r1)]) ∧ (((r1 != 0) = true → R (.tuple #[(.pointer none), (.int .i64 r1)]) h1) ∧ ((r1 != 0) = false → (∃ (I3 : Int → Heap → Prop) (a9 : Int → Heap → Nat), I3 0 h1 ∧ (∀ (v : Int) (h2 : Heap), I3 v h2 → (((decide (v < (a4 : Int))) = true → (∃ a7 a8 : Nat, l = some ⟨a7, a8, none⟩ ∧ (0 : Int) ≤ v ∧ v < (a4 : Int) ∧ (∃ a3 a0 : Int, ∃ a1 a2 : ByteArray, hcell h2 a7 (a8 + (Int.toNat v) * 4) = some (.int .i64 a3) ∧ hcell h2 a7 ((a8 + (Int.toNat v) * 4) + 1) = some (.int .u64 a0) ∧ hcell h2 a7 ((a8 + (Int.toNat v) * 4) + 2) = some (.string a1) ∧ hcell h2 a7 ((a8 + (Int.toNat v) * 4) + 3) = some (.string a2) ∧ (∀ (h4 : Heap), Ext h2 h4 → HC Try.prog 34 #[(.string a1)] h4 (fun vv h5 => Ext h4 h5 ∧ ∃ b0 : Int, vv = (.int .u64 b0) ∧ HC Try.prog 33 #[(.pointer r0), (.int .u64 b0)] h5 (fun vv h6 => ∃ b9 : Bool, vv = (.bool b9) ∧ (I3 (IntKind.i64.wrap (v + 1)) h6 ∧ a9 (IntKind.i64.wrap (v + 1)) h6 < a9 v h2))))))) ∧ ((decide (v < (a4 : Int))) = false → R (.tuple #[(.pointer r0), (.int .i64 0)]) h2)))))))) :
  HC Try.prog 17 #[(.int .i64 a6), (.int .i64 a5), (.slice l a4 b1)] h R := by
 refine hc_of (args := [(.int .i64 a6), (.int .i64 a5), (.slice l a4 b1)]) Try.func17 rfl Try.ntmps17 (Nat.le_of_ble_eq_true rfl) ?_
 refine xs (xr ?_)
 refine lv rfl rfl (va rfl) (lv rfl rfl (va rfl) ?_)
 refine ln (qn (xs (xr ?_)))
 refine lv rfl rfl (vm rfl) (lv rfl rfl (vm rfl) ?_)
 refine lp rfl rfl (sc TyTE.cb32 rfl (HC.mono H ?_))
 rintro _ h1 ⟨d4, r0, r1, rfl, H⟩
 refine lv rfl rfl (vm rfl) (lv rfl rfl (vx rfl rfl) (lv rfl rfl (vx rfl rfl) (lv rfl rfl (va rfl) (lv rfl rfl (va rfl) ?_))))
 refine ln (qn (xs (xs (xr ?_))))
 refine lv rfl rfl (vm rfl) (lv rfl rfl (vr rfl rfl rfl) ?_)
 refine ln (qn ?_)
 refine xc (b := r1 != 0) rfl (fun b7 => ?_) (fun b7 => ?_)
 ·replace H := H.1 b7
  refine xs (xr ?_)
  refine lv rfl rfl (vm rfl) (lv rfl rfl (va rfl) (lv rfl rfl (va rfl) ?_))
  refine ln (qn (xt (qr ?_)))
  exact endQ_ret _ (res_two Try.results17 (rv_tmp rfl) (rv_tmp rfl)) H
 ·replace H := H.2 b7
  refine xi (qn (xs (xs (xr ?_))))
  refine lv rfl rfl (vm rfl) (lv rfl rfl (v := (.int .i64 (a4 : Int))) (hv_len (n := a4) TyTE.u32 rfl) (lv rfl rfl (vm rfl) ?_))
  refine ln (qn (xb ?_))
  obtain ⟨I3, a9, c9, c8⟩ := H
  refine xl (σ := Int) (fun s => [(8, (.pointer r0)), (21, (.slice l a4 b1)), (22, (.int .i64 (a4 : Int))), (23, (.int .i64 s))]) (fun s h' => I3 s h' ∧ True) (fun s h' => a9 s h') 0 ⟨c9, trivial⟩ (hc rfl (hc rfl (hc rfl (hc rfl hn)))) ?_
  rintro v ρ h2 ⟨d0, -⟩
  have H := c8 v h2 d0
  refine xs (xr ?_)
  refine lv rfl rfl (vr rfl rfl rfl) ?_
  refine ln (qn (xs ?_))
  refine xc (b := decide (v < (a4 : Int))) rfl (fun b2 => ?_) (fun b2 => ?_)
  ·replace H := H.1 b2
   refine xi (qn (xs (xb (xs (xr ?_)))))
   obtain ⟨a7, a8, d1, d2, c3, Hq⟩ := H
   subst d1
   have H := Hq; clear Hq
   refine lv rfl rfl (v := (ptr a7 (a8 + (Int.toNat v) * 4))) (vi TyTE.el32 rfl rfl d2 c3) ?_
   obtain ⟨a3, a0, a1, a2, c0, c1, c4, c7, H⟩ := H
   refine lv rfl rfl (vL (vs := [(.int .i64 a3), (.int .u64 a0), (.string a1), (.string a2)]) TyTE.agg36 TyTE.sz36 rfl (cc c0 (cc c1 (cc c4 (cc c7 cn))))) ?_
   refine lp rfl rfl (hn_alloc TyTE.z36 ?_)
   intro r h3 b4 b3
   have c2 := ext_pushed_f22_sh b3
   have c5 : Array.size h2 ≤ r := Nat.le_of_eq (Eq.symm b4)
   have b5 : h3[r]? = some (.cells #[(.int .i64 0), (.int .u64 0), (.string ByteArray.empty), (.string ByteArray.empty)] 36 (0, 0)) := by rw [b3]; exact push_new b4
   refine lp rfl rfl (hn_stores (vs := [(.int .i64 a3), (.int .u64 a0), (.string a1), (.string a2)]) rfl rfl TyTE.sz36 rfl (HWs_row b5 (by simp)) ?_)
   intro h4 b6
   have b8 : h4[r]? = some (.cells #[(.int .i64 a3), (.int .u64 a0), (.string a1), (.string a2)] 36 (0, 0)) := row_hsets_eq b6 b5 rfl
   have c6 := ext_hsets b6 c2 c5
   refine ln (qn (xr ?_))
   refine lv rfl rfl (vm rfl) (lv rfl rfl (v := (ptr r 2)) (vf TyTE.fld36_2 (b := r) (o := 0) rfl) (lv rfl rfl (vl TyTE.agg9 rfl (rc b8 rfl)) ?_))
   replace H := H h4 c6
   refine lp rfl rfl (sc TyTE.cb34 rfl (HC.mono H ?_))
   rintro _ h5 ⟨d3, b0, rfl, H⟩
   refine lp rfl rfl (sc TyTE.cb33 rfl (HC.mono H ?_))
   rintro _ h6 ⟨b9, rfl, H⟩
   refine ln (bn (qn (xr ?_)))
   refine lv rfl rfl (vr rfl rfl rfl) (lv rfl rfl (vm rfl) ?_)
   refine ln (qn ?_)
   exact ⟨IntKind.i64.wrap (v + 1), ⟨⟨H.1, trivial⟩, H.2⟩, (hc rfl (hc rfl (hc rfl (hc rfl hn))))⟩
  ·replace H := H.2 b2
   refine xe (qe (qe (bh (qn (xs (xr ?_))))))
   refine lv rfl rfl (vm rfl) (lv rfl rfl (va rfl) (lv rfl rfl (va rfl) ?_))
   refine ln (qn (xt ?_))
   exact endQ_ret _ (res_two Try.results17 (rv_tmp rfl) (rv_tmp rfl)) H
theorem f18_sh (a2 : Int) (a1 : Int) (l : Option Addr) (a0 : Nat) (a5 : Nat) (h : Heap) (R : Value → Heap → Prop)
  (H : HC Try.prog 30 #[(.int .i64 a2), (.int .i64 a1)] h (fun vv h1 => Ext h h1 ∧ ∃ r0 : Option Addr, ∃ r1 : Int, vv = (.tuple #[(.pointer r0), (.int .i64 r1)]) ∧ (((r1 != 0) = true → R (.tuple #[(.pointer none), (.int .i64 r1)]) h1) ∧ ((r1 != 0) = false → (∃ (I3 : Int → Heap → Prop) (a6 : Int → Heap → Nat), I3 0 h1 ∧ (∀ (i : Int) (h2 : Heap), I3 i h2 → (((decide (i < (a0 : Int))) = true → (∃ a3 a4 : Nat, l = some ⟨a3, a4, none⟩ ∧ (0 : Int) ≤ i ∧ i < (a0 : Int) ∧ (∃ x : ByteArray, hcell h2 a3 ((a4 + (Int.toNat i) * 4) + 2) = some (.string x) ∧ HC Try.prog 36 #[(.string x)] h2 (fun vv h3 => Ext h2 h3 ∧ ∃ r : Int, vv = (.int .u64 r) ∧ HC Try.prog 35 #[(.pointer r0), (.int .u64 r)] h3 (fun vv h4 => ∃ a9 : Bool, vv = (.bool a9) ∧ (I3 (IntKind.i64.wrap (i + 1)) h4 ∧ a6 (IntKind.i64.wrap (i + 1)) h4 < a6 i h2)))))) ∧ ((decide (i < (a0 : Int))) = false → R (.tuple #[(.pointer r0), (.int .i64 0)]) h2)))))))) :
  HC Try.prog 18 #[(.int .i64 a2), (.int .i64 a1), (.slice l a0 a5)] h R := by
 refine hc_of (args := [(.int .i64 a2), (.int .i64 a1), (.slice l a0 a5)]) Try.func18 rfl Try.ntmps18 (Nat.le_of_ble_eq_true rfl) ?_
 refine xs (xr ?_)
 refine lv rfl rfl (va rfl) (lv rfl rfl (va rfl) ?_)
 refine ln (qn (xs (xr ?_)))
 refine lv rfl rfl (vm rfl) (lv rfl rfl (vm rfl) ?_)
 refine lp rfl rfl (sc TyTE.cb30 rfl (HC.mono H ?_))
 rintro _ h1 ⟨b8, r0, r1, rfl, H⟩
 refine lv rfl rfl (vm rfl) (lv rfl rfl (vx rfl rfl) (lv rfl rfl (vx rfl rfl) (lv rfl rfl (va rfl) (lv rfl rfl (va rfl) ?_))))
 refine ln (qn (xs (xs (xr ?_))))
 refine lv rfl rfl (vm rfl) (lv rfl rfl (vr rfl rfl rfl) ?_)
 refine ln (qn ?_)
 refine xc (b := r1 != 0) rfl (fun a8 => ?_) (fun a8 => ?_)
 ·replace H := H.1 a8
  refine xs (xr ?_)
  refine lv rfl rfl (vm rfl) (lv rfl rfl (va rfl) (lv rfl rfl (va rfl) ?_))
  refine ln (qn (xt (qr ?_)))
  exact endQ_ret _ (res_two Try.results18 (rv_tmp rfl) (rv_tmp rfl)) H
 ·replace H := H.2 a8
  refine xi (qn (xs (xs (xr ?_))))
  refine lv rfl rfl (va rfl) ?_
  refine ln (qn (xb ?_))
  obtain ⟨I3, a6, b3, b2⟩ := H
  refine xl (σ := Int) (fun s => [(2, (.slice l a0 a5)), (8, (.pointer r0)), (10, (.int .i64 s))]) (fun s h' => I3 s h' ∧ True) (fun s h' => a6 s h') 0 ⟨b3, trivial⟩ (hc rfl (hc rfl (hc rfl hn))) ?_
  rintro i ρ h2 ⟨b4, -⟩
  have H := b2 i h2 b4
  refine xs (xs (xr ?_))
  refine lv rfl rfl (vm rfl) (lv rfl rfl (vm rfl) (lv rfl rfl (v := (.int .i64 (a0 : Int))) (hv_len (n := a0) TyTE.u32 rfl) (lv rfl rfl (vr rfl rfl rfl) ?_)))
  refine ln (qn ?_)
  refine xc (b := decide (i < (a0 : Int))) rfl (fun a7 => ?_) (fun a7 => ?_)
  ·replace H := H.1 a7
   refine xi (qn (xs (xb (xr ?_))))
   refine lv rfl rfl (vm rfl) (lv rfl rfl (vm rfl) (lv rfl rfl (vm rfl) ?_))
   obtain ⟨a3, a4, b6, b5, b1, Hq⟩ := H
   subst b6
   have H := Hq; clear Hq
   refine lv rfl rfl (v := (ptr a3 (a4 + (Int.toNat i) * 4))) (vi TyTE.el32 rfl rfl b5 b1) (lv rfl rfl (v := (ptr a3 ((a4 + (Int.toNat i) * 4) + 2))) (vf TyTE.fld36_2 (b := a3) (o := a4 + (Int.toNat i) * 4) rfl) ?_)
   obtain ⟨x, b0, H⟩ := H
   refine lv rfl rfl (vl TyTE.agg9 rfl b0) ?_
   refine lp rfl rfl (sc TyTE.cb36 rfl (HC.mono H ?_))
   rintro _ h3 ⟨b7, r, rfl, H⟩
   refine lp rfl rfl (sc TyTE.cb35 rfl (HC.mono H ?_))
   rintro _ h4 ⟨a9, rfl, H⟩
   refine ln (bn (qn (xr ?_)))
   refine lv rfl rfl (vm rfl) (lv rfl rfl (vr rfl rfl rfl) (lv rfl rfl (va rfl) ?_))
   refine ln (qn ?_)
   exact ⟨IntKind.i64.wrap (i + 1), ⟨⟨H.1, trivial⟩, H.2⟩, (hc rfl (hc rfl (hc rfl hn)))⟩
  ·replace H := H.2 a7
   refine xe (qe (qe (bh (qn (xs (xr ?_))))))
   refine lv rfl rfl (vm rfl) (lv rfl rfl (va rfl) (lv rfl rfl (va rfl) ?_))
   refine ln (qn (xt ?_))
   exact endQ_ret _ (res_two Try.results18 (rv_tmp rfl) (rv_tmp rfl)) H
theorem f40_sh (a2 : Nat) (a3 : Nat) (a1 : Nat) (a0 : Nat) (h : Heap) (R : Value → Heap → Prop)
  (H : (∃ x : ByteArray, hcell h a1 a0 = some (.string x) ∧ HC Try.prog 34 #[(.string x)] h (fun vv h1 => Ext h h1 ∧ ∃ r : Int, vv = (.int .u64 r) ∧ HC Try.prog 41 #[(ptr a2 a3), (.int .u64 r)] h1 (fun vv h2 => ∃ a4 : Bool, vv = (.bool a4) ∧ R (.bool a4) h2)))) :
  HC Try.prog 40 #[(ptr a2 a3), (ptr a1 a0)] h R := by
 refine hc_of (args := [(ptr a2 a3), (ptr a1 a0)]) Try.func40 rfl Try.ntmps40 (Nat.le_of_ble_eq_true rfl) ?_
 refine xs (xr ?_)
 refine lv rfl rfl (va rfl) ?_
 refine ln (qn (xs (xr ?_)))
 refine lv rfl rfl (vm rfl) ?_
 obtain ⟨x, a5, H⟩ := H
 refine lv rfl rfl (vl TyTE.agg9 rfl a5) ?_
 refine lp rfl rfl (sc TyTE.cb34 rfl (HC.mono H ?_))
 rintro _ h1 ⟨a6, r, rfl, H⟩
 refine lp rfl rfl (sc TyTE.cb41 rfl (HC.mono H ?_))
 rintro _ h2 ⟨a4, rfl, H⟩
 refine lv rfl rfl (va rfl) ?_
 refine ln (qn (xt ?_))
 exact endQ_ret _ (res_one Try.results40 (rv_tmp rfl)) H
theorem f56_sh (sv : Option Addr) (a0 : Nat) (a3 : Nat) (f : Value) (h : Heap) (R : Value → Heap → Prop)
  (H : (∃ (I1 : Int → Heap → Prop) (a5 : Int → Heap → Nat), I1 0 h ∧ (∀ (v : Int) (h1 : Heap), I1 v h1 → (((decide (v < (a0 : Int))) = true → (∃ a2 a1 : Nat, sv = some ⟨a2, a1, none⟩ ∧ (0 : Int) ≤ v ∧ v < (a0 : Int) ∧ (∃ x : Option Addr, hcell h1 a2 (a1 + (Int.toNat v) * 1) = some (.pointer x) ∧ HCV Try.prog f [(.pointer x)] h1 (fun vv h2 => ∃ r : Bool, vv = (.bool r) ∧ ((r = true → R (.int .i64 v) h2) ∧ (r = false → (I1 (IntKind.i64.wrap (v + 1)) h2 ∧ a5 (IntKind.i64.wrap (v + 1)) h2 < a5 v h1))))))) ∧ ((decide (v < (a0 : Int))) = false → R (.int .i64 (-1)) h1))))) :
  HC Try.prog 56 #[(.slice sv a0 a3), f] h R := by
 refine hc_of (args := [(.slice sv a0 a3), f]) Try.func56 rfl Try.ntmps56 (Nat.le_of_ble_eq_true rfl) ?_
 refine xs (xr ?_)
 refine lv rfl rfl (va rfl) ?_
 refine ln (qn (xs (xs (xr ?_))))
 refine lv rfl rfl (vm rfl) (lv rfl rfl (v := (.int .i64 (a0 : Int))) (hv_len (n := a0) TyTE.u57 rfl) (lv rfl rfl (vm rfl) ?_))
 refine ln (qn (xb ?_))
 obtain ⟨I1, a5, b1, a8⟩ := H
 refine xl (σ := Int) (fun s => [(0, (.slice sv a0 a3)), (1, f), (7, (.int .i64 (a0 : Int))), (8, (.int .i64 s))]) (fun s h' => I1 s h' ∧ True) (fun s h' => a5 s h') 0 ⟨b1, trivial⟩ (hc rfl (hc rfl (hc rfl (hc rfl hn)))) ?_
 rintro v ρ h1 ⟨b3, -⟩
 have H := a8 v h1 b3
 refine xs (xr ?_)
 refine lv rfl rfl (vr rfl rfl rfl) ?_
 refine ln (qn (xs ?_))
 refine xc (b := decide (v < (a0 : Int))) rfl (fun a6 => ?_) (fun a6 => ?_)
 ·replace H := H.1 a6
  refine xi (qn (xs (xb (xs (xr ?_)))))
  refine lv rfl rfl (vm rfl) (lv rfl rfl (va rfl) ?_)
  refine ln (qn (xs (xr ?_)))
  refine lv rfl rfl (vm rfl) (lv rfl rfl (vm rfl) (lv rfl rfl (vm rfl) ?_))
  obtain ⟨a2, a1, b2, a7, b0, Hq⟩ := H
  subst b2
  have H := Hq; clear Hq
  refine lv rfl rfl (v := (ptr a2 (a1 + (Int.toNat v) * 1))) (vi TyTE.el57 rfl rfl a7 b0) ?_
  obtain ⟨x, a9, H⟩ := H
  refine lv rfl rfl (vl TyTE.agg47 rfl a9) ?_
  refine lp rfl rfl (hs_callF (vs := [(.pointer x)]) rfl rfl (HCV.mono H ?_))
  rintro _ h2 ⟨r, rfl, H⟩
  refine ln (qn ?_)
  refine xc (b := r) rfl (fun a4 => ?_) (fun a4 => ?_)
  ·replace H := H.1 a4
   refine xs (xr ?_)
   refine lv rfl rfl (vm rfl) (lv rfl rfl (va rfl) ?_)
   refine ln (qn (xt (br (qr (qr (br (qr ?_)))))))
   exact endQ_ret _ (res_one Try.results56 (rv_tmp rfl)) H
  ·replace H := H.2 a4
   refine xi (bn (qn (xr ?_)))
   refine lv rfl rfl (vr rfl rfl rfl) (lv rfl rfl (vm rfl) ?_)
   refine ln (qn ?_)
   exact ⟨IntKind.i64.wrap (v + 1), ⟨⟨H.1, trivial⟩, H.2⟩, (hc rfl (hc rfl (hc rfl (hc rfl hn))))⟩
 ·replace H := H.2 a6
  refine xe (qe (qe (bh (qn (xs (xr ?_))))))
  refine lv rfl rfl (va rfl) ?_
  refine ln (qn (xt ?_))
  exact endQ_ret _ (res_one Try.results56 (rv_tmp rfl)) H
theorem f42_sh (sv : Option Addr) (a1 : Nat) (a0 : Nat) (f : Value) (h : Heap) (R : Value → Heap → Prop)
  (H : HC Try.prog 56 #[(.slice sv a1 a0), f] h (fun vv h1 => ∃ r : Int, vv = (.int .i64 r) ∧ R (.bool (decide (r ≥ 0))) h1)) :
  HC Try.prog 42 #[(.slice sv a1 a0), f] h R := by
 refine hc_of (args := [(.slice sv a1 a0), f]) Try.func42 rfl Try.ntmps42 (Nat.le_of_ble_eq_true rfl) ?_
 refine xs (xr ?_)
 refine lv rfl rfl (va rfl) ?_
 refine ln (qn (xs (xr ?_)))
 refine lv rfl rfl (vm rfl) (lv rfl rfl (vm rfl) ?_)
 refine lp rfl rfl (sc TyTE.cb56 rfl (HC.mono H ?_))
 rintro _ h1 ⟨r, rfl, H⟩
 refine lv rfl rfl (vr rfl rfl rfl) (lv rfl rfl (va rfl) ?_)
 refine ln (qn (xt ?_))
 exact endQ_ret _ (res_one Try.results42 (rv_tmp rfl)) H
theorem f21_sh (l : Option Addr) (b4 : Nat) (e3 : Nat) (b1 : Option Addr) (a5 : Nat) (a4 : Nat) (h : Heap) (R : Value → Heap → Prop)
  (H : (∀ mb h1, mb = Array.size h → Ext h h1 → Array.size h1 = Array.size h + 1 → MapL h1 mb Value.string [] → (∃ (I5 : Int → Heap → Prop) (e1 : Int → Heap → Nat), I5 0 h1 ∧ (∀ (v : Int) (h2 : Heap), I5 v h2 → (((decide (v < (b4 : Int))) = true → (∃ c1 c2 : Nat, l = some ⟨c1, c2, none⟩ ∧ (0 : Int) ≤ v ∧ v < (b4 : Int) ∧ (∃ b2 a0 : Int, ∃ a3 b0 : ByteArray, hcell h2 c1 (c2 + (Int.toNat v) * 4) = some (.int .i64 b2) ∧ hcell h2 c1 ((c2 + (Int.toNat v) * 4) + 1) = some (.int .u64 a0) ∧ hcell h2 c1 ((c2 + (Int.toNat v) * 4) + 2) = some (.string a3) ∧ hcell h2 c1 ((c2 + (Int.toNat v) * 4) + 3) = some (.string b0) ∧ (∃ kv : List (ByteArray × Value), MapL h2 mb Value.string kv ∧ ∃ x : Int, (lk kv a3).getD (.int .u64 0) = (.int .u64 x) ∧ (∀ (h4 : Heap), Ext h2 h4 → (∃ c7 : List (ByteArray × Value), MapL h4 mb Value.string c7 ∧ ∀ h5, Only mb h4 h5 → MapL h5 mb Value.string (kput c7 a3 (.int .u64 (if a0 > x then a0 else x))) → (I5 (IntKind.i64.wrap (v + 1)) h5 ∧ e1 (IntKind.i64.wrap (v + 1)) h5 < e1 v h2))))))) ∧ ((decide (v < (b4 : Int))) = false → HC Try.prog 39 #[(.map (some mb))] h2 (fun vv h6 => ∃ r : Value, vv = r ∧ HC Try.prog 38 #[r] h6 (fun vv h7 => ∃ d0 : Option Addr, ∃ b3 e2 : Nat, vv = (.slice d0 b3 e2) ∧ (∃ (d2 : Option Addr → Nat → Nat → Int → Heap → Prop) (c6 : Option Addr → Nat → Nat → Int → Heap → Nat), d2 none 0 0 0 h7 ∧ (∀ (b7 : Option Addr) (a7 : Nat) (a8 : Nat) (a6 : Int) (h8 : Heap), d2 b7 a7 a8 a6 h8 → (((decide (a6 < (b3 : Int))) = true → (∃ d3 : Option Addr → Nat → Nat → Heap → Prop, (∃ b9 c0 : Nat, d0 = some ⟨b9, c0, none⟩ ∧ (0 : Int) ≤ a6 ∧ a6 < (b3 : Int) ∧ (∃ x : ByteArray, hcell h8 b9 (c0 + (Int.toNat a6) * 1) = some (.string x) ∧ (∀ b6 c4, b6 = Array.size h8 → c4 = Array.push h8 (.cells #[(.string ByteArray.empty)] 9) → (HW c4 b6 0 ∧ ∀ e0, e0 = hset c4 b6 0 (.string x) → HC Try.prog 42 #[(.slice b1 a5 a4), (.func (.func 40) #[] #[(ptr b6 0)])] e0 (fun vv c3 => ∃ d1 : Bool, vv = (.bool d1) ∧ ((d1 = true → (∃ b5 : ByteArray, hcell c3 b6 0 = some (.string b5) ∧ (∃ kv : List (ByteArray × Value), MapL c3 mb Value.string kv ∧ ∃ b8 : Int, (lk kv b5).getD (.int .u64 0) = (.int .u64 b8) ∧ (∀ nb d4, nb = Array.size c3 → d4 = Array.push c3 (.cells #[(.int .i64 2), (.int .u64 b8), (.string b5), (.string ByteArray.empty)] 36) → HAppend Try.prog 32 32 (.slice b7 a7 a8) (.slice (some ⟨nb, 0, none⟩) 1 1) d4 (fun vv f3 => ∃ ap : Option Addr, ∃ c5 c9 : Nat, vv = (.slice ap c5 c9) ∧ (d3 ap c5 c9 f3)))))) ∧ (d1 = false → (d3 b7 a7 a8 c3)))))))) ∧ (∀ (a9 : Option Addr) (a1 : Nat) (a2 : Nat) (h9 : Heap), d3 a9 a1 a2 h9 → (d2 a9 a1 a2 (IntKind.i64.wrap (a6 + 1)) h9 ∧ c6 a9 a1 a2 (IntKind.i64.wrap (a6 + 1)) h9 < c6 b7 a7 a8 a6 h8)))) ∧ ((decide (a6 < (b3 : Int))) = false → R (.slice b7 a7 a8) h8)))))))))))) :
  HC Try.prog 21 #[(.slice l b4 e3), (.slice b1 a5 a4)] h R := by
 refine hc_of (args := [(.slice l b4 e3), (.slice b1 a5 a4)]) Try.func21 rfl Try.ntmps21 (Nat.le_of_ble_eq_true rfl) ?_
 refine xs (xr ?_)
 refine lv rfl rfl (va rfl) ?_
 refine ln (qn (xs (xr ?_)))
 refine lp rfl rfl (hn_makeMap (enc := Value.string) ?_)
 intro mb h1 j1 j0 j3 j5
 replace H := H mb h1 j1 j0 j3 j5
 refine lv rfl rfl (va rfl) ?_
 refine ln (qn (xs (xs (xr ?_))))
 refine lv rfl rfl (vm rfl) (lv rfl rfl (v := (.int .i64 (b4 : Int))) (hv_len (n := b4) TyTE.u32 rfl) (lv rfl rfl (vm rfl) ?_))
 refine ln (qn (xb ?_))
 obtain ⟨I5, e1, j4, j6⟩ := H
 refine xl (σ := Int) (fun s => [(1, (.slice b1 a5 a4)), (5, (.map (some mb))), (13, (.slice l b4 e3)), (14, (.int .i64 (b4 : Int))), (15, (.int .i64 s))]) (fun s h' => I5 s h' ∧ True) (fun s h' => e1 s h') 0 ⟨j4, trivial⟩ (hc rfl (hc rfl (hc rfl (hc rfl (hc rfl hn))))) ?_
 rintro v ρ h2 ⟨j2, -⟩
 have H := j6 v h2 j2
 refine xs (xr ?_)
 refine lv rfl rfl (vr rfl rfl rfl) ?_
 refine ln (qn (xs ?_))
 refine xc (b := decide (v < (b4 : Int))) rfl (fun d5 => ?_) (fun d5 => ?_)
 ·replace H := H.1 d5
  refine xi (qn (xs (xb (xs (xr ?_)))))
  obtain ⟨c1, c2, e5, f7, i3, Hq⟩ := H
  subst e5
  have H := Hq; clear Hq
  refine lv rfl rfl (v := (ptr c1 (c2 + (Int.toNat v) * 4))) (vi TyTE.el32 rfl rfl f7 i3) ?_
  obtain ⟨b2, a0, a3, b0, g6, i5, i2, i6, H⟩ := H
  refine lv rfl rfl (vL (vs := [(.int .i64 b2), (.int .u64 a0), (.string a3), (.string b0)]) TyTE.agg36 TyTE.sz36 rfl (cc g6 (cc i5 (cc i2 (cc i6 cn))))) ?_
  refine lp rfl rfl (hn_alloc TyTE.z36 ?_)
  intro r h3 f2 e8
  have i1 := ext_pushed_f22_sh e8
  have g4 : Array.size h2 ≤ r := Nat.le_of_eq (Eq.symm f2)
  have f1 : h3[r]? = some (.cells #[(.int .i64 0), (.int .u64 0), (.string ByteArray.empty), (.string ByteArray.empty)] 36 (0, 0)) := by rw [e8]; exact push_new f2
  refine lp rfl rfl (hn_stores (vs := [(.int .i64 b2), (.int .u64 a0), (.string a3), (.string b0)]) rfl rfl TyTE.sz36 rfl (HWs_row f1 (by simp)) ?_)
  intro h4 e9
  have c8 : h4[r]? = some (.cells #[(.int .i64 b2), (.int .u64 a0), (.string a3), (.string b0)] 36 (0, 0)) := row_hsets_eq e9 f1 rfl
  have e7 := ext_hsets e9 i1 g4
  refine ln (qn (xr ?_))
  refine lv rfl rfl (vm rfl) (lv rfl rfl (v := (ptr r 2)) (vf TyTE.fld36_2 (b := r) (o := 0) rfl) (lv rfl rfl (vl TyTE.agg9 rfl (rc c8 rfl)) (lv rfl rfl (vm rfl) (lv rfl rfl (v := (ptr r 2)) (vf TyTE.fld36_2 (b := r) (o := 0) rfl) (lv rfl rfl (vl TyTE.agg9 rfl (rc c8 rfl)) ?_)))))
  obtain ⟨kv, g9, x, g0, H⟩ := H
  refine lv rfl rfl (v := (.int .u64 x)) (hv_look (l := kv) (a := a3) strK TyTE.u81 TyTE.u9 TyTE.z31 rfl rfl (MapL.ext e7 g9) g0) (lv rfl rfl (v := (ptr r 1)) (vf TyTE.fld36_1 (b := r) (o := 0) rfl) (lv rfl rfl (vl TyTE.agg31 rfl (rc c8 rfl)) (lv rfl rfl (v := (.int .u64 (if a0 > x then a0 else x))) (hv_max rfl rfl) ?_)))
  replace H := H h4 e7
  obtain ⟨c7, f6, H⟩ := H
  refine lp rfl rfl (hn_mapPut (l := c7) (a := a3) strK TyTE.u81 TyTE.u9 rfl rfl rfl f6 ?_)
  intro h5 g7 f9
  replace H := H h5 g7 f9
  refine ln (bn (qn (xr ?_)))
  refine lv rfl rfl (vr rfl rfl rfl) (lv rfl rfl (vm rfl) ?_)
  refine ln (qn ?_)
  exact ⟨IntKind.i64.wrap (v + 1), ⟨⟨H.1, trivial⟩, H.2⟩, (hc rfl (hc rfl (hc rfl (hc rfl (hc rfl hn)))))⟩
 ·replace H := H.2 d5
  refine xe (qe (qe (bh (qn (xs (xr ?_))))))
  refine lv rfl rfl (va rfl) ?_
  refine ln (qn (xs (xs (xr ?_))))
  refine lv rfl rfl (vm rfl) ?_
  refine lp rfl rfl (sc TyTE.cb39 rfl (HC.mono H ?_))
  rintro r h6 ⟨_, rfl, H⟩
  refine lp rfl rfl (sc TyTE.cb38 rfl (HC.mono H ?_))
  rintro _ h7 ⟨d0, b3, e2, rfl, H⟩
  refine lv rfl rfl (v := (.int .i64 (b3 : Int))) (hv_len (n := b3) TyTE.u82 rfl) (lv rfl rfl (vm rfl) ?_)
  refine ln (qn (xb ?_))
  obtain ⟨d2, c6, g3, i8⟩ := H
  refine xl (σ := Option Addr × Nat × Nat × Int) (fun s => [(1, (.slice b1 a5 a4)), (5, (.map (some mb))), (8, (.slice s.1 s.2.1 s.2.2.1)), (32, (.slice d0 b3 e2)), (33, (.int .i64 (b3 : Int))), (34, (.int .i64 s.2.2.2))]) (fun s h' => d2 s.1 s.2.1 s.2.2.1 s.2.2.2 h' ∧ True) (fun s h' => c6 s.1 s.2.1 s.2.2.1 s.2.2.2 h') (none, 0, 0, 0) ⟨g3, trivial⟩ (hc rfl (hc rfl (hc rfl (hc rfl (hc rfl (hc rfl hn)))))) ?_
  rintro ⟨b7, a7, a8, a6⟩ ρ h8 ⟨g2, -⟩
  have H := i8 b7 a7 a8 a6 h8 g2
  refine xs (xr ?_)
  refine lv rfl rfl (vr rfl rfl rfl) ?_
  refine ln (qn (xs ?_))
  refine xc (b := decide (a6 < (b3 : Int))) rfl (fun d9 => ?_) (fun d9 => ?_)
  ·replace H := H.1 d9
   refine xi (qn ?_)
   obtain ⟨d3, d8, d7⟩ := H
   refine xk (fun ρ h' => ∃ a9 : Option Addr, ∃ a1 a2 : Nat, (d3 a9 a1 a2 h' ∧ True) ∧ Has ρ [(1, (.slice b1 a5 a4)), (5, (.map (some mb))), (8, (.slice a9 a1 a2)), (32, (.slice d0 b3 e2)), (33, (.int .i64 (b3 : Int))), (34, (.int .i64 a6))]) ?_ ?_
   ·have H := d8; clear d8 d7
    refine xb (xs (xr ?_))
    obtain ⟨b9, c0, e5, i9, i7, Hq⟩ := H
    subst e5
    have H := Hq; clear Hq
    refine lv rfl rfl (v := (ptr b9 (c0 + (Int.toNat a6) * 1))) (vi TyTE.el82 rfl rfl i9 i7) ?_
    obtain ⟨x, g5, H⟩ := H
    refine lv rfl rfl (vl TyTE.agg9 rfl g5) ?_
    refine lp rfl rfl (hn_alloc TyTE.z9 ?_)
    intro b6 c4 g8 f0
    replace H := H b6 c4 g8 f0
    have j8 := ext_pushed_f22_sh f0
    obtain ⟨g1, H⟩ := H
    refine lp rfl rfl (hn_store (v := (.string x)) rfl rfl TyTE.sz9 rfl g1 ?_)
    intro e0 i4
    replace H := H e0 i4
    refine ln (qn (xs (xr ?_)))
    refine lv rfl rfl (v := (.func (.func 40) #[] #[(ptr b6 0)])) (hv_makeFunc (fv := []) (cv := [(ptr b6 0)]) rfl rfl) (lv rfl rfl (va rfl) ?_)
    refine ln (qn (xs (xr ?_)))
    refine lv rfl rfl (vm rfl) (lv rfl rfl (vm rfl) ?_)
    refine lp rfl rfl (sc TyTE.cb42 rfl (HC.mono H ?_))
    rintro _ c3 ⟨d1, rfl, H⟩
    refine ln (qn ?_)
    refine xc (b := d1) rfl (fun d6 => ?_) (fun d6 => ?_)
    ·replace H := H.1 d6
     refine xr ?_
     refine lv rfl rfl (vm rfl) (lv rfl rfl (vm rfl) ?_)
     obtain ⟨b5, e6, H⟩ := H
     refine lv rfl rfl (vl TyTE.agg9 rfl e6) ?_
     obtain ⟨kv, f8, b8, i0, H⟩ := H
     refine lv rfl rfl (v := (.int .u64 b8)) (hv_look (l := kv) (a := b5) strK TyTE.u81 TyTE.u9 TyTE.z31 rfl rfl f8 i0) (lv rfl rfl (vl TyTE.agg9 rfl e6) (lv rfl rfl (v := (.agg #[(.int .i64 2), (.int .u64 b8), (.string b5), (.string ByteArray.empty)])) (vb (vs := [(0, (.int .i64 2)), (1, (.int .u64 b8)), (2, (.string b5))]) (cs := #[(.int .i64 2), (.int .u64 b8), (.string b5), (.string ByteArray.empty)]) TyTE.z36 TyTE.pl36 rfl (by kernel_rfl)) ?_))
     refine lp rfl rfl (hn_buildSlice (n := 1) (vs := [(0, (.agg #[(.int .i64 2), (.int .u64 b8), (.string b5), (.string ByteArray.empty)]))]) (cs := #[(.int .i64 2), (.int .u64 b8), (.string b5), (.string ByteArray.empty)]) TyTE.u32 TyTE.sz36 TyTE.z36 rfl rfl (by kernel_rfl) ?_)
     intro nb d4 f5 e4
     replace H := H nb d4 f5 e4
     have j7 := ext_pushed_f22_sh e4
     refine lp rfl rfl (hs_append rfl rfl (HAppend.mono H ?_))
     rintro _ f3 ⟨ap, c5, c9, rfl, H⟩
     refine lv rfl rfl (va rfl) ?_
     refine ln (bn (qn ?_))
     exact ⟨_, _, _, ⟨H, trivial⟩, (hc rfl (hc rfl (hc rfl (hc rfl (hc rfl (hc rfl hn))))))⟩
    ·replace H := H.2 d6
     refine xi (bn (qn ?_))
     exact ⟨_, _, _, ⟨H, trivial⟩, (hc rfl (hc rfl (hc rfl (hc rfl (hc rfl (hc rfl hn))))))⟩
   ·rintro ρ h9 ⟨a9, a1, a2, ⟨f4, -⟩, hH⟩
    have H := d7 a9 a1 a2 h9 f4; clear d8 d7
    refine xh _ hH ?_
    refine xr ?_
    refine lv rfl rfl (vr rfl rfl rfl) (lv rfl rfl (vm rfl) ?_)
    refine ln (qn ?_)
    exact ⟨(a9, a1, a2, IntKind.i64.wrap (a6 + 1)), ⟨⟨H.1, trivial⟩, H.2⟩, (hc rfl (hc rfl (hc rfl (hc rfl (hc rfl (hc rfl hn))))))⟩
  ·replace H := H.2 d9
   refine xe (qe (qe (bh (qn (xs (xr ?_))))))
   refine lv rfl rfl (vm rfl) (lv rfl rfl (va rfl) ?_)
   refine ln (qn (xt ?_))
   exact endQ_ret _ (res_one Try.results21 (rv_tmp rfl)) H
theorem f22_sh (l : Option Addr) (b7 : Nat) (c7 : Nat) (c3 : Option Addr) (a4 : Nat) (b2 : Nat) (h : Heap) (R : Value → Heap → Prop)
  (H : (∃ (I1 : Option Addr → Nat → Nat → Int → Heap → Prop) (i2 : Option Addr → Nat → Nat → Int → Heap → Nat), I1 none 0 0 0 h ∧ (∀ (b8 : Option Addr) (a0 : Nat) (a1 : Nat) (i : Int) (h1 : Heap), I1 b8 a0 a1 i h1 → (((decide (i < (b7 : Int))) = true → (∃ A9 : Option Addr → Nat → Nat → Heap → Prop, (∃ (f7 : Int → Prop) (f5 : Int → Nat), f7 0 ∧ (∀ (k : Int), f7 k → (∃ j : Bool, (((decide (k < (a0 : Int))) = true → (∃ e0 d8 : Nat, b8 = some ⟨e0, d8, none⟩ ∧ (0 : Int) ≤ k ∧ k < (a0 : Int) ∧ (∃ x : ByteArray, hcell h1 e0 ((d8 + (Int.toNat k) * 4) + 2) = some (.string x) ∧ (∃ e9 f2 : Nat, l = some ⟨e9, f2, none⟩ ∧ (0 : Int) ≤ i ∧ i < (b7 : Int) ∧ (∃ f3 : ByteArray, hcell h1 e9 ((f2 + (Int.toNat i) * 4) + 2) = some (.string f3) ∧ (j = (slt x f3))))))) ∧ ((decide (k < (a0 : Int))) = false → (j = false))) ∧ ((j = true → (f7 (IntKind.i64.wrap (k + 1)) ∧ f5 (IntKind.i64.wrap (k + 1)) < f5 k)) ∧ (j = false → (∃ e7 : Bool, (((decide (k < (a0 : Int))) = true → (∃ d1 d2 : Nat, b8 = some ⟨d1, d2, none⟩ ∧ (0 : Int) ≤ k ∧ k < (a0 : Int) ∧ (∃ f1 : ByteArray, hcell h1 d1 ((d2 + (Int.toNat k) * 4) + 2) = some (.string f1) ∧ (∃ e1 d9 : Nat, l = some ⟨e1, d9, none⟩ ∧ (0 : Int) ≤ i ∧ i < (b7 : Int) ∧ (∃ f4 : ByteArray, hcell h1 e1 ((d9 + (Int.toNat i) * 4) + 2) = some (.string f4) ∧ (e7 = (decide (f1 = f4)))))))) ∧ ((decide (k < (a0 : Int))) = false → (e7 = false))) ∧ ((e7 = true → (∃ f8 : Heap → Prop, (∃ a3 a2 : Nat, l = some ⟨a3, a2, none⟩ ∧ (0 : Int) ≤ i ∧ i < (b7 : Int) ∧ (∃ a5 : Int, hcell h1 a3 ((a2 + (Int.toNat i) * 4) + 1) = some (.int .u64 a5) ∧ (∃ b1 b0 : Nat, b8 = some ⟨b1, b0, none⟩ ∧ (0 : Int) ≤ k ∧ k < (a0 : Int) ∧ (∃ b5 : Int, hcell h1 b1 ((b0 + (Int.toNat k) * 4) + 1) = some (.int .u64 b5) ∧ (((decide (a5 > b5)) = true → (HW h1 b1 ((b0 + (Int.toNat k) * 4) + 1) ∧ ∀ h4, h4 = hset h1 b1 ((b0 + (Int.toNat k) * 4) + 1) (.int .u64 a5) → (f8 h4))) ∧ ((decide (a5 > b5)) = false → (f8 h1))))))) ∧ (∀ (h3 : Heap), f8 h3 → (A9 b8 a0 a1 h3)))) ∧ (e7 = false → (∃ (e5 : Bool → Int → Heap → Prop) (d7 : Bool → Int → Heap → Nat), e5 false 0 h1 ∧ (∀ (d6 : Bool) (a9 : Int) (h5 : Heap), e5 d6 a9 h5 → (((decide (a9 < (a4 : Int))) = true → ((d6 = true → (e5 true (IntKind.i64.wrap (a9 + 1)) h5 ∧ d7 true (IntKind.i64.wrap (a9 + 1)) h5 < d7 d6 a9 h5)) ∧ (d6 = false → (∃ d0 c9 : Nat, c3 = some ⟨d0, c9, none⟩ ∧ (0 : Int) ≤ a9 ∧ a9 < (a4 : Int) ∧ (∃ a5 : Option Addr, hcell h5 d0 (c9 + (Int.toNat a9) * 1) = some (.pointer a5) ∧ ((a5.isSome = true → (∃ a3 a2 : Nat, l = some ⟨a3, a2, none⟩ ∧ (0 : Int) ≤ i ∧ i < (b7 : Int) ∧ (∃ b5 : ByteArray, hcell h5 a3 ((a2 + (Int.toNat i) * 4) + 2) = some (.string b5) ∧ HC Try.prog 36 #[(.string b5)] h5 (fun vv h6 => Ext h5 h6 ∧ ∃ r : Int, vv = (.int .u64 r) ∧ (∃ e3 : Bool, (∀ h7, Ext h6 h7 → HC Try.prog 43 #[(.pointer a5), (.int .u64 r)] h7 (fun vv h' => vv = (.bool e3) ∧ h' = h7)) ∧ (e5 e3 (IntKind.i64.wrap (a9 + 1)) h6 ∧ d7 e3 (IntKind.i64.wrap (a9 + 1)) h6 < d7 d6 a9 h5)))))) ∧ (a5.isSome = false → (e5 false (IntKind.i64.wrap (a9 + 1)) h5 ∧ d7 false (IntKind.i64.wrap (a9 + 1)) h5 < d7 d6 a9 h5)))))))) ∧ ((decide (a9 < (a4 : Int))) = false → ((d6 = true → (∃ e4 : Heap → Heap → Prop, Fit e4 ∧ (0 ≤ ((0 : Int) : Int) ∧ (0 : Int) ≤ k ∧ k ≤ (a1 : Int) ∧ ∀ sl : Option Addr, sl = slA b8 (Int.toNat 0) 4 a1 → (∃ a3 a2 : Nat, l = some ⟨a3, a2, none⟩ ∧ (0 : Int) ≤ i ∧ i < (b7 : Int) ∧ (∃ a5 : Int, (∀ hx, e4 h5 hx → hcell hx a3 ((a2 + (Int.toNat i) * 4) + 1) = some (.int .u64 a5)) ∧ (∃ b5 : ByteArray, (∀ hx, e4 h5 hx → hcell hx a3 ((a2 + (Int.toNat i) * 4) + 2) = some (.string b5)) ∧ (0 ≤ (k : Int) ∧ k ≤ (a0 : Int) ∧ (a0 : Int) ≤ (a1 : Int) ∧ ∀ e2 : Option Addr, e2 = slA b8 (Int.toNat k) 4 a1 → (((∀ nb h8, nb = Array.size h5 → h8 = Array.push h5 (.cells #[] 36) → ((HAppend Try.prog 32 32 (.slice (some ⟨nb, 0, none⟩) 0 0) (.slice sl (Int.toNat k - Int.toNat 0) (a1 - Int.toNat 0)) h8 (fun vv h9 => e4 h8 h9 ∧ ∃ ap : Option Addr, ∃ d3 d5 : Nat, vv = (.slice ap d3 d5) ∧ (∀ c4 f6, c4 = Array.size h9 → f6 = Array.push h9 (.cells #[(.int .i64 2), (.int .u64 a5), (.string b5), (.string ByteArray.empty)] 36) → HAppend Try.prog 32 32 (.slice ap d3 d5) (.slice (some ⟨c4, 0, none⟩) 1 1) f6 (fun vv k7 => ∃ d4 : Option Addr, ∃ c0 b9 : Nat, vv = (.slice d4 c0 b9) ∧ HAppend Try.prog 32 32 (.slice d4 c0 b9) (.slice e2 (Int.toNat (a0 : Int) - Int.toNat k) (a1 - Int.toNat k)) k7 (fun vv k9 => ∃ c5 : Option Addr, ∃ b4 b3 : Nat, vv = (.slice c5 b4 b3) ∧ (A9 c5 b4 b3 k9)))))) ∧ ((∀ c4 f0, c4 = Array.size h8 → f0 = Array.push h8 (.cells #[(.int .i64 2), (.int .u64 a5), (.string b5), (.string ByteArray.empty)] 36) → HAppend Try.prog 32 32 (.slice (some ⟨nb, 0, none⟩) 0 0) (.slice sl (Int.toNat k - Int.toNat 0) (a1 - Int.toNat 0)) f0 (fun vv j8 => e4 f0 j8 ∧ ∃ ap : Option Addr, ∃ d3 d5 : Nat, vv = (.slice ap d3 d5) ∧ HAppend Try.prog 32 32 (.slice ap d3 d5) (.slice (some ⟨c4, 0, none⟩) 1 1) j8 (fun vv k5 => ∃ d4 : Option Addr, ∃ c0 b9 : Nat, vv = (.slice d4 c0 b9) ∧ HAppend Try.prog 32 32 (.slice d4 c0 b9) (.slice e2 (Int.toNat (a0 : Int) - Int.toNat k) (a1 - Int.toNat k)) k5 (fun vv l0 => ∃ c5 : Option Addr, ∃ b4 b3 : Nat, vv = (.slice c5 b4 b3) ∧ (A9 c5 b4 b3 l0))))))))) ∧ ((∀ nb e6, nb = Array.size h5 → e6 = Array.push h5 (.cells #[(.int .i64 2), (.int .u64 a5), (.string b5), (.string ByteArray.empty)] 36) → (∀ c4 e8, c4 = Array.size e6 → e8 = Array.push e6 (.cells #[] 36) → HAppend Try.prog 32 32 (.slice (some ⟨c4, 0, none⟩) 0 0) (.slice sl (Int.toNat k - Int.toNat 0) (a1 - Int.toNat 0)) e8 (fun vv j2 => e4 e8 j2 ∧ ∃ ap : Option Addr, ∃ d3 d5 : Nat, vv = (.slice ap d3 d5) ∧ HAppend Try.prog 32 32 (.slice ap d3 d5) (.slice (some ⟨nb, 0, none⟩) 1 1) j2 (fun vv k6 => ∃ d4 : Option Addr, ∃ c0 b9 : Nat, vv = (.slice d4 c0 b9) ∧ HAppend Try.prog 32 32 (.slice d4 c0 b9) (.slice e2 (Int.toNat (a0 : Int) - Int.toNat k) (a1 - Int.toNat k)) k6 (fun vv k8 => ∃ c5 : Option Addr, ∃ b4 b3 : Nat, vv = (.slice c5 b4 b3) ∧ (A9 c5 b4 b3 k8))))))))))))))) ∧ (d6 = false → (A9 b8 a0 a1 h5))))))))))))))) ∧ (∀ (c8 : Option Addr) (c2 : Nat) (c1 : Nat) (h2 : Heap), A9 c8 c2 c1 h2 → (I1 c8 c2 c1 (IntKind.i64.wrap (i + 1)) h2 ∧ i2 c8 c2 c1 (IntKind.i64.wrap (i + 1)) h2 < i2 b8 a0 a1 i h1)))) ∧ ((decide (i < (b7 : Int))) = false → R (.slice b8 a0 a1) h1))))) :
  HC Try.prog 22 #[(.slice l b7 c7), (.slice c3 a4 b2)] h R := by
 refine hc_of (args := [(.slice l b7 c7), (.slice c3 a4 b2)]) Try.func22 rfl Try.ntmps22 (Nat.le_of_ble_eq_true rfl) ?_
 refine xs (xr ?_)
 refine lv rfl rfl (va rfl) ?_
 refine ln (qn (xs (xr ?_)))
 refine lv rfl rfl (va rfl) ?_
 refine ln (qn (xs (xs (xr ?_))))
 refine lv rfl rfl (va rfl) ?_
 refine ln (qn (xb ?_))
 obtain ⟨I1, i2, p8, p9⟩ := H
 refine xl (σ := Option Addr × Nat × Nat × Int) (fun s => [(0, (.slice l b7 c7)), (1, (.slice c3 a4 b2)), (5, (.slice s.1 s.2.1 s.2.2.1)), (6, (.int .i64 s.2.2.2))]) (fun s h' => I1 s.1 s.2.1 s.2.2.1 s.2.2.2 h' ∧ True) (fun s h' => i2 s.1 s.2.1 s.2.2.1 s.2.2.2 h') (none, 0, 0, 0) ⟨p8, trivial⟩ (hc rfl (hc rfl (hc rfl (hc rfl hn)))) ?_
 rintro ⟨b8, a0, a1, i⟩ ρ h1 ⟨p7, -⟩
 have H := p9 b8 a0 a1 i h1 p7
 refine xs (xs (xr ?_))
 refine lv rfl rfl (vm rfl) (lv rfl rfl (vm rfl) (lv rfl rfl (v := (.int .i64 (b7 : Int))) (hv_len (n := b7) TyTE.u32 rfl) (lv rfl rfl (vr rfl rfl rfl) ?_)))
 refine ln (qn ?_)
 refine xc (b := decide (i < (b7 : Int))) rfl (fun j3 => ?_) (fun j3 => ?_)
 ·replace H := H.1 j3
  refine xi (qn ?_)
  obtain ⟨A9, i5, i3⟩ := H
  refine xk (fun ρ h' => ∃ c8 : Option Addr, ∃ c2 c1 : Nat, (A9 c8 c2 c1 h' ∧ True) ∧ Has ρ [(0, (.slice l b7 c7)), (1, (.slice c3 a4 b2)), (5, (.slice c8 c2 c1)), (6, (.int .i64 i))]) ?_ ?_
  ·have H := i5; clear i5 i3
   refine xb (xs (xr ?_))
   refine lv rfl rfl (va rfl) ?_
   refine ln (qn (xs (xb ?_)))
   obtain ⟨f7, f5, m9, p6⟩ := H
   refine xl (σ := Int) (fun s => [(0, (.slice l b7 c7)), (1, (.slice c3 a4 b2)), (5, (.slice b8 a0 a1)), (6, (.int .i64 i)), (7, (.int .i64 s))]) (fun s h' => f7 s ∧ h1 = h') (fun s _ => f5 s) 0 ⟨m9, rfl⟩ (hc rfl (hc rfl (hc rfl (hc rfl (hc rfl hn))))) ?_
   rintro k ρ _ ⟨o6, rfl⟩
   have H := p6 k o6
   refine xs ?_
   obtain ⟨j, g6, g8⟩ := H
   refine xk (fun ρ h' => h1 = h' ∧ Has ρ [(0, (.slice l b7 c7)), (1, (.slice c3 a4 b2)), (5, (.slice b8 a0 a1)), (6, (.int .i64 i)), (7, (.int .i64 k)), (32, (.bool j))]) ?_ ?_
   ·have H := g6; clear g6 g8
    refine hx_draw TyTE.mixed [.pure, .pure, .pure, .pure, .pure, .pure, .pure, .pure, .pure, .read, .pure, .pure, .pure, .pure, .read, .pure, .pure] [0, 1, 2, 3, 4, 5, 6, 7, 8, 9, 10, 11, 12, 13, 14, 15, 16] (by kernel_rfl) ?_
    refine pp (i := 0) rfl (wanted_0 rfl) rfl (.int .i64 k) (fun _ => vm rfl) ?_
    refine pp (i := 1) rfl (wanted_0 rfl) rfl (.slice b8 a0 a1) (fun _ => vm rfl) ?_
    refine pp (i := 2) rfl (wanted_0 rfl) rfl (.int .i64 (a0 : Int)) (fun _ => hv_len (n := a0) TyTE.u32 rfl) ?_
    refine pp (i := 3) rfl (wanted_0 rfl) rfl (.bool (decide (k < (a0 : Int)))) (fun _ => vr rfl rfl rfl) ?_
    refine pp (i := 4) rfl (wanted_0 rfl) rfl (.bool (decide (k < (a0 : Int)))) (fun _ => vm rfl) ?_
    rcases bool_or (decide (k < (a0 : Int))) with a8 | a8
    ·replace H := H.1 a8
     refine pp (i := 5) rfl (wanted_y rfl rfl rfl a8) rfl (.slice b8 a0 a1) (fun _ => vm rfl) ?_
     refine pp (i := 6) rfl (wanted_y rfl rfl rfl a8) rfl (.int .i64 k) (fun _ => vm rfl) ?_
     obtain ⟨e0, d8, c6, l1, p5, Hq⟩ := H
     subst c6
     have H := Hq; clear Hq
     refine pp (i := 7) rfl (wanted_y rfl rfl rfl a8) rfl (ptr e0 (d8 + (Int.toNat k) * 4)) (fun _ => vi TyTE.el32 rfl rfl l1 p5) ?_
     refine pp (i := 8) rfl (wanted_y rfl rfl rfl a8) rfl (ptr e0 ((d8 + (Int.toNat k) * 4) + 2)) (fun _ => vf TyTE.fld36_2 (b := e0) (o := d8 + (Int.toNat k) * 4) rfl) ?_
     obtain ⟨x, l4, H⟩ := H
     refine pr (i := 9) rfl (wanted_y rfl rfl rfl a8) rfl (.string x) (fun _ he => vl TyTE.agg9 rfl (Ext.cell he l4)) ?_
     refine pp (i := 10) rfl (wanted_y rfl rfl rfl a8) rfl (.slice l b7 c7) (fun _ => vm rfl) ?_
     refine pp (i := 11) rfl (wanted_y rfl rfl rfl a8) rfl (.int .i64 i) (fun _ => vm rfl) ?_
     obtain ⟨e9, f2, c6, n5, l7, Hq⟩ := H
     subst c6
     have H := Hq; clear Hq
     refine pp (i := 12) rfl (wanted_y rfl rfl rfl a8) rfl (ptr e9 (f2 + (Int.toNat i) * 4)) (fun _ => vi TyTE.el32 rfl rfl n5 l7) ?_
     refine pp (i := 13) rfl (wanted_y rfl rfl rfl a8) rfl (ptr e9 ((f2 + (Int.toNat i) * 4) + 2)) (fun _ => vf TyTE.fld36_2 (b := e9) (o := f2 + (Int.toNat i) * 4) rfl) ?_
     obtain ⟨f3, o0, H⟩ := H
     refine pr (i := 14) rfl (wanted_y rfl rfl rfl a8) rfl (.string f3) (fun _ he => vl TyTE.agg9 rfl (Ext.cell he o0)) ?_
     refine pp (i := 15) rfl (wanted_y rfl rfl rfl a8) rfl (.bool (slt x f3)) (fun _ => hv_str rfl rfl rfl) ?_
     refine pp (i := 16) rfl (wanted_0 rfl) rfl (.bool (slt x f3)) (fun _ => hv_pick_t rfl a8 rfl) ?_
     refine hp_nil ?_
     refine qn ?_
     obtain rfl := H
     exact ⟨rfl, (hc rfl (hc rfl (hc rfl (hc rfl (hc rfl (hc rfl hn))))))⟩
    ·replace H := H.2 a8
     refine pn (i := 5) rfl (wanted_n rfl rfl rfl a8) ?_
     refine pn (i := 6) rfl (wanted_n rfl rfl rfl a8) ?_
     refine pn (i := 7) rfl (wanted_n rfl rfl rfl a8) ?_
     refine pn (i := 8) rfl (wanted_n rfl rfl rfl a8) ?_
     refine pn (i := 9) rfl (wanted_n rfl rfl rfl a8) ?_
     refine pn (i := 10) rfl (wanted_n rfl rfl rfl a8) ?_
     refine pn (i := 11) rfl (wanted_n rfl rfl rfl a8) ?_
     refine pn (i := 12) rfl (wanted_n rfl rfl rfl a8) ?_
     refine pn (i := 13) rfl (wanted_n rfl rfl rfl a8) ?_
     refine pn (i := 14) rfl (wanted_n rfl rfl rfl a8) ?_
     refine pn (i := 15) rfl (wanted_n rfl rfl rfl a8) ?_
     refine pp (i := 16) rfl (wanted_0 rfl) rfl (.bool false) (fun _ => hv_pick_f rfl a8 rfl) ?_
     refine hp_nil ?_
     refine qn ?_
     obtain rfl := H
     exact ⟨rfl, (hc rfl (hc rfl (hc rfl (hc rfl (hc rfl (hc rfl hn))))))⟩
   ·have H := g8; clear g6 g8
    rintro ρ _ ⟨rfl, hH⟩
    refine xh _ hH ?_
    refine xc (b := j) rfl (fun g2 => ?_) (fun g2 => ?_)
    ·replace H := H.1 g2
     refine xi (qn (xb (xr ?_)))
     refine lv rfl rfl (vm rfl) (lv rfl rfl (vr rfl rfl rfl) (lv rfl rfl (va rfl) ?_))
     refine ln (bn (qn ?_))
     exact ⟨IntKind.i64.wrap (k + 1), ⟨⟨H.1, rfl⟩, H.2⟩, (hc rfl (hc rfl (hc rfl (hc rfl (hc rfl hn)))))⟩
    ·replace H := H.2 g2
     refine xe (qe (qe (bh (qn (xs ?_)))))
     obtain ⟨e7, g9, g4⟩ := H
     refine xk (fun ρ h' => h1 = h' ∧ Has ρ [(0, (.slice l b7 c7)), (1, (.slice c3 a4 b2)), (5, (.slice b8 a0 a1)), (6, (.int .i64 i)), (7, (.int .i64 k)), (51, (.bool e7))]) ?_ ?_
     ·have H := g9; clear g9 g4
      refine hx_draw TyTE.mixed [.pure, .pure, .pure, .pure, .pure, .pure, .pure, .pure, .pure, .read, .pure, .pure, .pure, .pure, .read, .pure, .pure] [0, 1, 2, 3, 4, 5, 6, 7, 8, 9, 10, 11, 12, 13, 14, 15, 16] (by kernel_rfl) ?_
      refine pp (i := 0) rfl (wanted_0 rfl) rfl (.int .i64 k) (fun _ => vm rfl) ?_
      refine pp (i := 1) rfl (wanted_0 rfl) rfl (.slice b8 a0 a1) (fun _ => vm rfl) ?_
      refine pp (i := 2) rfl (wanted_0 rfl) rfl (.int .i64 (a0 : Int)) (fun _ => hv_len (n := a0) TyTE.u32 rfl) ?_
      refine pp (i := 3) rfl (wanted_0 rfl) rfl (.bool (decide (k < (a0 : Int)))) (fun _ => vr rfl rfl rfl) ?_
      refine pp (i := 4) rfl (wanted_0 rfl) rfl (.bool (decide (k < (a0 : Int)))) (fun _ => vm rfl) ?_
      rcases bool_or (decide (k < (a0 : Int))) with a7 | a7
      ·replace H := H.1 a7
       refine pp (i := 5) rfl (wanted_y rfl rfl rfl a7) rfl (.slice b8 a0 a1) (fun _ => vm rfl) ?_
       refine pp (i := 6) rfl (wanted_y rfl rfl rfl a7) rfl (.int .i64 k) (fun _ => vm rfl) ?_
       obtain ⟨d1, d2, c6, m7, o5, Hq⟩ := H
       subst c6
       have H := Hq; clear Hq
       refine pp (i := 7) rfl (wanted_y rfl rfl rfl a7) rfl (ptr d1 (d2 + (Int.toNat k) * 4)) (fun _ => vi TyTE.el32 rfl rfl m7 o5) ?_
       refine pp (i := 8) rfl (wanted_y rfl rfl rfl a7) rfl (ptr d1 ((d2 + (Int.toNat k) * 4) + 2)) (fun _ => vf TyTE.fld36_2 (b := d1) (o := d2 + (Int.toNat k) * 4) rfl) ?_
       obtain ⟨f1, n1, H⟩ := H
       refine pr (i := 9) rfl (wanted_y rfl rfl rfl a7) rfl (.string f1) (fun _ he => vl TyTE.agg9 rfl (Ext.cell he n1)) ?_
       refine pp (i := 10) rfl (wanted_y rfl rfl rfl a7) rfl (.slice l b7 c7) (fun _ => vm rfl) ?_
       refine pp (i := 11) rfl (wanted_y rfl rfl rfl a7) rfl (.int .i64 i) (fun _ => vm rfl) ?_
       obtain ⟨e1, d9, c6, o8, l5, Hq⟩ := H
       subst c6
       have H := Hq; clear Hq
       refine pp (i := 12) rfl (wanted_y rfl rfl rfl a7) rfl (ptr e1 (d9 + (Int.toNat i) * 4)) (fun _ => vi TyTE.el32 rfl rfl o8 l5) ?_
       refine pp (i := 13) rfl (wanted_y rfl rfl rfl a7) rfl (ptr e1 ((d9 + (Int.toNat i) * 4) + 2)) (fun _ => vf TyTE.fld36_2 (b := e1) (o := d9 + (Int.toNat i) * 4) rfl) ?_
       obtain ⟨f4, o2, H⟩ := H
       refine pr (i := 14) rfl (wanted_y rfl rfl rfl a7) rfl (.string f4) (fun _ he => vl TyTE.agg9 rfl (Ext.cell he o2)) ?_
       refine pp (i := 15) rfl (wanted_y rfl rfl rfl a7) rfl (.bool (decide (f1 = f4))) (fun _ => hv_str rfl rfl rfl) ?_
       refine pp (i := 16) rfl (wanted_0 rfl) rfl (.bool (decide (f1 = f4))) (fun _ => hv_pick_t rfl a7 rfl) ?_
       refine hp_nil ?_
       refine qn ?_
       obtain rfl := H
       exact ⟨rfl, (hc rfl (hc rfl (hc rfl (hc rfl (hc rfl (hc rfl hn))))))⟩
      ·replace H := H.2 a7
       refine pn (i := 5) rfl (wanted_n rfl rfl rfl a7) ?_
       refine pn (i := 6) rfl (wanted_n rfl rfl rfl a7) ?_
       refine pn (i := 7) rfl (wanted_n rfl rfl rfl a7) ?_
       refine pn (i := 8) rfl (wanted_n rfl rfl rfl a7) ?_
       refine pn (i := 9) rfl (wanted_n rfl rfl rfl a7) ?_
       refine pn (i := 10) rfl (wanted_n rfl rfl rfl a7) ?_
       refine pn (i := 11) rfl (wanted_n rfl rfl rfl a7) ?_
       refine pn (i := 12) rfl (wanted_n rfl rfl rfl a7) ?_
       refine pn (i := 13) rfl (wanted_n rfl rfl rfl a7) ?_
       refine pn (i := 14) rfl (wanted_n rfl rfl rfl a7) ?_
       refine pn (i := 15) rfl (wanted_n rfl rfl rfl a7) ?_
       refine pp (i := 16) rfl (wanted_0 rfl) rfl (.bool false) (fun _ => hv_pick_f rfl a7 rfl) ?_
       refine hp_nil ?_
       refine qn ?_
       obtain rfl := H
       exact ⟨rfl, (hc rfl (hc rfl (hc rfl (hc rfl (hc rfl (hc rfl hn))))))⟩
     ·have H := g4; clear g9 g4
      rintro ρ _ ⟨rfl, hH⟩
      refine xh _ hH ?_
      refine xc (b := e7) rfl (fun g7 => ?_) (fun g7 => ?_)
      ·replace H := H.1 g7
       obtain ⟨f8, f9, g3⟩ := H
       refine xk (fun ρ h' => (f8 h' ∧ True) ∧ Has ρ [(0, (.slice l b7 c7)), (1, (.slice c3 a4 b2)), (5, (.slice b8 a0 a1)), (6, (.int .i64 i))]) ?_ ?_
       ·have H := f9; clear f9 g3
        refine xs ?_
        refine hx_draw TyTE.mixed [.pure, .pure, .pure, .pure, .read, .pure, .pure, .pure, .pure, .read, .pure] [0, 1, 2, 3, 4, 5, 6, 7, 8, 9, 10] (by kernel_rfl) ?_
        refine pp (i := 0) rfl (wanted_0 rfl) rfl (.slice l b7 c7) (fun _ => vm rfl) ?_
        refine pp (i := 1) rfl (wanted_0 rfl) rfl (.int .i64 i) (fun _ => vm rfl) ?_
        obtain ⟨a3, a2, c6, i7, j1, Hq⟩ := H
        subst c6
        have H := Hq; clear Hq
        refine pp (i := 2) rfl (wanted_0 rfl) rfl (ptr a3 (a2 + (Int.toNat i) * 4)) (fun _ => vi TyTE.el32 rfl rfl i7 j1) ?_
        refine pp (i := 3) rfl (wanted_0 rfl) rfl (ptr a3 ((a2 + (Int.toNat i) * 4) + 1)) (fun _ => vf TyTE.fld36_1 (b := a3) (o := a2 + (Int.toNat i) * 4) rfl) ?_
        obtain ⟨a5, j6, H⟩ := H
        refine pr (i := 4) rfl (wanted_0 rfl) rfl (.int .u64 a5) (fun _ he => vl TyTE.agg31 rfl (Ext.cell he j6)) ?_
        refine pp (i := 5) rfl (wanted_0 rfl) rfl (.slice b8 a0 a1) (fun _ => vm rfl) ?_
        refine pp (i := 6) rfl (wanted_0 rfl) rfl (.int .i64 k) (fun _ => vm rfl) ?_
        obtain ⟨b1, b0, c6, j9, i6, Hq⟩ := H
        subst c6
        have H := Hq; clear Hq
        refine pp (i := 7) rfl (wanted_0 rfl) rfl (ptr b1 (b0 + (Int.toNat k) * 4)) (fun _ => vi TyTE.el32 rfl rfl j9 i6) ?_
        refine pp (i := 8) rfl (wanted_0 rfl) rfl (ptr b1 ((b0 + (Int.toNat k) * 4) + 1)) (fun _ => vf TyTE.fld36_1 (b := b1) (o := b0 + (Int.toNat k) * 4) rfl) ?_
        obtain ⟨b5, m3, H⟩ := H
        refine pr (i := 9) rfl (wanted_0 rfl) rfl (.int .u64 b5) (fun _ he => vl TyTE.agg31 rfl (Ext.cell he m3)) ?_
        refine pp (i := 10) rfl (wanted_0 rfl) rfl (.bool (decide (a5 > b5))) (fun _ => vr rfl rfl rfl) ?_
        refine hp_nil ?_
        refine qn ?_
        refine xc (b := decide (a5 > b5)) rfl (fun g5 => ?_) (fun g5 => ?_)
        ·replace H := H.1 g5
         refine xr ?_
         refine lv rfl rfl (vm rfl) (lv rfl rfl (vm rfl) (lv rfl rfl (vm rfl) (lv rfl rfl (vm rfl) (lv rfl rfl (v := (ptr a3 (a2 + (Int.toNat i) * 4))) (vi TyTE.el32 rfl rfl i7 j1) (lv rfl rfl (v := (ptr a3 ((a2 + (Int.toNat i) * 4) + 1))) (vf TyTE.fld36_1 (b := a3) (o := a2 + (Int.toNat i) * 4) rfl) ?_)))))
         refine lv rfl rfl (vl TyTE.agg31 rfl j6) (lv rfl rfl (v := (ptr b1 (b0 + (Int.toNat k) * 4))) (vi TyTE.el32 rfl rfl j9 i6) (lv rfl rfl (v := (ptr b1 ((b0 + (Int.toNat k) * 4) + 1))) (vf TyTE.fld36_1 (b := b1) (o := b0 + (Int.toNat k) * 4) rfl) ?_))
         obtain ⟨m0, H⟩ := H
         refine lp rfl rfl (hn_store (v := (.int .u64 a5)) rfl rfl TyTE.sz31 rfl m0 ?_)
         intro h4 l8
         replace H := H h4 l8
         refine ln (qn ?_)
         exact ⟨⟨H, trivial⟩, (hc rfl (hc rfl (hc rfl (hc rfl hn))))⟩
        ·replace H := H.2 g5
         refine xi (qn ?_)
         exact ⟨⟨H, trivial⟩, (hc rfl (hc rfl (hc rfl (hc rfl hn))))⟩
       ·rintro ρ h3 ⟨⟨l3, -⟩, hH⟩
        have H := g3 h3 l3; clear f9 g3
        refine xh _ hH ?_
        refine xe (qe (bh (qn ?_)))
        exact ⟨_, _, _, ⟨H, trivial⟩, (hc rfl (hc rfl (hc rfl (hc rfl hn))))⟩
      ·replace H := H.2 g7
       refine xi (qn (xs (xr ?_)))
       refine lv rfl rfl (va rfl) ?_
       refine ln (qn (xs (xs (xr ?_))))
       refine lv rfl rfl (va rfl) ?_
       refine ln (qn (xb ?_))
       obtain ⟨e5, d7, m1, n7⟩ := H
       refine xl (σ := Bool × Int) (fun s => [(0, (.slice l b7 c7)), (1, (.slice c3 a4 b2)), (5, (.slice b8 a0 a1)), (6, (.int .i64 i)), (7, (.int .i64 k)), (8, (.bool s.1)), (9, (.int .i64 s.2))]) (fun s h' => e5 s.1 s.2 h' ∧ True) (fun s h' => d7 s.1 s.2 h') (false, 0) ⟨m1, trivial⟩ (hc rfl (hc rfl (hc rfl (hc rfl (hc rfl (hc rfl (hc rfl hn))))))) ?_
       rintro ⟨d6, a9⟩ ρ h5 ⟨m2, -⟩
       have H := n7 d6 a9 h5 m2
       refine xs (xs (xr ?_))
       refine lv rfl rfl (vm rfl) (lv rfl rfl (vm rfl) (lv rfl rfl (v := (.int .i64 (a4 : Int))) (hv_len (n := a4) TyTE.u58 rfl) (lv rfl rfl (vr rfl rfl rfl) ?_)))
       refine ln (qn ?_)
       refine xc (b := decide (a9 < (a4 : Int))) rfl (fun g0 => ?_) (fun g0 => ?_)
       ·replace H := H.1 g0
        refine xi (qn (xs (xb ?_)))
        refine hx_draw TyTE.mixed [.pure, .pure, .pure, .pure, .pure, .read, .pure, .pure, .pure, .pure, .pure, .read, .pure, .pure, .pure, .pure, .read, .ext, .read, .pure, .pure, .pure] [0, 1, 2, 3, 4, 5, 6, 7, 8, 9, 10, 11, 12, 13, 14, 15, 16, 17, 18, 19, 20, 21] (by kernel_rfl) ?_
        refine pp (i := 0) rfl (wanted_0 rfl) rfl (.bool d6) (fun _ => vm rfl) ?_
        refine pp (i := 1) rfl (wanted_0 rfl) rfl (.bool d6) (fun _ => vm rfl) ?_
        rcases bool_or (d6) with b6 | b6
        ·replace H := H.1 b6
         refine pn (i := 2) rfl (wanted_n rfl rfl rfl b6) ?_
         refine pn (i := 3) rfl (wanted_n rfl rfl rfl b6) ?_
         refine pn (i := 4) rfl (wanted_n rfl rfl rfl b6) ?_
         refine pn (i := 5) rfl (wanted_n rfl rfl rfl b6) ?_
         refine pn (i := 6) rfl (wanted_n rfl rfl rfl b6) ?_
         refine pn (i := 7) rfl (wanted_n rfl rfl rfl b6) ?_
         refine pn (i := 8) rfl (wanted_u rfl rfl rfl) ?_
         refine pn (i := 9) rfl (wanted_u rfl rfl rfl) ?_
         refine pn (i := 10) rfl (wanted_u rfl rfl rfl) ?_
         refine pn (i := 11) rfl (wanted_u rfl rfl rfl) ?_
         refine pn (i := 12) rfl (wanted_u rfl rfl rfl) ?_
         refine pn (i := 13) rfl (wanted_u rfl rfl rfl) ?_
         refine pn (i := 14) rfl (wanted_u rfl rfl rfl) ?_
         refine pn (i := 15) rfl (wanted_u rfl rfl rfl) ?_
         refine pn (i := 16) rfl (wanted_u rfl rfl rfl) ?_
         refine pn (i := 17) rfl (wanted_u rfl rfl rfl) ?_
         refine pn (i := 18) rfl (wanted_u rfl rfl rfl) ?_
         refine pn (i := 19) rfl (wanted_n rfl rfl rfl b6) ?_
         refine pp (i := 20) rfl (wanted_0 rfl) rfl (.bool true) (fun _ => hv_pick_t rfl b6 rfl) ?_
         refine pp (i := 21) rfl (wanted_0 rfl) rfl (.bool true) (fun _ => va rfl) ?_
         refine hp_nil ?_
         refine bn (qn (xr ?_))
         refine lv rfl rfl (vm rfl) (lv rfl rfl (vr rfl rfl rfl) (lv rfl rfl (va rfl) ?_))
         refine ln (qn ?_)
         exact ⟨(true, IntKind.i64.wrap (a9 + 1)), ⟨⟨H.1, trivial⟩, H.2⟩, (hc rfl (hc rfl (hc rfl (hc rfl (hc rfl (hc rfl (hc rfl hn)))))))⟩
        ·replace H := H.2 b6
         refine pp (i := 2) rfl (wanted_y rfl rfl rfl b6) rfl (.slice c3 a4 b2) (fun _ => vm rfl) ?_
         refine pp (i := 3) rfl (wanted_y rfl rfl rfl b6) rfl (.int .i64 a9) (fun _ => vm rfl) ?_
         obtain ⟨d0, c9, c6, j5, j0, Hq⟩ := H
         subst c6
         have H := Hq; clear Hq
         refine pp (i := 4) rfl (wanted_y rfl rfl rfl b6) rfl (ptr d0 (c9 + (Int.toNat a9) * 1)) (fun _ => vi TyTE.el58 rfl rfl j5 j0) ?_
         obtain ⟨a5, i8, H⟩ := H
         refine pr (i := 5) rfl (wanted_y rfl rfl rfl b6) rfl (.pointer a5) (fun _ he => vl TyTE.agg50 rfl (Ext.cell he i8)) ?_
         refine pp (i := 6) rfl (wanted_y rfl rfl rfl b6) rfl (.bool a5.isSome) (fun _ => hv_ptrNil TyTE.up50 rfl rfl) ?_
         refine pp (i := 7) rfl (wanted_y rfl rfl rfl b6) rfl (.bool a5.isSome) (fun _ => vm rfl) ?_
         rcases bool_or (a5.isSome) with a6 | a6
         ·replace H := H.1 a6
          refine pp (i := 8) rfl (wanted_y rfl rfl rfl a6) rfl (.slice (some ⟨d0, c9, none⟩) a4 b2) (fun _ => vm rfl) ?_
          refine pp (i := 9) rfl (wanted_y rfl rfl rfl a6) rfl (.int .i64 a9) (fun _ => vm rfl) ?_
          refine pp (i := 10) rfl (wanted_y rfl rfl rfl a6) rfl (ptr d0 (c9 + (Int.toNat a9) * 1)) (fun _ => vi TyTE.el58 rfl rfl j5 j0) ?_
          refine pr (i := 11) rfl (wanted_y rfl rfl rfl a6) rfl (.pointer a5) (fun _ he => vl TyTE.agg50 rfl (Ext.cell he i8)) ?_
          refine pp (i := 12) rfl (wanted_y rfl rfl rfl a6) rfl (.slice l b7 c7) (fun _ => vm rfl) ?_
          refine pp (i := 13) rfl (wanted_y rfl rfl rfl a6) rfl (.int .i64 i) (fun _ => vm rfl) ?_
          obtain ⟨a3, a2, c6, o9, o3, Hq⟩ := H
          subst c6
          have H := Hq; clear Hq
          refine pp (i := 14) rfl (wanted_y rfl rfl rfl a6) rfl (ptr a3 (a2 + (Int.toNat i) * 4)) (fun _ => vi TyTE.el32 rfl rfl o9 o3) ?_
          refine pp (i := 15) rfl (wanted_y rfl rfl rfl a6) rfl (ptr a3 ((a2 + (Int.toNat i) * 4) + 2)) (fun _ => vf TyTE.fld36_2 (b := a3) (o := a2 + (Int.toNat i) * 4) rfl) ?_
          obtain ⟨b5, o7, H⟩ := H
          refine pr (i := 16) rfl (wanted_y rfl rfl rfl a6) rfl (.string b5) (fun _ he => vl TyTE.agg9 rfl (Ext.cell he o7)) ?_
          refine hp_ext (i := 17) rfl (wanted_y rfl rfl rfl a6) rfl (sc TyTE.cb36 rfl (HC.mono H ?_))
          rintro _ h6 ⟨o1, r, rfl, H⟩
          refine ⟨o1, ?_⟩
          obtain ⟨e3, m5, H⟩ := H
          refine pr (i := 18) rfl (wanted_y rfl rfl rfl a6) rfl (.bool e3) (fun _ he => hv_call TyTE.cb43 (vs := [(.pointer a5), (.int .u64 r)]) rfl (m5 _ he)) ?_
          refine pp (i := 19) rfl (wanted_y rfl rfl rfl b6) rfl (.bool e3) (fun _ => hv_pick_t rfl a6 rfl) ?_
          refine pp (i := 20) rfl (wanted_0 rfl) rfl (.bool e3) (fun _ => hv_pick_f rfl b6 rfl) ?_
          refine pp (i := 21) rfl (wanted_0 rfl) rfl (.bool e3) (fun _ => va rfl) ?_
          refine hp_nil ?_
          refine bn (qn (xr ?_))
          refine lv rfl rfl (vm rfl) (lv rfl rfl (vr rfl rfl rfl) (lv rfl rfl (va rfl) ?_))
          refine ln (qn ?_)
          exact ⟨(e3, IntKind.i64.wrap (a9 + 1)), ⟨⟨H.1, trivial⟩, H.2⟩, (hc rfl (hc rfl (hc rfl (hc rfl (hc rfl (hc rfl (hc rfl hn)))))))⟩
         ·replace H := H.2 a6
          refine pn (i := 8) rfl (wanted_n rfl rfl rfl a6) ?_
          refine pn (i := 9) rfl (wanted_n rfl rfl rfl a6) ?_
          refine pn (i := 10) rfl (wanted_n rfl rfl rfl a6) ?_
          refine pn (i := 11) rfl (wanted_n rfl rfl rfl a6) ?_
          refine pn (i := 12) rfl (wanted_n rfl rfl rfl a6) ?_
          refine pn (i := 13) rfl (wanted_n rfl rfl rfl a6) ?_
          refine pn (i := 14) rfl (wanted_n rfl rfl rfl a6) ?_
          refine pn (i := 15) rfl (wanted_n rfl rfl rfl a6) ?_
          refine pn (i := 16) rfl (wanted_n rfl rfl rfl a6) ?_
          refine pn (i := 17) rfl (wanted_n rfl rfl rfl a6) ?_
          refine pn (i := 18) rfl (wanted_n rfl rfl rfl a6) ?_
          refine pp (i := 19) rfl (wanted_y rfl rfl rfl b6) rfl (.bool false) (fun _ => hv_pick_f rfl a6 rfl) ?_
          refine pp (i := 20) rfl (wanted_0 rfl) rfl (.bool false) (fun _ => hv_pick_f rfl b6 rfl) ?_
          refine pp (i := 21) rfl (wanted_0 rfl) rfl (.bool false) (fun _ => va rfl) ?_
          refine hp_nil ?_
          refine bn (qn (xr ?_))
          refine lv rfl rfl (vm rfl) (lv rfl rfl (vr rfl rfl rfl) (lv rfl rfl (va rfl) ?_))
          refine ln (qn ?_)
          exact ⟨(false, IntKind.i64.wrap (a9 + 1)), ⟨⟨H.1, trivial⟩, H.2⟩, (hc rfl (hc rfl (hc rfl (hc rfl (hc rfl (hc rfl (hc rfl hn)))))))⟩
       ·replace H := H.2 g0
        refine xe (qe (qe (bh (qn (xs (xr ?_))))))
        refine lv rfl rfl (vm rfl) ?_
        refine ln (qn ?_)
        refine xc (b := d6) rfl (fun g1 => ?_) (fun g1 => ?_)
        ·replace H := H.1 g1
         obtain ⟨e4, l2, H⟩ := H
         refine hx_tree TyTE.mixed e4 l2 [.ext, .pure, .pure, .pure, .tame, .pure, .pure, .pure, .pure, .stay, .pure, .pure, .pure, .pure, .stay, .pure, .ext, .wild, .pure, .pure, .pure, .wild, .pure] (.one 1 (.one 2 (.one 3 (.one 5 (.one 6 (.one 7 (.one 8 (.one 9 (.one 10 (.one 11 (.one 12 (.one 13 (.one 14 (.one 15 (.one 18 (.one 19 (.one 20 (.fork [0, 16] fun k => bif k == 0 then (.fork [4, 16] fun k => bif k == 4 then (.one 16 (.one 17 (.one 21 (.one 22 .done)))) else (.one 4 (.one 17 (.one 21 (.one 22 .done))))) else (.one 0 (.one 4 (.one 17 (.one 21 (.one 22 .done))))))))))))))))))))))) (by kernel_rfl) ?_
         refine to (ho_pure (i := 1) rfl (wanted_0 rfl) rfl (.slice b8 a0 a1) (fun _ => vm rfl) ?_)
         refine to (ho_pure (i := 2) rfl (wanted_0 rfl) rfl (.int .i64 k) (fun _ => vm rfl) ?_)
         obtain ⟨p1, l9, m8, H⟩ := H
         obtain ⟨sl, hq77⟩ : ∃ q, q = slA b8 (Int.toNat 0) 4 a1 := ⟨_, rfl⟩
         replace H := H sl hq77
         refine to (ho_pure (i := 3) rfl (wanted_0 rfl) rfl (.slice sl (Int.toNat k - Int.toNat 0) (a1 - Int.toNat 0)) (fun _ => hv_slice (l := 0) (r := k) TyTE.u32 TyTE.sz36 rfl sl_none (sh_some rfl) p1 l9 m8 hq77) ?_)
         refine to (ho_pure (i := 5) rfl (wanted_0 rfl) rfl (.slice l b7 c7) (fun _ => vm rfl) ?_)
         refine to (ho_pure (i := 6) rfl (wanted_0 rfl) rfl (.int .i64 i) (fun _ => vm rfl) ?_)
         obtain ⟨a3, a2, c6, k0, j4, Hq⟩ := H
         subst c6
         have H := Hq; clear Hq
         refine to (ho_pure (i := 7) rfl (wanted_0 rfl) rfl (ptr a3 (a2 + (Int.toNat i) * 4)) (fun _ => vi TyTE.el32 rfl rfl k0 j4) ?_)
         refine to (ho_pure (i := 8) rfl (wanted_0 rfl) rfl (ptr a3 ((a2 + (Int.toNat i) * 4) + 1)) (fun _ => vf TyTE.fld36_1 (b := a3) (o := a2 + (Int.toNat i) * 4) rfl) ?_)
         obtain ⟨a5, n2, H⟩ := H
         refine to (ho_stay (i := 9) rfl (wanted_0 rfl) rfl (.int .u64 a5) (fun _ he => vl TyTE.agg31 rfl (n2 _ he)) ?_)
         refine to (ho_pure (i := 10) rfl (wanted_0 rfl) rfl (.slice (some ⟨a3, a2, none⟩) b7 c7) (fun _ => vm rfl) ?_)
         refine to (ho_pure (i := 11) rfl (wanted_0 rfl) rfl (.int .i64 i) (fun _ => vm rfl) ?_)
         refine to (ho_pure (i := 12) rfl (wanted_0 rfl) rfl (ptr a3 (a2 + (Int.toNat i) * 4)) (fun _ => vi TyTE.el32 rfl rfl k0 j4) ?_)
         refine to (ho_pure (i := 13) rfl (wanted_0 rfl) rfl (ptr a3 ((a2 + (Int.toNat i) * 4) + 2)) (fun _ => vf TyTE.fld36_2 (b := a3) (o := a2 + (Int.toNat i) * 4) rfl) ?_)
         obtain ⟨b5, p2, H⟩ := H
         refine to (ho_stay (i := 14) rfl (wanted_0 rfl) rfl (.string b5) (fun _ he => vl TyTE.agg9 rfl (p2 _ he)) ?_)
         refine to (ho_pure (i := 15) rfl (wanted_0 rfl) rfl (.agg #[(.int .i64 2), (.int .u64 a5), (.string b5), (.string ByteArray.empty)]) (fun _ => vb (vs := [(0, (.int .i64 2)), (1, (.int .u64 a5)), (2, (.string b5))]) (cs := #[(.int .i64 2), (.int .u64 a5), (.string b5), (.string ByteArray.empty)]) TyTE.z36 TyTE.pl36 rfl (by kernel_rfl)) ?_)
         refine to (ho_pure (i := 18) rfl (wanted_0 rfl) rfl (.slice b8 a0 a1) (fun _ => vm rfl) ?_)
         refine to (ho_pure (i := 19) rfl (wanted_0 rfl) rfl (.int .i64 k) (fun _ => vm rfl) ?_)
         obtain ⟨p3, n3, n4, H⟩ := H
         obtain ⟨e2, hq87⟩ : ∃ q, q = slA b8 (Int.toNat k) 4 a1 := ⟨_, rfl⟩
         replace H := H e2 hq87
         refine to (ho_pure (i := 20) rfl (wanted_0 rfl) rfl (.slice e2 (Int.toNat (a0 : Int) - Int.toNat k) (a1 - Int.toNat k)) (fun _ => hv_slice (l := k) (r := (a0 : Int)) TyTE.u32 TyTE.sz36 rfl (sl_some rfl) sh_none p3 n3 n4 hq87) ?_)
         refine ht_fork2 rfl rfl ?_ ?_
         ·replace H := H.1
          refine ho_ext (i := 0) rfl (wanted_0 rfl) rfl (hn_buildSlice (n := 0) (vs := []) (cs := #[]) TyTE.u32 TyTE.sz36 TyTE.z36 rfl rfl (by kernel_rfl) ?_)
          intro nb h8 n9 i9
          replace H := H nb h8 n9 i9
          have p4 := ext_pushed_f22_sh i9
          refine ⟨p4, ?_⟩
          refine ht_fork2 rfl rfl ?_ ?_
          ·replace H := H.1
           refine ho_tame (i := 4) rfl (wanted_0 rfl) rfl (hs_append rfl rfl (HAppend.mono H ?_))
           rintro _ h9 ⟨n8, ap, d3, d5, rfl, H⟩
           refine ⟨n8, ?_⟩
           refine to (ho_ext (i := 16) rfl (wanted_0 rfl) rfl (hn_buildSlice (n := 1) (vs := [(0, (.agg #[(.int .i64 2), (.int .u64 a5), (.string b5), (.string ByteArray.empty)]))]) (cs := #[(.int .i64 2), (.int .u64 a5), (.string b5), (.string ByteArray.empty)]) TyTE.u32 TyTE.sz36 TyTE.z36 rfl rfl (by kernel_rfl) ?_))
           intro c4 f6 p0 i4
           replace H := H c4 f6 p0 i4
           have m4 := ext_pushed_f22_sh i4
           refine ⟨m4, ?_⟩
           refine to (ho_wild (i := 17) rfl (wanted_0 rfl) rfl (hs_append rfl rfl (HAppend.mono H ?_)))
           rintro _ k7 ⟨d4, c0, b9, rfl, H⟩
           refine to (ho_wild (i := 21) rfl (wanted_0 rfl) rfl (hs_append rfl rfl (HAppend.mono H ?_)))
           rintro _ k9 ⟨c5, b4, b3, rfl, H⟩
           refine to (ho_pure (i := 22) rfl (wanted_0 rfl) rfl (.slice c5 b4 b3) (fun _ => va rfl) ?_)
           refine ht_done ?_
           refine bn (qn ?_)
           exact ⟨_, _, _, ⟨H, trivial⟩, (hc rfl (hc rfl (hc rfl (hc rfl hn))))⟩
          ·replace H := H.2
           refine ho_ext (i := 16) rfl (wanted_0 rfl) rfl (hn_buildSlice (n := 1) (vs := [(0, (.agg #[(.int .i64 2), (.int .u64 a5), (.string b5), (.string ByteArray.empty)]))]) (cs := #[(.int .i64 2), (.int .u64 a5), (.string b5), (.string ByteArray.empty)]) TyTE.u32 TyTE.sz36 TyTE.z36 rfl rfl (by kernel_rfl) ?_)
           intro c4 f0 l6 j7
           replace H := H c4 f0 l6 j7
           have o4 := ext_pushed_f22_sh j7
           refine ⟨o4, ?_⟩
           refine to (ho_tame (i := 4) rfl (wanted_0 rfl) rfl (hs_append rfl rfl (HAppend.mono H ?_)))
           rintro _ j8 ⟨m6, ap, d3, d5, rfl, H⟩
           refine ⟨m6, ?_⟩
           refine to (ho_wild (i := 17) rfl (wanted_0 rfl) rfl (hs_append rfl rfl (HAppend.mono H ?_)))
           rintro _ k5 ⟨d4, c0, b9, rfl, H⟩
           refine to (ho_wild (i := 21) rfl (wanted_0 rfl) rfl (hs_append rfl rfl (HAppend.mono H ?_)))
           rintro _ l0 ⟨c5, b4, b3, rfl, H⟩
           refine to (ho_pure (i := 22) rfl (wanted_0 rfl) rfl (.slice c5 b4 b3) (fun _ => va rfl) ?_)
           refine ht_done ?_
           refine bn (qn ?_)
           exact ⟨_, _, _, ⟨H, trivial⟩, (hc rfl (hc rfl (hc rfl (hc rfl hn))))⟩
         ·replace H := H.2
          refine ho_ext (i := 16) rfl (wanted_0 rfl) rfl (hn_buildSlice (n := 1) (vs := [(0, (.agg #[(.int .i64 2), (.int .u64 a5), (.string b5), (.string ByteArray.empty)]))]) (cs := #[(.int .i64 2), (.int .u64 a5), (.string b5), (.string ByteArray.empty)]) TyTE.u32 TyTE.sz36 TyTE.z36 rfl rfl (by kernel_rfl) ?_)
          intro nb e6 n6 i1
          replace H := H nb e6 n6 i1
          have k2 := ext_pushed_f22_sh i1
          refine ⟨k2, ?_⟩
          refine to (ho_ext (i := 0) rfl (wanted_0 rfl) rfl (hn_buildSlice (n := 0) (vs := []) (cs := #[]) TyTE.u32 TyTE.sz36 TyTE.z36 rfl rfl (by kernel_rfl) ?_))
          intro c4 e8 k3 i0
          replace H := H c4 e8 k3 i0
          have k4 := ext_pushed_f22_sh i0
          refine ⟨k4, ?_⟩
          refine to (ho_tame (i := 4) rfl (wanted_0 rfl) rfl (hs_append rfl rfl (HAppend.mono H ?_)))
          rintro _ j2 ⟨k1, ap, d3, d5, rfl, H⟩
          refine ⟨k1, ?_⟩
          refine to (ho_wild (i := 17) rfl (wanted_0 rfl) rfl (hs_append rfl rfl (HAppend.mono H ?_)))
          rintro _ k6 ⟨d4, c0, b9, rfl, H⟩
          refine to (ho_wild (i := 21) rfl (wanted_0 rfl) rfl (hs_append rfl rfl (HAppend.mono H ?_)))
          rintro _ k8 ⟨c5, b4, b3, rfl, H⟩
          refine to (ho_pure (i := 22) rfl (wanted_0 rfl) rfl (.slice c5 b4 b3) (fun _ => va rfl) ?_)
          refine ht_done ?_
          refine bn (qn ?_)
          exact ⟨_, _, _, ⟨H, trivial⟩, (hc rfl (hc rfl (hc rfl (hc rfl hn))))⟩
        ·replace H := H.2 g1
         refine xi (bn (qn ?_))
         exact ⟨_, _, _, ⟨H, trivial⟩, (hc rfl (hc rfl (hc rfl (hc rfl hn))))⟩
  ·rintro ρ h2 ⟨c8, c2, c1, ⟨n0, -⟩, hH⟩
   have H := i3 c8 c2 c1 h2 n0; clear i5 i3
   refine xh _ hH ?_
   refine xr ?_
   refine lv rfl rfl (vm rfl) (lv rfl rfl (vr rfl rfl rfl) (lv rfl rfl (va rfl) ?_))
   refine ln (qn ?_)
   exact ⟨(c8, c2, c1, IntKind.i64.wrap (i + 1)), ⟨⟨H.1, trivial⟩, H.2⟩, (hc rfl (hc rfl (hc rfl (hc rfl hn))))⟩
 ·replace H := H.2 j3
  refine xe (qe (qe (bh (qn (xs (xr ?_))))))
  refine lv rfl rfl (vm rfl) (lv rfl rfl (va rfl) ?_)
  refine ln (qn (xt ?_))
  exact endQ_ret _ (res_one Try.results22 (rv_tmp rfl)) H
end Go.Proofs.Ytcdpapdefdnknaa
namespace Go.Proofs.Ytcdpapdefdnknaa
open Go
open Go.Proofs.Ytcdpapdefdnknaa renaming hl_val → lv, hl_step → lp, hl_nil → ln, hl_no → lo, hx_seq → xs, hx_region → xr, hx_cond → xc, hx_block → xb, hx_skip → xi, hx_ret → xt, seqQ_n → qn, seqQ_ret → qr, blockQ_n → bn, blockQ_ret → br, hv_move → vm, hv_assign → va, hv_arith → vr, hv_load → vl, hv_field → vf, hv_index → vi, hs_call → sc
set_option maxRecDepth 100000
set_option maxHeartbeats 4000000
theorem TyTN.agg31 : aggB Try.prog 31 = some false := by kernel_rfl
theorem TyTN.agg4 : aggB Try.prog 4 = some false := by kernel_rfl
theorem TyTN.agg47 : aggB Try.prog 47 = some false := by kernel_rfl
theorem TyTN.agg78 : aggB Try.prog 78 = some false := by kernel_rfl
theorem TyTN.agg9 : aggB Try.prog 9 = some false := by kernel_rfl
theorem TyTN.cb34 : CallB Try.prog 34 := fun _ _ => Try.call34 _ _
theorem TyTN.cb37 : CallB Try.prog 37 := fun _ _ => Try.call37 _ _
theorem TyTN.cb41 : CallB Try.prog 41 := fun _ _ => Try.call41 _ _
theorem TyTN.cb49 : CallB Try.prog 49 := fun _ _ => Try.call49 _ _
theorem TyTN.el78 : elB Try.prog 78 = some 1 := by kernel_rfl
theorem TyTN.fld80_0 : fldB Try.prog 80 0 = some 0 := by kernel_rfl
theorem TyTN.sz4 : szB Try.prog 4 = some 1 := by kernel_rfl
theorem TyTN.up47 : Try.prog.underlying 47 = some (.pointer 80) := by kernel_rfl
theorem TyTN.z4 : zeroB Try.prog 4 (.bool false) := by unfold zeroB; kernel_rfl
theorem ext_pushed_f40_shn {h h1 : Heap} {o : Obj} (e : h1 = Array.push h o) : Ext h h1 := by rw [e]; exact Ext.push _ _
theorem f37_shn  (h : Heap) (R : Value → Heap → Prop)
  (H : R (.bool false) h) :
  HC Try.prog 37 #[(.pointer none)] h R := by
 refine hc_of (args := [(.pointer none)]) Try.func37 rfl Try.ntmps37 (Nat.le_of_ble_eq_true rfl) ?_
 refine xs (xr ?_)
 refine lv rfl rfl (va rfl) ?_
 refine ln (qn (xs (xr ?_)))
 refine lv rfl rfl (vm rfl) (lv rfl rfl (v := (.bool false)) (hv_ptrNil TyTN.up47 rfl rfl) (lv rfl rfl (vm rfl) ?_))
 refine lo (wanted_n rfl rfl (c := false) rfl rfl) rfl ?_
 refine lo (wanted_n rfl rfl (c := false) rfl rfl) rfl ?_
 refine lo (wanted_n rfl rfl (c := false) rfl rfl) rfl ?_
 refine lo (wanted_n rfl rfl (c := false) rfl rfl) rfl ?_
 refine lo (wanted_n rfl rfl (c := false) rfl rfl) rfl ?_
 refine lv rfl rfl (v := (.bool false)) (hv_pick (t := false) rfl rfl) (lv rfl rfl (va rfl) ?_)
 refine ln (qn (xt ?_))
 exact endQ_ret _ (res_one Try.results37 (rv_tmp rfl)) H
theorem f41_shn (a9 : Int) (h : Heap) (R : Value → Heap → Prop)
  (H : (∀ f h1, f = Array.size h → h1 = Array.push h (.cells #[(.pointer none)] 47) → (∀ nb h2, nb = Array.size h1 → h2 = Array.push h1 (.cells #[(.bool false)] 4) → (∃ x : Option Addr, hcell h2 f 0 = some (.pointer x) ∧ (∃ r : Bool, HC Try.prog 37 #[(.pointer x)] h2 (fun vv h' => vv = (.bool r) ∧ h' = h2) ∧ (((!r) = true → (HW h2 nb 0 ∧ ∀ h3, h3 = hset h2 nb 0 (.bool false) → (∃ a8 : Bool, hcell h3 nb 0 = some (.bool a8) ∧ (∀ h4, Shut' (Array.size h) h3 h4 → R (.bool a8) h4)))) ∧ ((!r) = false → HC Try.prog 49 #[(.pointer x), (.int .u64 a9)] h2 (fun vv h5 => ∃ c2 : Value, vv = c2 ∧ (∀ (a0 : LoopState → Option Code → Heap → Prop) (l : Nat) (h6 : Heap) (y : Value), (∀ s p h h', a0 s p h → h'[l]? = h[l]? → a0 s p h') → l = Array.size h5 + 1 → Ext h5 h6 → Array.size h6 = Array.size h5 + 2 → a0 .ready none h6 → (∀ (it : Int) (h7 : Heap) (b7 : Value → Heap → Prop), a0 .ready none h7 → (a0 .ready none h7 ∧ ∀ a1, Only l h7 a1 → a0 .busy none a1 → (∃ b4 : Option Addr, hcell a1 f 0 = some (.pointer b4) ∧ (∃ a3 a2 : Nat, b4 = some ⟨a3, a2, none⟩ ∧ (∃ b5 : Option Addr, ∃ b6 b9 : Nat, hcell a1 a3 a2 = some (.slice b5 b6 b9) ∧ (∃ a6 a7 : Nat, b5 = some ⟨a6, a7, none⟩ ∧ (0 : Int) ≤ IntKind.i64.wrap (Int.tdiv it 64) ∧ IntKind.i64.wrap (Int.tdiv it 64) < (b6 : Int) ∧ (∃ a4 : Int, hcell a1 a6 (a7 + (Int.toNat (IntKind.i64.wrap (Int.tdiv it 64))) * 1) = some (.int .u64 a4) ∧ ((0 : Int) ≤ Int.tmod it 64 ∧ ((((iband .u64 (Int.fdiv a4 (2 ^ min (Int.toNat (Int.tmod it 64)) 64)) 1) == 0) = true → (HW a1 nb 0 ∧ ∀ b2, b2 = hset a1 nb 0 (.bool false) → (a0 .busy none b2 ∧ ∀ c3, Only l b2 c3 → a0 .done (some .ret) c3 → b7 (.bool false) c3))) ∧ (((iband .u64 (Int.fdiv a4 (2 ^ min (Int.toNat (Int.tmod it 64)) 64)) 1) == 0) = false → (a0 .busy none a1 ∧ ∀ b8, Only l a1 b8 → a0 .ready none b8 → b7 (.bool true) b8)))))))))) → HCV Try.prog y [(.int .i64 it)] h7 b7) → HCF Try.prog c2 [y] h6 (fun _ h8 => ∃ (st : LoopState) (a5 : Option Code), a0 st a5 h8 ∧ st ≠ .busy ∧ ∀ h9, Only l h8 h9 → a0 .exhausted a5 h9 → ((a5 = none ∧ (HW h9 nb 0 ∧ ∀ b1, b1 = hset h9 nb 0 (.bool true) → (∃ a8 : Bool, hcell b1 nb 0 = some (.bool a8) ∧ (∀ c6, Shut' (Array.size h) b1 c6 → R (.bool a8) c6)))) ∨ (a5 = some .ret ∧ (∃ b0 : Bool, hcell h9 nb 0 = some (.bool b0) ∧ (∀ c9, Shut' (Array.size h) h9 c9 → R (.bool b0) c9)))))))))))))) :
  HC Try.prog 41 #[(.pointer none), (.int .u64 a9)] h R := by
 refine hc_ofM (args := [(.pointer none), (.int .u64 a9)]) Try.func41 rfl Try.ntmps41 (Nat.le_of_ble_eq_true rfl) ?_
 refine xs (xr ?_)
 refine lp rfl rfl (hn_box (v := (.pointer none)) rfl ?_)
 intro f h1 f8 c5
 replace H := H f h1 f8 c5
 have f9 := ext_pushed_f40_shn c5
 refine lp rfl rfl (hn_alloc TyTN.z4 ?_)
 intro nb h2 f7 c8
 replace H := H nb h2 f7 c8
 have g0 := ext_pushed_f40_shn c8
 refine ln (qn (xs (xs (xr ?_))))
 obtain ⟨x, c7, H⟩ := H
 refine lv rfl rfl (vl TyTN.agg47 rfl c7) ?_
 obtain ⟨r, f6, H⟩ := H
 refine lv rfl rfl (hv_call TyTN.cb37 (vs := [(.pointer x)]) rfl f6) (lv rfl rfl (v := (.bool (!r))) (hv_not (b := r) rfl) ?_)
 refine ln (qn ?_)
 refine xc (b := !r) rfl (fun c0 => ?_) (fun c0 => ?_)
 ·replace H := H.1 c0
  refine xs (xr ?_)
  obtain ⟨e3, H⟩ := H
  refine lp rfl rfl (hn_store (v := (.bool false)) rfl rfl TyTN.sz4 rfl e3 ?_)
  intro h3 d9
  replace H := H h3 d9
  refine ln (qn (xt (qr ?_)))
  obtain ⟨a8, d7, H⟩ := H
  exact endQM_ret _ (fun h' hs => ⟨res_one Try.results41 (rv_cell1 TyTN.agg4 rfl (shut_cell hs d7)), H h' hs⟩)
 ·replace H := H.2 c0
  refine xi (qn (xs (xs (xr ?_))))
  refine lv rfl rfl (vl TyTN.agg47 rfl c7) (lv rfl rfl (vm rfl) ?_)
  refine lp rfl rfl (sc TyTN.cb49 rfl (HC.mono H ?_))
  rintro c2 h5 ⟨_, rfl, H⟩
  refine ln (qn (xb ?_))
  refine hx_range rfl rfl rfl (fun h6 l f2 f3 d8 d4 => ?_)
  refine HCF.mono (H (fun st p h => LoopAt h l _ _ _ _ _ st p) l h6 _ (fun s p h h' k e => k.same e) f2 f3 d8 d4 ?_) ?_
  ·intro it h7 b7 d3 H
   refine hcv_yield d3 rfl rfl ?_
   refine xr ?_
   refine lv rfl rfl (va rfl) ?_
   refine ln ?_
   obtain ⟨e5, H⟩ := H
   refine ⟨rfl, e5, ?_⟩
   intro a1 f5 e2
   replace H := H a1 f5 e2
   refine xb (xs (xr ?_))
   obtain ⟨b4, d6, H⟩ := H
   refine lv rfl rfl (vl TyTN.agg47 rfl d6) ?_
   obtain ⟨a3, a2, c1, Hq⟩ := H
   subst c1
   have H := Hq; clear Hq
   refine lv rfl rfl (v := (ptr a3 a2)) (hv_nil rfl) (lv rfl rfl (v := (ptr a3 a2)) (vf TyTN.fld80_0 (b := a3) (o := a2) rfl) ?_)
   obtain ⟨b5, b6, b9, e6, H⟩ := H
   refine lv rfl rfl (vl TyTN.agg78 rfl e6) (lv rfl rfl (vm rfl) (lv rfl rfl (v := (.int .i64 (IntKind.i64.wrap (Int.tdiv it 64)))) (hv_quo rfl rfl (by decide)) ?_))
   obtain ⟨a6, a7, c1, e9, f4, Hq⟩ := H
   subst c1
   have H := Hq; clear Hq
   refine lv rfl rfl (v := (ptr a6 (a7 + (Int.toNat (IntKind.i64.wrap (Int.tdiv it 64))) * 1))) (vi TyTN.el78 rfl rfl e9 f4) ?_
   obtain ⟨a4, e8, H⟩ := H
   refine lv rfl rfl (vl TyTN.agg31 rfl e8) (lv rfl rfl (vm rfl) (lv rfl rfl (v := (.int .i64 (Int.tmod it 64))) (hv_rem rfl rfl (by decide)) ?_))
   obtain ⟨d5, H⟩ := H
   refine lv rfl rfl (v := (.int .u64 (Int.fdiv a4 (2 ^ min (Int.toNat (Int.tmod it 64)) 64)))) (hv_shift rfl rfl d5 rfl) (lv rfl rfl (v := (.int .u64 (iband .u64 (Int.fdiv a4 (2 ^ min (Int.toNat (Int.tmod it 64)) 64)) 1))) (hv_bits rfl rfl rfl) (lv rfl rfl (vr rfl rfl rfl) ?_))
   refine ln (qn ?_)
   refine xc (b := (iband .u64 (Int.fdiv a4 (2 ^ min (Int.toNat (Int.tmod it 64)) 64)) 1) == 0) rfl (fun b3 => ?_) (fun b3 => ?_)
   ·replace H := H.1 b3
    refine xs (xr ?_)
    obtain ⟨d2, H⟩ := H
    refine lp rfl rfl (hn_store (v := (.bool false)) rfl rfl TyTN.sz4 rfl d2 ?_)
    intro b2 d0
    replace H := H b2 d0
    refine ln (qn (xt (br ?_)))
    exact H
   ·replace H := H.2 b3
    refine xi (bn ?_)
    exact H
  ·rintro _ h8 ⟨st, a5, d1, c4, H⟩
   refine ⟨st, a5, d1, c4, ?_⟩
   intro h9 e4 f1
   replace H := H h9 e4 f1
   rcases H with ⟨rfl, H⟩ | ⟨rfl, H⟩
   ·refine jumpQ_n ?_
    refine bn (qn (xs (xr ?_)))
    obtain ⟨e1, H⟩ := H
    refine lp rfl rfl (hn_store (v := (.bool true)) rfl rfl TyTN.sz4 rfl e1 ?_)
    intro b1 e0
    replace H := H b1 e0
    refine ln (qn (xt ?_))
    obtain ⟨a8, e7, H⟩ := H
    exact endQM_ret _ (fun h' hs => ⟨res_one Try.results41 (rv_cell1 TyTN.agg4 rfl (shut_cell hs e7)), H h' hs⟩)
   ·refine jumpQ_ret ?_
    refine br (qr ?_)
    obtain ⟨b0, f0, H⟩ := H
    exact endQM_ret _ (fun h' hs => ⟨res_one Try.results41 (rv_cell1 TyTN.agg4 rfl (shut_cell hs f0)), H h' hs⟩)
theorem f40_shn (a0 : Nat) (a1 : Nat) (h : Heap) (R : Value → Heap → Prop)
  (H : (∃ x : ByteArray, hcell h a0 a1 = some (.string x) ∧ HC Try.prog 34 #[(.string x)] h (fun vv h1 => Ext h h1 ∧ ∃ r : Int, vv = (.int .u64 r) ∧ HC Try.prog 41 #[(.pointer none), (.int .u64 r)] h1 (fun vv h2 => ∃ a2 : Bool, vv = (.bool a2) ∧ R (.bool a2) h2)))) :
  HC Try.prog 40 #[(.pointer none), (ptr a0 a1)] h R := by
 refine hc_of (args := [(.pointer none), (ptr a0 a1)]) Try.func40 rfl Try.ntmps40 (Nat.le_of_ble_eq_true rfl) ?_
 refine xs (xr ?_)
 refine lv rfl rfl (va rfl) ?_
 refine ln (qn (xs (xr ?_)))
 refine lv rfl rfl (vm rfl) ?_
 obtain ⟨x, a3, H⟩ := H
 refine lv rfl rfl (vl TyTN.agg9 rfl a3) ?_
 refine lp rfl rfl (sc TyTN.cb34 rfl (HC.mono H ?_))
 rintro _ h1 ⟨a4, r, rfl, H⟩
 refine lp rfl rfl (sc TyTN.cb41 rfl (HC.mono H ?_))
 rintro _ h2 ⟨a2, rfl, H⟩
 refine lv rfl rfl (va rfl) ?_
 refine ln (qn (xt ?_))
 exact endQ_ret _ (res_one Try.results40 (rv_tmp rfl)) H
end Go.Proofs.Ytcdpapdefdnknaa
namespace Go.Proofs.Ytcdpapdefdnknaa
namespace Cy
open Go
abbrev tF : TypeId := 80
abbrev tU : TypeId := 31
structure Flm (h : Heap) (p w b s : Nat) (F : Nat → Bool) : Prop where
  b1 : 1 ≤ b
  b2 : b ≤ 1048576
  s1 : 1 ≤ s
  s2 : s ≤ 8
  row : h[p]? = some (.cells #[.slice (some ⟨w, 0, none⟩) ((b + 63) / 64) ((b + 63) / 64), .int .i64 b, .int .i64 s] tF (0, 0))
  wrd : ∃ W : List Int, W.length = (b + 63) / 64 ∧ h[w]? = some (.cells (W.map (Value.int .u64)).toArray tU (0, 0)) ∧ Bits 64 W F
section
variable {h h' : Heap} {p w b s : Nat} {F : Nat → Bool}
theorem Flm.rows (f : Flm h p w b s F) (e1 : h'[p]? = h[p]?) (e2 : h'[w]? = h[w]?) : Flm h' p w b s F :=
  ⟨f.b1, f.b2, f.s1, f.s2, e1.trans f.row, let ⟨W, k1, k2, k3⟩ := f.wrd; ⟨W, k1, e2.trans k2, k3⟩⟩
theorem Flm.lt (f : Flm h p w b s F) : p < h.size ∧ w < h.size := ⟨row_lt f.row, let ⟨_, _, k2, _⟩ := f.wrd; row_lt k2⟩
theorem Flm.fr {S : Nat → Prop} (f : Flm h p w b s F) (x : Fr S h h') (np : ¬ S p) (nw : ¬ S w) : Flm h' p w b s F := f.rows (x.block p f.lt.1 np) (x.block w f.lt.2 nw)
theorem Flm.ext (f : Flm h p w b s F) (x : Ext h h') : Flm h' p w b s F := f.rows (x.block p f.lt.1) (x.block w f.lt.2)
theorem Flm.ne (f : Flm h p w b s F) : p ≠ w := fun e => by
  obtain ⟨W, _, k2, _⟩ := f.wrd
  have := f.row
  rw [e, k2] at this
  simp only [Option.some.injEq, Obj.cells.injEq] at this
  exact absurd this.2.1 (by decide)
theorem Flm.shut {N : Nat} (f : Flm h p w b s F) (x : Shut' N h h') : Flm h' p w b s F :=
  ⟨f.b1, f.b2, f.s1, f.s2, x.row f.row (by simp), let ⟨W, k1, k2, k3⟩ := f.wrd; ⟨W, k1, x.row k2 (by simp), k3⟩⟩
theorem zc_one (v : Value) (n : Nat) : zcells [v] n = List.replicate n v := by unfold zcells; simp
def okF (bits hashes : Int) : Prop := 1 ≤ bits ∧ bits ≤ 1048576 ∧ 1 ≤ hashes ∧ hashes ≤ 8
instance (bits hashes : Int) : Decidable (okF bits hashes) := by unfold okF; infer_instance
theorem okF_b (bits hashes : Int) : ((decide (bits < 1)) || ((decide (bits > 1048576)) || ((decide (hashes < 1)) || (decide (hashes > 8))))) = !decide (okF bits hashes) := by
  have e : okF bits hashes ↔ ¬ (bits < 1 ∨ bits > 1048576 ∨ hashes < 1 ∨ hashes > 8) := by unfold okF; omega
  rw [decide_eq_decide.2 e, decide_not, Bool.not_not, Bool.decide_or, Bool.decide_or, Bool.decide_or]
theorem new_m (bits hashes : Int) (h : Heap) : HC Try.prog 32 #[.int .i64 bits, .int .i64 hashes] h fun v h' => Ext h h' ∧
    ((¬ okF bits hashes ∧ v = .tuple #[.pointer none, .int .i64 150]) ∨ (okF bits hashes ∧ ∃ p w, v = .tuple #[ptr p 0, .int .i64 0] ∧ h.size ≤ p ∧ h.size ≤ w ∧ Flm h' p w bits.toNat hashes.toNat fun _ => false)) := by
  refine f32_sh _ _ _ _ ?_
  rw [okF_b]
  refine ⟨fun e => ⟨Ext.refl _, .inl ⟨of_decide_eq_false (by simpa using e), rfl⟩⟩, fun e => ?_⟩
  have ok : okF bits hashes := of_decide_eq_true (by simpa using e)
  obtain ⟨o1, o2, o3, o4⟩ := ok
  have en : IntKind.i64.wrap (Int.tdiv (IntKind.i64.wrap (IntKind.i64.wrap (bits + 64) - 1)) 64) = (((bits.toNat + 63) / 64 : Nat) : Int) := by
    rw [w64 (x := bits + 64) (by omega) (by omega), w64 (x := bits + 64 - 1) (by omega) (by omega), Int.tdiv_eq_ediv_of_nonneg (by omega), w64 (by omega) (by omega)]; omega
  rw [en, Int.toNat_natCast]
  refine ⟨by omega, by omega, by omega, fun nb h1 e1 eh1 nb1 h2 e2 eh2 => ?_⟩
  have x1 : Ext h h1 := by rw [eh1]; exact Ext.push _ _
  have x12 : Ext h1 h2 := by rw [eh2]; exact Ext.push _ _
  have z1 := x1.size
  refine ⟨x1.trans x12, .inr ⟨⟨o1, o2, o3, o4⟩, nb1, nb, rfl, by omega, by omega, ?_⟩⟩
  have r1 : h1[nb]? = some (.cells ((List.replicate ((bits.toNat + 63) / 64) (0 : Int)).map (Value.int .u64)).toArray tU (0, 0)) := by
    rw [eh1, List.map_replicate, ← zc_one]; exact push_new e1
  have x2 : Ext h1 h2 := by rw [eh2]; exact Ext.push _ _
  refine ⟨by omega, by omega, by omega, by omega, ?_, _, by simp, x2.row r1, Bits.zero _ _⟩
  rw [eh2]
  have := push_new (h := h1) (o := .cells #[.slice (some ⟨nb, 0, none⟩) ((bits.toNat + 63) / 64) ((bits.toNat + 63) / 64), .int .i64 bits, .int .i64 hashes] tF) e2
  rw [show ((bits.toNat : Nat) : Int) = bits by omega, show ((hashes.toNat : Nat) : Int) = hashes by omega]; exact this
theorem made_m (f : Flm h p w b s F) : HC Try.prog 37 #[ptr p 0] h fun v h' => v = .bool true ∧ h' = h :=
  f37_sh _ _ _ _ ⟨b, by rw [hcell_row f.row]; rfl, by rw [decide_eq_true (by have := f.b1; omega)], rfl⟩
theorem Flm.word (f : Flm h p w b s F) {i : Nat} (hi : i < (b + 63) / 64) : ∃ x : Int, hcell h w i = some (.int .u64 x) ∧ U64 x ∧ ∀ j, j < 64 → x.toNat.testBit j = F (64 * i + j) := by
  obtain ⟨W, k1, k2, k3⟩ := f.wrd
  have hiW : i < W.length := by omega
  refine ⟨W[i], ?_, u64_pow (k3 i hiW).1, (k3 i hiW).2⟩
  rw [hcell_row k2, List.getElem?_toArray, List.getElem?_map, List.getElem?_eq_getElem hiW]; rfl
theorem Flm.set (f : Flm h p w b s F) {i j : Nat} (hi : i < (b + 63) / 64) (hj : j < 64) {x : Int} (hx : hcell h w i = some (.int .u64 x)) : HW h w i ∧ ∀ h', h' = hset h w i (.int .u64 ((x.toNat ||| 2 ^ j : Nat) : Int)) → Flm h' p w b s fun q => F q || decide (q = 64 * i + j) := by
  obtain ⟨W, k1, k2, k3⟩ := f.wrd
  have hiW : i < W.length := by omega
  have ex : x = W[i] := by
    rw [hcell_row k2, List.getElem?_toArray, List.getElem?_map, List.getElem?_eq_getElem hiW] at hx
    simpa using hx.symm
  subst ex
  refine ⟨HW_row k2 (by simp; omega), fun h' e => ⟨f.b1, f.b2, f.s1, f.s2, by rw [e, hset_ne f.ne]; exact f.row, _, by rw [List.length_set]; exact k1, ?_, k3.or hiW hj⟩⟩
  have := hset_row (o := i) (v := .int .u64 ((W[i].toNat ||| 2 ^ j : Nat) : Int)) k2
  rw [← e, List.setIfInBounds_toArray] at this
  rw [this, List.map_set]
theorem cbP : CallB Try.prog 60 := fun _ _ => Try.call60 _ _
theorem places_go {y : Value} {R : Value → Heap → Prop} {hb fb : Nat} {hv : Int} (b1 : 1 ≤ b) (b2 : b ≤ 1048576) (rh : hcell h hb 0 = some (.int .u64 hv)) (rf : hcell h fb 0 = some (ptr p 0)) (r2 : hcell h p 2 = some (.int .i64 s)) (s2 : s ≤ 8) (J : Nat → Heap → Prop) (j0 : J 0 h)
    (jr : ∀ j hh, J j hh → hcell hh fb 0 = some (ptr p 0) ∧ hcell hh p 1 = some (.int .i64 b))
    (step : ∀ j, j < s → ∀ hh, J j hh → HCV Try.prog y [.int .i64 (plc b hv j : Nat)] hh fun vv h' => ∃ r : Bool, vv = .bool r ∧ (r = false → R (.tuple #[]) h') ∧ (r = true → J (j + 1) h'))
    (fin : ∀ hh, J s hh → R (.tuple #[]) hh) : HCF Try.prog (.func (.func 60) #[] #[ptr hb 0, ptr fb 0]) [y] h R := by
  refine ⟨60, [], [ptr hb 0, ptr fb 0], rfl, cbP, ?_⟩
  refine f60_sh _ _ _ _ _ _ _ ⟨hv, rh, mix hv, fun h4 _ => mix_m _ _, mix (IntKind.u64.wrap (hv + 1)), fun h3 _ => mix_m _ _, _, rf, p, 0, rfl, s, r2, fun a v hh => ∃ j : Nat, v = j ∧ j ≤ s ∧ a = atv hv j ∧ J j hh, fun _ v _ => s - v.toNat, ⟨0, rfl, Nat.zero_le _, rfl, j0⟩, ?_⟩
  rintro _ _ h1 ⟨j, rfl, hj, rfl, jj⟩
  refine ⟨fun e => ?_, fun e => ?_⟩
  · have hlt := lt_of_dec e
    obtain ⟨q1, q2⟩ := jr j h1 jj
    refine ⟨_, q1, p, 0, rfl, b, q2, by rw [uW ⟨by omega, by omega⟩]; omega, ?_⟩
    rw [plc_eq (by omega) b2]
    refine (step j hlt h1 jj).mono ?_
    rintro _ h2 ⟨r, rfl, hf, ht⟩
    refine ⟨r, rfl, fun e => hf (by simpa using e), fun e => ?_⟩
    rw [wadd j (by omega)]
    exact ⟨⟨j + 1, rfl, hlt, rfl, ht (by simpa using e)⟩, by show s - Int.toNat _ < s - Int.toNat _; omega⟩
  · have : j = s := by have := ge_of_dec e; omega
    subst this
    exact fin h1 jj
theorem tdm (q : Nat) (hq : q ≤ 4611686018427387904) : IntKind.i64.wrap (Int.tdiv (q : Int) 64) = ((q / 64 : Nat) : Int) ∧ Int.tmod (q : Int) 64 = ((q % 64 : Nat) : Int) := by
  rw [show (64 : Int) = ((64 : Nat) : Int) from rfl, tdiv_nat, tmod_nat, w64 (by omega) (by omega)]
  exact ⟨rfl, rfl⟩
set_option maxHeartbeats 1600000 in
theorem add_m (f : Flm h p w b s F) (hv : Int) : HC Try.prog 33 #[ptr p 0, .int .u64 hv] h fun v h' => ∃ q : Bool, v = .bool q ∧ Fr (· = w) h h' ∧ Flm h' p w b s (addF b s F hv) := by
  have b1 := f.b1
  have b2 := f.b2
  have lp := f.lt.1
  have lw := f.lt.2
  refine f33_sh _ _ _ _ _ fun fb h1 e1 eh1 => ?_
  have x1 : Ext h h1 := by rw [eh1]; exact Ext.push _ _
  have r1 : h1[fb]? = some (.cells #[ptr p 0] 47 (0, 0)) := by rw [eh1]; exact push_new e1
  have z1 : h1.size = h.size + 1 := by rw [eh1]; simp
  clear eh1
  refine ⟨_, by rw [hcell_row r1]; rfl, true, made_m (f.ext x1), fun e => by simp at e, fun _ fr h3 e3 eh3 => ?_⟩
  have x3 : Ext h1 h3 := by rw [eh3]; exact Ext.push _ _
  have r3 : h3[fr]? = some (.cells #[.bool false] 4 (0, 0)) := by rw [eh3]; exact push_new e3
  have z3 : h3.size = h1.size + 1 := by rw [eh3]; simp
  clear eh3
  refine ⟨HW_row r3 (by simp), fun h4 e4 => ?_⟩
  have r4 : h4[fr]? = some (.cells #[.bool false] 4 (0, 0)) := by rw [e4]; exact hset_row r3
  have f4 : Fr (· = fr) h3 h4 := fr_hset_of e4
  have z4 : h4.size = h3.size := by rw [e4]; exact hset_size
  have x4 : Ext h h4 := (((x1.trans x3).fr _).trans f4 fun _ _ q => q).ext fun i hi q => by omega
  have rf4 := f4.row (x3.row r1) (by omega)
  clear e4
  refine ⟨_, by rw [hcell_row rf4]; rfl, f49_sh _ _ _ _ _ fun gb h50 e5 eh5 hb h5 e6 eh6 => ⟨_, rfl, fun Lp l h6 y stay el x6 z6 L6 hyld => ?_⟩⟩
  have x50 : Ext h4 h50 := by rw [eh5]; exact Ext.push _ _
  have r50 : h50[gb]? = some (.cells #[ptr p 0] 47 (0, 0)) := by rw [eh5]; exact push_new e5
  have z50 : h50.size = h4.size + 1 := by rw [eh5]; simp
  have x5 : Ext h50 h5 := by rw [eh6]; exact Ext.push _ _
  have r5 : h5[hb]? = some (.cells #[.int .u64 hv] tU (0, 0)) := by rw [eh6]; exact push_new e6
  have z5 : h5.size = h50.size + 1 := by rw [eh6]; simp
  clear eh5 eh6
  have x46 := (x50.trans x5).trans x6
  let C : Nat → Heap → Prop := fun j hh => (∃ q, hh[fr]? = some (.cells #[.bool q] 4 (0, 0))) ∧ hh[fb]? = some (.cells #[ptr p 0] 47 (0, 0)) ∧ hh[gb]? = some (.cells #[ptr p 0] 47 (0, 0)) ∧ Flm hh p w b s (addT b F hv j) ∧ Fr (· = w) h hh
  have C0 : C 0 h6 := ⟨⟨_, x46.row r4⟩, x46.row rf4, (x5.trans x6).row r50, f.ext (x4.trans x46), (x4.trans x46).fr _⟩
  have only : ∀ {j : Nat} {ha hc : Heap}, C j ha → Only l ha hc → C j hc := fun {j ha hc} ⟨⟨q, c1⟩, c2, c3, c4, c5⟩ o =>
    ⟨⟨q, o.fr.row c1 (by omega)⟩, o.fr.row c2 (by omega), o.fr.row c3 (by omega), c4.fr o.fr (by omega) (by omega), c5.trans o.fr fun i hi q => by omega⟩
  have ne := f.ne
  refine places_go b1 b2 (by rw [hcell_row (x6.row r5)]; rfl) (by rw [hcell_row ((x5.trans x6).row r50)]; rfl) (by rw [hcell_row (f.ext (x4.trans x46)).row]; rfl) f.s2 (fun j hh => Lp .ready none hh ∧ C j hh) ⟨L6, C0⟩
    (fun j hh ⟨_, _, _, c3, c4, _⟩ => ⟨by rw [hcell_row c3]; rfl, by rw [hcell_row c4.row]; rfl⟩) ?_ ?_
  · rintro j hj hh ⟨lpj, cj⟩
    have hpl := plc_lt (b := b) (by omega) hv j
    generalize hq : plc b hv j = q at *
    obtain ⟨t1, t2⟩ := tdm q (by omega)
    refine hyld _ hh _ lpj ⟨lpj, fun h10 o10 lp10 => ?_⟩
    have c10 := only cj o10
    rw [t1, t2]
    refine ⟨by omega, fun h11 => Lp .busy none h11 ∧ C j h11, ?_, ?_⟩
    · obtain ⟨⟨q0, c1⟩, c2, c3, c4, c5⟩ := c10
      have upd : ∀ {q1 : Bool} {h12 : Heap}, h12 = hset h10 fr 0 (.bool q1) → Lp .busy none h12 ∧ C j h12 := fun {q1 h12} e => by
        have fx : Fr (· = fr) h10 h12 := fr_hset_of e
        refine ⟨stay _ _ _ _ lp10 (by rw [e]; exact hset_ne (by omega)), ⟨q1, by rw [e]; exact hset_row c1⟩, fx.row c2 (by omega), fx.row c3 (by omega), c4.fr fx (by omega) (by omega), c5.trans fx fun i hi q => by omega⟩
      refine ⟨q0, by rw [hcell_row c1]; rfl, fun _ => ⟨HW_row c1 (by simp), fun h12 e12 => upd e12⟩, fun _ => ?_⟩
      obtain ⟨x5', w1, _, _⟩ := c4.word (i := q / 64) (by omega)
      refine ⟨_, by rw [hcell_row c2]; rfl, p, 0, rfl, _, _, _, by rw [hcell_row c4.row]; rfl, w, 0, rfl, by omega, by omega, x5', ?_, HW_row c1 (by simp), fun h13 e13 => upd e13⟩
      rw [Int.toNat_natCast, Nat.zero_add, Nat.mul_one]; exact w1
    · rintro h11 ⟨lp11, ⟨q0, c1⟩, c2, c3, c4, c5⟩
      obtain ⟨x8, w1, w2, _⟩ := c4.word (i := q / 64) (by omega)
      refine ⟨_, by rw [hcell_row c2]; rfl, p, 0, rfl, _, _, _, by rw [hcell_row c4.row]; rfl, w, 0, rfl, by omega, by omega, x8, ?_, ?_⟩
      · rw [Int.toNat_natCast, Nat.zero_add, Nat.mul_one]; exact w1
      have hm : q % 64 < 64 := Nat.mod_lt _ (by decide)
      obtain ⟨u1, u2⟩ := c4.set (j := q % 64) (by omega) hm w1
      rw [Int.toNat_natCast, Int.toNat_natCast, Nat.zero_add, Nat.mul_one, Nat.min_eq_left (by omega), or_m w2 hm]
      refine ⟨u1, fun h14 e14 => ?_⟩
      have f14 := u2 h14 e14
      have fx : Fr (· = w) h11 h14 := fr_hset_of e14
      refine ⟨stay _ _ _ _ lp11 (by rw [e14]; exact hset_ne (by omega)), fun h15 o15 lp15 => ⟨true, rfl, fun e => by simp at e, fun _ => ⟨lp15, only (j := j + 1) ⟨⟨q0, fx.row c1 (by omega)⟩, fx.row c2 (by omega), fx.row c3 (by omega), ?_, c5.trans fx fun _ _ q => q⟩ o15⟩⟩⟩
      have : addT b F hv (j + 1) = fun q_1 => addT b F hv j q_1 || decide (q_1 = 64 * (q / 64) + q % 64) := by
        rw [Nat.div_add_mod]; simp only [addT, hq]
      rw [this]; exact f14
  · rintro hh ⟨lpj, cj⟩
    refine ⟨.ready, none, lpj, by simp, fun h9 o9 _ => ⟨rfl, ?_⟩⟩
    obtain ⟨⟨q, c1⟩, c2, c3, c4, c5⟩ := only cj o9
    refine ⟨q, by rw [hcell_row c1]; rfl, fun h16 sh => ⟨q, rfl, c5.trans sh.fr fun i hi q => by omega, c4.shut sh⟩⟩
set_option maxHeartbeats 1600000 in
theorem may_m (f : Flm h p w b s F) (hv : Int) : HC Try.prog 41 #[ptr p 0, .int .u64 hv] h fun v h' => v = .bool (mayF b s F hv) ∧ Ext h h' := by
  have b1 := f.b1
  have b2 := f.b2
  have lp := f.lt.1
  have lw := f.lt.2
  refine f41_sh _ _ _ _ _ fun fb h1 e1 eh1 fr h2 e3 eh3 => ?_
  have x1 : Ext h h1 := by rw [eh1]; exact Ext.push _ _
  have r1 : h1[fb]? = some (.cells #[ptr p 0] 47 (0, 0)) := by rw [eh1]; exact push_new e1
  have z1 : h1.size = h.size + 1 := by rw [eh1]; simp
  have x3 : Ext h1 h2 := by rw [eh3]; exact Ext.push _ _
  have r3 : h2[fr]? = some (.cells #[.bool false] 4 (0, 0)) := by rw [eh3]; exact push_new e3
  have z3 : h2.size = h1.size + 1 := by rw [eh3]; simp
  clear eh1 eh3
  have rf4 := x3.row r1
  have x4 := x1.trans x3
  refine ⟨_, by rw [hcell_row rf4]; rfl, true, made_m (f.ext x4), fun e => by simp at e, fun _ => f49_sh _ _ _ _ _ fun gb h50 e5 eh5 hb h5 e6 eh6 => ⟨_, rfl, fun Lp l h6 y stay el x6 z6 L6 hyld => ?_⟩⟩
  have x50 : Ext h2 h50 := by rw [eh5]; exact Ext.push _ _
  have r50 : h50[gb]? = some (.cells #[ptr p 0] 47 (0, 0)) := by rw [eh5]; exact push_new e5
  have z50 : h50.size = h2.size + 1 := by rw [eh5]; simp
  have x5 : Ext h50 h5 := by rw [eh6]; exact Ext.push _ _
  have r5 : h5[hb]? = some (.cells #[.int .u64 hv] tU (0, 0)) := by rw [eh6]; exact push_new e6
  have z5 : h5.size = h50.size + 1 := by rw [eh6]; simp
  clear eh5 eh6
  have x46 := (x50.trans x5).trans x6
  let C : Heap → Prop := fun hh => (∃ q, hh[fr]? = some (.cells #[.bool q] 4 (0, 0))) ∧ hh[fb]? = some (.cells #[ptr p 0] 47 (0, 0)) ∧ hh[gb]? = some (.cells #[ptr p 0] 47 (0, 0)) ∧ Flm hh p w b s F ∧ Ext h hh
  have C0 : C h6 := ⟨⟨_, x46.row r3⟩, x46.row rf4, (x5.trans x6).row r50, f.ext (x4.trans x46), x4.trans x46⟩
  have only : ∀ {ha hc : Heap}, C ha → Only l ha hc → C hc := fun {ha hc} ⟨⟨q, c1⟩, c2, c3, c4, c5⟩ o =>
    ⟨⟨q, o.fr.row c1 (by omega)⟩, o.fr.row c2 (by omega), o.fr.row c3 (by omega), c4.fr o.fr (by omega) (by omega), ((c5.fr _).trans o.fr fun _ _ q => q).ext fun i hi q => by omega⟩
  refine places_go b1 b2 (by rw [hcell_row (x6.row r5)]; rfl) (by rw [hcell_row ((x5.trans x6).row r50)]; rfl) (by rw [hcell_row (f.ext (x4.trans x46)).row]; rfl) f.s2 (fun j hh => Lp .ready none hh ∧ C hh ∧ ∀ i, i < j → F (plc b hv i) = true) ⟨L6, C0, fun i hi => by omega⟩
    (fun j hh ⟨_, ⟨_, _, c3, c4, _⟩, _⟩ => ⟨by rw [hcell_row c3]; rfl, by rw [hcell_row c4.row]; rfl⟩) ?_ ?_
  · rintro j hj hh ⟨lpj, cj, ij⟩
    have hpl := plc_lt (b := b) (by omega) hv j
    generalize hq : plc b hv j = q at *
    obtain ⟨t1, t2⟩ := tdm q (by omega)
    refine hyld _ hh _ lpj ⟨lpj, fun h10 o10 lp10 => ?_⟩
    have c10 := only cj o10
    obtain ⟨⟨q0, c1⟩, c2, c3, c4, c5⟩ := c10
    obtain ⟨x3', w1, w2, w3⟩ := c4.word (i := q / 64) (by omega)
    rw [t1, t2]
    have hm : q % 64 < 64 := Nat.mod_lt _ (by decide)
    have hbit := w3 (q % 64) hm
    rw [Nat.div_add_mod] at hbit
    refine ⟨_, by rw [hcell_row c2]; rfl, p, 0, rfl, _, _, _, by rw [hcell_row c4.row]; rfl, w, 0, rfl, by omega, by omega, x3', by rw [Int.toNat_natCast, Nat.zero_add, Nat.mul_one]; exact w1, by omega, ?_⟩
    rw [Int.toNat_natCast, Nat.min_eq_left (by omega), bit_m w2, hbit]
    refine ⟨fun e => ⟨HW_row c1 (by simp), fun h11 e11 => ?_⟩, fun e => ?_⟩
    · have hF : F q = false := by simpa using e
      have fx : Fr (· = fr) h10 h11 := fr_hset_of e11
      have c11 : h11[fr]? = some (.cells #[.bool false] 4 (0, 0)) := by rw [e11]; exact hset_row c1
      have x11 : Ext h h11 := ((c5.fr _).trans fx fun _ _ q => q).ext fun i hi q => by omega
      refine ⟨stay _ _ _ _ lp10 (by rw [e11]; exact hset_ne (by omega)), fun h12 o12 lp12 => ⟨false, rfl, fun _ => ⟨.done, some .ret, lp12, by simp, fun h9 o9 _ => .inr ⟨rfl, false, ?_, fun h16 sh => ⟨?_, ?_⟩⟩⟩, fun e => by simp at e⟩⟩
      · rw [hcell_row (o9.fr.row (o12.fr.row c11 (by omega)) (by omega))]; rfl
      · have : mayF b s F hv = false := by
          unfold mayF
          rw [List.all_eq_false]
          exact ⟨j, List.mem_range.2 hj, by rw [hq, hF]; simp⟩
        rw [this]
      · exact ((((x11.fr (fun b => h.size ≤ b)).trans o12.fr fun i hi q => by omega).trans o9.fr fun i hi q => by omega).trans sh.fr fun i hi q => by omega).ext fun i hi q => by omega
    · have hF : F q = true := by simpa using e
      refine ⟨lp10, fun h13 o13 lp13 => ⟨true, rfl, fun e => by simp at e, fun _ => ⟨lp13, only ⟨⟨q0, c1⟩, c2, c3, c4, c5⟩ o13, fun i hi => ?_⟩⟩⟩
      by_cases e2 : i = j
      · rw [e2, hq]; exact hF
      · exact ij i (by omega)
  · rintro hh ⟨lpj, cj, ij⟩
    refine ⟨.ready, none, lpj, by simp, fun h9 o9 _ => .inl ⟨rfl, ?_⟩⟩
    obtain ⟨⟨q, c1⟩, c2, c3, c4, c5⟩ := only cj o9
    refine ⟨HW_row c1 (by simp), fun h14 e14 => ⟨true, by rw [e14, hcell_row (hset_row c1)]; rfl, fun h15 sh => ⟨?_, ?_⟩⟩⟩
    · have : mayF b s F hv = true := by
        unfold mayF
        rw [List.all_eq_true]
        exact fun j hj => ij j (List.mem_range.1 hj)
      rw [this]
    · exact (((c5.fr (fun b => h.size ≤ b)).trans (fr_hset_of e14) fun i hi q => by omega).trans sh.fr fun i hi q => by omega).ext fun i hi q => by omega
end
end Cy
end Go.Proofs.Ytcdpapdefdnknaa
namespace Go.Proofs.Ytcdpapdefdnknaa
namespace Cy
open Go
abbrev tFr : TypeId := 56
abbrev tB : TypeId := 5
structure Flr (h : Heap) (p w b s : Nat) (F : Nat → Bool) : Prop where
  b1 : 1 ≤ b
  b2 : b ≤ 1048576
  s1 : 1 ≤ s
  s2 : s ≤ 8
  row : h[p]? = some (.cells #[.int .i64 b, .int .i64 s, .slice (some ⟨w, 0, none⟩) ((b + 7) / 8) ((b + 7) / 8)] tFr (0, 0))
  wrd : ∃ W : List Int, W.length = (b + 7) / 8 ∧ h[w]? = some (.cells (W.map (Value.int .u8)).toArray tB (0, 0)) ∧ Bits 8 W F
section
variable {h h' : Heap} {p w b s : Nat} {F : Nat → Bool}
theorem Flr.rows (f : Flr h p w b s F) (e1 : h'[p]? = h[p]?) (e2 : h'[w]? = h[w]?) : Flr h' p w b s F :=
  ⟨f.b1, f.b2, f.s1, f.s2, e1.trans f.row, let ⟨W, k1, k2, k3⟩ := f.wrd; ⟨W, k1, e2.trans k2, k3⟩⟩
theorem Flr.lt (f : Flr h p w b s F) : p < h.size ∧ w < h.size := ⟨row_lt f.row, let ⟨_, _, k2, _⟩ := f.wrd; row_lt k2⟩
theorem Flr.fr {S : Nat → Prop} (f : Flr h p w b s F) (x : Fr S h h') (np : ¬ S p) (nw : ¬ S w) : Flr h' p w b s F := f.rows (x.block p f.lt.1 np) (x.block w f.lt.2 nw)
theorem Flr.ext (f : Flr h p w b s F) (x : Ext h h') : Flr h' p w b s F := f.rows (x.block p f.lt.1) (x.block w f.lt.2)
theorem Flr.ne (f : Flr h p w b s F) : p ≠ w := fun e => by
  obtain ⟨W, _, k2, _⟩ := f.wrd
  have := f.row
  rw [e, k2] at this
  simp only [Option.some.injEq, Obj.cells.injEq] at this
  exact absurd this.2.1 (by decide)
theorem new_r (bits hashes : Int) (h : Heap) : HC Try.prog 30 #[.int .i64 bits, .int .i64 hashes] h fun v h' => Ext h h' ∧
    ((¬ okF bits hashes ∧ v = .tuple #[.pointer none, .int .i64 150]) ∨ (okF bits hashes ∧ ∃ p w, v = .tuple #[ptr p 0, .int .i64 0] ∧ h.size ≤ p ∧ h.size ≤ w ∧ Flr h' p w bits.toNat hashes.toNat fun _ => false)) := by
  refine f30_sh _ _ _ _ ?_
  rw [okF_b]
  refine ⟨fun e => ⟨Ext.refl _, .inl ⟨of_decide_eq_false (by simpa using e), rfl⟩⟩, fun e => ?_⟩
  have ok : okF bits hashes := of_decide_eq_true (by simpa using e)
  obtain ⟨o1, o2, o3, o4⟩ := ok
  have en : IntKind.i64.wrap (Int.tdiv (IntKind.i64.wrap (bits + 7)) 8) = (((bits.toNat + 7) / 8 : Nat) : Int) := by
    rw [w64 (x := bits + 7) (by omega) (by omega), Int.tdiv_eq_ediv_of_nonneg (by omega), w64 (by omega) (by omega)]; omega
  rw [en, Int.toNat_natCast]
  refine ⟨by omega, by omega, by omega, fun nb h1 e1 eh1 nb1 h2 e2 eh2 => ?_⟩
  have x1 : Ext h h1 := by rw [eh1]; exact Ext.push _ _
  have x12 : Ext h1 h2 := by rw [eh2]; exact Ext.push _ _
  have z1 := x1.size
  refine ⟨x1.trans x12, .inr ⟨⟨o1, o2, o3, o4⟩, nb1, nb, rfl, by omega, by omega, ?_⟩⟩
  have r1 : h1[nb]? = some (.cells ((List.replicate ((bits.toNat + 7) / 8) (0 : Int)).map (Value.int .u8)).toArray tB (0, 0)) := by
    rw [eh1, List.map_replicate, ← zc_one]; exact push_new e1
  refine ⟨by omega, by omega, by omega, by omega, ?_, _, by simp, x12.row r1, Bits.zero _ _⟩
  rw [eh2]
  have := push_new (h := h1) (o := .cells #[.int .i64 bits, .int .i64 hashes, .slice (some ⟨nb, 0, none⟩) ((bits.toNat + 7) / 8) ((bits.toNat + 7) / 8)] tFr) e2
  rw [show ((bits.toNat : Nat) : Int) = bits by omega, show ((hashes.toNat : Nat) : Int) = hashes by omega]; exact this
theorem Flr.word (f : Flr h p w b s F) {i : Nat} (hi : i < (b + 7) / 8) : ∃ x : Int, hcell h w i = some (.int .u8 x) ∧ (0 ≤ x ∧ x < 256) ∧ ∀ j, j < 8 → x.toNat.testBit j = F (8 * i + j) := by
  obtain ⟨W, k1, k2, k3⟩ := f.wrd
  have hiW : i < W.length := by omega
  refine ⟨W[i], ?_, (k3 i hiW).1, (k3 i hiW).2⟩
  rw [hcell_row k2, List.getElem?_toArray, List.getElem?_map, List.getElem?_eq_getElem hiW]; rfl
theorem Flr.set (f : Flr h p w b s F) {i j : Nat} (hi : i < (b + 7) / 8) (hj : j < 8) {x : Int} (hx : hcell h w i = some (.int .u8 x)) : HW h w i ∧ ∀ h', h' = hset h w i (.int .u8 ((x.toNat ||| 2 ^ j : Nat) : Int)) → Flr h' p w b s fun q => F q || decide (q = 8 * i + j) := by
  obtain ⟨W, k1, k2, k3⟩ := f.wrd
  have hiW : i < W.length := by omega
  have ex : x = W[i] := by
    rw [hcell_row k2, List.getElem?_toArray, List.getElem?_map, List.getElem?_eq_getElem hiW] at hx
    simpa using hx.symm
  subst ex
  refine ⟨HW_row k2 (by simp; omega), fun h' e => ⟨f.b1, f.b2, f.s1, f.s2, by rw [e, hset_ne f.ne]; exact f.row, _, by rw [List.length_set]; exact k1, ?_, k3.or hiW hj⟩⟩
  have := hset_row (o := i) (v := .int .u8 ((W[i].toNat ||| 2 ^ j : Nat) : Int)) k2
  rw [← e, List.setIfInBounds_toArray] at this
  rw [this, List.map_set]
theorem place_r (f : Flr h p w b s F) (hv : Int) {j : Nat} (hj : j ≤ 8) : HC Try.prog 51 #[ptr p 0, .int .u64 hv, .int .i64 j] h fun v h' => v = .int .i64 ((plc b hv j : Nat) : Int) ∧ h' = h := by
  have b1 := f.b1
  have b2 := f.b2
  refine f51_sh _ _ _ _ _ _ ⟨_, mix_r _ h, _, fun h1 _ => mix_r _ h1, b, by rw [hcell_row f.row]; rfl, by rw [uW ⟨by omega, by omega⟩]; omega, ?_, rfl⟩
  have e : IntKind.u64.wrap (mix hv + IntKind.u64.wrap (IntKind.u64.wrap (j : Int) * (ibor .u64 (mix (IntKind.u64.wrap (hv + 1))) 1))) = atv hv j := by
    rw [atv_mul, uW (x := (j : Int)) ⟨by omega, by omega⟩, Int.add_comm, uAdd, Int.add_comm]; rfl
  rw [e, plc_eq (by omega) b2]
theorem tdm8 (q : Nat) (hq : q ≤ 4611686018427387904) : IntKind.i64.wrap (Int.tdiv (q : Int) 8) = ((q / 8 : Nat) : Int) ∧ Int.tmod (q : Int) 8 = ((q % 8 : Nat) : Int) := by
  rw [show (8 : Int) = ((8 : Nat) : Int) from rfl, tdiv_nat, tmod_nat, w64 (by omega) (by omega)]
  exact ⟨rfl, rfl⟩
theorem may_r (f : Flr h p w b s F) (hv : Int) : HC Try.prog 43 #[ptr p 0, .int .u64 hv] h fun v h' => v = .bool (mayF b s F hv) ∧ h' = h := by
  have b1 := f.b1
  have b2 := f.b2
  have s2 := f.s2
  refine f43_sh _ _ _ _ _ ⟨fun v => ∃ j : Nat, v = j ∧ j ≤ s ∧ ∀ i, i < j → F (plc b hv i) = true, fun v => s - v.toNat, ⟨0, rfl, Nat.zero_le _, fun i hi => by omega⟩, ?_⟩
  rintro _ ⟨j, rfl, hj, ij⟩
  refine ⟨s, by rw [hcell_row f.row]; rfl, fun e => ?_, fun e => ⟨?_, rfl⟩⟩
  · have hlt := lt_of_dec e
    have hpl := plc_lt (b := b) (by omega) hv j
    have hc := place_r f hv (j := j) (by omega)
    generalize hq : plc b hv j = q at *
    obtain ⟨t1, t2⟩ := tdm8 q (by omega)
    obtain ⟨x, w1, w2, w3⟩ := f.word (i := q / 8) (by omega)
    have hm : q % 8 < 8 := Nat.mod_lt _ (by decide)
    have hbit := w3 (q % 8) hm
    rw [Nat.div_add_mod] at hbit
    refine ⟨_, hc, _, _, _, by rw [hcell_row f.row]; rfl, w, 0, rfl, ?_⟩
    rw [t1, t2]
    refine ⟨by omega, by omega, x, by rw [Int.toNat_natCast, Nat.zero_add, Nat.mul_one]; exact w1, by omega, ?_⟩
    rw [Int.toNat_natCast, Nat.min_eq_left (by omega), bit_r w2.1, hbit]
    refine ⟨fun e => ⟨?_, rfl⟩, fun e => ?_⟩
    · have hF : F q = false := by simpa using e
      have : mayF b s F hv = false := by
        unfold mayF
        rw [List.all_eq_false]
        exact ⟨j, List.mem_range.2 hlt, by rw [hq, hF]; simp⟩
      rw [this]
    · have hF : F q = true := by simpa using e
      rw [wadd j (by omega)]
      refine ⟨⟨j + 1, rfl, hlt, fun i hi => ?_⟩, by show s - Int.toNat _ < s - Int.toNat _; omega⟩
      by_cases e2 : i = j
      · rw [e2, hq]; exact hF
      · exact ij i (by omega)
  · have : j = s := by have := ge_of_dec e; omega
    subst this
    have : mayF b j F hv = true := by
      unfold mayF
      rw [List.all_eq_true]
      exact fun i hi => ij i (List.mem_range.1 hi)
    rw [this]
theorem add_r (f : Flr h p w b s F) (hv : Int) : HC Try.prog 35 #[ptr p 0, .int .u64 hv] h fun v h' => ∃ q : Bool, v = .bool q ∧ Fr (· = w) h h' ∧ Flr h' p w b s (addF b s F hv) := by
  have b1 := f.b1
  have b2 := f.b2
  have s2 := f.s2
  refine f35_sh _ _ _ _ _ ⟨_, may_r f hv, fun v h1 => ∃ j : Nat, v = j ∧ j ≤ s ∧ Fr (· = w) h h1 ∧ Flr h1 p w b s (addT b F hv j), fun v _ => s - v.toNat, ⟨0, rfl, Nat.zero_le _, Fr.refl _ _, f⟩, ?_⟩
  rintro _ h1 ⟨j, rfl, hj, f1, g⟩
  refine ⟨s, by rw [hcell_row g.row]; rfl, fun e => ?_, fun e => ?_⟩
  · have hlt := lt_of_dec e
    have hpl := plc_lt (b := b) (by omega) hv j
    have hc := place_r g hv (j := j) (by omega)
    generalize hq : plc b hv j = q at *
    obtain ⟨t1, t2⟩ := tdm8 q (by omega)
    obtain ⟨x, w1, w2, w3⟩ := g.word (i := q / 8) (by omega)
    have hm : q % 8 < 8 := Nat.mod_lt _ (by decide)
    obtain ⟨u1, u2⟩ := g.set (j := q % 8) (by omega) hm w1
    refine ⟨_, hc, _, _, _, by rw [hcell_row g.row]; rfl, w, 0, rfl, ?_⟩
    rw [t1, t2]
    refine ⟨by omega, by omega, x, by rw [Int.toNat_natCast, Nat.zero_add, Nat.mul_one]; exact w1, by omega, ?_⟩
    rw [Int.toNat_natCast, Int.toNat_natCast, Nat.zero_add, Nat.mul_one, Nat.min_eq_left (by omega), or_r w2 hm]
    refine ⟨u1, fun h2 e2 => ?_⟩
    rw [wadd j (by omega)]
    refine ⟨⟨j + 1, rfl, hlt, f1.trans (fr_hset_of e2) fun _ _ q => q, ?_⟩, by show s - Int.toNat _ < s - Int.toNat _; omega⟩
    have : addT b F hv (j + 1) = fun q_1 => addT b F hv j q_1 || decide (q_1 = 8 * (q / 8) + q % 8) := by
      rw [Nat.div_add_mod]; simp only [addT, hq]
    rw [this]; exact u2 h2 e2
  · have : j = s := by have := ge_of_dec e; omega
    subst this
    exact ⟨_, rfl, f1, g⟩
theorem bits_eq {k : Nat} {A B : List Int} (ha : Bits k A F) (hb : Bits k B F) (hl : A.length = B.length) : A = B := by
  refine List.ext_getElem hl fun i h1 h2 => ?_
  obtain ⟨a1, a2⟩ := ha i h1
  obtain ⟨b1, b2⟩ := hb i h2
  have : A[i].toNat = B[i].toNat := by
    apply Nat.eq_of_testBit_eq
    intro j
    by_cases hj : j < k
    · rw [a2 j hj, b2 j hj]
    · have ea : A[i].toNat < 2 ^ k := by have := a1.2; rw [int_pow] at this; omega
      have eb : B[i].toNat < 2 ^ k := by have := b1.2; rw [int_pow] at this; omega
      have hp : 2 ^ k ≤ 2 ^ j := Nat.pow_le_pow_right (by decide) (by omega)
      rw [Nat.testBit_lt_two_pow (Nat.lt_of_lt_of_le ea hp), Nat.testBit_lt_two_pow (Nat.lt_of_lt_of_le eb hp)]
  omega
theorem byte_bits {W : List Int} (hW : Bits 64 W F) {v : Nat} (h1 : v / 8 < W.length) {x : Int} (hx : x = IntKind.u8.wrap (Int.fdiv W[v / 8] (2 ^ (8 * (v % 8))))) : (0 ≤ x ∧ x < 2 ^ 8) ∧ ∀ j, j < 8 → x.toNat.testBit j = F (8 * v + j) := by
  obtain ⟨a1, a2⟩ := hW _ h1
  rw [fdiv_pow a1.1] at hx
  have e : x = (((W[v / 8].toNat / 2 ^ (8 * (v % 8))) % 2 ^ 8 : Nat) : Int) := by
    rw [hx]
    generalize W[v / 8].toNat / 2 ^ (8 * (v % 8)) = q
    unfold IntKind.wrap
    simp [IntKind.bits, IntKind.signed]
  subst e
  refine ⟨⟨by omega, by simp; omega⟩, fun j hj => ?_⟩
  rw [Int.toNat_natCast, Nat.testBit_mod_two_pow, Nat.testBit_div_two_pow, decide_eq_true hj, Bool.true_and, a2 _ (by omega)]
  congr 1
  omega
theorem bytes_m (f : Flm h p w b s F) : HC Try.prog 19 #[ptr p 0] h fun v h' => Ext h h' ∧ ∃ (nb : Nat) (B : List Int), v = .slice (some ⟨nb, 0, none⟩) B.length B.length ∧ B.length = (b + 7) / 8 ∧ Bits 8 B F ∧ Sl eB h' (some ⟨nb, 0, none⟩) B.length B := by
  have b1 := f.b1
  have b2 := f.b2
  refine f19_sh _ _ _ _ ⟨true, made_m f, fun e => by simp at e, fun _ => ⟨b, by rw [hcell_row f.row]; rfl, ?_⟩⟩
  have en : IntKind.i64.wrap (Int.tdiv (IntKind.i64.wrap ((b : Int) + 7)) 8) = (((b + 7) / 8 : Nat) : Int) := by
    rw [w64 (x := (b : Int) + 7) (by omega) (by omega), Int.tdiv_eq_ediv_of_nonneg (by omega), w64 (by omega) (by omega)]; omega
  rw [en, Int.toNat_natCast]
  refine ⟨by omega, by omega, by omega, fun nb h1 e1 eh1 => ?_⟩
  have x1 : Ext h h1 := by rw [eh1]; exact Ext.push _ _
  have r1 : h1[nb]? = some (.cells ((List.replicate ((b + 7) / 8) (0 : Int)).map (Value.int .u8)).toArray tB (0, 0)) := by
    rw [eh1, List.map_replicate, ← zc_one]; exact push_new e1
  generalize hn : (b + 7) / 8 = n at *
  refine ⟨fun v h2 => ∃ (k : Nat) (B : List Int), v = k ∧ k ≤ n ∧ B.length = n ∧ Fr (· = nb) h1 h2 ∧ h2[nb]? = some (.cells (B.map (Value.int .u8)).toArray tB (0, 0)) ∧ ∀ i (hi : i < B.length), i < k → (0 ≤ B[i] ∧ B[i] < 2 ^ 8) ∧ ∀ j, j < 8 → B[i].toNat.testBit j = F (8 * i + j), fun v _ => n - v.toNat,
    ⟨0, _, rfl, Nat.zero_le _, by simp, Fr.refl _ _, r1, fun i _ hi => by omega⟩, ?_⟩
  rintro _ h2 ⟨k, B, rfl, hk, hB, f2, r2, hI⟩
  have hnb : h.size ≤ nb := by omega
  have x2 : Ext h h2 := ((x1.fr _).trans f2 fun _ _ q => q).ext fun i hi q => by omega
  refine ⟨fun e => ?_, fun e => ?_⟩
  · have hlt := lt_of_dec e
    have g := f.ext x2
    obtain ⟨W, k1, k2, k3⟩ := g.wrd
    obtain ⟨t1, t2⟩ := tdm8 k (by omega)
    have hi : k / 8 < W.length := by omega
    have h8 : IntKind.i64.wrap (8 * ((k % 8 : Nat) : Int)) = ((8 * (k % 8) : Nat) : Int) := by rw [w64 (by omega) (by omega)]; omega
    refine ⟨_, _, _, by rw [hcell_row g.row]; rfl, w, 0, rfl, ?_⟩
    rw [t1, t2, h8]
    refine ⟨by omega, by omega, W[k / 8], ?_, by omega, by omega, by omega, HW_row r2 (by simp; omega), fun h3 e3 => ?_⟩
    · rw [hcell_row k2, Int.toNat_natCast, Nat.zero_add, Nat.mul_one, List.getElem?_toArray, List.getElem?_map, List.getElem?_eq_getElem hi]; rfl
    rw [Int.toNat_natCast, Int.toNat_natCast, Nat.zero_add, Nat.mul_one, Nat.min_eq_left (by omega)] at e3
    rw [wadd k (by omega)]
    refine ⟨⟨k + 1, B.set k (IntKind.u8.wrap (Int.fdiv W[k / 8] (2 ^ (8 * (k % 8))))), rfl, hlt, by simpa using hB, f2.trans (fr_hset_of e3) fun _ _ q => q, ?_, fun i hi2 hik => ?_⟩, by show n - Int.toNat _ < n - Int.toNat _; omega⟩
    · have := hset_row (o := k) (v := .int .u8 (IntKind.u8.wrap (Int.fdiv W[k / 8] (2 ^ (8 * (k % 8)))))) r2
      rw [← e3, List.setIfInBounds_toArray] at this
      rw [this, List.map_set]
    · by_cases e2 : k = i
      · subst e2
        rw [List.getElem_set_self]
        exact byte_bits k3 hi rfl
      · rw [List.getElem_set_ne e2]
        exact hI i (by simpa using hi2) (by omega)
  · have : k = n := by have := ge_of_dec e; omega
    subst this
    refine ⟨x2, nb, B, by rw [hB], hB, fun i hi => hI i hi (by omega), Sl.of_row r2 (Nat.le_refl _) fun j v hj => ?_⟩
    rw [flatB] at hj
    rw [Nat.zero_add, List.getElem?_toArray]; exact hj
end
end Cy
end Go.Proofs.Ytcdpapdefdnknaa
