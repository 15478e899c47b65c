import Derived.WalkKit
import Derived.Test.YthjehlocmikchaaDoorDvDraw
namespace Go.Proofs.YthjehlocmikchaaDoor
open Go
def hcell (h : Heap) (b o : Nat) : Option Value :=
  match h[b]? with
  | some (.cells c _ _) => c[o]?
  | _ => none
theorem cell_hcell (w : World) (b o : Nat) : w.cell? ⟨b, o, none⟩ = hcell w.heap b o := by
  unfold World.cell? hcell; simp
  split <;> simp_all
theorem hcell_lt {h : Heap} {b o : Nat} {v : Value} (hc : hcell h b o = some v) : b < h.size := by
  unfold hcell at hc
  rcases Nat.lt_or_ge b h.size with h' | h'
  · exact h'
  · rw [Array.getElem?_eq_none h'] at hc; cases hc
theorem Ext.cell {h h' : Heap} (he : Ext h h') {b o : Nat} {v : Value} (hc : hcell h b o = some v) : hcell h' b o = some v := by
  have := he.block b (hcell_lt hc)
  unfold hcell at *; rw [this]; exact hc
def HCells (h : Heap) (b : Nat) : Nat → List Value → Prop
  | _, [] => True
  | o, v :: vs => hcell h b o = some v ∧ HCells h b (o + 1) vs
theorem HCells.ext {h h' : Heap} (he : Ext h h') {b : Nat} : ∀ {o : Nat} {vs : List Value}, HCells h b o vs → HCells h' b o vs
  | _, [], _ => trivial
  | _, _ :: _, hc => ⟨he.cell hc.1, HCells.ext he hc.2⟩
def ptr (b o : Nat) : Value := .pointer (some ⟨b, o, none⟩)
section
variable {P : Program} {ρ : Regs} {h : Heap} {d : Option Nat} {ty : TypeId} {p : String} {af : Array Edge} {g : Option (Nat × Bool)}
theorem hv_of {o : Oper} {v : Value} (hr : ∀ w : World, w.heap = h → (execOp (ev ρ) o).run P w = .ok (.value v) w) : HVal P ρ o h v := by
  intro w hw; rw [hr w hw]; exact ⟨Sim.refl _, rfl, hw⟩
theorem hs_of {o : Oper} {v : Value} {h' : Heap} {K : Value → Heap → Prop} (hr : ∀ w : World, w.heap = h → (execOp (ev ρ) o).run P w = .ok (.value v) { w with heap := h' }) (hk : K v h') (hg : HG h h' := by exact HG.push _ _) : HStep P ρ o h K := by
  intro w hw; rw [hr w hw]; exact ⟨⟨rfl, rfl, rfl, Nat.le_refl _, by rw [hw]; exact hg⟩, hk⟩
theorem hs_skip_of {o : Oper} {h' : Heap} {K : Value → Heap → Prop} (hr : ∀ w : World, w.heap = h → (execOp (ev ρ) o).run P w = .ok .skip { w with heap := h' }) (hk : K undef h') (hg : HG h h') : HStep P ρ o h K := by
  intro w hw; rw [hr w hw]; exact ⟨⟨rfl, rfl, rfl, Nat.le_refl _, by rw [hw]; exact hg⟩, hk⟩
theorem hv_move {x : Operand} {v : Value} (hx : ev ρ x = v) : HVal P ρ ⟨d, .move x, ty, p, af, g⟩ h v :=
  hv_of fun w _ => by simp [execOp, hx, go_sem]
theorem hv_assign {x : Operand} {v : Value} (hx : ev ρ x = v) : HVal P ρ ⟨d, .assign x, ty, p, af, g⟩ h v :=
  hv_of fun w _ => by simp [execOp, hx, go_sem]
theorem hv_pick {c a b : Operand} {t : Bool} {v : Value} (hc : ev ρ c = .bool t) (hx : (if t then ev ρ a else ev ρ b) = v) : HVal P ρ ⟨d, .pick c a b, ty, p, af, g⟩ h v :=
  hv_of fun w _ => by simp [execOp, hc, ← hx, go_sem, asBool]
theorem hv_nil {x : Operand} {a : Addr} (hx : ev ρ x = .pointer (some a)) : HVal P ρ ⟨d, .nilCheck x, ty, p, af, g⟩ h (.pointer (some a)) :=
  hv_of fun w _ => by simp [execOp, hx, go_sem]
theorem hv_extract {x : Operand} {i : Nat} {vs : Array Value} {v : Value} (hx : ev ρ x = .tuple vs) (hi : vs[i]? = some v) : HVal P ρ ⟨d, .extract x i, ty, p, af, g⟩ h v :=
  hv_of fun w _ => by simp [execOp, hx, go_sem, Instr.extract, hi]
theorem hv_makeFunc {f : Fn} {fs cs : List Operand} {fv cv : List Value} (hf : List.map (ev ρ) fs = fv) (hc : List.map (ev ρ) cs = cv) : HVal P ρ ⟨d, .makeFunc f fs.toArray cs.toArray, ty, p, af, g⟩ h (.func f fv.toArray cv.toArray) :=
  hv_of fun w _ => by simp [execOp, go_sem, Instr.makeFunc, ← hf, ← hc]
theorem rnew {P : Program} {w : World} (o : Obj) : (newObj o).run P w = .ok w.heap.size { w with heap := w.heap.push o } := by simp [newObj, Sem.run]
def arithV (op : BinOp) (k : IntKind) (a b : Int) : Option Value :=
  match op with
  | .add => some (.int k (k.wrap (a + b)))
  | .sub => some (.int k (k.wrap (a - b)))
  | .mul => some (.int k (k.wrap (a * b)))
  | .quo => if b = 0 then none else some (.int k (k.wrap (a.tdiv b)))
  | .rem => if b = 0 then none else some (.int k (a.tmod b))
  | .eql => some (.bool (a == b))
  | .neq => some (.bool (a != b))
  | .lss => some (.bool (decide (a < b)))
  | .leq => some (.bool (decide (a ≤ b)))
  | .gtr => some (.bool (decide (a > b)))
  | .geq => some (.bool (decide (a ≥ b)))
  | _ => none
def shiftV (op : BinOp) (k : IntKind) (a b : Int) : Option Value :=
  match op with
  | .shl => some (.int k (k.wrap (a * 2 ^ min b.toNat k.bits)))
  | .shr => some (.int k (a.fdiv (2 ^ min b.toNat k.bits)))
  | _ => none
def oneC : Value → Bool
  | .agg _ | .tuple _ => false
  | _ => true
theorem rload {P : Program} {w : World} {a : Addr} {v : Value} {α : Type} {m : Mode} {k : Value → Sem α} (h : w.cell? a = some v) : (Sem.load m a k).run P w = (k v).run P w := by simp [Sem.run, h]
theorem rstore {P : Program} {w : World} {a : Addr} {v u : Value} {α : Type} {m : Mode} {k : Sem α} (hv : oneC v = true) (h : w.cell? a = some u) (hf : w.frozen? a = false) : (Sem.store m a v k).run P w = k.run P (w.setCell a v) := by
  cases v <;> simp [oneC] at hv <;> simp [Sem.run, h, hf]
theorem hv_arith {op : BinOp} {t t' : TypeId} {x y : Operand} {k : IntKind} {a b : Int} {v : Value} (hx : ev ρ x = .int k a) (hy : ev ρ y = .int k b)
    (hv : arithV op k a b = some v) : HVal P ρ ⟨d, .binOp op t x y t', ty, p, af, g⟩ h v :=
  hv_of fun w _ => by
    cases op <;> simp only [arithV, Option.some.injEq, reduceCtorEq] at hv
    case quo => by_cases hb : b = 0 <;> simp [hb] at hv; simp [execOp, hx, hy, go_sem, eqGuard, binOp, Op.intDiv, hb, ← hv]
    case rem => by_cases hb : b = 0 <;> simp [hb] at hv; simp [execOp, hx, hy, go_sem, eqGuard, binOp, Op.intDiv, hb, ← hv]
    all_goals simp [execOp, hx, hy, go_sem, eqGuard, binOp, Op.intArith, Op.intCmp, ← hv]
theorem hv_shift {op : BinOp} {t t' : TypeId} {x y : Operand} {k k' : IntKind} {a b : Int} {v : Value} (hx : ev ρ x = .int k a) (hy : ev ρ y = .int k' b) (hb : 0 ≤ b)
    (hv : shiftV op k a b = some v) : HVal P ρ ⟨d, .binOp op t x y t', ty, p, af, g⟩ h v :=
  hv_of fun w _ => by
    have : ¬ b < 0 := by omega
    cases op <;> simp only [shiftV, Option.some.injEq, reduceCtorEq] at hv
    all_goals simp [execOp, hx, hy, go_sem, eqGuard, binOp, Op.shift, this, ← hv]
theorem hv_not {t : TypeId} {x : Operand} {b : Bool} (hx : ev ρ x = .bool b) : HVal P ρ ⟨d, .unOp .not t x, ty, p, af, g⟩ h (.bool !b) :=
  hv_of fun w _ => by simp [execOp, hx, go_sem, Op.unary]
theorem hv_neg {t : TypeId} {x : Operand} {k : IntKind} {a : Int} (hx : ev ρ x = .int k a) : HVal P ρ ⟨d, .unOp .neg t x, ty, p, af, g⟩ h (.int k (k.wrap (0 - a))) :=
  hv_of fun w _ => by simp [execOp, hx, go_sem, Op.unary, Op.intArith]
theorem hv_convInt {s t : TypeId} {x : Operand} {k k' : IntKind} {a : Int} {ds : TypeDesc} (hs : P.underlying s = some ds) (ht : P.underlying t = some (.int k')) (hx : ev ρ x = .int k a) :
    HVal P ρ ⟨d, .convert s t x, ty, p, af, g⟩ h (.int k' (k'.wrap a)) :=
  hv_of fun w _ => by simp [execOp, hx, go_sem, convert, run_underlying hs, run_underlying ht, Conv.intToInt]
def aggB (P : Program) (t : TypeId) : Option Bool := (P.underlying t).map fun | .struct _ | .array _ _ => true | _ => false
def szB (P : Program) (t : TypeId) : Option Nat := (P.info? t).map (·.size)
theorem run_isAgg {t : TypeId} {b : Bool} (hb : aggB P t = some b) (w : World) : (isAgg t).run P w = .ok b w := by
  unfold aggB at hb
  cases hu : P.underlying t with
  | none => rw [hu] at hb; cases hb
  | some d => rw [hu] at hb; cases d <;> simp at hb <;> subst hb <;> simp [isAgg, run_underlying hu, go_sem]
theorem run_sizeOf {t : TypeId} {n : Nat} (hn : szB P t = some n) (w : World) : (sizeOf t).run P w = .ok n w := by
  unfold szB at hn
  cases hi : P.info? t with
  | none => rw [hi] at hn; cases hn
  | some i => rw [hi] at hn; simp at hn; subst hn; simp [sizeOf, typeInfo, hi, go_sem]
theorem hv_load {t : TypeId} {x : Operand} {b o : Nat} {v : Value} (ha : aggB P t = some false) (hx : ev ρ x = ptr b o) (hc : hcell h b o = some v) : HVal P ρ ⟨d, .load t x, ty, p, af, g⟩ h v :=
  hv_of fun w hw => by
    have hc' : w.cell? ⟨b, o, none⟩ = some v := by rw [cell_hcell, hw]; exact hc
    simp [execOp, hx, ptr, go_sem, Instr.loadAt, Instr.sureAddr, loadVar, run_isAgg ha, load, rload hc']
theorem add_lit (b o k : Nat) : (⟨b, o, none⟩ : Addr).add k = ⟨b, o + k, none⟩ := by unfold Addr.add; split <;> simp_all
theorem run_loadFrom (w : World) (b o : Nat) : ∀ (vs : List Value) (i : Nat) (acc : Array Value), HCells w.heap b (o + i) vs → (loadCellsFrom ⟨b, o, none⟩ i vs.length acc).run P w = .ok (acc ++ vs.toArray) w
  | [], i, acc, _ => by simp [loadCellsFrom, go_sem]
  | v :: vs, i, acc, hc => by
    have h1 : w.cell? ⟨b, o + i, none⟩ = some v := by rw [cell_hcell]; exact hc.1
    have ih := run_loadFrom w b o vs (i + 1) (acc.push v) (by have := hc.2; rwa [Nat.add_assoc] at this)
    have hl : (loadCellsFrom ⟨b, o, none⟩ i (v :: vs).length acc).run P w = (Sem.load .plain ⟨b, o + i, none⟩ fun v => loadCellsFrom ⟨b, o, none⟩ (i + 1) vs.length (acc.push v)).run P w := by
      rw [← add_lit]; rfl
    rw [hl, rload h1, ih]; simp
theorem hv_loads {t : TypeId} {x : Operand} {b o : Nat} {vs : List Value} (ha : aggB P t = some true) (hn : szB P t = some vs.length) (hx : ev ρ x = ptr b o) (hc : HCells h b o vs) : HVal P ρ ⟨d, .load t x, ty, p, af, g⟩ h (.agg vs.toArray) :=
  hv_of fun w hw => by
    have := run_loadFrom (P := P) w b o vs 0 #[] (by rw [hw]; exact hc)
    simp only [Array.empty_append] at this
    simp [execOp, hx, ptr, go_sem, Instr.loadAt, Instr.sureAddr, loadVar, run_isAgg ha, run_sizeOf hn, loadCells, this]
def fldB (P : Program) (s : TypeId) (f : Nat) : Option Nat :=
  match P.underlying s with
  | some (.struct fs) => match fs[f]? with
    | some fl => match szB P fl.type with
      | some (_ + 1) => some fl.offset
      | _ => none
    | none => none
  | _ => none
theorem hv_field {s : TypeId} {x : Operand} {f b o k : Nat} (hf : fldB P s f = some k) (hx : ev ρ x = ptr b o) : HVal P ρ ⟨d, .fieldAddr s x f, ty, p, af, g⟩ h (ptr b (o + k)) :=
  hv_of fun w _ => by
    unfold fldB at hf
    split at hf <;> try cases hf
    rename_i fs hu
    split at hf <;> try cases hf
    rename_i fl hfl
    split at hf <;> try cases hf
    rename_i n hs
    simp [execOp, hx, ptr, go_sem, Instr.fieldAt, Instr.sureAddr, run_underlying hu, hfl, fieldPlace, run_sizeOf hs, add_lit]
def elB (P : Program) (t : TypeId) : Option Nat :=
  match P.underlying t with
  | some (.slice e) => szB P e
  | _ => none
theorem hv_index {t : TypeId} {x y : Operand} {b o n c sz : Nat} {k : IntKind} {i : Int} (he : elB P t = some sz) (hx : ev ρ x = .slice (some ⟨b, o, none⟩) n c) (hy : ev ρ y = .int k i)
    (h0 : 0 ≤ i) (h1 : i < n) : HVal P ρ ⟨d, .indexAddr t x y, ty, p, af, g⟩ h (ptr b (o + i.toNat * sz)) :=
  hv_of fun w _ => by
    unfold elB at he
    split at he <;> try cases he
    rename_i e hu
    simp [execOp, hx, hy, ptr, go_sem, Instr.indexAt, asIntOf, run_underlying hu, h0, h1, run_sizeOf he, add_lit]
theorem hv_len {t : TypeId} {x : Operand} {e : TypeId} {a : Option Addr} {n c : Nat} (hu : P.underlying t = some (.slice e)) (hx : ev ρ x = .slice a n c) :
    HVal P ρ ⟨d, .call ⟨.builtin .len, #[x], #[t]⟩, ty, p, af, g⟩ h (.int .i64 n) :=
  hv_of fun w _ => by simp [hx, go_sem, Builtin.len_, run_underlying hu, goInt]
theorem hv_lenStr {t : TypeId} {x : Operand} {s : ByteArray} (hu : P.underlying t = some .string) (hx : ev ρ x = .string s) :
    HVal P ρ ⟨d, .call ⟨.builtin .len, #[x], #[t]⟩, ty, p, af, g⟩ h (.int .i64 s.size) :=
  hv_of fun w _ => by simp [hx, go_sem, Builtin.len_, run_underlying hu, goInt]
def zeroB (P : Program) (t : TypeId) (v : Value) : Prop := (P.info? t).bind (·.zero) = some v
theorem run_zero {t : TypeId} {v : Value} (hz : zeroB P t v) (w : World) : (zeroValue t).run P w = .ok v w := by
  unfold zeroB at hz
  cases hi : P.info? t with
  | none => rw [hi] at hz; cases hz
  | some i => rw [hi] at hz; simp at hz; simp [zeroValue, typeInfo, hi, hz, go_sem]
theorem hs_alloc {t : TypeId} {v : Value} {K : Value → Heap → Prop} (hz : zeroB P t v) (hk : K (ptr h.size 0) (h.push (.cells v.cells t))) : HStep P ρ ⟨d, .alloc t, ty, p, af, g⟩ h K :=
  hs_of (fun w hw => by simp [execOp, go_sem, Instr.alloc, run_zero hz, newVar, newRow, ptr]; subst hw; exact ⟨rfl, rfl⟩) hk
theorem hs_box {t : TypeId} {x : Operand} {v : Value} {K : Value → Heap → Prop} (hx : ev ρ x = v) (hk : K (ptr h.size 0) (h.push (.cells v.cells t))) : HStep P ρ ⟨d, .box t x, ty, p, af, g⟩ h K :=
  hs_of (fun w hw => by simp [execOp, go_sem, Instr.box, hx, newVar, newRow, ptr]; subst hw; exact ⟨rfl, rfl⟩) hk
def HW (h : Heap) (b o : Nat) : Prop := ∃ c T fr, h[b]? = some (.cells c T fr) ∧ o < c.size ∧ ¬ (fr.1 ≤ o ∧ o < fr.2)
def hset (h : Heap) (b o : Nat) (v : Value) : Heap :=
  h.modify b fun
    | .cells c T fr => .cells (c.setIfInBounds o v) T fr
    | x => x
theorem HG.hset (h : Heap) (b o : Nat) (v : Value) : HG h (hset h b o v) := by
  refine ⟨by unfold Go.Proofs.YthjehlocmikchaaDoor.hset; simp, fun i hi => ?_⟩
  unfold Go.Proofs.YthjehlocmikchaaDoor.hset
  rw [Array.getElem?_modify, hi]
  split <;> rfl
theorem run_store {b o : Nat} {v : Value} (w : World) (hv : oneC v = true) (hW : HW w.heap b o) : (store ⟨b, o, none⟩ v).run P w = .ok () { w with heap := hset w.heap b o v } := by
  obtain ⟨c, T, fr, h1, h2, h3⟩ := hW
  have hc : w.cell? ⟨b, o, none⟩ = some c[o] := by rw [cell_hcell]; unfold hcell; rw [h1]; simp [h2]
  have hf : w.frozen? ⟨b, o, none⟩ = false := by
    unfold World.frozen?; simp only [h1]
    obtain ⟨lo, hi⟩ := fr
    simp at h3 ⊢; exact h3
  simp only [store]; rw [rstore hv hc hf]; simp only [Sem.run]; rfl
def hsets (h : Heap) (b : Nat) : Nat → List Value → Heap
  | _, [] => h
  | o, v :: vs => hsets (hset h b o v) b (o + 1) vs
theorem HG.hsets (b : Nat) : ∀ (vs : List Value) (h : Heap) (o : Nat), HG h (hsets h b o vs)
  | [], h, _ => HG.refl h
  | v :: vs, h, o => (HG.hset h b o v).trans (HG.hsets b vs _ _)
theorem HW.hset {h : Heap} {b o o' : Nat} {v : Value} (hW : HW h b o) : HW (hset h b o' v) b o := by
  obtain ⟨c, T, fr, h1, h2, h3⟩ := hW
  refine ⟨c.setIfInBounds o' v, T, fr, ?_, by simpa using h2, h3⟩
  unfold Go.Proofs.YthjehlocmikchaaDoor.hset; rw [Array.getElem?_modify]; simp [h1]
theorem run_storeCells {b o : Nat} : ∀ (vs : List Value) (i : Nat) (w : World), (∀ v ∈ vs, oneC v = true) → (∀ j, j < vs.length → HW w.heap b (o + i + j)) →
    (storeCells ⟨b, o, none⟩ vs i).run P w = .ok () { w with heap := hsets w.heap b (o + i) vs }
  | [], i, w, _, _ => by simp [storeCells, go_sem, hsets]
  | v :: vs, i, w, hv, hW => by
    have h1 := run_store (P := P) (b := b) (o := o + i) (v := v) w (hv v (by simp)) (hW 0 (by simp))
    have ih := run_storeCells vs (i + 1) { w with heap := hset w.heap b (o + i) v } (fun u hu => hv u (by simp [hu])) (fun j hj => by
      have := hW (j + 1) (by simp; omega)
      have h2 : o + i + (j + 1) = o + (i + 1) + j := by omega
      rw [h2] at this
      exact HW.hset this)
    simp only [storeCells, add_lit, Sem.run_bind, h1, Result.andThen_ok, ih, hsets, Nat.add_assoc]
theorem run_storeVar {t : TypeId} {b o : Nat} {v : Value} {vs : List Value} (w : World) (hc : v.cells = vs.toArray) (hn : szB P t = some vs.length) (hv : ∀ v ∈ vs, oneC v = true)
    (hW : ∀ j, j < vs.length → HW w.heap b (o + j)) : (storeVar t ⟨b, o, none⟩ v).run P w = .ok () { w with heap := hsets w.heap b o vs } := by
  have := run_storeCells (P := P) (b := b) (o := o) vs 0 w hv (by simpa using hW)
  unfold storeVar
  rw [hc]
  simp only [Sem.run_bind, run_sizeOf hn, Result.andThen_ok, List.size_toArray, ne_eq, not_true, if_false]
  simpa using this
theorem hs_store {t : TypeId} {x y : Operand} {b o : Nat} {v : Value} {K : Value → Heap → Prop} (hx : ev ρ x = ptr b o) (hy : ev ρ y = v) (hn : szB P t = some 1) (hv : oneC v = true) (hW : HW h b o) (hk : K undef (hset h b o v)) :
    HStep P ρ ⟨d, .store t x y, ty, p, af, g⟩ h K :=
  hs_skip_of (h' := hset h b o v) (fun w hw => by
    subst hw
    have hc : v.cells = [v].toArray := by cases v <;> simp [oneC] at hv <;> rfl
    have := run_storeVar (P := P) (t := t) (b := b) (o := o) w hc hn (by simpa using hv) (fun j hj => by simp at hj; subst hj; exact hW)
    simp only [execOp, hx, hy, ptr, Instr.storeAt, Instr.sureAddr, Sem.run_bind, Sem.run_pure, Result.andThen_ok, this, hsets]) hk (HG.hset _ _ _ _)
theorem hs_stores {t : TypeId} {x y : Operand} {b o : Nat} {vs : List Value} {K : Value → Heap → Prop} (hx : ev ρ x = ptr b o) (hy : ev ρ y = .agg vs.toArray) (hn : szB P t = some vs.length) (hv : ∀ v ∈ vs, oneC v = true)
    (hW : ∀ j, j < vs.length → HW h b (o + j)) (hk : K undef (hsets h b o vs)) : HStep P ρ ⟨d, .store t x y, ty, p, af, g⟩ h K :=
  hs_skip_of (h' := hsets h b o vs) (fun w hw => by
    subst hw
    have := run_storeVar (P := P) (t := t) (b := b) (o := o) (v := .agg vs.toArray) w rfl hn hv hW
    simp only [execOp, hx, hy, ptr, Instr.storeAt, Instr.sureAddr, Sem.run_bind, Sem.run_pure, Result.andThen_ok, this]) hk (HG.hsets _ _ _ _)
def CallB (P : Program) (f : FuncId) : Prop := ∀ (args : Array Value) (w : World), (callFunc f args).run P w = .ok (.enter f args) w
theorem hs_call {f : FuncId} {xs : List Operand} {ts : Array TypeId} {vs : List Value} {K : Value → Heap → Prop} (hb : CallB P f) (hx : xs.map (ev ρ) = vs) (hc : HC P f vs.toArray h K) :
    HStep P ρ ⟨d, .call ⟨.value (.func f), xs.toArray, ts⟩, ty, p, af, g⟩ h K := by
  intro w hw
  have : (execOp (ev ρ) ⟨d, .call ⟨.value (.func f), xs.toArray, ts⟩, ty, p, af, g⟩).run P w = .ok (.enter f vs.toArray) w := by
    simp [execOp, go_sem, resolve, ev, Deferred.ofValue, invoke, hx]; exact hb _ _
  rw [this]
  exact ⟨Sim.refl _, hw, hc⟩
theorem hv_call {f : FuncId} {xs : List Operand} {ts : Array TypeId} {vs : List Value} {v : Value} (hb : CallB P f) (hx : xs.map (ev ρ) = vs) (hc : HC P f vs.toArray h fun v' h' => v' = v ∧ h' = h) :
    HVal P ρ ⟨d, .call ⟨.value (.func f), xs.toArray, ts⟩, ty, p, af, g⟩ h v := hs_call hb hx hc
theorem hs_callV {x : Operand} {f : FuncId} {first cap : List Value} {xs : List Operand} {ts : Array TypeId} {vs : List Value} {K : Value → Heap → Prop} (hb : CallB P f) (hf : ev ρ x = .func (.func f) first.toArray cap.toArray)
    (hx : xs.map (ev ρ) = vs) (hc : HC P f (first ++ vs ++ cap).toArray h K) :
    HStep P ρ ⟨d, .call ⟨.value x, xs.toArray, ts⟩, ty, p, af, g⟩ h K := by
  intro w hw
  have : (execOp (ev ρ) ⟨d, .call ⟨.value x, xs.toArray, ts⟩, ty, p, af, g⟩).run P w = .ok (.enter f (first ++ vs ++ cap).toArray) w := by
    simp [execOp, go_sem, resolve, hf, Deferred.ofValue, invoke, hx]; exact hb _ _
  rw [this]
  exact ⟨Sim.refl _, hw, hc⟩
def plB (P : Program) (t : TypeId) : Option (List (Nat × Nat)) :=
  match P.underlying t with
  | some (.struct fs) => fs.toList.mapM fun f => (szB P f.type).map fun n => (f.offset, n)
  | _ => none
theorem run_places (w : World) : ∀ (fs : List Field) (pl : List (Nat × Nat)), (fs.mapM fun f => (szB P f.type).map fun n => (f.offset, n)) = some pl →
    (fs.mapM (m := Sem) fun f => do pure (f.offset, ← sizeOf f.type)).run P w = .ok pl w
  | [], pl, hp => by simp at hp; subst hp; simp [go_sem]
  | f :: fs, pl, hp => by
    simp only [List.mapM_cons] at hp
    cases h1 : szB P f.type with
    | none => simp [h1] at hp
    | some n =>
      cases h2 : fs.mapM fun f => (szB P f.type).map fun n => (f.offset, n) with
      | none => simp [h1, h2] at hp
      | some pl' =>
        simp [h1, h2] at hp
        subst hp
        have ih := run_places w fs pl' h2
        rw [List.mapM_cons]
        simp only [Sem.run_bind, Sem.run_pure, run_sizeOf h1, Result.andThen_ok, ih]
theorem hv_build {t : TypeId} {ps : List (Nat × Operand)} {z : Value} {pl : List (Nat × Nat)} {vs : List (Nat × Value)} {cs : Array Value} (hz : zeroB P t z) (hp : plB P t = some pl)
    (hv : (ps.map fun (i, x) => (i, ev ρ x)) = vs) (hf : Instr.fill (fun i => pl[i]?) z.cells vs = some cs) : HVal P ρ ⟨d, .build t ps.toArray, ty, p, af, g⟩ h (.agg cs) :=
  hv_of fun w _ => by
    unfold plB at hp
    split at hp <;> try cases hp
    rename_i fs hu
    have h1 := run_places w fs.toList pl hp
    have h2 : (fs.mapM (m := Sem) fun f => do pure (f.offset, ← sizeOf f.type)).run P w = .ok pl.toArray w := by
      rw [Array.mapM_eq_mapM_toList]
      have e : (List.toArray <$> List.mapM (m := Sem) (fun f => do pure (f.offset, ← sizeOf f.type)) fs.toList) = (List.mapM (m := Sem) (fun f => do pure (f.offset, ← sizeOf f.type)) fs.toList >>= fun l => pure l.toArray) := rfl
      rw [e]
      simp only [Sem.run_bind, h1, Result.andThen_ok, Sem.run_pure]
    have h3 : (ps.toArray.map fun (i, x) => (i, ev ρ x)) = vs.toArray := by rw [← hv]; simp
    simp only [execOp, Instr.build, Sem.run_bind, run_zero hz, run_underlying hu, Result.andThen_ok, h3]
    rw [h2]
    have h4 : (fun (i : Nat) => pl.toArray[i]?) = fun (i : Nat) => pl[i]? := by funext i; simp
    simp only [Result.andThen_ok, h4, hf, Sem.run_pure]
theorem hn_alloc {t : TypeId} {v : Value} {K : Value → Heap → Prop} (hz : zeroB P t v) (hk : ∀ b h', b = h.size → h' = h.push (.cells v.cells t) → K (ptr b 0) h') : HStep P ρ ⟨d, .alloc t, ty, p, af, g⟩ h K :=
  hs_alloc hz (hk _ _ rfl rfl)
theorem hn_box {t : TypeId} {x : Operand} {v : Value} {K : Value → Heap → Prop} (hx : ev ρ x = v) (hk : ∀ b h', b = h.size → h' = h.push (.cells v.cells t) → K (ptr b 0) h') : HStep P ρ ⟨d, .box t x, ty, p, af, g⟩ h K :=
  hs_box hx (hk _ _ rfl rfl)
theorem hn_store {t : TypeId} {x y : Operand} {b o : Nat} {v : Value} {K : Value → Heap → Prop} (hx : ev ρ x = ptr b o) (hy : ev ρ y = v) (hn : szB P t = some 1) (hv : oneC v = true) (hW : HW h b o) (hk : ∀ h', h' = hset h b o v → K undef h') :
    HStep P ρ ⟨d, .store t x y, ty, p, af, g⟩ h K := hs_store hx hy hn hv hW (hk _ rfl)
theorem hn_stores {t : TypeId} {x y : Operand} {b o : Nat} {vs : List Value} {K : Value → Heap → Prop} (hx : ev ρ x = ptr b o) (hy : ev ρ y = .agg vs.toArray) (hn : szB P t = some vs.length) (hv : vs.all oneC = true)
    (hW : ∀ j, j < vs.length → HW h b (o + j)) (hk : ∀ h', h' = hsets h b o vs → K undef h') : HStep P ρ ⟨d, .store t x y, ty, p, af, g⟩ h K :=
  hs_stores hx hy hn (List.all_eq_true.1 hv) hW (hk _ rfl)
theorem hv_pick_t {c a b : Operand} {t : Bool} {v : Value} (hc : ev ρ c = .bool t) (ht : t = true) (hx : ev ρ a = v) : HVal P ρ ⟨d, .pick c a b, ty, p, af, g⟩ h v := hv_pick hc (by rw [ht]; exact hx)
theorem hv_pick_f {c a b : Operand} {t : Bool} {v : Value} (hc : ev ρ c = .bool t) (ht : t = false) (hx : ev ρ b = v) : HVal P ρ ⟨d, .pick c a b, ty, p, af, g⟩ h v := hv_pick hc (by rw [ht]; exact hx)
theorem hv_quo {t t' : TypeId} {x y : Operand} {k : IntKind} {a b : Int} (hx : ev ρ x = .int k a) (hy : ev ρ y = .int k b) (hb : b ≠ 0) : HVal P ρ ⟨d, .binOp .quo t x y t', ty, p, af, g⟩ h (.int k (k.wrap (a.tdiv b))) := hv_arith hx hy (by simp [arithV, hb])
theorem hv_rem {t t' : TypeId} {x y : Operand} {k : IntKind} {a b : Int} (hx : ev ρ x = .int k a) (hy : ev ρ y = .int k b) (hb : b ≠ 0) : HVal P ρ ⟨d, .binOp .rem t x y t', ty, p, af, g⟩ h (.int k (a.tmod b)) := hv_arith hx hy (by simp [arithV, hb])
theorem hv_max {x y : Operand} {ts : Array TypeId} {k : IntKind} {a b : Int} (hx : ev ρ x = .int k a) (hy : ev ρ y = .int k b) : HVal P ρ ⟨d, .call ⟨.builtin .max, #[x, y], ts⟩, ty, p, af, g⟩ h (.int k (if b > a then b else a)) :=
  hv_of fun w _ => by simp [hx, hy, go_sem, Builtin.max_, Builtin.max2]
theorem rv_cell {x : Nat} {t : TypeId} {b o : Nat} {vs : List Value} (ha : aggB P t = some true) (hn : szB P t = some vs.length) (hx : ρ x = ptr b o) (hc : HCells h b o vs) : RV P (.cell x t) ρ h (.agg vs.toArray) :=
  fun a w n s hw => by
    have := run_loadFrom (P := P) w b o vs 0 #[] (by rw [hw]; exact hc)
    simp only [Array.empty_append] at this
    simp only [rvF, s.all x, hx, ptr, asAddr, Sem.run_bind, Sem.run_pure, Result.andThen_ok, loadVar, run_isAgg ha, if_true, run_sizeOf hn, loadCells, this]
theorem rv_cell1 {x : Nat} {t : TypeId} {b o : Nat} {v : Value} (ha : aggB P t = some false) (hx : ρ x = ptr b o) (hc : hcell h b o = some v) : RV P (.cell x t) ρ h v :=
  fun a w n s hw => by
    have hc' : w.cell? ⟨b, o, none⟩ = some v := by rw [cell_hcell, hw]; exact hc
    simp only [rvF, s.all x, hx, ptr, asAddr, Sem.run_bind, Sem.run_pure, Result.andThen_ok, loadVar, run_isAgg ha, load, rload hc', Bool.false_eq_true, if_false]; rfl
def HCF (P : Program) (f : Value) (vs : List Value) (h : Heap) (K : Value → Heap → Prop) : Prop :=
  ∃ (i : FuncId) (first cap : List Value), f = .func (.func i) first.toArray cap.toArray ∧ CallB P i ∧ HC P i (first ++ vs ++ cap).toArray h K
theorem HCF.mono {f : Value} {vs : List Value} {K K' : Value → Heap → Prop} (hc : HCF P f vs h K) (hk : ∀ v h', K v h' → K' v h') : HCF P f vs h K' :=
  let ⟨i, first, cap, h1, h2, h3⟩ := hc
  ⟨i, first, cap, h1, h2, h3.mono hk⟩
def setT (ps : Array Tmp) (vs : Array Value) (T : Array Value) : Array Value := (ps.zip vs).foldl (fun tmps (t, a) => tmps.setIfInBounds t a) T
def HCY (P : Program) (f : Value) (vs : List Value) (h : Heap) (K : Value → Heap → Prop) : Prop :=
  ∃ (l : Nat) (r : Loop), f = .func (.yield l) #[] #[] ∧ h[l]? = some (.loop r) ∧ vs.toArray.size = r.params.size ∧ HRound P l r.fn (setT r.params vs.toArray r.tmps) r.assign r.body h K
def HCV (P : Program) (f : Value) (vs : List Value) (h : Heap) (K : Value → Heap → Prop) : Prop := HCF P f vs h K ∨ HCY P f vs h K
theorem HCV.mono {f : Value} {vs : List Value} {K K' : Value → Heap → Prop} (hc : HCV P f vs h K) (hk : ∀ v h', K v h' → K' v h') : HCV P f vs h K' :=
  hc.imp (fun h => h.mono hk) fun ⟨l, r, h1, h2, h3, h4⟩ => ⟨l, r, h1, h2, h3, h4.mono hk⟩
theorem hs_callF {x : Operand} {f : Value} {xs : List Operand} {ts : Array TypeId} {vs : List Value} {K : Value → Heap → Prop} (hf : ev ρ x = f) (hx : xs.map (ev ρ) = vs) (hc : HCV P f vs h K) :
    HStep P ρ ⟨d, .call ⟨.value x, xs.toArray, ts⟩, ty, p, af, g⟩ h K := by
  rcases hc with ⟨_, _, _, h1, h2, h3⟩ | ⟨l, r, h1, h2, h3, h4⟩
  · exact hs_callV h2 (by rw [hf, h1]) hx h3
  · intro w hw
    have hl : w.heap[l]? = some (.loop r) := by rw [hw]; exact h2
    have : (execOp (ev ρ) ⟨d, .call ⟨.value x, xs.toArray, ts⟩, ty, p, af, g⟩).run P w = .ok (.round l r.fn (setT r.params vs.toArray r.tmps) r.assign r.body) w := by
      simp [execOp, go_sem, resolve, hf, h1, Deferred.ofValue, invoke, hx]
      exact run_yield hl h3
    rw [this]
    exact ⟨Sim.refl _, hw, h4⟩
def fsL : List Field → Option (List (Nat × Nat))
  | [] => some []
  | f :: fs => if f.name == "_" then none else (fsL fs).map fun l => (f.type, f.offset) :: l
def seB (P : Program) (t : TypeId) : Option (List (Nat × Nat)) :=
  if P.stoodInHeld t || P.eqGuardType P.depth t then none else
  match P.underlying t with
  | some (.struct fs) => fsL fs.toList
  | _ => none
def eqV : Value → Value → Option Bool
  | .int k a, .int k' b => if k = k' then some (a == b) else none
  | .bool a, .bool b => some (a == b)
  | .string a, .string b => some (a == b)
  | _, _ => none
def fitsV (P : Program) (t : TypeId) (v : Value) : Bool :=
  match P.underlying t, v with
  | some (.int _), .int _ _ => true
  | some .bool, .bool _ => true
  | some .string, .string _ => true
  | _, _ => false
def eqL (P : Program) (xs ys : List Value) : List (Nat × Nat) → Option Bool
  | [] => some true
  | (t, o) :: l =>
    match xs[o]?, ys[o]? with
    | some x, some y =>
      match fitsV P t x, eqV x y, eqL P xs ys l with
      | true, some b, some r => some (b && r)
      | _, _, _ => none
    | _, _ => none
theorem run_eqOne (dp : Nat) {f : TypeId} {x y : Value} {b : Bool} (w : World) (hk : fitsV P f x = true) (hb : eqV x y = some b) : (Op.equalIn (dp + 1) f x y).run P w = .ok b w := by
  unfold fitsV at hk
  cases hd : P.underlying f with
  | none => rw [hd] at hk; cases hk
  | some ds =>
    rw [hd] at hk
    cases ds <;> cases x <;> simp at hk <;> cases y <;> simp [eqV] at hb
    · subst hb; simp [Op.equalIn, run_underlying hd, go_sem]
    · obtain ⟨h1, h2⟩ := hb; subst h2; simp [Op.equalIn, run_underlying hd, go_sem, h1]
    · subst hb; simp [Op.equalIn, run_underlying hd, go_sem]
theorem run_partOne {f : TypeId} {x : Value} {xs : List Value} {o : Nat} (w : World) (hk : fitsV P f x = true) (hx : xs[o]? = some x) : (part f xs.toArray o).run P w = .ok x w := by
  have ha : aggB P f = some false := by
    unfold fitsV at hk; unfold aggB
    cases hd : P.underlying f with
    | none => rw [hd] at hk; cases hk
    | some ds => rw [hd] at hk; cases ds <;> first | rfl | (cases x <;> simp at hk)
  have hx' : xs.toArray[o]? = some x := by simpa using hx
  simp only [part, Sem.run_bind, run_isAgg ha, Result.andThen_ok, Bool.false_eq_true, if_false, hx', Sem.run_pure]
theorem run_eqFs (dp : Nat) (xs ys : List Value) (w : World) : ∀ (fs : List Field) (l : List (Nat × Nat)) (b : Bool),
    fsL fs = some l → eqL P xs ys l = some b → (Op.eqFields (dp + 1) xs.toArray ys.toArray fs).run P w = .ok b w
  | [], l, b, hl, hb => by simp [fsL] at hl; subst hl; simp [eqL] at hb; subst hb; simp [Op.eqFields, go_sem]
  | f :: fs, l, b, hl, hb => by
    simp only [fsL] at hl
    by_cases hn : (f.name == "_") = true
    · rw [if_pos hn] at hl; cases hl
    · have hn' : f.name ≠ "_" := by simpa using hn
      rw [if_neg hn] at hl
      cases h2 : fsL fs with
      | none => rw [h2] at hl; cases hl
      | some l' =>
        rw [h2] at hl
        simp only [Option.map_some, Option.some.injEq] at hl
        subst hl
        simp only [eqL] at hb
        split at hb <;> try cases hb
        rename_i x y hx hy
        split at hb <;> try cases hb
        rename_i b1 r hf he hr
        have hy' : fitsV P f.type y = true := by
          unfold fitsV at hf ⊢; unfold eqV at he
          cases hd : P.underlying f.type with
          | none => rw [hd] at hf; cases hf
          | some ds => rw [hd] at hf; cases ds <;> cases x <;> simp at hf <;> cases y <;> simp at he ⊢
        have ih := run_eqFs dp xs ys w fs l' r h2 hr
        simp only [Op.eqFields, ne_eq, hn', not_false_eq_true, if_true, Sem.run_bind, run_partOne w hf hx, run_partOne w hy' hy, Result.andThen_ok, run_eqOne dp w hf he]
        cases b1
        · simp [go_sem]
        · simp [ih]
theorem hv_structEq {op : BinOp} {t t' : TypeId} {x y : Operand} {xs ys : List Value} {l : List (Nat × Nat)} {b : Bool} {v : Value} (hs : seB P t = some l) (hx : ev ρ x = .agg xs.toArray) (hy : ev ρ y = .agg ys.toArray)
    (he : eqL P xs ys l = some b) (hv : (match op with | .eql => some (Value.bool b) | .neq => some (Value.bool !b) | _ => none) = some v) : HVal P ρ ⟨d, .binOp op t x y t', ty, p, af, g⟩ h v :=
  hv_of fun w _ => by
    unfold seB at hs
    split at hs <;> try cases hs
    rename_i hc
    split at hs <;> try cases hs
    rename_i fs hu
    simp only [Bool.or_eq_true, not_or, Bool.not_eq_true] at hc
    obtain ⟨hc1, hc2⟩ := hc
    have hf : P.fieldsOf t = fs := by unfold Program.fieldsOf; rw [hu]
    have hrun : (Op.equalIn (9999 + 1) t (.agg xs.toArray) (.agg ys.toArray)).run P w = .ok b w := by
      rw [run_equalIn_struct w 9999 t xs.toArray ys.toArray (by rw [hf]; exact hu) hc1, hf]
      exact run_eqFs 9998 xs ys w fs.toList l b hs he
    have hg := run_eqGuard_agg (P := P) w op t x y xs.toArray ys.toArray hc2
    cases op <;> simp only [Option.some.injEq, reduceCtorEq] at hv
    · have h1 := run_eql_struct (P := P) w t xs.toArray ys.toArray
      rw [show (10000 : Nat) = 9999 + 1 from rfl, hrun] at h1
      simp only [execOp, hx, hy, Sem.run_bind, hg, Result.andThen_ok, h1, Sem.run_pure, hv]
    · have h1 := run_neq_struct (P := P) w t xs.toArray ys.toArray
      rw [show (10000 : Nat) = 9999 + 1 from rfl, hrun] at h1
      simp only [execOp, hx, hy, Sem.run_bind, hg, Result.andThen_ok, h1, Sem.run_pure, hv]
def byB (P : Program) (t : TypeId) : Option Nat := (P.info? t).map (·.bytes)
def zcells (z : List Value) (n : Nat) : List Value := (List.replicate n z).flatten
theorem zcells_getElem (z : List Value) : ∀ (n i : Nat) (_ : i < n * z.length), (zcells z n)[i]? = z[i % z.length]?
  | 0, i, hi => by simp at hi
  | n + 1, i, hi => by
    have hz : 0 < z.length := by rcases Nat.eq_zero_or_pos z.length with h0 | h0; · rw [h0] at hi; simp at hi
                                 · exact h0
    unfold zcells
    rw [List.replicate_succ, List.flatten_cons]
    by_cases h1 : i < z.length
    · rw [List.getElem?_append_left h1, Nat.mod_eq_of_lt h1]
    · rw [List.getElem?_append_right (Nat.le_of_not_lt h1)]
      have h2 : i - z.length < n * z.length := by rw [Nat.add_mul] at hi; omega
      have := zcells_getElem z n (i - z.length) h2
      unfold zcells at this
      rw [this, ← Nat.mod_eq_sub_mod (Nat.le_of_not_lt h1)]
theorem zcells_length (z : List Value) (n : Nat) : (zcells z n).length = n * z.length := by
  simp [zcells]
theorem zcells_range (z : List Value) (n : Nat) : ((Array.range (n * z.length)).map fun i => z.toArray[i % z.toArray.size]!) = (zcells z n).toArray := by
  apply Array.ext_getElem?
  intro i
  rw [Array.getElem?_map, Array.getElem?_range, List.getElem?_toArray]
  by_cases hi : i < n * z.length
  · rw [if_pos hi, zcells_getElem z n i hi]
    have hz : 0 < z.length := by rcases Nat.eq_zero_or_pos z.length with h0 | h0; · rw [h0] at hi; simp at hi
                                 · exact h0
    have h1 := Nat.mod_lt i hz
    simp [h1]
  · rw [if_neg hi, List.getElem?_eq_none (by rw [zcells_length]; omega)]; rfl
theorem hn_make {t e : TypeId} {x y : Operand} {n : Int} {sz by_ : Nat} {z : Value} {zs : List Value} {K : Value → Heap → Prop} (hu : P.underlying t = some (.slice e)) (hs : szB P e = some sz) (hby : byB P e = some by_) (hz : zeroB P e z)
    (hx : ev ρ x = .int .i64 n) (hy : ev ρ y = .int .i64 n) (h0 : 0 ≤ n) (h1 : by_ * n ≤ 140737488355328) (h2 : n ≤ 140737488355328) (hzc : z.cells = zs.toArray) (hzl : zs.length = sz)
    (hk : ∀ b h', b = h.size → h' = h.push (.cells (zcells zs n.toNat).toArray e) → K (.slice (some ⟨b, 0, none⟩) n.toNat n.toNat) h') : HStep P ρ ⟨d, .makeSlice t x y, ty, p, af, g⟩ h K :=
  hs_of (v := .slice (some ⟨h.size, 0, none⟩) n.toNat n.toNat) (h' := h.push (.cells (zcells zs n.toNat).toArray e)) (fun w hw => by
    subst hw
    have hwr : IntKind.i64.wrap n = n := by simp [IntKind.wrap, IntKind.bits, IntKind.signed]; omega
    have hb : (P.info? e).map (·.bytes) = some by_ := hby
    cases hi : P.info? e with
    | none => rw [hi] at hb; cases hb
    | some i =>
      rw [hi] at hb; simp at hb
      have hlt : ¬ ((n < 0 ∨ 281474976710656 < (by_ : Int) * n) ∨ n < 0) := by omega
      have hroom : ¬ n.toNat * by_ > roomBytes := by
        unfold roomBytes
        have : (n.toNat * by_ : Nat) = ((by_ : Int) * n).toNat := by
          obtain ⟨m, rfl⟩ := Int.eq_ofNat_of_zero_le h0
          rw [Int.toNat_natCast, ← Int.natCast_mul, Int.toNat_natCast, Nat.mul_comm]
        omega
      simp only [execOp, Instr.makeSlice, Sem.run_bind, run_underlying hu, Result.andThen_ok, hx, hy, asInt, asIntOf, Sem.run_pure, typeInfo, run_program, hi, hwr, hb]
      have e1 : (decide (n < 0) || decide ((by_ : Int) * n > 2 ^ 48) || decide (n < 0) || decide (n > n)) = false := by
        simp; omega
      simp only [e1, Bool.false_eq_true, if_false]
      have e2 : (askRoom (n.toNat * by_)).run P w = .ok () w := by unfold askRoom; rw [if_neg hroom]; rfl
      simp only [Sem.run_bind, e2, Result.andThen_ok, run_sizeOf hs]
      by_cases hn : n.toNat * sz = 0
      · have : zcells zs n.toNat = [] := List.eq_nil_of_length_eq_zero (by rw [zcells_length, hzl]; exact hn)
        simp only [hn, if_true, Sem.run_pure, Result.andThen_ok, newRow, Sem.run_bind, rnew, this]
        have e3 : (Array.range 0).map (fun (i : Nat) => (#[] : Array Value)[i % (#[] : Array Value).size]!) = #[] := by simp
        rw [e3]
      · simp only [hn, if_false, Sem.run_bind, run_zero hz, Result.andThen_ok, Sem.run_pure, newRow, rnew, hzc]
        rw [← hzl, zcells_range]) (hk _ _ rfl rfl)
theorem hn_buildSlice {t e : TypeId} {n sz : Nat} {ps : List (Nat × Operand)} {z : Value} {vs : List (Nat × Value)} {cs : Array Value} {K : Value → Heap → Prop} (hu : P.underlying t = some (.slice e)) (hs : szB P e = some sz) (hz : zeroB P e z)
    (hv : (ps.map fun (i, x) => (i, ev ρ x)) = vs) (hsm : Nat.ble (n * sz) 16777216 = true) (hf : Instr.fill (fun i => some (i * sz, sz)) ((Array.range (n * sz)).map fun i => (if n * sz = 0 then #[] else z.cells)[i % (if n * sz = 0 then #[] else z.cells).size]!) vs = some cs)
    (hk : ∀ b h', b = h.size → h' = h.push (.cells cs e) → K (.slice (some ⟨b, 0, none⟩) n n) h') : HStep P ρ ⟨d, .buildSlice t n ps.toArray, ty, p, af, g⟩ h K :=
  hs_of (v := .slice (some ⟨h.size, 0, none⟩) n n) (h' := h.push (.cells cs e)) (fun w hw => by
    subst hw
    have h3 : (ps.toArray.map fun (i, x) => (i, ev ρ x)) = vs.toArray := by rw [← hv]; simp
    have hle : ¬ n * sz > 2 ^ 24 := by have := Nat.le_of_ble_eq_true hsm; omega
    simp only [execOp, Instr.buildSlice, Sem.run_bind, run_underlying hu, Result.andThen_ok, h3, run_sizeOf hs, hle, if_false]
    by_cases h0 : n * sz = 0
    · simp only [h0, if_true] at hf ⊢
      simp only [Sem.run_pure, Result.andThen_ok, hf, newRow, Sem.run_bind, rnew]
    · simp only [h0, if_false] at hf ⊢
      simp only [Sem.run_bind, run_zero hz, Sem.run_pure, Result.andThen_ok, hf, newRow, rnew]) (hk _ _ rfl rfl)
theorem wanted_y {o : Oper} {l : List Oper} {j dd : Nat} {want c : Bool} (hg : o.guard = some (j, want)) (hd : (l[j]?).bind (·.dst) = some dd) (hv : ρ dd = .bool c) (hc : c = want) : Region.wanted o (yl l.toArray ρ) = true := by
  unfold Region.wanted yl; rw [hg]; simp only [List.getElem?_toArray, hd, hv, hc]; simp
theorem wanted_n {o : Oper} {l : List Oper} {j dd : Nat} {want c : Bool} (hg : o.guard = some (j, want)) (hd : (l[j]?).bind (·.dst) = some dd) (hv : ρ dd = .bool c) (hc : c = !want) : Region.wanted o (yl l.toArray ρ) = false := by
  unfold Region.wanted yl; rw [hg]; simp only [List.getElem?_toArray, hd, hv, hc]; cases want <;> simp
theorem wanted_u {o : Oper} {l : List Oper} {j dd : Nat} {want : Bool} (hg : o.guard = some (j, want)) (hd : (l[j]?).bind (·.dst) = some dd) (hv : ρ dd = undef) : Region.wanted o (yl l.toArray ρ) = false := by
  unfold Region.wanted yl; rw [hg]; simp only [List.getElem?_toArray, hd, hv, undef]; rfl
theorem wanted_0 {o : Oper} {f : Nat → Option Bool} (hg : o.guard = none) : Region.wanted o f = true := by unfold Region.wanted; rw [hg]
end
theorem has_nil {ρ : Regs} : Has ρ [] := trivial
theorem has_cons {ρ : Regs} {i : Nat} {v : Value} {l : List (Nat × Value)} (h : ρ i = v) (hl : Has ρ l) : Has ρ ((i, v) :: l) := ⟨h, hl⟩
theorem bool_or (c : Bool) : c = true ∨ c = false := by cases c <;> simp
theorem hcells_cons {h : Heap} {b o : Nat} {v : Value} {vs : List Value} (h1 : hcell h b o = some v) (h2 : HCells h b (o + 1) vs) : HCells h b o (v :: vs) := ⟨h1, h2⟩
theorem hcells_nil {h : Heap} {b o : Nat} : HCells h b o [] := trivial
def HWs (h : Heap) (b o n : Nat) : Prop := ∀ j, j < n → HW h b (o + j)
end Go.Proofs.YthjehlocmikchaaDoor
