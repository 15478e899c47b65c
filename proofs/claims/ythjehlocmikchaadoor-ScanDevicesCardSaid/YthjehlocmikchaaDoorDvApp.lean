import Derived.Test.YthjehlocmikchaaDoorDvOps
namespace Go.Proofs.YthjehlocmikchaaDoor
open Go
def HAppend (P : Program) (t u : TypeId) (s x : Value) (h : Heap) (K : Value → Heap → Prop) : Prop :=
  ∀ (ty : TypeId) (w : World), w.heap = h → ∃ v w', (Builtin.append_ #[t, u] ty #[s, x]).run P w = .ok v w' ∧ Sim w w' ∧ K v w'.heap
theorem HAppend.mono {P : Program} {t u : TypeId} {s x : Value} {h : Heap} {K K' : Value → Heap → Prop} (ha : HAppend P t u s x h K) (hk : ∀ v h', K v h' → K' v h') : HAppend P t u s x h K' :=
  fun ty w hw => let ⟨v, w', h1, h2, h3⟩ := ha ty w hw; ⟨v, w', h1, h2, hk _ _ h3⟩
section
variable {P : Program} {ρ : Regs} {h : Heap} {d : Option Nat} {ty : TypeId} {p : String} {af : Array Edge} {g : Option (Nat × Bool)}
theorem hs_append {t u : TypeId} {x y : Operand} {vx vy : Value} {K : Value → Heap → Prop} (hx : ev ρ x = vx) (hy : ev ρ y = vy) (ha : HAppend P t u vx vy h K) :
    HStep P ρ ⟨d, .call ⟨.builtin .append, #[x, y], #[t, u]⟩, ty, p, af, g⟩ h K := by
  intro w hw
  obtain ⟨v, w', h1, h2, h3⟩ := ha ty w hw
  have : (execOp (ev ρ) ⟨d, .call ⟨.builtin .append, #[x, y], #[t, u]⟩, ty, p, af, g⟩).run P w = .ok (.value v) w' := by
    simp only [execOp, resolve, invoke, builtin, Sem.run_bind, Sem.run_pure, Result.andThen_ok, List.map_toArray, List.map_cons, List.map_nil, hx, hy, h1]
  rw [this]
  exact ⟨h2, h3⟩
def Src (h : Heap) (x : Value) (m size : Nat) (news : List Value) : Prop :=
  news.length = m * size ∧ ((∃ a c, x = .slice a m c ∧ m = 0) ∨ ∃ b o c, x = .slice (some ⟨b, o, none⟩) m c ∧ ∀ j u, news[j]? = some u → hcell h b (o + j) = some u)
theorem Src.first {w : World} {x : Value} {m size : Nat} {news : List Value} (hs : Src w.heap x m size news) : (Builtin.firstCells size m x).run P w = .ok news.toArray w := by
  obtain ⟨hl, ⟨a, c, rfl, rfl⟩ | ⟨b, o, c, rfl, hc⟩⟩ := hs
  · have : news = [] := List.eq_nil_of_length_eq_zero (by simpa using hl)
    subst this
    cases a with
    | none => exact run_firstCells_none w _ _ _ _
    | some ad => exact run_firstCells_some w size 0 ad 0 c [] (by simp) (fun j v hv => by simp at hv)
  · exact run_firstCells_some w size m ⟨b, o, none⟩ m c news hl (fun j v hv => by rw [add_lit, cell_hcell]; exact hc j v hv)
theorem Src.len {w : World} {x : Value} {m size : Nat} {news : List Value} (hs : Src w.heap x m size news) : (Builtin.lenOf x).run P w = .ok m w := by
  obtain ⟨hl, ⟨a, c, rfl, rfl⟩ | ⟨b, o, c, rfl, hc⟩⟩ := hs
  · cases a <;> simp [Builtin.lenOf, go_sem]
  · simp [Builtin.lenOf, go_sem]
theorem Src.ext {h h' : Heap} (he : Ext h h') {x : Value} {m size : Nat} {news : List Value} (hs : Src h x m size news) : Src h' x m size news := by
  obtain ⟨hl, hx | ⟨b, o, c, rfl, hc⟩⟩ := hs
  · exact ⟨hl, .inl hx⟩
  · exact ⟨hl, .inr ⟨b, o, c, rfl, fun j u hu => he.cell (hc j u hu)⟩⟩
theorem happ_room {t e : TypeId} {size : Nat} (hu : P.underlying t = some (.slice e)) (hz : szB P e = some size) {b o n c m : Nat} {x : Value} {news : List Value} (hx : Src h x m size news) (hroom : n + m ≤ c) (hone : ∀ v ∈ news, oneC v = true)
    (hW : ∀ j, j < news.length → HW h b (o + n * size + j)) {K : Value → Heap → Prop} (hk : K (.slice (some ⟨b, o, none⟩) (n + m) c) (hsets h b (o + n * size) news)) : HAppend P t t (.slice (some ⟨b, o, none⟩) n c) x h K := by
  intro ty w hw
  subst hw
  refine ⟨_, { w with heap := hsets w.heap b (o + n * size) news }, ?_, ⟨rfl, rfl, rfl, Nat.le_refl _, HG.hsets _ _ _ _⟩, hk⟩
  have hst := run_storeCells (P := P) (b := b) (o := o + n * size) news 0 w hone (by simpa using hW)
  simp only [Nat.add_zero] at hst
  have hi : ∃ i, P.info? e = some i ∧ i.size = size := by
    unfold szB at hz
    cases hi : P.info? e with
    | none => rw [hi] at hz; cases hz
    | some i => rw [hi] at hz; exact ⟨i, rfl, by simpa using hz⟩
  obtain ⟨i, hi, his⟩ := hi
  simp [Builtin.append_, run_underlying hu, run_sizeOf hz, hx.len, hroom, hx.first, add_lit, hst]
theorem happ_zero {t e : TypeId} {size : Nat} (hu : P.underlying t = some (.slice e)) (hz : szB P e = some size) {a : Option Addr} {n c : Nat} {x : Value} (hx : Src h x 0 size []) (hn : n ≤ c) {K : Value → Heap → Prop} (hk : K (.slice a n c) h) : HAppend P t t (.slice a n c) x h K := by
  intro ty w hw
  subst hw
  refine ⟨_, w, ?_, Sim.refl _, hk⟩
  have hf := hx.first (P := P)
  cases a <;> simp [Builtin.append_, run_underlying hu, run_sizeOf hz, hx.len, hn, hf, storeCells]
theorem happ_grow {t e : TypeId} {size by_ : Nat} {zs : List Value} {z : Value} (hu : P.underlying t = some (.slice e)) (hz : szB P e = some size) (hby : byB P e = some by_) (hzv : zeroB P e z) (hzc : z.cells = zs.toArray) {a : Option Addr} {n c m : Nat} {x : Value} {olds news : List Value}
    (hs : Src h (.slice a n c) n size olds) (hx : Src h x m size news) (hroom : c < n + m) (h47 : (n + m) * by_ ≤ 140737488355328) (h63 : n + m ≤ 9223372036854775807) {K : Value → Heap → Prop}
    (hk : ∀ b cap h', b = h.size → n + m ≤ cap → cap ≤ 9223372036854775807 → h' = h.push (.cells (olds ++ news ++ (Builtin.zeroCells zs.toArray (cap - (n + m))).toList).toArray e) → K (.slice (some ⟨b, 0, none⟩) (n + m) cap) h') : HAppend P t t (.slice a n c) x h K := by
  intro ty w hw
  subst hw
  have hi : ∃ i, P.info? e = some i ∧ i.size = size ∧ i.bytes = by_ ∧ i.zero = some z := by
    unfold szB at hz; unfold byB at hby; unfold zeroB at hzv
    cases hi : P.info? e with
    | none => rw [hi] at hz; cases hz
    | some i => rw [hi] at hz hby hzv; exact ⟨i, rfl, by simpa using hz, by simpa using hby, by simpa using hzv⟩
  obtain ⟨i, hi, his, hib, hiz⟩ := hi
  have hfit : Builtin.nextslicecap (n + m) c * i.bytes ≤ 281474976710656 := by rw [hib]; exact growslice_fits hroom h47
  have hcm : grownCap w (n + m) c e ≤ 9223372036854775807 := by
    have hlt := Nat.mod_lt (w.tape w.drawn (.appendCap (n + m) c e)) (show 0 < 2 ^ 63 - (n + m) by omega)
    simp only [grownCap, Question.cut]
    omega
  have hcg : n + m ≤ grownCap w (n + m) c e := by simp [grownCap, Question.cut]
  refine ⟨.slice (some ⟨w.heap.size, 0, none⟩) (n + m) (grownCap w (n + m) c e), { w with drawn := w.drawn + 1, heap := w.heap.push (.cells (olds ++ news ++ (Builtin.zeroCells zs.toArray (grownCap w (n + m) c e - (n + m))).toList).toArray e) }, ?_, ⟨rfl, rfl, rfl, Nat.le_succ _, HG.push _ _⟩, hk _ _ _ rfl hcg hcm rfl⟩
  have hn : ¬ (n + m ≤ c) := by omega
  have h63' : ¬ (9223372036854775807 < ((n : Int) + (m : Int))) := by omega
  have h48' : ¬ (281474976710656 < Builtin.nextslicecap (n + m) c * i.bytes) := by omega
  have hf := Src.first (P := P) (w := w.drew) (x := x) (m := m) (size := size) (news := news) hx
  have hfo := Src.first (P := P) (w := w.drew) (x := .slice a n c) (m := n) (size := size) (news := olds) hs
  simp [Builtin.append_, run_underlying hu, sizeOf, typeInfo, zeroValue, hi, hiz, hx.len, hn, h63', h48', Question.forced, his, hf, hfo, newRow, grownCap]
  rw [hzc]
  generalize Builtin.zeroCells zs.toArray _ = Z
  have e1 : olds.toArray ++ (news.toArray ++ Z) = (olds ++ (news ++ Z.toList)).toArray := by apply Array.ext'; simp
  rw [e1]
  rfl
theorem hv_eqBool {op : BinOp} {t t' : TypeId} {x y : Operand} {a b : Bool} {v : Value} (hu : P.underlying t = some .bool) (hx : ev ρ x = .bool a) (hy : ev ρ y = .bool b)
    (hv : (match op with | .eql => some (Value.bool (a == b)) | .neq => some (Value.bool (a != b)) | _ => none) = some v) : HVal P ρ ⟨d, .binOp op t x y t', ty, p, af, g⟩ h v :=
  hv_of fun w _ => by
    have he : (Op.equal t (.bool a) (.bool b)).run P w = .ok (a == b) w := by
      have h1 : ∀ dp, (Op.equalIn (dp + 1) t (.bool a) (.bool b)).run P w = .ok (a == b) w := by
        intro dp; simp [Op.equalIn, run_underlying hu, go_sem]
      exact h1 9999
    cases op <;> simp only [Option.some.injEq, reduceCtorEq] at hv
    all_goals (simp [execOp, hx, hy, go_sem, eqGuard, binOp, he, ← hv, bne])
theorem hv_sliceNil {op : BinOp} {t t' e : TypeId} {x : Operand} {a : Option Addr} {n c : Nat} {v : Value} (hu : P.underlying t = some (.slice e)) (hx : ev ρ x = .slice a n c)
    (hv : (match op with | .eql => some (Value.bool a.isNone) | .neq => some (Value.bool a.isSome) | _ => none) = some v) : HVal P ρ ⟨d, .binOp op t x (.const (.slice none 0 0)) t', ty, p, af, g⟩ h v :=
  hv_of fun w _ => by
    have he : (Op.equal t (.slice a n c) (.slice none 0 0)).run P w = .ok a.isNone w := by
      have h1 : ∀ dp, (Op.equalIn (dp + 1) t (.slice a n c) (.slice none 0 0)).run P w = .ok a.isNone w := by
        intro dp; cases a <;> simp [Op.equalIn, run_underlying hu, go_sem]
      exact h1 9999
    have e2 : ev ρ (.const (.slice none 0 0)) = .slice none 0 0 := rfl
    cases op <;> simp only [Option.some.injEq, reduceCtorEq] at hv
    all_goals (cases a <;> simp [execOp, hx, e2, go_sem, eqGuard, binOp, he, ← hv])
def slA (a : Option Addr) (l size m : Nat) : Option Addr := if m = l then a else a.map (·.add (l * size))
def sliceLo (ρ : Regs) (lo : Option Operand) (l : Int) : Prop := match lo with | some x => ∃ k, ev ρ x = .int k l | none => l = 0
def sliceHi (ρ : Regs) (hi : Option Operand) (n : Nat) (r : Int) : Prop := match hi with | some x => ∃ k, ev ρ x = .int k r | none => r = n
theorem run_bounds (isS : Bool) (n c : Nat) (lo hi : Option Operand) (l r : Int) (w : World) (hl : sliceLo ρ lo l) (hr : sliceHi ρ hi n r) (h0 : 0 ≤ l) (h1 : l ≤ r) (h2 : r ≤ c) :
    (Instr.sliceBounds isS n c (lo.map (ev ρ)) (hi.map (ev ρ)) none).run P w = .ok (l.toNat, r.toNat, c) w := by
  have h3 : 0 ≤ r := by omega
  have h4 : l ≤ max r 0 := by omega
  cases lo <;> cases hi <;> simp only [sliceLo, sliceHi] at hl hr
  · subst hl; subst hr; simp [Instr.sliceBounds, go_sem]
  · obtain ⟨k, hr⟩ := hr; subst hl; simp [Instr.sliceBounds, Instr.sliceBound, go_sem, hr, asIntOf, h3, h2]
  · obtain ⟨k, hl⟩ := hl; subst hr; have : l ≤ (n : Int) := h1; simp [Instr.sliceBounds, Instr.sliceBound, go_sem, hl, asIntOf, h0, this]
  · obtain ⟨k, hl⟩ := hl; obtain ⟨k', hr⟩ := hr; simp [Instr.sliceBounds, Instr.sliceBound, go_sem, hl, hr, asIntOf, h0, h3, h2]
    intro h5; omega
theorem hv_slice {t e : TypeId} {x : Operand} {lo hi : Option Operand} {size n c : Nat} {a q : Option Addr} {l r : Int} (hu : P.underlying t = some (.slice e)) (hz : szB P e = some size) (hx : ev ρ x = .slice a n c)
    (hl : sliceLo ρ lo l) (hr : sliceHi ρ hi n r) (h0 : 0 ≤ l) (h1 : l ≤ r) (h2 : r ≤ c) (hq : q = slA a l.toNat size c) :
    HVal P ρ ⟨d, .slice t x lo hi none, ty, p, af, g⟩ h (.slice q (r.toNat - l.toNat) (c - l.toNat)) :=
  hv_of fun w _ => by
    have hb := run_bounds (P := P) (ρ := ρ) true n c lo hi l r w hl hr h0 h1 h2
    subst hq
    simp only [execOp, Instr.sliceAt, Sem.run_bind, run_underlying hu, Result.andThen_ok, Instr.slice, hx, hb, run_sizeOf hz, Option.map_none, slA]
    simp [go_sem]
end
theorem sl_none {ρ : Regs} : sliceLo ρ none 0 := rfl
theorem sl_some {ρ : Regs} {x : Operand} {k : IntKind} {l : Int} (h : ev ρ x = .int k l) : sliceLo ρ (some x) l := ⟨k, h⟩
theorem sh_none {ρ : Regs} {n : Nat} : sliceHi ρ none n n := rfl
theorem sh_some {ρ : Regs} {x : Operand} {k : IntKind} {n : Nat} {r : Int} (h : ev ρ x = .int k r) : sliceHi ρ (some x) n r := ⟨k, h⟩
end Go.Proofs.YthjehlocmikchaaDoor
