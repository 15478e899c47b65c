import Derived.Test.YthjehlocmikchaaDoorDvOfz
namespace Go.Proofs.YthjehlocmikchaaDoor
open Go
def partV (P : Program) (t : TypeId) (cs : Array Value) (off : Nat) : Option Value :=
  match aggB P t with
  | some true => match szB P t with | some n => some (.agg (cs.extract off (off + n))) | none => none
  | some false => cs[off]?
  | none => none
mutual
def eqD (P : Program) : Nat → TypeId → Value → Value → Option Bool
  | 0, _, _, _ => none
  | n + 1, t, x, y => match P.underlying t, x, y with
    | some (.struct fs), .agg xs, .agg ys => if P.stoodInHeld t then none else eqDs P n fs.toList xs ys
    | _, x, y => if fitsV P t x then eqV x y else none
def eqDs (P : Program) : Nat → List Field → Array Value → Array Value → Option Bool
  | 0, _, _, _ => none
  | _ + 1, [], _, _ => some true
  | n + 1, f :: fs, xs, ys => if f.name == "_" then none else
    match partV P f.type xs f.offset, partV P f.type ys f.offset with
    | some x, some y => match eqD P n f.type x y, eqDs P n fs xs ys with
      | some b, some r => some (b && r)
      | _, _ => none
    | _, _ => none
end
theorem run_partV {P : Program} {t : TypeId} {cs : Array Value} {off : Nat} {v : Value} (w : World) (h : partV P t cs off = some v) : (part t cs off).run P w = .ok v w := by
  unfold partV at h
  split at h
  · rename_i ha
    split at h
    · rename_i n hn
      cases h
      simp only [part, Sem.run_bind, run_isAgg ha, Result.andThen_ok, if_true, run_sizeOf hn, Sem.run_pure]
    · cases h
  · rename_i ha
    simp only [part, Sem.run_bind, run_isAgg ha, Result.andThen_ok, Bool.false_eq_true, if_false, h, Sem.run_pure]
  · cases h
mutual
theorem run_eqD {P : Program} (w : World) : ∀ (n dp : Nat) (t : TypeId) (x y : Value) (b : Bool), n ≤ dp → eqD P n t x y = some b → (Op.equalIn dp t x y).run P w = .ok b w
  | 0, _, _, _, _, _, _, h => by simp [eqD] at h
  | n + 1, dp, t, x, y, b, hd, h => by
    obtain ⟨e, rfl⟩ : ∃ e, dp = e + 1 := ⟨dp - 1, by omega⟩
    unfold eqD at h
    split at h
    · rename_i fs xs ys hu
      split at h
      · cases h
      · rename_i hc
        have hf : P.fieldsOf t = fs := by unfold Program.fieldsOf; rw [hu]
        rw [run_equalIn_struct w e t xs ys (by rw [hf]; exact hu) (by simpa using hc), hf]
        exact run_eqDs w n e fs.toList xs ys b (by omega) h
    · split at h
      · rename_i hf
        exact run_eqOne e w hf h
      · cases h
theorem run_eqDs {P : Program} (w : World) : ∀ (n dp : Nat) (fs : List Field) (xs ys : Array Value) (b : Bool), n ≤ dp → eqDs P n fs xs ys = some b → (Op.eqFields dp xs ys fs).run P w = .ok b w
  | 0, _, _, _, _, _, _, h => by simp [eqDs] at h
  | n + 1, dp, [], xs, ys, b, _, h => by simp [eqDs] at h; subst h; simp [Op.eqFields, go_sem]
  | n + 1, dp, f :: fs, xs, ys, b, hd, h => by
    unfold eqDs at h
    split at h
    · cases h
    rename_i hn
    have hn' : f.name ≠ "_" := by simpa using hn
    split at h <;> try cases h
    rename_i x y hx hy
    split at h <;> try cases h
    rename_i b1 r h1 h2
    have e1 := run_eqD (P := P) w n dp f.type x y b1 (by omega) h1
    have e2 := run_eqDs (P := P) w n dp fs xs ys r (by omega) h2
    simp only [Op.eqFields, ne_eq, hn', not_false_eq_true, if_true, Sem.run_bind, run_partV w hx, run_partV w hy, Result.andThen_ok, e1]
    cases b1
    · simp [go_sem]
    · simp [e2]
end
theorem hv_structEqD {P : Program} {ρ : Regs} {h : Heap} {d : Option Nat} {ty : TypeId} {p : String} {af : Array Edge} {g : Option (Nat × Bool)} {op : BinOp} {t t' : TypeId} {x y : Operand} {xs ys : List Value} {b : Bool} {v : Value} (hg : P.eqGuardType P.depth t = false) (hx : ev ρ x = .agg xs.toArray) (hy : ev ρ y = .agg ys.toArray)
    (he : eqD P 20 t (.agg xs.toArray) (.agg ys.toArray) = some b) (hv : (match op with | .eql => some (Value.bool b) | .neq => some (Value.bool !b) | _ => none) = some v) : HVal P ρ ⟨d, .binOp op t x y t', ty, p, af, g⟩ h v :=
  hv_of fun w _ => by
    have hrun := run_eqD (P := P) w 20 10000 t _ _ b (by omega) he
    have hgd := run_eqGuard_agg (P := P) w op t x y xs.toArray ys.toArray hg
    cases op <;> simp only [Option.some.injEq, reduceCtorEq] at hv
    · have h1 := run_eql_struct (P := P) w t xs.toArray ys.toArray
      rw [hrun] at h1
      simp only [execOp, hx, hy, Sem.run_bind, hgd, Result.andThen_ok, h1, Sem.run_pure, hv]
    · have h1 := run_neq_struct (P := P) w t xs.toArray ys.toArray
      rw [hrun] at h1
      simp only [execOp, hx, hy, Sem.run_bind, hgd, Result.andThen_ok, h1, Sem.run_pure, hv]
end Go.Proofs.YthjehlocmikchaaDoor
