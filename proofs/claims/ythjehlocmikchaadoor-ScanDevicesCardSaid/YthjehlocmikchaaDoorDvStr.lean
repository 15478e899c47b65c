import Derived.Test.YthjehlocmikchaaDoorDvPrv
namespace Go.Proofs.YthjehlocmikchaaDoor
open Go
abbrev Str := ByteArray
def slt (a b : Str) : Bool := decide (a.data.toList < b.data.toList)
theorem ba_ext {a b : ByteArray} (h : a.data.toList = b.data.toList) : a = b := by
  rcases a with ⟨⟨a⟩⟩; rcases b with ⟨⟨b⟩⟩; simp at h; subst h; rfl
theorem slt_irrefl (a : Str) : slt a a = false := by simp [slt]
theorem slt_trans {a b c : Str} (h1 : slt a b = true) (h2 : slt b c = true) : slt a c = true := by
  simp only [slt, decide_eq_true_eq] at *; exact List.lt_trans h1 h2
theorem slt_total {a b : Str} (h1 : slt a b = false) (h2 : slt b a = false) : a = b := by
  simp only [slt, decide_eq_false_iff_not, List.not_lt] at *
  exact ba_ext (List.le_antisymm h2 h1)
theorem slt_asymm {a b : Str} (h : slt a b = true) : slt b a = false := by
  cases e : slt b a with
  | false => rfl
  | true => have := slt_trans h e; rw [slt_irrefl] at this; cases this
theorem slt_or {a b : Str} (h : slt a b = false) : a = b ∨ slt b a = true := by
  cases e : slt b a with
  | true => exact .inr rfl
  | false => exact .inl (slt_total h e)
theorem bless_eq : ∀ (x y : List UInt8), Op.bytesLess x y = decide (x < y)
  | [], [] => by simp [Op.bytesLess]
  | _ :: _, [] => by simp [Op.bytesLess]
  | [], _ :: _ => by simp [Op.bytesLess]
  | a :: x, b :: y => by
    rw [Op.bytesLess, bless_eq x y]
    simp only [List.cons_lt_cons_iff]
    by_cases h1 : a < b <;> by_cases h2 : a = b <;> by_cases h3 : x < y <;> simp [h1, h2, h3]
def strV : BinOp → Str → Str → Option Value
  | .eql, a, b => some (.bool (decide (a = b)))
  | .neq, a, b => some (.bool (!decide (a = b)))
  | .lss, a, b => some (.bool (slt a b))
  | .leq, a, b => some (.bool (!slt b a))
  | .gtr, a, b => some (.bool (slt b a))
  | .geq, a, b => some (.bool (!slt a b))
  | _, _, _ => none
theorem str_eql (a b : Str) : (a.toList == b.toList) = decide (a = b) := by
  rw [ByteArray.toList_eq, ByteArray.toList_eq, Bool.eq_iff_iff]
  simp only [beq_iff_eq, decide_eq_true_eq]
  exact ⟨ba_ext, fun e => by rw [e]⟩
theorem str_lss (a b : Str) : Op.bytesLess a.toList b.toList = slt a b := by rw [bless_eq, ByteArray.toList_eq, ByteArray.toList_eq]; rfl
theorem str_leq (a b : Str) : (slt a b || decide (a = b)) = !slt b a := by
  cases e : slt b a with
  | true => rw [slt_asymm e]; simp; intro h; subst h; rw [slt_irrefl] at e; cases e
  | false => rcases slt_or e with h | h
             · subst h; simp
             · rw [h]; rfl
section
variable {P : Program} {ρ : Regs} {h : Heap} {d : Option Nat} {ty : TypeId} {p : String} {af : Array Edge} {g : Option (Nat × Bool)}
theorem hv_str {op : BinOp} {t t' : TypeId} {x y : Operand} {a b : Str} {v : Value} (hx : ev ρ x = .string a) (hy : ev ρ y = .string b) (hv : strV op a b = some v) : HVal P ρ ⟨d, .binOp op t x y t', ty, p, af, g⟩ h v :=
  hv_of fun w _ => by
    have key : ∀ r : Bool, v = .bool r → binOp op t (.string a) (.string b) = pure (.bool r) → (execOp (ev ρ) ⟨d, .binOp op t x y t', ty, p, af, g⟩).run P w = .ok (.value v) w := by
      intro r e1 e2
      subst e1
      simp [execOp, hx, hy, go_sem, eqGuard, e2]
    cases op <;> simp only [strV, Option.some.injEq, reduceCtorEq] at hv
    · exact key _ hv.symm (by simp only [binOp, Op.stringOp, str_eql])
    · exact key _ hv.symm (by simp only [binOp, Op.stringOp, str_eql])
    · exact key _ hv.symm (by simp only [binOp, Op.stringOp, str_lss])
    · exact key _ hv.symm (by simp only [binOp, Op.stringOp, str_lss, str_eql, str_leq])
    · exact key _ hv.symm (by simp only [binOp, Op.stringOp, str_lss, str_eql, str_leq, Bool.not_not])
    · exact key _ hv.symm (by simp only [binOp, Op.stringOp, str_lss])
theorem hv_strAdd {t t' : TypeId} {x y : Operand} {a b : Str} (hx : ev ρ x = .string a) (hy : ev ρ y = .string b) (hs : a.size + b.size ≤ 9223372036854775807) : HVal P ρ ⟨d, .binOp .add t x y t', ty, p, af, g⟩ h (.string (a ++ b)) :=
  hv_of fun w _ => by
    have hn : (a.size : Int) + b.size ≤ 9223372036854775807 := by omega
    simp [execOp, hx, hy, eqGuard, binOp, Op.stringOp, go_sem]
    exact hn
end
end Go.Proofs.YthjehlocmikchaaDoor
