import Derived.MapKept
import Derived.Test.YthjehlocmikchaaDoorDvRng
namespace Go.Proofs.YthjehlocmikchaaDoor
open Go
section
variable {κ : Type}
def MapL (h : Heap) (b : Nat) (enc : κ → Value) (l : List (κ × Value)) : Prop :=
  ∃ es clock, h[b]? = some (.map es clock) ∧ es.toList.map (fun e => (e.key, e.val)) = l.map (fun p => (enc p.1, p.2)) ∧ (l.map (·.1)).Nodup
theorem MapL.row {h h' : Heap} {b : Nat} {enc : κ → Value} {l : List (κ × Value)} (m : MapL h b enc l) (e : h'[b]? = h[b]?) : MapL h' b enc l :=
  let ⟨es, c, h1, h2⟩ := m; ⟨es, c, e.trans h1, h2⟩
theorem MapL.lt {h : Heap} {b : Nat} {enc : κ → Value} {l : List (κ × Value)} (m : MapL h b enc l) : b < h.size := let ⟨_, _, h1, _⟩ := m; row_lt h1
theorem MapL.ext {h h' : Heap} (he : Ext h h') {b : Nat} {enc : κ → Value} {l : List (κ × Value)} (m : MapL h b enc l) : MapL h' b enc l := m.row (he.block b m.lt)
theorem MapL.fr {h h' : Heap} {S : Nat → Prop} (he : Fr S h h') {b : Nat} {enc : κ → Value} {l : List (κ × Value)} (m : MapL h b enc l) (hn : ¬ S b) : MapL h' b enc l := m.row (he.block b m.lt hn)
end
section
variable {κ : Type} [DecidableEq κ]
def fi : List (κ × Value) → κ → Option (Nat × Value)
  | [], _ => none
  | (b, v) :: t, a => if b = a then some (0, v) else (fi t a).map fun x => (x.1 + 1, x.2)
variable {d : TypeDesc} {enc : κ → Value}
section ops
variable {P : Program} {ρ : Regs} {h : Heap} {dd : Option Nat} {ty : TypeId} {p : String} {af : Array Edge} {g : Option (Nat × Bool)}
end ops
end
end Go.Proofs.YthjehlocmikchaaDoor
