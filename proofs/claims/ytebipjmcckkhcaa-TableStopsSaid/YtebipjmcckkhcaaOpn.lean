/-
The calls that a law is handed, read off the memory.
-/
import Derived.Test.YtebipjmcckkhcaaTab7
import Derived.WalkKit
import Derived.ProofKit
import Derived.OpenShut
import Derived.ShutString
import Derived.ChangeOld
import Derived.Below
import Derived.Carry
import Derived.Deep.Slices
import Derived.Deep.Fields
namespace Go.Proofs.Ytebipjmcckkhcaa
open Go RH Go.ChangeShapes Go.WideShapes Go.Deep

section
variable {H : Type} {enc : TypeId × Value → H} {W : World}

theorem wfU64 {n : Int} (h : (Lit.int .u64 n).wf = true) : ∃ k : Nat, n = k ∧ k < 18446744073709551616 := by
  have := bounds_u64 h
  exact ⟨n.toNat, by omega, by omega⟩
theorem wfU8 {n : Int} (h : (Lit.int .u8 n).wf = true) : ∃ k : Nat, n = k ∧ k < 256 := by
  have := bounds_u8 h
  exact ⟨n.toNat, by omega, by omega⟩

theorem ent_cells {fuel : Nat} {cs : List Value} {x : DataW H × List MemPlace} (h : DataW.trod enc Try.prog W 0 (fun _ => true) true fuel 31 cs = some x) :
    ∃ e : Ent, e.wf ∧ cs = [.int .u64 e.h, .int .u64 e.a, .int .u64 e.v, .int .u8 e.k] := by
  obtain ⟨ys, n, _, _, hl, hyl, hf⟩ := DataW.trod_struct Try.underlying31 h
  rw [show Try.prog.cellsOf 31 = 4 by kernel_rfl] at hl
  match cs, hl with
  | [c0, c1, c2, c3], _ =>
    have g0 : DataW.trod enc Try.prog W 0 (fun _ => true) true n 29 (([c0, c1, c2, c3].drop 0).take (Try.prog.cellsOf 29)) = ys[0]? := hf 0 _ rfl
    have g1 : DataW.trod enc Try.prog W 0 (fun _ => true) true n 29 (([c0, c1, c2, c3].drop 1).take (Try.prog.cellsOf 29)) = ys[1]? := hf 1 _ rfl
    have g2 : DataW.trod enc Try.prog W 0 (fun _ => true) true n 29 (([c0, c1, c2, c3].drop 2).take (Try.prog.cellsOf 29)) = ys[2]? := hf 2 _ rfl
    have g3 : DataW.trod enc Try.prog W 0 (fun _ => true) true n 5 (([c0, c1, c2, c3].drop 3).take (Try.prog.cellsOf 5)) = ys[3]? := hf 3 _ rfl
    rw [show Try.prog.cellsOf 29 = 1 by kernel_rfl] at g0 g1 g2
    rw [show Try.prog.cellsOf 5 = 1 by kernel_rfl] at g3
    match ys, hyl with
    | [y0, y1, y2, y3], _ =>
      obtain ⟨n0, e0, _, w0⟩ := DataW.trod_int Try.underlying29 (x := y0) g0
      obtain ⟨n1, e1, _, w1⟩ := DataW.trod_int Try.underlying29 (x := y1) g1
      obtain ⟨n2, e2, _, w2⟩ := DataW.trod_int Try.underlying29 (x := y2) g2
      obtain ⟨n3, e3, _, w3⟩ := DataW.trod_int Try.underlying5 (x := y3) g3
      obtain ⟨k0, rfl, b0⟩ := wfU64 w0
      obtain ⟨k1, rfl, b1⟩ := wfU64 w1
      obtain ⟨k2, rfl, b2⟩ := wfU64 w2
      obtain ⟨k3, rfl, b3⟩ := wfU8 w3
      simp at e0 e1 e2 e3
      exact ⟨⟨k0, k1, k2, k3⟩, ⟨b0, b1, b2, b3⟩, by rw [e0, e1, e2, e3]⟩

theorem op_cells {fuel : Nat} {cs : List Value} {x : DataW H × List MemPlace} (h : DataW.trod enc Try.prog W 0 (fun _ => true) true fuel 33 cs = some x) :
    ∃ (k : Int) (e : Ent), e.wf ∧ cs = [.int .i64 k, .int .u64 e.h, .int .u64 e.a, .int .u64 e.v, .int .u8 e.k] := by
  obtain ⟨ys, n, _, _, hl, hyl, hf⟩ := DataW.trod_struct Try.underlying33 h
  rw [show Try.prog.cellsOf 33 = 5 by kernel_rfl] at hl
  match cs, hl with
  | [c0, c1, c2, c3, c4], _ =>
    have g0 : DataW.trod enc Try.prog W 0 (fun _ => true) true n 3 (([c0, c1, c2, c3, c4].drop 0).take (Try.prog.cellsOf 3)) = ys[0]? := hf 0 _ rfl
    have g1 : DataW.trod enc Try.prog W 0 (fun _ => true) true n 31 (([c0, c1, c2, c3, c4].drop 1).take (Try.prog.cellsOf 31)) = ys[1]? := hf 1 _ rfl
    rw [show Try.prog.cellsOf 3 = 1 by kernel_rfl] at g0
    rw [show Try.prog.cellsOf 31 = 4 by kernel_rfl] at g1
    match ys, hyl with
    | [y0, y1], _ =>
      obtain ⟨n0, e0, _, w0⟩ := DataW.trod_int Try.underlying3 (x := y0) g0
      obtain ⟨e, hw, e1⟩ := ent_cells (x := y1) g1
      simp at e0 e1
      obtain ⟨rfl, rfl, rfl, rfl⟩ := e1
      exact ⟨n0, e, hw, by rw [e0]⟩

theorem hcell_of {a : Addr} {v : Value} (h : W.cell? a = some v) : a.spot = none ∧ hcell W.heap a.block a.off = some v := by
  unfold World.cell? at h
  unfold hcell
  split at h
  · rename_i hb
    rw [hb]
    split at h
    · cases h
    · rename_i hs
      exact ⟨by simpa using hs, h⟩
  · cases h

theorem add_spot (a : Addr) (n : Nat) (h : a.spot = none) : (a.add n).spot = none ∧ (a.add n).block = a.block ∧ (a.add n).off = a.off + n := by
  unfold Addr.add
  by_cases hn : n = 0
  · subst hn; exact ⟨h, rfl, rfl⟩
  · rw [if_neg hn]; exact ⟨rfl, rfl, rfl⟩

theorem ops_open {t : TypeId} {v : Value} {d : DataW H} {p : List MemPlace} (ht : Try.prog.underlying t = some (.slice 33))
    {a0 : Option Addr} {len cap : Nat} (hv : v = .slice a0 len cap) (h : DataW.Trod enc Try.prog W 0 (fun _ => true) true t v d p) :
    len ≤ maxLen ∧ ∃ (K : Nat → Int) (E : Nat → Ent), OpsAt W.heap a0 len K E := by
  subst hv
  obtain ⟨fuel, h⟩ := h
  rcases open_slice ht h with ⟨hc, _⟩ | ⟨a, len', cap', m, n, D, Pl, hc, _, hl, hm, hmm, _, hx⟩
  · simp [Value.cells] at hc
    obtain ⟨rfl, rfl, rfl⟩ := hc
    exact ⟨Nat.zero_le _, fun _ => 0, fun _ => z0, fun h => absurd h (by omega)⟩
  · simp [Value.cells] at hc
    obtain ⟨rfl, rfl, rfl⟩ := hc
    refine ⟨Nat.le_trans hl hm, ?_⟩
    have each : ∀ i, ∃ q : Int × Ent, i < len → q.2.wf ∧ ∀ j u, [Value.int .i64 q.1, .int .u64 q.2.h, .int .u64 q.2.a, .int .u64 q.2.v, .int .u8 q.2.k][j]? = some u → W.cell? (a.add (i * 5 + j)) = some u := by
      intro i
      by_cases hi : i < len
      · obtain ⟨cs', h1, h2⟩ := hx i (by simpa [hmm] using Nat.lt_of_lt_of_le hi hl)
        obtain ⟨k, e, hw, rfl⟩ := op_cells h2
        refine ⟨(k, e), fun _ => ⟨hw, fun j u hj => ?_⟩⟩
        rw [show Try.prog.cellsOf 33 = 5 by kernel_rfl] at h1
        obtain ⟨_, _, hcell⟩ := World.cells?_some h1
        have hj5 : j < 5 := by have := (List.getElem?_eq_some_iff.1 hj).1; simpa using this
        have := hcell j hj5
        rw [Go.Deep.add_add] at this
        rw [this]; exact hj
      · exact ⟨(0, z0), fun h => absurd h hi⟩
    refine ⟨fun i => (Classical.choose (each i)).1, fun i => (Classical.choose (each i)).2, fun hpos => ?_⟩
    have all := fun i => Classical.choose_spec (each i)
    have sp : a.spot = none := by
      have := (all 0 hpos).2 0 _ rfl
      have h1 := (hcell_of this).1
      simpa [Addr.add] using h1
    have blk : a.block < W.heap.size := by
      have := (all 0 hpos).2 0 _ rfl
      have h1 := (hcell_of this).2
      rw [(add_spot a _ sp).2.1] at h1
      unfold hcell at h1
      split at h1
      · rename_i hb; exact row_lt hb
      · cases h1
    refine ⟨a.block, a.off, by rw [← sp], blk, fun i hi => ?_⟩
    obtain ⟨hw, hc⟩ := all i hi
    have get : ∀ j u, [Value.int .i64 (Classical.choose (each i)).1, .int .u64 (Classical.choose (each i)).2.h, .int .u64 (Classical.choose (each i)).2.a, .int .u64 (Classical.choose (each i)).2.v, .int .u8 (Classical.choose (each i)).2.k][j]? = some u → hcell W.heap a.block (a.off + i * 5 + j) = some u := by
      intro j u hj
      have h1 := (hcell_of (hc j u hj)).2
      rw [(add_spot a _ sp).2.1, (add_spot a _ sp).2.2, ← Nat.add_assoc] at h1
      exact h1
    exact ⟨hw, get 0 _ rfl, get 1 _ rfl, get 2 _ rfl, get 3 _ rfl, get 4 _ rfl⟩

/-- From heaps to worlds. -/
theorem below_of {w w' : World} (hs : Sim w w') (he : Ext w.heap w'.heap) : RowKit.Below w.heap.size w w' := ⟨hs.os, hs.tape, hs.output, he.size, fun k hk => he.block k hk⟩
end

end Go.Proofs.Ytebipjmcckkhcaa
