/-
The calls that the law is handed, read off the memory.
-/
import Derived.Test.YtfdgjgjcppfmiaaRound
import Derived.WalkKit
import Derived.ProofKit
import Derived.OpenShut
import Derived.ShutString
import Derived.ChangeOld
import Derived.Below
import Derived.Carry
import Derived.Deep.Slices
import Derived.Deep.Fields
namespace Go.Proofs.Ytfdgjgjcppfmiaa
open Go Go.ChangeShapes Go.WideShapes Go.Deep

section
variable {H : Type} {enc : TypeId × Value → H} {W : World}

set_option maxRecDepth 100000 in
theorem op_cells {fuel : Nat} {cs : List Value} {x : DataW H × List MemPlace} (h : DataW.trod enc Try.prog W 0 (fun _ => true) true fuel 36 cs = some x) :
    ∃ (k r w : Int), cs = [.int .i64 k, .int .i64 r, .int .i64 w] := by
  obtain ⟨ys, n, _, _, hl, hyl, hf⟩ := DataW.trod_struct Try.underlying36 h
  rw [show Try.prog.cellsOf 36 = 3 by kernel_rfl] at hl
  match cs, hl with
  | [c0, c1, c2], _ =>
    have g0 : DataW.trod enc Try.prog W 0 (fun _ => true) true n 3 (([c0, c1, c2].drop 0).take (Try.prog.cellsOf 3)) = ys[0]? := hf 0 _ rfl
    have g1 : DataW.trod enc Try.prog W 0 (fun _ => true) true n 3 (([c0, c1, c2].drop 1).take (Try.prog.cellsOf 3)) = ys[1]? := hf 1 _ rfl
    have g2 : DataW.trod enc Try.prog W 0 (fun _ => true) true n 3 (([c0, c1, c2].drop 2).take (Try.prog.cellsOf 3)) = ys[2]? := hf 2 _ rfl
    rw [show Try.prog.cellsOf 3 = 1 by kernel_rfl] at g0 g1 g2
    match ys, hyl with
    | [y0, y1, y2], _ =>
      obtain ⟨n0, e0, _, _⟩ := DataW.trod_int Try.underlying3 (x := y0) g0
      obtain ⟨n1, e1, _, _⟩ := DataW.trod_int Try.underlying3 (x := y1) g1
      obtain ⟨n2, e2, _, _⟩ := DataW.trod_int Try.underlying3 (x := y2) g2
      simp at e0 e1 e2
      exact ⟨n0, n1, n2, by rw [e0, e1, e2]⟩

theorem hcell_of {a : Addr} {v : Value} (h : W.cell? a = some v) : a.spot = none ∧ hcell W.heap a.block a.off = some v := by
  unfold World.cell? at h
  unfold hcell
  split at h
  · rename_i hb
    rw [hb]
    split at h
    · cases h
    · rename_i hs
      exact ⟨by simpa using hs, h⟩
  · cases h

theorem add_spot (a : Addr) (n : Nat) (h : a.spot = none) : (a.add n).spot = none ∧ (a.add n).block = a.block ∧ (a.add n).off = a.off + n := by
  unfold Addr.add
  by_cases hn : n = 0
  · subst hn; exact ⟨h, rfl, rfl⟩
  · rw [if_neg hn]; exact ⟨rfl, rfl, rfl⟩

theorem ops_open {t : TypeId} {v : Value} {d : DataW H} {p : List MemPlace} (ht : Try.prog.underlying t = some (.slice 36))
    {a0 : Option Addr} {len cap : Nat} (hv : v = .slice a0 len cap) (h : DataW.Trod enc Try.prog W 0 (fun _ => true) true t v d p) :
    (len = 0 ∨ ∃ es sp, d = .slice es sp ∧ es.length = len) ∧ ∃ (K R Wk : Nat → Int), OpsAt W.heap a0 len K R Wk := by
  subst hv
  obtain ⟨fuel, h⟩ := h
  rcases open_slice ht h with ⟨hc, _⟩ | ⟨a, len', cap', m, n, D, Pl, hc, _, hl, hm, hmm, hdp, hx⟩
  · simp [Value.cells] at hc
    obtain ⟨rfl, rfl, rfl⟩ := hc
    exact ⟨.inl rfl, fun _ => 0, fun _ => 0, fun _ => 0, fun h => absurd h (by omega)⟩
  · simp [Value.cells] at hc
    obtain ⟨rfl, rfl, rfl⟩ := hc
    refine ⟨.inr ⟨_, _, (Prod.mk.inj hdp).1, by simp⟩, ?_⟩
    have each : ∀ i, ∃ q : Int × Int × Int, i < len → ∀ j u, [Value.int .i64 q.1, .int .i64 q.2.1, .int .i64 q.2.2][j]? = some u → W.cell? (a.add (i * 3 + j)) = some u := by
      intro i
      by_cases hi : i < len
      · obtain ⟨cs', h1, h2⟩ := hx i (by simpa [hmm] using Nat.lt_of_lt_of_le hi hl)
        obtain ⟨k, r, w, rfl⟩ := op_cells h2
        refine ⟨(k, r, w), fun _ => fun j u hj => ?_⟩
        rw [show Try.prog.cellsOf 36 = 3 by kernel_rfl] at h1
        obtain ⟨_, _, hcell⟩ := World.cells?_some h1
        have hj5 : j < 3 := by have := (List.getElem?_eq_some_iff.1 hj).1; simpa using this
        have := hcell j hj5
        rw [Go.Deep.add_add] at this
        rw [this]; exact hj
      · exact ⟨(0, 0, 0), fun h => absurd h hi⟩
    refine ⟨fun i => (Classical.choose (each i)).1, fun i => (Classical.choose (each i)).2.1, fun i => (Classical.choose (each i)).2.2, fun hpos => ?_⟩
    have all := fun i => Classical.choose_spec (each i)
    have sp : a.spot = none := by
      have := (all 0 hpos) 0 _ rfl
      have h1 := (hcell_of this).1
      simpa [Addr.add] using h1
    have blk : a.block < W.heap.size := by
      have := (all 0 hpos) 0 _ rfl
      have h1 := (hcell_of this).2
      rw [(add_spot a _ sp).2.1] at h1
      exact hcell_lt h1
    refine ⟨a.block, a.off, by rw [← sp], blk, fun i hi => ?_⟩
    have hc := all i hi
    have get : ∀ j u, [Value.int .i64 (Classical.choose (each i)).1, .int .i64 (Classical.choose (each i)).2.1, .int .i64 (Classical.choose (each i)).2.2][j]? = some u → hcell W.heap a.block (a.off + i * 3 + j) = some u := by
      intro j u hj
      have h1 := (hcell_of (hc j u hj)).2
      rw [(add_spot a _ sp).2.1, (add_spot a _ sp).2.2, ← Nat.add_assoc] at h1
      exact h1
    exact ⟨get 0 _ rfl, get 1 _ rfl, get 2 _ rfl⟩

/-- From heaps to worlds. -/
theorem below_of {w w' : World} (hs : Sim w w') (he : Ext w.heap w'.heap) : RowKit.Below w.heap.size w w' := ⟨hs.os, hs.tape, hs.output, he.size, fun k hk => he.block k hk⟩
end

end Go.Proofs.Ytfdgjgjcppfmiaa
