/-
What the laws of the index are handed, read off the memory.
-/
import Derived.Test.YtkecmljalcfhoaaOpg
import Derived.Test.YtkecmljalcfhoaaLD
namespace Go.Proofs.Ytkecmljalcfhoaa
namespace Ix
open Go Go.ChangeShapes Go.WideShapes Go.Deep

def dEn {H : Type} (y : En) : DataW H := .agg [.lit (.int .u64 y.h), .lit (.int .u64 y.a), .lit (.int .u64 y.v), .lit (.int .u8 y.k)]
def wfEn (y : En) : Prop := (Lit.int .u64 y.h).wf = true ∧ (Lit.int .u64 y.a).wf = true ∧ (Lit.int .u64 y.v).wf = true ∧ (Lit.int .u8 y.k).wf = true ∧ True
set_option maxRecDepth 100000 in
theorem oEn {H : Type} {enc : TypeId × Value → H} {W : World} (fuel : Nat) (cs : List Value) (x : DataW H × List MemPlace) (h : DataW.trod enc Try.prog W 0 (fun _ => true) true fuel 31 cs = some x) :
    ∃ y : En, cs = eEn.enc y ∧ (x.1 = dEn y ∧ wfEn y) := by
  obtain ⟨ys, n, _, hx, hl, hyl, hf⟩ := DataW.trod_struct Try.underlying31 h
  rw [show Try.prog.cellsOf 31 = 4 by kernel_rfl] at hl
  match cs, hl with
  | [c0, c1, c2, c3], _ =>
    have g0 : DataW.trod enc Try.prog W 0 (fun _ => true) true n 29 (([c0, c1, c2, c3].drop 0).take (Try.prog.cellsOf 29)) = ys[0]? := hf 0 _ rfl
    rw [show Try.prog.cellsOf 29 = 1 by kernel_rfl] at g0
    have g1 : DataW.trod enc Try.prog W 0 (fun _ => true) true n 29 (([c0, c1, c2, c3].drop 1).take (Try.prog.cellsOf 29)) = ys[1]? := hf 1 _ rfl
    rw [show Try.prog.cellsOf 29 = 1 by kernel_rfl] at g1
    have g2 : DataW.trod enc Try.prog W 0 (fun _ => true) true n 29 (([c0, c1, c2, c3].drop 2).take (Try.prog.cellsOf 29)) = ys[2]? := hf 2 _ rfl
    rw [show Try.prog.cellsOf 29 = 1 by kernel_rfl] at g2
    have g3 : DataW.trod enc Try.prog W 0 (fun _ => true) true n 5 (([c0, c1, c2, c3].drop 3).take (Try.prog.cellsOf 5)) = ys[3]? := hf 3 _ rfl
    rw [show Try.prog.cellsOf 5 = 1 by kernel_rfl] at g3
    match ys, hyl with
    | [y0, y1, y2, y3], _ =>
      obtain ⟨n0, e0, x0, w0⟩ := DataW.trod_int Try.underlying29 (x := y0) g0
      obtain ⟨n1, e1, x1, w1⟩ := DataW.trod_int Try.underlying29 (x := y1) g1
      obtain ⟨n2, e2, x2, w2⟩ := DataW.trod_int Try.underlying29 (x := y2) g2
      obtain ⟨n3, e3, x3, w3⟩ := DataW.trod_int Try.underlying5 (x := y3) g3
      refine ⟨⟨n0, n1, n2, n3⟩, ?_, ?_, ⟨w0, w1, w2, w3, trivial⟩⟩
      · show (([c0, c1, c2, c3].drop 0).take 1) ++ (([c0, c1, c2, c3].drop 1).take 1) ++ (([c0, c1, c2, c3].drop 2).take 1) ++ (([c0, c1, c2, c3].drop 3).take 1) = _
        rw [e0, e1, e2, e3]
        rfl
      · rw [hx]
        simp only [List.map_cons, List.map_nil, x0, x1, x2, x3]
        rfl

def dOp {H : Type} (y : Op) : DataW H := .agg [.lit (.int .i64 y.kind), dEn y.entry, .lit (.int .u64 y.at_), .lit (.int .i64 y.n), .lit (.int .i64 y.m)]
def wfOp (y : Op) : Prop := (Lit.int .i64 y.kind).wf = true ∧ wfEn y.entry ∧ (Lit.int .u64 y.at_).wf = true ∧ (Lit.int .i64 y.n).wf = true ∧ (Lit.int .i64 y.m).wf = true ∧ True
set_option maxRecDepth 100000 in
theorem oOp {H : Type} {enc : TypeId × Value → H} {W : World} (fuel : Nat) (cs : List Value) (x : DataW H × List MemPlace) (h : DataW.trod enc Try.prog W 0 (fun _ => true) true fuel 33 cs = some x) :
    ∃ y : Op, cs = eOp.enc y ∧ (x.1 = dOp y ∧ wfOp y) := by
  obtain ⟨ys, n, _, hx, hl, hyl, hf⟩ := DataW.trod_struct Try.underlying33 h
  rw [show Try.prog.cellsOf 33 = 8 by kernel_rfl] at hl
  match cs, hl with
  | [c0, c1, c2, c3, c4, c5, c6, c7], _ =>
    have g0 : DataW.trod enc Try.prog W 0 (fun _ => true) true n 3 (([c0, c1, c2, c3, c4, c5, c6, c7].drop 0).take (Try.prog.cellsOf 3)) = ys[0]? := hf 0 _ rfl
    rw [show Try.prog.cellsOf 3 = 1 by kernel_rfl] at g0
    have g1 : DataW.trod enc Try.prog W 0 (fun _ => true) true n 31 (([c0, c1, c2, c3, c4, c5, c6, c7].drop 1).take (Try.prog.cellsOf 31)) = ys[1]? := hf 1 _ rfl
    rw [show Try.prog.cellsOf 31 = 4 by kernel_rfl] at g1
    have g2 : DataW.trod enc Try.prog W 0 (fun _ => true) true n 29 (([c0, c1, c2, c3, c4, c5, c6, c7].drop 5).take (Try.prog.cellsOf 29)) = ys[2]? := hf 2 _ rfl
    rw [show Try.prog.cellsOf 29 = 1 by kernel_rfl] at g2
    have g3 : DataW.trod enc Try.prog W 0 (fun _ => true) true n 3 (([c0, c1, c2, c3, c4, c5, c6, c7].drop 6).take (Try.prog.cellsOf 3)) = ys[3]? := hf 3 _ rfl
    rw [show Try.prog.cellsOf 3 = 1 by kernel_rfl] at g3
    have g4 : DataW.trod enc Try.prog W 0 (fun _ => true) true n 3 (([c0, c1, c2, c3, c4, c5, c6, c7].drop 7).take (Try.prog.cellsOf 3)) = ys[4]? := hf 4 _ rfl
    rw [show Try.prog.cellsOf 3 = 1 by kernel_rfl] at g4
    match ys, hyl with
    | [y0, y1, y2, y3, y4], _ =>
      obtain ⟨n0, e0, x0, w0⟩ := DataW.trod_int Try.underlying3 (x := y0) g0
      obtain ⟨n1, e1, x1, w1⟩ := oEn _ _ y1 g1
      obtain ⟨n2, e2, x2, w2⟩ := DataW.trod_int Try.underlying29 (x := y2) g2
      obtain ⟨n3, e3, x3, w3⟩ := DataW.trod_int Try.underlying3 (x := y3) g3
      obtain ⟨n4, e4, x4, w4⟩ := DataW.trod_int Try.underlying3 (x := y4) g4
      refine ⟨⟨n0, n1, n2, n3, n4⟩, ?_, ?_, ⟨w0, w1, w2, w3, w4, trivial⟩⟩
      · show (([c0, c1, c2, c3, c4, c5, c6, c7].drop 0).take 1) ++ (([c0, c1, c2, c3, c4, c5, c6, c7].drop 1).take 4) ++ (([c0, c1, c2, c3, c4, c5, c6, c7].drop 5).take 1) ++ (([c0, c1, c2, c3, c4, c5, c6, c7].drop 6).take 1) ++ (([c0, c1, c2, c3, c4, c5, c6, c7].drop 7).take 1) = _
        rw [e0, e1, e2, e3, e4]
        rfl
      · rw [hx]
        simp only [List.map_cons, List.map_nil, x0, x1, x2, x3, x4]
        rfl


theorem ok_of {o : Op} (w : wfOp o) : okOp o := by
  obtain ⟨_, ⟨h1, h2, h3, h4, _⟩, h5, h6, h7, _⟩ := w
  have b1 := bounds_u64 h1
  have b2 := bounds_u64 h2
  have b3 := bounds_u64 h3
  have b4 := bounds_u8 h4
  have b5 := bounds_u64 h5
  have b7 := bounds_i64 h7
  exact ⟨by omega, by omega, by omega, by omega, by omega, by omega⟩
set_option maxRecDepth 100000 in
theorem oScript {H : Type} {enc : TypeId × Value → H} {W : World} (fuel : Nat) (cs : List Value) (x : DataW H × List MemPlace) (h : DataW.trod enc Try.prog W 0 (fun _ => true) true fuel 24 cs = some x) :
    ∃ (n b m : Int) (a : Option Addr) (cap : Nat) (L : List Op), cs = [.int .i64 n, .int .i64 b, .int .i64 m, .slice a L.length cap] ∧ L.length ≤ 9223372036854775807 ∧ Sl eOp W.heap a cap L ∧ ∀ o ∈ L, okOp o := by
  obtain ⟨ys, n, _, hx, hl, hyl, hf⟩ := DataW.trod_struct Try.underlying24 h
  rw [show Try.prog.cellsOf 24 = 4 by kernel_rfl] at hl
  match cs, hl with
  | [c0, c1, c2, c3], _ =>
    have g0 : DataW.trod enc Try.prog W 0 (fun _ => true) true n 3 (([c0, c1, c2, c3].drop 0).take (Try.prog.cellsOf 3)) = ys[0]? := hf 0 _ rfl
    have g1 : DataW.trod enc Try.prog W 0 (fun _ => true) true n 3 (([c0, c1, c2, c3].drop 1).take (Try.prog.cellsOf 3)) = ys[1]? := hf 1 _ rfl
    have g2 : DataW.trod enc Try.prog W 0 (fun _ => true) true n 3 (([c0, c1, c2, c3].drop 2).take (Try.prog.cellsOf 3)) = ys[2]? := hf 2 _ rfl
    have g3 : DataW.trod enc Try.prog W 0 (fun _ => true) true n 22 (([c0, c1, c2, c3].drop 3).take (Try.prog.cellsOf 22)) = ys[3]? := hf 3 _ rfl
    rw [show Try.prog.cellsOf 3 = 1 by kernel_rfl] at g0 g1 g2
    rw [show Try.prog.cellsOf 22 = 1 by kernel_rfl] at g3
    match ys, hyl with
    | [y0, y1, y2, y3], _ =>
      obtain ⟨n0, e0, _, _⟩ := DataW.trod_int Try.underlying3 (x := y0) g0
      obtain ⟨n1, e1, _, _⟩ := DataW.trod_int Try.underlying3 (x := y1) g1
      obtain ⟨n2, e2, _, _⟩ := DataW.trod_int Try.underlying3 (x := y2) g2
      have g3' : DataW.trod enc Try.prog W 0 (fun _ => true) true n 22 [c3] = some y3 := g3
      have hc3 : ∃ a len cap, c3 = .slice a len cap := by
        rcases open_slice Try.underlying22 g3' with ⟨hcs, _⟩ | ⟨a, len', cap', m, n, D, Pl, hcs, _⟩
        · simp at hcs; exact ⟨_, _, _, hcs⟩
        · simp at hcs; exact ⟨_, _, _, hcs⟩
      obtain ⟨a, len, cap, rfl⟩ := hc3
      obtain ⟨k1, k2, L, rfl, k4, k5⟩ := open_list eOp Try.underlying22 (by kernel_rfl) (by decide) (fun y d => d = dOp y ∧ wfOp y) (fun fuel cs x h => oOp fuel cs x h) g3'
      have hm : cap ≤ 9223372036854775807 := k2
      simp at e0 e1 e2
      refine ⟨n0, n1, n2, a, cap, L, by rw [e0, e1, e2], by omega, k4, fun o ho => ?_⟩
      obtain ⟨i, hi, hie⟩ := List.getElem_of_mem ho
      rcases k5 with k5 | ⟨es, sp, _, hes, hg⟩
      · omega
      · exact ok_of (hg i o es[i] (by rw [List.getElem?_eq_getElem hi, hie]) (List.getElem?_eq_getElem (by omega))).2
end Ix
end Go.Proofs.Ytkecmljalcfhoaa
