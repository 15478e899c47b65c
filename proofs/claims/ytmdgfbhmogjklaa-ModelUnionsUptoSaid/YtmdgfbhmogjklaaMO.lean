/-
What the laws are handed, read off the memory.
-/
import Derived.Test.YtmdgfbhmogjklaaOpg
import Derived.Test.YtmdgfbhmogjklaaMJ
namespace Go.Proofs.Ytmdgfbhmogjklaa
open Go Ml Go.ChangeShapes Go.WideShapes Go.Deep

instance : Inhabited Mv := ⟨⟨0, ByteArray.empty, ByteArray.empty, 0, false, 0, 0, 0⟩⟩
def dMt {H : Type} (y : Mt) : DataW H := .agg [.lit (.bool y.has), .lit (.string y.val.data.toList)]
def wfMt (y : Mt) : Prop := y.val.size ≤ maxLen ∧ True
set_option maxRecDepth 100000 in
theorem oMt {H : Type} {enc : TypeId × Value → H} {W : World} (fuel : Nat) (cs : List Value) (x : DataW H × List MemPlace) (h : DataW.trod enc Try.prog W 0 (fun _ => true) true fuel 40 cs = some x) :
    ∃ y : Mt, cs = eMt.enc y ∧ (x.1 = dMt y ∧ wfMt y) := by
  obtain ⟨ys, n, _, hx, hl, hyl, hf⟩ := DataW.trod_struct Try.underlying40 h
  rw [show Try.prog.cellsOf 40 = 2 by kernel_rfl] at hl
  match cs, hl with
  | [c0, c1], _ =>
    have g0 : DataW.trod enc Try.prog W 0 (fun _ => true) true n 4 (([c0, c1].drop 0).take (Try.prog.cellsOf 4)) = ys[0]? := hf 0 _ rfl
    rw [show Try.prog.cellsOf 4 = 1 by kernel_rfl] at g0
    have g1 : DataW.trod enc Try.prog W 0 (fun _ => true) true n 9 (([c0, c1].drop 1).take (Try.prog.cellsOf 9)) = ys[1]? := hf 1 _ rfl
    rw [show Try.prog.cellsOf 9 = 1 by kernel_rfl] at g1
    match ys, hyl with
    | [y0, y1], _ =>
      obtain ⟨n0, e0, x0⟩ := DataW.trod_bool Try.underlying4 (x := y0) g0
      obtain ⟨n1, e1, x1, w1⟩ := DataW.trod_string Try.underlying9 (x := y1) g1
      refine ⟨⟨n0, n1⟩, ?_, ?_, ⟨w1, trivial⟩⟩
      · show (([c0, c1].drop 0).take 1) ++ (([c0, c1].drop 1).take 1) = _
        rw [e0, e1]
        rfl
      · rw [hx]
        simp only [List.map_cons, List.map_nil, x0, x1]
        rfl

def dMv {H : Type} (y : Mv) : DataW H := .agg [.lit (.int .i64 y.kind), .lit (.string y.key.data.toList), .lit (.string y.val.data.toList), .lit (.int .i64 y.err), .lit (.bool y.hit), .lit (.int .i64 y.life), .lit (.int .i64 y.fr), .lit (.int .i64 y.to)]
def wfMv (y : Mv) : Prop := (Lit.int .i64 y.kind).wf = true ∧ y.key.size ≤ maxLen ∧ y.val.size ≤ maxLen ∧ (Lit.int .i64 y.err).wf = true ∧ (Lit.int .i64 y.life).wf = true ∧ (Lit.int .i64 y.fr).wf = true ∧ (Lit.int .i64 y.to).wf = true ∧ True
set_option maxRecDepth 100000 in
theorem oMv {H : Type} {enc : TypeId × Value → H} {W : World} (fuel : Nat) (cs : List Value) (x : DataW H × List MemPlace) (h : DataW.trod enc Try.prog W 0 (fun _ => true) true fuel 31 cs = some x) :
    ∃ y : Mv, cs = eMv.enc y ∧ (x.1 = dMv y ∧ wfMv y) := by
  obtain ⟨ys, n, _, hx, hl, hyl, hf⟩ := DataW.trod_struct Try.underlying31 h
  rw [show Try.prog.cellsOf 31 = 8 by kernel_rfl] at hl
  match cs, hl with
  | [c0, c1, c2, c3, c4, c5, c6, c7], _ =>
    have g0 : DataW.trod enc Try.prog W 0 (fun _ => true) true n 3 (([c0, c1, c2, c3, c4, c5, c6, c7].drop 0).take (Try.prog.cellsOf 3)) = ys[0]? := hf 0 _ rfl
    rw [show Try.prog.cellsOf 3 = 1 by kernel_rfl] at g0
    have g1 : DataW.trod enc Try.prog W 0 (fun _ => true) true n 9 (([c0, c1, c2, c3, c4, c5, c6, c7].drop 1).take (Try.prog.cellsOf 9)) = ys[1]? := hf 1 _ rfl
    rw [show Try.prog.cellsOf 9 = 1 by kernel_rfl] at g1
    have g2 : DataW.trod enc Try.prog W 0 (fun _ => true) true n 9 (([c0, c1, c2, c3, c4, c5, c6, c7].drop 2).take (Try.prog.cellsOf 9)) = ys[2]? := hf 2 _ rfl
    rw [show Try.prog.cellsOf 9 = 1 by kernel_rfl] at g2
    have g3 : DataW.trod enc Try.prog W 0 (fun _ => true) true n 29 (([c0, c1, c2, c3, c4, c5, c6, c7].drop 3).take (Try.prog.cellsOf 29)) = ys[3]? := hf 3 _ rfl
    rw [show Try.prog.cellsOf 29 = 1 by kernel_rfl] at g3
    have g4 : DataW.trod enc Try.prog W 0 (fun _ => true) true n 4 (([c0, c1, c2, c3, c4, c5, c6, c7].drop 4).take (Try.prog.cellsOf 4)) = ys[4]? := hf 4 _ rfl
    rw [show Try.prog.cellsOf 4 = 1 by kernel_rfl] at g4
    have g5 : DataW.trod enc Try.prog W 0 (fun _ => true) true n 3 (([c0, c1, c2, c3, c4, c5, c6, c7].drop 5).take (Try.prog.cellsOf 3)) = ys[5]? := hf 5 _ rfl
    rw [show Try.prog.cellsOf 3 = 1 by kernel_rfl] at g5
    have g6 : DataW.trod enc Try.prog W 0 (fun _ => true) true n 3 (([c0, c1, c2, c3, c4, c5, c6, c7].drop 6).take (Try.prog.cellsOf 3)) = ys[6]? := hf 6 _ rfl
    rw [show Try.prog.cellsOf 3 = 1 by kernel_rfl] at g6
    have g7 : DataW.trod enc Try.prog W 0 (fun _ => true) true n 3 (([c0, c1, c2, c3, c4, c5, c6, c7].drop 7).take (Try.prog.cellsOf 3)) = ys[7]? := hf 7 _ rfl
    rw [show Try.prog.cellsOf 3 = 1 by kernel_rfl] at g7
    match ys, hyl with
    | [y0, y1, y2, y3, y4, y5, y6, y7], _ =>
      obtain ⟨n0, e0, x0, w0⟩ := DataW.trod_int Try.underlying3 (x := y0) g0
      obtain ⟨n1, e1, x1, w1⟩ := DataW.trod_string Try.underlying9 (x := y1) g1
      obtain ⟨n2, e2, x2, w2⟩ := DataW.trod_string Try.underlying9 (x := y2) g2
      obtain ⟨n3, e3, x3, w3⟩ := DataW.trod_int Try.underlying29 (x := y3) g3
      obtain ⟨n4, e4, x4⟩ := DataW.trod_bool Try.underlying4 (x := y4) g4
      obtain ⟨n5, e5, x5, w5⟩ := DataW.trod_int Try.underlying3 (x := y5) g5
      obtain ⟨n6, e6, x6, w6⟩ := DataW.trod_int Try.underlying3 (x := y6) g6
      obtain ⟨n7, e7, x7, w7⟩ := DataW.trod_int Try.underlying3 (x := y7) g7
      refine ⟨⟨n0, n1, n2, n3, n4, n5, n6, n7⟩, ?_, ?_, ⟨w0, w1, w2, w3, w5, w6, w7, trivial⟩⟩
      · show (([c0, c1, c2, c3, c4, c5, c6, c7].drop 0).take 1) ++ (([c0, c1, c2, c3, c4, c5, c6, c7].drop 1).take 1) ++ (([c0, c1, c2, c3, c4, c5, c6, c7].drop 2).take 1) ++ (([c0, c1, c2, c3, c4, c5, c6, c7].drop 3).take 1) ++ (([c0, c1, c2, c3, c4, c5, c6, c7].drop 4).take 1) ++ (([c0, c1, c2, c3, c4, c5, c6, c7].drop 5).take 1) ++ (([c0, c1, c2, c3, c4, c5, c6, c7].drop 6).take 1) ++ (([c0, c1, c2, c3, c4, c5, c6, c7].drop 7).take 1) = _
        rw [e0, e1, e2, e3, e4, e5, e6, e7]
        rfl
      · rw [hx]
        simp only [List.map_cons, List.map_nil, x0, x1, x2, x3, x4, x5, x6, x7]
        rfl

end Go.Proofs.Ytmdgfbhmogjklaa
