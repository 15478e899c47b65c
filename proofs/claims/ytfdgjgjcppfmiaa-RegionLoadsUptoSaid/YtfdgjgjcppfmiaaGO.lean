/-
What the laws of the manager are handed, read off the memory: printed by opens.py.
-/
import Derived.Test.YtfdgjgjcppfmiaaOpg
import Derived.Test.YtfdgjgjcppfmiaaGX
namespace Go.Proofs.Ytfdgjgjcppfmiaa
open Go Go.ChangeShapes Go.WideShapes Go.Deep
instance : Inhabited Mg.Op := ⟨⟨0, 0, 0⟩⟩

def dOp {H : Type} (y : Mg.Op) : DataW H := .agg [.lit (.int .i64 y.kind), .lit (.int .i64 y.n), .lit (.int .i64 y.task)]
def wfOp (y : Mg.Op) : Prop := (Lit.int .i64 y.kind).wf = true ∧ (Lit.int .i64 y.n).wf = true ∧ (Lit.int .i64 y.task).wf = true ∧ True
set_option maxRecDepth 100000 in
theorem oOp {H : Type} {enc : TypeId × Value → H} {W : World} (fuel : Nat) (cs : List Value) (x : DataW H × List MemPlace) (h : DataW.trod enc Try.prog W 0 (fun _ => true) true fuel 36 cs = some x) :
    ∃ y : Mg.Op, cs = Mg.eOp.enc y ∧ (x.1 = dOp y ∧ wfOp y) := by
  obtain ⟨ys, n, _, hx, hl, hyl, hf⟩ := DataW.trod_struct Try.underlying36 h
  rw [show Try.prog.cellsOf 36 = 3 by kernel_rfl] at hl
  match cs, hl with
  | [c0, c1, c2], _ =>
    have g0 : DataW.trod enc Try.prog W 0 (fun _ => true) true n 3 (([c0, c1, c2].drop 0).take (Try.prog.cellsOf 3)) = ys[0]? := hf 0 _ rfl
    rw [show Try.prog.cellsOf 3 = 1 by kernel_rfl] at g0
    have g1 : DataW.trod enc Try.prog W 0 (fun _ => true) true n 3 (([c0, c1, c2].drop 1).take (Try.prog.cellsOf 3)) = ys[1]? := hf 1 _ rfl
    rw [show Try.prog.cellsOf 3 = 1 by kernel_rfl] at g1
    have g2 : DataW.trod enc Try.prog W 0 (fun _ => true) true n 3 (([c0, c1, c2].drop 2).take (Try.prog.cellsOf 3)) = ys[2]? := hf 2 _ rfl
    rw [show Try.prog.cellsOf 3 = 1 by kernel_rfl] at g2
    match ys, hyl with
    | [y0, y1, y2], _ =>
      obtain ⟨n0, e0, x0, w0⟩ := DataW.trod_int Try.underlying3 (x := y0) g0
      obtain ⟨n1, e1, x1, w1⟩ := DataW.trod_int Try.underlying3 (x := y1) g1
      obtain ⟨n2, e2, x2, w2⟩ := DataW.trod_int Try.underlying3 (x := y2) g2
      refine ⟨⟨n0, n1, n2⟩, ?_, ?_, ⟨w0, w1, w2, trivial⟩⟩
      · show (([c0, c1, c2].drop 0).take 1) ++ (([c0, c1, c2].drop 1).take 1) ++ (([c0, c1, c2].drop 2).take 1) = _
        rw [e0, e1, e2]
        rfl
      · rw [hx]
        simp only [List.map_cons, List.map_nil, x0, x1, x2]
        rfl

def dInf {H : Type} (y : Mg.Inf) : DataW H := .agg [.lit (.int .i64 y.st), .lit (.int .u64 y.sq), .lit (.int .i64 y.pins), .lit (.int .i64 y.er)]
def wfInf (y : Mg.Inf) : Prop := (Lit.int .i64 y.st).wf = true ∧ (Lit.int .u64 y.sq).wf = true ∧ (Lit.int .i64 y.pins).wf = true ∧ (Lit.int .i64 y.er).wf = true ∧ True
set_option maxRecDepth 100000 in
theorem oInf {H : Type} {enc : TypeId × Value → H} {W : World} (fuel : Nat) (cs : List Value) (x : DataW H × List MemPlace) (h : DataW.trod enc Try.prog W 0 (fun _ => true) true fuel 31 cs = some x) :
    ∃ y : Mg.Inf, cs = Mg.eInf.enc y ∧ (x.1 = dInf y ∧ wfInf y) := by
  obtain ⟨ys, n, _, hx, hl, hyl, hf⟩ := DataW.trod_struct Try.underlying31 h
  rw [show Try.prog.cellsOf 31 = 4 by kernel_rfl] at hl
  match cs, hl with
  | [c0, c1, c2, c3], _ =>
    have g0 : DataW.trod enc Try.prog W 0 (fun _ => true) true n 3 (([c0, c1, c2, c3].drop 0).take (Try.prog.cellsOf 3)) = ys[0]? := hf 0 _ rfl
    rw [show Try.prog.cellsOf 3 = 1 by kernel_rfl] at g0
    have g1 : DataW.trod enc Try.prog W 0 (fun _ => true) true n 29 (([c0, c1, c2, c3].drop 1).take (Try.prog.cellsOf 29)) = ys[1]? := hf 1 _ rfl
    rw [show Try.prog.cellsOf 29 = 1 by kernel_rfl] at g1
    have g2 : DataW.trod enc Try.prog W 0 (fun _ => true) true n 3 (([c0, c1, c2, c3].drop 2).take (Try.prog.cellsOf 3)) = ys[2]? := hf 2 _ rfl
    rw [show Try.prog.cellsOf 3 = 1 by kernel_rfl] at g2
    have g3 : DataW.trod enc Try.prog W 0 (fun _ => true) true n 3 (([c0, c1, c2, c3].drop 3).take (Try.prog.cellsOf 3)) = ys[3]? := hf 3 _ rfl
    rw [show Try.prog.cellsOf 3 = 1 by kernel_rfl] at g3
    match ys, hyl with
    | [y0, y1, y2, y3], _ =>
      obtain ⟨n0, e0, x0, w0⟩ := DataW.trod_int Try.underlying3 (x := y0) g0
      obtain ⟨n1, e1, x1, w1⟩ := DataW.trod_int Try.underlying29 (x := y1) g1
      obtain ⟨n2, e2, x2, w2⟩ := DataW.trod_int Try.underlying3 (x := y2) g2
      obtain ⟨n3, e3, x3, w3⟩ := DataW.trod_int Try.underlying3 (x := y3) g3
      refine ⟨⟨n0, n1, n2, n3⟩, ?_, ?_, ⟨w0, w1, w2, w3, trivial⟩⟩
      · show (([c0, c1, c2, c3].drop 0).take 1) ++ (([c0, c1, c2, c3].drop 1).take 1) ++ (([c0, c1, c2, c3].drop 2).take 1) ++ (([c0, c1, c2, c3].drop 3).take 1) = _
        rw [e0, e1, e2, e3]
        rfl
      · rw [hx]
        simp only [List.map_cons, List.map_nil, x0, x1, x2, x3]
        rfl

end Go.Proofs.Ytfdgjgjcppfmiaa
