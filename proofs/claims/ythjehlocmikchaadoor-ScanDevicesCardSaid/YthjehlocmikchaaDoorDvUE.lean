import Derived.Lib.LaidTab
import Derived.Stop.LaidErr
import Derived.Test.YthjehlocmikchaaDoorDvUD
import Derived.Test.YthjehlocmikchaaDoorDvOpg
import Derived.Test.YthjehlocmikchaaDoorRows
namespace Go.Proofs.YthjehlocmikchaaDoor
namespace Sc
open Go Go.ChangeShapes Go.WideShapes Go.Deep
theorem gTab64 : Tryd.prog.globalNamed "math/bits.deBruijn64tab" = some 2 := by kernel_rfl
theorem tTab64 : (Tryd.prog.globals[2]?).map (·.type) = some 152 := by kernel_rfl
theorem tab_of {W : World} (h : laidMet Tryd.prog [("math/bits.deBruijn32tab", Rows.laid_math_bits_deBruijn32tab), ("math/bits.deBruijn64tab", Rows.laid_math_bits_deBruijn64tab)] W) : Tab W.heap := by
 have h2 : laidMet Tryd.prog [("math/bits.deBruijn64tab", Lib.tabData .u8 tabL)] W := laidMet.tail h
 have ht := Lib.tabIs_of_head (rest := []) gTab64 tTab64 Tryd.underlying152 Tryd.underlying5 (by kernel_rfl) (by kernel_rfl) h2
 refine HCells.mk fun j v hj => ?_
 rw [List.getElem?_map] at hj
 cases hL : tabL[j]? with
 | none => rw [hL] at hj; cases hj
 | some z =>
  rw [hL] at hj
  cases hj
  have hlt := (List.getElem?_eq_some_iff.1 hL).1
  have := (hcell_of (ht.cell gTab64 j hlt)).2
  rw [List.getD_eq_getElem?_getD, hL] at this
  rw [Nat.zero_add]; exact this
theorem wf_u8 {x : Int} (h : (Lit.int .u8 x).wf = true) : 0 ≤ x ∧ x < 256 := by
 simp [Lit.wf, IntKind.min, IntKind.max, IntKind.bits, IntKind.signed] at h; omega
theorem oU8 {H : Type} {enc : TypeId × Value → H} {W : World} (fuel : Nat) (cs : List Value) (x : DataW H × List MemPlace) (h : DataW.trod enc Tryd.prog W 0 (fun _ => true) true fuel 5 cs = some x) :
  ∃ y : Int, cs = eB.enc y ∧ (0 ≤ y ∧ y < 256) := by
 obtain ⟨n, e, _, w⟩ := DataW.trod_int Tryd.underlying5 (x := x) h
 exact ⟨n, e, wf_u8 w⟩
theorem c_slice {H : Type} {enc : TypeId × Value → H} {W : World} {P : Program} {t e : TypeId} (ht : P.underlying t = some (.slice e)) {n : Nat} {c : Value} {y : DataW H × List MemPlace} (g : DataW.trod enc P W 0 (fun _ => true) true n t [c] = some y) : ∃ a len cap, c = .slice a len cap := by
 rcases open_slice ht g with ⟨hcs, _⟩ | ⟨a, len', cap', m, n, D, Pl, hcs, _⟩
 ·simp at hcs; exact ⟨_, _, _, hcs⟩
 ·simp at hcs; exact ⟨_, _, _, hcs⟩
theorem o_slice {H : Type} {enc : TypeId × Value → H} {W : World} {P : Program} {α : Type} [Inhabited α] (E : Elt α) {e t : TypeId} (ht : P.underlying t = some (.slice e)) (hc : P.cellsOf e = E.k) (hk : 0 < E.k) (good : α → Prop)
  (each : ∀ fuel cs (x : DataW H × List MemPlace), DataW.trod enc P W 0 (fun _ => true) true fuel e cs = some x → ∃ y : α, cs = E.enc y ∧ good y)
  {n : Nat} {c : Value} {y : DataW H × List MemPlace} (g : DataW.trod enc P W 0 (fun _ => true) true n t [c] = some y) :
  ∃ a cap, ∃ L : List α, c = .slice a L.length cap ∧ L.length ≤ maxLen ∧ Sl E W.heap a cap L ∧ (∀ x ∈ L, good x) ∧ (L.length = 0 ∨ ∃ es sp, y.1 = .slice es sp ∧ es.length = L.length) := by
 obtain ⟨a, len, cap, rfl⟩ := c_slice ht g
 obtain ⟨k1, k2, L, rfl, k4, k5⟩ := open_list E ht hc hk (fun y _ => good y) (fun fuel cs x h => each fuel cs x h) g
 refine ⟨a, cap, L, rfl, by omega, k4, fun x hx => ?_, k5.imp id fun ⟨es, sp, e, hes, _⟩ => ⟨es, sp, e, hes⟩⟩
 obtain ⟨i, hi, hie⟩ := List.getElem_of_mem hx
 rcases k5 with k5 | ⟨es, sp, _, hes, hg⟩
 ·omega
 ·exact hg i x es[i] (by rw [List.getElem?_eq_getElem hi, hie]) (List.getElem?_eq_getElem (by omega))
set_option maxRecDepth 100000 in
theorem oGeo {H : Type} {enc : TypeId × Value → H} {W : World} (fuel : Nat) (cs : List Value) (x : DataW H × List MemPlace) (h : DataW.trod enc Tryd.prog W 0 (fun _ => true) true fuel 24 cs = some x) :
  ∃ g : Geo, cs = [.int .i64 g.page, .int .i64 g.pages, .int .i64 g.regs, .int .i64 g.al] := by
 obtain ⟨ys, n, _, hx, hl, hyl, hf⟩ := DataW.trod_struct Tryd.underlying24 h
 rw [show Tryd.prog.cellsOf 24 = 4 by kernel_rfl] at hl
 match cs, hl with
 | [c0, c1, c2, c3], _ =>
  have g0 : DataW.trod enc Tryd.prog W 0 (fun _ => true) true n 3 (([c0, c1, c2, c3].drop 0).take (Tryd.prog.cellsOf 3)) = ys[0]? := hf 0 _ rfl
  have g1 : DataW.trod enc Tryd.prog W 0 (fun _ => true) true n 3 (([c0, c1, c2, c3].drop 1).take (Tryd.prog.cellsOf 3)) = ys[1]? := hf 1 _ rfl
  have g2 : DataW.trod enc Tryd.prog W 0 (fun _ => true) true n 3 (([c0, c1, c2, c3].drop 2).take (Tryd.prog.cellsOf 3)) = ys[2]? := hf 2 _ rfl
  have g3 : DataW.trod enc Tryd.prog W 0 (fun _ => true) true n 3 (([c0, c1, c2, c3].drop 3).take (Tryd.prog.cellsOf 3)) = ys[3]? := hf 3 _ rfl
  rw [show Tryd.prog.cellsOf 3 = 1 by kernel_rfl] at g0 g1 g2 g3
  match ys, hyl with
  | [y0, y1, y2, y3], _ =>
   obtain ⟨n0, e0, _, _⟩ := DataW.trod_int Tryd.underlying3 (x := y0) g0
   obtain ⟨n1, e1, _, _⟩ := DataW.trod_int Tryd.underlying3 (x := y1) g1
   obtain ⟨n2, e2, _, _⟩ := DataW.trod_int Tryd.underlying3 (x := y2) g2
   obtain ⟨n3, e3, _, _⟩ := DataW.trod_int Tryd.underlying3 (x := y3) g3
   simp at e0 e1 e2 e3
   exact ⟨⟨n0, n1, n2, n3⟩, by rw [e0, e1, e2, e3]⟩
set_option maxRecDepth 100000 in
theorem oBytes {H : Type} {enc : TypeId × Value → H} {W : World} (fuel : Nat) (cs : List Value) (x : DataW H × List MemPlace) (h : DataW.trod enc Tryd.prog W 0 (fun _ => true) true fuel 27 cs = some x) :
  ∃ (g : Geo) (a : Option Addr) (cap : Nat) (L : List Int), cs = [.int .i64 g.page, .int .i64 g.pages, .int .i64 g.regs, .int .i64 g.al, .slice a L.length cap] ∧ Sl eB W.heap a cap L ∧ isB L ∧ (L.length = 0 ∨ ∃ dG es sp, x.1 = .agg [dG, .slice es sp] ∧ es.length = L.length) := by
 obtain ⟨ys, n, _, hx, hl, hyl, hf⟩ := DataW.trod_struct Tryd.underlying27 h
 rw [show Tryd.prog.cellsOf 27 = 5 by kernel_rfl] at hl
 match cs, hl with
 | [c0, c1, c2, c3, c4], _ =>
  have g0 : DataW.trod enc Tryd.prog W 0 (fun _ => true) true n 24 (([c0, c1, c2, c3, c4].drop 0).take (Tryd.prog.cellsOf 24)) = ys[0]? := hf 0 _ rfl
  have g1 : DataW.trod enc Tryd.prog W 0 (fun _ => true) true n 25 (([c0, c1, c2, c3, c4].drop 4).take (Tryd.prog.cellsOf 25)) = ys[1]? := hf 1 _ rfl
  rw [show Tryd.prog.cellsOf 24 = 4 by kernel_rfl] at g0
  rw [show Tryd.prog.cellsOf 25 = 1 by kernel_rfl] at g1
  match ys, hyl with
  | [y0, y1], _ =>
   obtain ⟨g, e0⟩ := oGeo _ _ y0 g0
   have g1' : DataW.trod enc Tryd.prog W 0 (fun _ => true) true n 25 [c4] = some y1 := g1
   obtain ⟨a, cap, L, rfl, k1, k2, k3, k4⟩ := o_slice eB Tryd.underlying25 (by kernel_rfl) (by decide) (fun y => 0 ≤ y ∧ y < 256) (fun fuel cs x h => oU8 fuel cs x h) g1'
   simp at e0
   obtain ⟨rfl, rfl, rfl, rfl⟩ := e0
   refine ⟨g, a, cap, L, rfl, k2, k3, k4.imp id fun ⟨es, sp, e, hes⟩ => ⟨y0.1, es, sp, ?_, hes⟩⟩
   rw [hx]
   simp only [List.map_cons, List.map_nil, e]
instance : Inhabited Rc := ⟨z4⟩
theorem bytes_len {H : Type} {d : DataW H} {ts : List TypeId} {ds : List (DataW H)} {L : List Int} (hz : (DataW.weightsEach Tryd.prog (27 :: ts) (d :: ds)).all (· ≤ reachBytes) = true) (k : L.length = 0 ∨ ∃ dG es sp, d = .agg [dG, .slice es sp] ∧ es.length = L.length) : L.length ≤ 140737488355328 := by
 rcases k with k | ⟨dG, es, sp, rfl, hes⟩
 ·omega
 ·have h1 : (es.length + sp.length) * Tryd.prog.bytesOf 5 ∈ DataW.weightsEach Tryd.prog (27 :: ts) (.agg [dG, .slice es sp] :: ds) := by
   simp only [DataW.weightsEach, DataW.weights, Tryd.underlying27, Tryd.underlying25]
   simp [DataW.weightsEach, DataW.weights, Tryd.underlying25]
  have h2 := List.all_eq_true.1 hz _ h1
  rw [show Tryd.prog.bytesOf 5 = 1 by kernel_rfl] at h2
  have h3 : reachBytes = 140737488351232 := rfl
  simp at h2
  omega
end Sc
end Go.Proofs.YthjehlocmikchaaDoor
