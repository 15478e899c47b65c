import Derived.WalkKit
import Derived.ProofKit
import Derived.OpenShut
import Derived.ShutString
import Derived.ChangeOld
import Derived.Below
import Derived.Carry
import Derived.Deep.Slices
import Derived.Deep.Fields
import Derived.Test.YtcdpapdefdnknaaRows
import Derived.Test.YtcdpapdefdnknaaPd1
import Derived.Test.YtcdpapdefdnknaaPd7
namespace Go.Proofs.Ytcdpapdefdnknaa
open Go Go.ChangeShapes Go.WideShapes Go.Deep
section
variable {H : Type} {enc : TypeId × Value → H} {W : World} {P : Program}
theorem hcell_of {a : Addr} {v : Value} (h : W.cell? a = some v) : a.spot = none ∧ hcell W.heap a.block a.off = some v := by
  unfold World.cell? at h
  unfold hcell
  split at h
  · rename_i hb
    rw [hb]
    split at h
    · cases h
    · rename_i hs
      exact ⟨by simpa using hs, h⟩
  · cases h
theorem add_spot (a : Addr) (n : Nat) (h : a.spot = none) : (a.add n).spot = none ∧ (a.add n).block = a.block ∧ (a.add n).off = a.off + n := by
  unfold Addr.add
  by_cases hn : n = 0
  · subst hn; exact ⟨h, rfl, rfl⟩
  · rw [if_neg hn]; exact ⟨rfl, rfl, rfl⟩
theorem open_list {α : Type} [Inhabited α] (E : Elt α) {e t : TypeId} (ht : P.underlying t = some (.slice e)) (hc : P.cellsOf e = E.k) (hk : 0 < E.k) (good : α → DataW H → Prop)
    (each : ∀ fuel cs (x : DataW H × List MemPlace), DataW.trod enc P W 0 (fun _ => true) true fuel e cs = some x → ∃ y : α, cs = E.enc y ∧ good y x.1)
    {fuel : Nat} {a0 : Option Addr} {len cap : Nat} {x : DataW H × List MemPlace} (h : DataW.trod enc P W 0 (fun _ => true) true fuel t [.slice a0 len cap] = some x) :
    len ≤ cap ∧ cap ≤ maxLen ∧ ∃ L : List α, L.length = len ∧ Sl E W.heap a0 cap L ∧ (len = 0 ∨ ∃ es sp, x.1 = .slice es sp ∧ es.length = len ∧ ∀ (i : Nat) y z, L[i]? = some y → es[i]? = some z → good y z) := by
  rcases open_slice ht h with ⟨hcs, _⟩ | ⟨a, len', cap', m, n, D, Pl, hcs, _, hl, hm, hmm, hx, hx'⟩
  · simp at hcs
    obtain ⟨rfl, rfl, rfl⟩ := hcs
    exact ⟨Nat.le_refl _, Nat.zero_le _, [], rfl, Sl.nil _ _, .inl rfl⟩
  · simp at hcs
    obtain ⟨rfl, rfl, rfl⟩ := hcs
    have hmc : m = cap := by simpa using hmm
    subst hmc
    have each' : ∀ i, ∃ q : α, i < m → good q (D i) ∧ ∀ j u, (E.enc q)[j]? = some u → W.cell? (a.add (i * E.k + j)) = some u := by
      intro i
      by_cases hi : i < m
      · obtain ⟨cs', h1, h2⟩ := hx' i hi
        obtain ⟨y, rfl, hg⟩ := each _ _ _ h2
        refine ⟨y, fun _ => ⟨hg, fun j u hj => ?_⟩⟩
        rw [hc] at h1
        obtain ⟨_, _, hcell⟩ := World.cells?_some h1
        have hjk : j < E.k := by have := (List.getElem?_eq_some_iff.1 hj).1; rw [E.len] at this; exact this
        have := hcell j hjk
        rw [Go.Deep.add_add] at this
        rw [this]; exact hj
      · exact ⟨default, fun h => absurd h hi⟩
    refine ⟨hl, hm, (List.range len).map fun i => Classical.choose (each' i), by simp, ⟨by simpa using hl, ?_⟩, .inr ⟨_, _, by rw [hx], by simp, fun i y z hy hz => ?_⟩⟩
    · rcases Nat.eq_zero_or_pos m with h0 | hpos
      · exact .inl h0
      · right
        have all := fun i => Classical.choose_spec (each' i)
        have sp : a.spot = none := by
          have h0 : 0 < (E.enc (Classical.choose (each' 0))).length := by rw [E.len]; exact hk
          have := (all 0 hpos).2 0 _ (List.getElem?_eq_getElem h0)
          have h1 := (hcell_of this).1
          simpa [Addr.add] using h1
        refine ⟨a.block, a.off, by rw [← sp], fun i x hx => HCells.mk fun j v hj => ?_⟩
        rw [List.getElem?_map] at hx
        cases hr : (List.range len)[i]? with
        | none => rw [hr] at hx; cases hx
        | some i' =>
          rw [hr] at hx
          simp only [Option.map_some, Option.some.injEq] at hx
          obtain ⟨hi, he⟩ := List.getElem?_eq_some_iff.1 hr
          have hi' : i' = i := by simpa using he.symm
          subst hi'
          subst hx
          have hil : i' < len := by simpa using hi
          have h1 := (hcell_of ((all i' (by omega)).2 j v hj)).2
          rw [(add_spot a _ sp).2.1, (add_spot a _ sp).2.2, ← Nat.add_assoc] at h1
          exact h1
    · rw [List.getElem?_map] at hy hz
      cases hr : (List.range len)[i]? with
      | none => rw [hr] at hy; cases hy
      | some i' =>
        rw [hr] at hy hz
        simp only [Option.map_some, Option.some.injEq] at hy hz
        obtain ⟨hi, he⟩ := List.getElem?_eq_some_iff.1 hr
        have hi' : i' = i := by simpa using he.symm
        subst hi'
        subst hy; subst hz
        have hil : i' < len := by simpa using hi
        exact ((Classical.choose_spec (each' i')) (by omega)).1
theorem open_listT {α : Type} [Inhabited α] (E : Elt α) {e t : TypeId} (ht : P.underlying t = some (.slice e)) (hc : P.cellsOf e = E.k) (hk : 0 < E.k) (good : α → DataW H → Prop)
    (each : ∀ fuel cs (x : DataW H × List MemPlace), DataW.trod enc P W 0 (fun _ => true) true fuel e cs = some x → ∃ y : α, cs = E.enc y ∧ good y x.1)
    {a0 : Option Addr} {len cap : Nat} {d : DataW H} {p : List MemPlace} (h : DataW.Trod enc P W 0 (fun _ => true) true t (.slice a0 len cap) d p) :
    len ≤ cap ∧ cap ≤ maxLen ∧ ∃ L : List α, L.length = len ∧ Sl E W.heap a0 cap L ∧ (len = 0 ∨ ∃ es sp, d = .slice es sp ∧ es.length = len ∧ ∀ (i : Nat) y z, L[i]? = some y → es[i]? = some z → good y z) := by
  obtain ⟨fuel, h⟩ := h
  exact open_list E ht hc hk good each (x := (d, p)) h
theorem below_of {w w' : World} (hs : Sim w w') (he : Ext w.heap w'.heap) : RowKit.Below w.heap.size w w' := ⟨hs.os, hs.tape, hs.output, he.size, fun k hk => he.block k hk⟩
end
end Go.Proofs.Ytcdpapdefdnknaa
namespace Go.Proofs.Ytcdpapdefdnknaa
namespace Cy
open Go Go.ChangeShapes Go.WideShapes Go.Deep
def dRc {H : Type} (y : Rc) : DataW H := .agg [.lit (.int .i64 y.kind), .lit (.int .u64 y.ver), .lit (.string y.key.data.toList), .lit (.string y.val.data.toList)]
def wfRc (y : Rc) : Prop := (Lit.int .i64 y.kind).wf = true ∧ (Lit.int .u64 y.ver).wf = true ∧ y.key.size ≤ maxLen ∧ y.val.size ≤ maxLen ∧ True
set_option maxRecDepth 100000 in
theorem oRc {H : Type} {enc : TypeId × Value → H} {W : World} (fuel : Nat) (cs : List Value) (x : DataW H × List MemPlace) (h : DataW.trod enc Try.prog W 0 (fun _ => true) true fuel 36 cs = some x) :
    ∃ y : Rc, cs = eRc.enc y ∧ (x.1 = dRc y ∧ wfRc y) := by
  obtain ⟨ys, n, _, hx, hl, hyl, hf⟩ := DataW.trod_struct Try.underlying36 h
  rw [show Try.prog.cellsOf 36 = 4 by kernel_rfl] at hl
  match cs, hl with
  | [c0, c1, c2, c3], _ =>
    have g0 : DataW.trod enc Try.prog W 0 (fun _ => true) true n 3 (([c0, c1, c2, c3].drop 0).take (Try.prog.cellsOf 3)) = ys[0]? := hf 0 _ rfl
    rw [show Try.prog.cellsOf 3 = 1 by kernel_rfl] at g0
    have g1 : DataW.trod enc Try.prog W 0 (fun _ => true) true n 31 (([c0, c1, c2, c3].drop 1).take (Try.prog.cellsOf 31)) = ys[1]? := hf 1 _ rfl
    rw [show Try.prog.cellsOf 31 = 1 by kernel_rfl] at g1
    have g2 : DataW.trod enc Try.prog W 0 (fun _ => true) true n 9 (([c0, c1, c2, c3].drop 2).take (Try.prog.cellsOf 9)) = ys[2]? := hf 2 _ rfl
    rw [show Try.prog.cellsOf 9 = 1 by kernel_rfl] at g2
    have g3 : DataW.trod enc Try.prog W 0 (fun _ => true) true n 9 (([c0, c1, c2, c3].drop 3).take (Try.prog.cellsOf 9)) = ys[3]? := hf 3 _ rfl
    rw [show Try.prog.cellsOf 9 = 1 by kernel_rfl] at g3
    match ys, hyl with
    | [y0, y1, y2, y3], _ =>
      obtain ⟨n0, e0, x0, w0⟩ := DataW.trod_int Try.underlying3 (x := y0) g0
      obtain ⟨n1, e1, x1, w1⟩ := DataW.trod_int Try.underlying31 (x := y1) g1
      obtain ⟨n2, e2, x2, w2⟩ := DataW.trod_string Try.underlying9 (x := y2) g2
      obtain ⟨n3, e3, x3, w3⟩ := DataW.trod_string Try.underlying9 (x := y3) g3
      refine ⟨⟨n0, n1, n2, n3⟩, ?_, ?_, ⟨w0, w1, w2, w3, trivial⟩⟩
      · show (([c0, c1, c2, c3].drop 0).take 1) ++ (([c0, c1, c2, c3].drop 1).take 1) ++ (([c0, c1, c2, c3].drop 2).take 1) ++ (([c0, c1, c2, c3].drop 3).take 1) = _
        rw [e0, e1, e2, e3]
        rfl
      · rw [hx]
        simp only [List.map_cons, List.map_nil, x0, x1, x2, x3]
        rfl
theorem wf_u64 {x : Int} (h : (Lit.int .u64 x).wf = true) : 0 ≤ x ∧ x < 18446744073709551616 := by
  simp [Lit.wf, IntKind.min, IntKind.max, IntKind.bits, IntKind.signed] at h; omega
theorem bulk_pos {H : Type} (d : DataW H) : 1 ≤ Rows.uptoBulk d := by
  cases d with
  | lit l => cases l <;> simp [Rows.uptoBulk]
  | _ => simp [Rows.uptoBulk]
theorem bulk_len {H : Type} : ∀ es : List (DataW H), es.length ≤ Rows.uptoBulkAll es
  | [] => Nat.zero_le _
  | d :: es => by
    have := bulk_pos d
    have := bulk_len es
    simp only [Rows.uptoBulkAll, List.length_cons]; omega
theorem bulk_at {H : Type} : ∀ {es : List (DataW H)} {i : Nat} {d : DataW H}, es[i]? = some d → Rows.uptoBulk d ≤ Rows.uptoBulkAll es
  | e :: es, 0, d, h => by
    simp at h; subst h; simp only [Rows.uptoBulkAll]; omega
  | e :: es, i + 1, d, h => by
    have := bulk_at (es := es) (i := i) (d := d) (by simpa using h)
    simp only [Rows.uptoBulkAll]; omega
theorem c_slice {H : Type} {enc : TypeId × Value → H} {W : World} {P : Program} {t e : TypeId} (ht : P.underlying t = some (.slice e)) {n : Nat} {c : Value} {y : DataW H × List MemPlace} (g : DataW.trod enc P W 0 (fun _ => true) true n t [c] = some y) : ∃ a len cap, c = .slice a len cap := by
  rcases open_slice ht g with ⟨hcs, _⟩ | ⟨a, len', cap', m, n, D, Pl, hcs, _⟩
  · simp at hcs; exact ⟨_, _, _, hcs⟩
  · simp at hcs; exact ⟨_, _, _, hcs⟩
def gRc {H : Type} (y : Rc) (d : DataW H) : Prop := (0 ≤ y.ver ∧ y.ver < 18446744073709551616) ∧ y.key.size ≤ Rows.uptoBulk d
theorem o_recs {H : Type} {enc : TypeId × Value → H} {W : World} {n : Nat} {c : Value} {y : DataW H × List MemPlace} (g : DataW.trod enc Try.prog W 0 (fun _ => true) true n 32 [c] = some y) :
    ∃ a cap, ∃ X : List Rc, c = .slice a X.length cap ∧ Sl eRc W.heap a cap X ∧ (∀ r ∈ X, 0 ≤ r.ver ∧ r.ver < 18446744073709551616) ∧ X.length ≤ Rows.uptoBulk y.1 ∧ (∀ r ∈ X, r.key.size ≤ Rows.uptoBulk y.1) ∧ (X.length = 0 ∨ ∃ es sp, y.1 = .slice es sp ∧ es.length = X.length) := by
  obtain ⟨a, len, cap, rfl⟩ := c_slice Try.underlying32 g
  obtain ⟨k1, k2, X, rfl, k4, k5⟩ := open_list eRc Try.underlying32 (by kernel_rfl) (by decide) (fun y d => gRc y d) (fun fuel cs x h => by
    obtain ⟨y, e, e1, w⟩ := oRc fuel cs x h
    refine ⟨y, e, wf_u64 w.2.1, ?_⟩
    rw [e1]
    simp only [dRc, Rows.uptoBulk, Rows.uptoBulkAll]
    have : y.key.data.toList.length = y.key.size := rfl
    simp [this]
    omega) g
  have hr : ∀ r ∈ X, gRc r y.1 := fun r hr => by
    obtain ⟨i, hi, hie⟩ := List.getElem_of_mem hr
    rcases k5 with k5 | ⟨es, sp, e, hes, hg⟩
    · omega
    · have := hg i r es[i] (by rw [List.getElem?_eq_getElem hi, hie]) (List.getElem?_eq_getElem (by omega))
      refine ⟨this.1, Nat.le_trans this.2 ?_⟩
      have hb := bulk_at (List.getElem?_eq_getElem (show i < es.length by omega))
      rw [e]
      simp only [Rows.uptoBulk]
      omega
  refine ⟨a, cap, X, rfl, k4, fun r h => (hr r h).1, ?_, fun r h => (hr r h).2, k5.imp id fun ⟨es, sp, e, hes, _⟩ => ⟨es, sp, e, hes⟩⟩
  rcases k5 with k5 | ⟨es, sp, e, hes, _⟩
  · omega
  · have := bulk_len es
    rw [e]
    simp only [Rows.uptoBulk]
    omega
instance : Inhabited Kw := ⟨⟨0, none, 0, 0⟩⟩
def gSh {H : Type} (W : World) (y : Kw) (d : DataW H) : Prop := ∃ (S : Sf) (ra : Option Addr) (rc : Nat), y = ⟨S.seq, ra, S.recs.length, rc⟩ ∧ Sl eRc W.heap ra rc S.recs ∧ (0 ≤ S.seq ∧ S.seq < 18446744073709551616) ∧ (∀ r ∈ S.recs, 0 ≤ r.ver ∧ r.ver < 18446744073709551616) ∧ S.recs.length ≤ Rows.uptoBulk d ∧ (S.recs.length = 0 ∨ S.recs.length * 48 ∈ d.weights Try.prog 34 ∨ ∃ m, S.recs.length ≤ m ∧ m * 48 ∈ d.weights Try.prog 34)
set_option maxRecDepth 100000 in
theorem oSh {H : Type} {enc : TypeId × Value → H} {W : World} (fuel : Nat) (cs : List Value) (x : DataW H × List MemPlace) (h : DataW.trod enc Try.prog W 0 (fun _ => true) true fuel 34 cs = some x) :
    ∃ y : Kw, cs = eKw.enc y ∧ gSh W y x.1 := by
  obtain ⟨ys, n, _, hx, hl, hyl, hf⟩ := DataW.trod_struct Try.underlying34 h
  rw [show Try.prog.cellsOf 34 = 2 by kernel_rfl] at hl
  match cs, hl with
  | [c0, c1], _ =>
    have g0 : DataW.trod enc Try.prog W 0 (fun _ => true) true n 31 (([c0, c1].drop 0).take (Try.prog.cellsOf 31)) = ys[0]? := hf 0 _ rfl
    have g1 : DataW.trod enc Try.prog W 0 (fun _ => true) true n 32 (([c0, c1].drop 1).take (Try.prog.cellsOf 32)) = ys[1]? := hf 1 _ rfl
    rw [show Try.prog.cellsOf 31 = 1 by kernel_rfl] at g0
    rw [show Try.prog.cellsOf 32 = 1 by kernel_rfl] at g1
    match ys, hyl with
    | [y0, y1], _ =>
      obtain ⟨n0, e0, _, w0⟩ := DataW.trod_int Try.underlying31 (x := y0) g0
      have g1' : DataW.trod enc Try.prog W 0 (fun _ => true) true n 32 [c1] = some y1 := g1
      obtain ⟨a, cap, X, rfl, k1, k2, k3, k4, k5⟩ := o_recs g1'
      simp only [List.drop_zero, List.take_succ_cons, List.take_zero, List.cons.injEq, and_true] at e0
      subst e0
      refine ⟨⟨n0, a, X.length, cap⟩, rfl, ⟨n0, X⟩, a, cap, rfl, k1, wf_u64 w0, k2, ?_, ?_⟩
      · rw [hx]
        simp only [List.map_cons, List.map_nil, Rows.uptoBulk, Rows.uptoBulkAll]
        show X.length ≤ _
        omega
      · rcases k5 with k5 | ⟨es, sp, e, hes⟩
        · exact .inl k5
        · refine .inr (.inr ⟨es.length + sp.length, by show X.length ≤ _; omega, ?_⟩)
          rw [hx]
          simp only [List.map_cons, List.map_nil, DataW.weights, Try.underlying34]
          simp [DataW.weightsEach, DataW.weights, e, Try.underlying32]
          right; left
          rw [show Try.prog.bytesOf 36 = 48 by kernel_rfl]
theorem pick_sh {H : Type} {W : World} : ∀ {K : List Kw} {es : List (DataW H)}, es.length = K.length → (∀ (i : Nat) y z, K[i]? = some y → es[i]? = some z → gSh W y z) →
    ∃ L : List Sf, K.length = L.length ∧ (∀ (i : Nat) x S, K[i]? = some x → L[i]? = some S → ∃ ra rc, x = ⟨S.seq, ra, S.recs.length, rc⟩ ∧ Sl eRc W.heap ra rc S.recs) ∧ Wf L ∧ (allR L).length ≤ Rows.uptoBulkAll es ∧
      ((∀ w ∈ DataW.weightsAll Try.prog 34 es, w ≤ reachBytes) → ∀ S ∈ L, S.recs.length * 48 ≤ 140737488351232)
  | [], [], _, _ => ⟨[], rfl, fun i x S h => (by rw [List.getElem?_nil] at h; cases h), ⟨fun S h => (by simp at h), fun S h => (by simp at h)⟩, Nat.zero_le _, fun _ S h => (by simp at h)⟩
  | y :: K, d :: es, hl, hg => by
    obtain ⟨L, k1, k2, k3, k4, k5⟩ := pick_sh (K := K) (es := es) (by simpa using hl) fun i y z h1 h2 => hg (i + 1) y z (by simpa using h1) (by simpa using h2)
    obtain ⟨S, ra, rc, e, s, w1, w2, b, hw⟩ := hg 0 y d rfl rfl
    refine ⟨S :: L, by simp [k1], fun i x S' h1 h2 => ?_, ⟨fun T hT => ?_, fun T hT r hr => ?_⟩, ?_, fun hall T hT => ?_⟩
    · cases i with
      | zero => simp at h1 h2; subst h1; subst h2; exact ⟨ra, rc, e, s⟩
      | succ i => exact k2 i x S' (by simpa using h1) (by simpa using h2)
    · rcases List.mem_cons.1 hT with rfl | hT
      · exact w1
      · exact k3.seq T hT
    · rcases List.mem_cons.1 hT with rfl | hT
      · exact w2 r hr
      · exact k3.ver T hT r hr
    · unfold allR at k4 ⊢
      simp only [List.flatMap_cons, List.length_append, Rows.uptoBulkAll]; omega
    · simp only [DataW.weightsAll, List.mem_append] at hall
      have hr : reachBytes = 140737488351232 := rfl
      rcases List.mem_cons.1 hT with rfl | hT
      · rcases hw with q | q | ⟨m, hm, q⟩
        · omega
        · have := hall _ (.inl q); omega
        · have := hall _ (.inl q); omega
      · exact k5 (fun w h => hall w (.inr h)) T hT
theorem sh_of {H : Type} {enc : TypeId × Value → H} {W : World} {a : Option Addr} {len cap : Nat} {d : DataW H} {p : List MemPlace} (h : DataW.Trod enc Try.prog W 0 (fun _ => true) true 22 (.slice a len cap) d p) :
    ∃ L, len = L.length ∧ Shs W.heap a cap L ∧ Wf L ∧ (allR L).length ≤ Rows.uptoBulk d ∧ L.length ≤ Rows.uptoBulk d ∧ (∀ (ts : List TypeId) (ds : List (DataW H)), (DataW.weightsEach Try.prog (22 :: ts) (d :: ds)).all (· ≤ reachBytes) = true → Bd L) := by
  obtain ⟨k1, k2, K, rfl, k4, k5⟩ := open_listT eKw Try.underlying22 (by kernel_rfl) (by decide) (gSh W) (fun fuel cs x h => oSh fuel cs x h) h
  rcases k5 with k5 | ⟨es, sp, rfl, hes, hg⟩
  · have : K = [] := List.length_eq_zero_iff.1 k5
    subst this
    exact ⟨[], rfl, ⟨[], k4, rfl, fun i x S h => (by rw [List.getElem?_nil] at h; cases h)⟩, ⟨fun S h => (by simp at h), fun S h => (by simp at h)⟩, Nat.zero_le _, Nat.zero_le _, fun _ _ _ => ⟨by decide, fun S h => (by simp at h)⟩⟩
  · obtain ⟨L, m1, m2, m3, m4, m5⟩ := pick_sh hes hg
    have := bulk_len es
    refine ⟨L, m1, ⟨K, k4, m1, m2⟩, m3, by simp only [Rows.uptoBulk]; omega, by simp only [Rows.uptoBulk]; omega, fun ts ds hz => ?_⟩
    have hr : reachBytes = 140737488351232 := rfl
    have hall := List.all_eq_true.1 hz
    simp only [DataW.weightsEach, DataW.weights, Try.underlying22, List.mem_append, List.mem_cons, decide_eq_true_eq] at hall
    refine ⟨?_, m5 fun w hw => hall w (.inl (.inr (.inl hw)))⟩
    have := hall _ (.inl (.inl rfl))
    rw [show Try.prog.bytesOf 34 = 32 by kernel_rfl] at this
    omega
end Cy
end Go.Proofs.Ytcdpapdefdnknaa
namespace Go.Proofs.Ytcdpapdefdnknaa
namespace Cy
open Go
section
variable {h : Heap} {a b : Option Addr} {c d : Nat} {L : List Sf}
theorem has_c {X : List Rc} (s : Sl ePr h a c X) (hl : X.length ≤ 4611686018427387904) (x : Rc) : HC Try.prog 16 #[.slice a X.length c, .agg #[.string x.key, .string x.val]] h fun v h' => Ext h h' ∧ ∃ r : Bool, v = .bool r ∧ (x ∈ X → r = true) := by
  refine f16_sh _ _ _ _ _ _ _ ⟨fun v => ∃ k : Nat, v = k ∧ k ≤ X.length ∧ ∀ i y, i < k → X[i]? = some y → y ≠ x, fun v => X.length - v.toNat, ⟨0, rfl, Nat.zero_le _, fun i y q => by omega⟩, ?_⟩
  rintro _ ⟨k, rfl, hk, hI⟩
  refine ⟨fun e => ?_, fun e h1 x1 => ⟨x1, false, rfl, fun hx => ?_⟩⟩
  · have hkl := lt_of_dec e
    obtain ⟨lb, lo, el, dk⟩ := s.at (sl_get hkl)
    refine ⟨lb, lo, el, by omega, by omega, _, _, dk.1, dk.2.1, fun _ h1 x1 => ⟨x1, true, rfl, fun _ => rfl⟩, fun e2 => ?_⟩
    rw [wadd k (by omega)]
    refine ⟨⟨k + 1, rfl, hkl, fun i y hi hy q => ?_⟩, by show X.length - Int.toNat _ < X.length - Int.toNat _; omega⟩
    by_cases ei : i = k
    · subst ei
      rw [sl_get hkl] at hy; cases hy
      subst q
      simp [ba_refl] at e2
    · exact hI i y (by omega) hy q
  · obtain ⟨i, hi, rfl⟩ := List.getElem_of_mem hx
    exact absurd rfl (hI i _ (by have := ge_of_dec e; omega) (sl_get hi))
set_option maxHeartbeats 3200000 in
theorem law_nothing {ta : Option Addr} {tc : Nat} {As : List Int} (s : Shs h a c L) (hb : Bd L) (hw : Wf L) (hN : (allR L).length ≤ 1048576) (st : Sl Stb.eI h ta tc As) (hA : As.length ≤ 1048576) (bits hashes : Int) :
    HC Try.prog 5 #[.slice a L.length c, .slice ta As.length tc, .int .i64 bits, .int .i64 hashes] h fun v h' => v = .bool true ∧ Ext h h' := by
  refine f5_sh _ _ _ _ _ _ _ _ _ _ ((lives_c h).mono ?_)
  rintro _ h1 ⟨rfl, x1⟩
  refine ⟨x1, true, rfl, fun e => (by simp at e), fun _ => (check_r (s.ext x1) hb).mono ?_⟩
  rintro _ h2 ⟨rfl, x2⟩
  have x02 := x1.trans x2
  refine ⟨x2, _, rfl, fun e => ?_, fun e => ?_⟩
  · have hg : ¬ Good L := fun g => by rw [chk_yes g] at e; simp at e
    refine (reclaim_m (s.ext x02) hb hw 0 bits hashes).mono ?_
    rintro _ h3 ⟨x3, e', Y, ya, yc, hR, rfl, oY⟩
    refine ⟨x3, ya, _, yc, e', rfl, ?_, x02.trans x3⟩
    have : e' ≠ 0 := fun q => hg (hR.good q).1
    congr 1
    simpa using this
  have hg : Good L := chk_ok.1 (by simpa using e)
  refine (told_c (s.ext x02) hb (by omega)).mono ?_
  rintro _ h4 ⟨x4, Lo, wa, wc, hO, rfl, sT⟩
  have hT : ∀ r, newP (allR L) r → r ∈ toldL (liveL (recsIn L Lo)) := fun r hr => by rw [told_iff (hg.flat hO), newP_congr (fun r => recsIn_mem hO)]; exact hr
  have hTl : (toldL (liveL (recsIn L Lo))).length ≤ 1048576 := by
    have h1 := List.length_filter_le (fun r : Rc => decide (r.kind = 1)) (liveL (recsIn L Lo))
    have h2 := live_len (recsIn L Lo)
    rw [recsIn_len hO] at h2
    unfold toldL; omega
  refine ⟨x4, wa, _, wc, rfl, fun l n cc t tn tcc v hh => ∃ (q : Nat) (M : List Sf) (T : List Rc), v = q ∧ q ≤ As.length ∧ n = M.length ∧ tn = T.length ∧ Ext h hh ∧ Shs hh l cc M ∧ Good M ∧ Bd M ∧ Wf M ∧ (allR M).length ≤ 1048576 ∧ Sl ePr hh t tcc T ∧ T.length ≤ 1048576 ∧ ∀ r, newP (allR M) r → r ∈ T, fun _ _ _ _ _ _ v _ => As.length - v.toNat, ⟨0, L, _, rfl, Nat.zero_le _, rfl, rfl, x02.trans x4, s.ext (x02.trans x4), hg, hb, hw, hN, sT, hTl, hT⟩, ?_⟩
  rintro l _ cc t _ tcc _ h5 ⟨q, M, T, rfl, hq, rfl, rfl, x5, s5, g5, b5, w5, n5, sT5, lT5, hT5⟩
  refine ⟨fun e5 => ?_, fun _ => ⟨rfl, x5⟩⟩
  simp only [Bool.and_eq_true, decide_eq_true_eq] at e5
  have hql : q < As.length := by omega
  have hM0 : 0 < M.length := by omega
  obtain ⟨tb, to, et, dt⟩ := (st.ext x5).at (sl_get hql)
  have hb5 := b5.len
  refine ⟨tb, to, et, by omega, by omega, _, dt.1, by omega, fun k hk => (reclaim_m s5 b5 w5 k bits hashes).mono ?_⟩
  rintro _ h6 ⟨x6, e', Y, ya, yc, hR, rfl, oY⟩
  have x06 := x5.trans x6
  refine ⟨x6, ya, _, yc, e', rfl, fun e6 => ?_, fun e6 => ?_⟩
  · have := hR.nil (by simpa using e6)
    subst this
    exact ⟨rfl, x06⟩
  have he0 : e' = 0 := by simpa using e6
  obtain ⟨_, gY, _, _⟩ := hR.good he0
  obtain ⟨bY, wY, nY, lY⟩ := hR.bd b5 w5
  obtain ⟨lY1, lY2⟩ := lY he0
  refine (told_c oY.shs bY (by omega)).mono ?_
  rintro _ h7 ⟨x7, Lo', ua, uc, hO', rfl, sU⟩
  have hU : ∀ r, r ∈ toldL (liveL (recsIn Y Lo')) ↔ newP (allR Y) r := fun r => by rw [told_iff (gY.flat hO'), newP_congr (fun r => recsIn_mem hO')]
  have hUl : (toldL (liveL (recsIn Y Lo'))).length ≤ 1048576 := by
    have h1 := List.length_filter_le (fun r : Rc => decide (r.kind = 1)) (liveL (recsIn Y Lo'))
    have h2 := live_len (recsIn Y Lo')
    rw [recsIn_len hO'] at h2
    unfold toldL; omega
  generalize toldL (liveL (recsIn Y Lo')) = U at *
  refine ⟨x7, ua, _, uc, rfl, fun v hh => ∃ j : Nat, v = j ∧ j ≤ U.length ∧ Ext h7 hh, fun v _ => U.length - v.toNat, ⟨0, rfl, Nat.zero_le _, Ext.refl _⟩, ?_⟩
  rintro _ h8 ⟨j, rfl, hj, x8⟩
  have x08 := x06.trans (x7.trans x8)
  refine ⟨fun e8 => ?_, fun e8 => ?_⟩
  · have hjl := lt_of_dec e8
    obtain ⟨ub, uo, eu, du⟩ := (sU.ext x8).at (sl_get hjl)
    refine ⟨ub, uo, eu, by omega, by omega, _, _, du.1, du.2.1, (has_c (sT5.ext (x6.trans (x7.trans x8))) (by omega) U[j]).mono ?_⟩
    rintro _ h9 ⟨x9, r, rfl, hr⟩
    have hrt := hr (hT5 _ (hR.back he0 ((hU _).1 (List.getElem_mem hjl))))
    subst hrt
    rw [wadd j (by omega)]
    exact ⟨x9, true, rfl, fun e => (by simp at e), fun _ => ⟨⟨j + 1, rfl, hjl, x8.trans x9⟩, by show U.length - Int.toNat _ < U.length - Int.toNat _; omega⟩⟩
  · refine ⟨fun j hh => j = false ∧ Ext h8 hh, (check_m (oY.shs.ext (x7.trans x8)) bY wY).mono ?_, ?_⟩
    · rintro _ h11 ⟨rfl, x11⟩
      rw [chk_yes gY]
      refine ⟨x11, 0, rfl, fun e => (by simp at e), fun _ => ?_⟩
      rw [w64 (by omega) (by omega)]
      refine ⟨fun e => ?_, fun e => ⟨?_, x11⟩⟩
      · have := of_decide_eq_true e; omega
      · exact decide_eq_false (by omega)
    · rintro _ h10 ⟨rfl, x10⟩
      refine ⟨fun e => (by cases e), fun _ => ?_⟩
      rw [wadd q (by omega)]
      exact ⟨⟨q + 1, Y, U, rfl, hql, rfl, rfl, x08.trans x10, oY.shs.ext (x7.trans (x8.trans x10)), gY, bY, wY, by omega, sU.ext (x8.trans x10), hUl, fun r hr => (hU r).2 hr⟩, by show As.length - Int.toNat _ < As.length - Int.toNat _; omega⟩
def eSr : Elt (Option Addr × Nat × Nat) := ⟨1, fun x => [.slice x.1 x.2.1 x.2.2], fun _ => rfl, fun x v hv => by simp at hv; subst hv; rfl⟩
def Lss (h : Heap) (a : Option Addr) (c : Nat) (M : List (List Rc)) : Prop := ∃ K, Sl eSr h a c K ∧ K.length = M.length ∧ ∀ (i : Nat) x X, K[i]? = some x → M[i]? = some X → ∃ ra rc, x = (ra, X.length, rc) ∧ Sl eRc h ra rc X
theorem Lss.ext {h' : Heap} {M : List (List Rc)} (s : Lss h a c M) (x : Ext h h') : Lss h' a c M := let ⟨K, k1, k2, k3⟩ := s; ⟨K, k1.ext x, k2, fun i y X h1 h2 => let ⟨ra, rc, e, p⟩ := k3 i y X h1 h2; ⟨ra, rc, e, p.ext x⟩⟩
theorem Lss.at_ {M : List (List Rc)} (s : Lss h a c M) {i : Nat} (hi : i < M.length) : ∃ b o ra rc, a = some ⟨b, o, none⟩ ∧ hcell h b (o + i * 1) = some (.slice ra M[i].length rc) ∧ Sl eRc h ra rc M[i] := by
  obtain ⟨K, k1, k2, k3⟩ := s
  have hlt : i < K.length := by omega
  obtain ⟨ra, rc, e, p⟩ := k3 i _ _ (sl_get hlt) (sl_get hi)
  obtain ⟨b, o, ea, d⟩ := k1.at (sl_get hlt)
  rw [e] at d
  exact ⟨b, o, ra, rc, ea, d.1, p⟩
set_option maxHeartbeats 3200000 in
theorem law_filters {X : List Rc} {M : List (List Rc)} (bits hashes none_ : Int) (sl : Sl eRc h a c X) (hs : small X) (hl : X.length * 48 ≤ 140737488351232) (hv : ∀ r ∈ X, 0 ≤ r.ver) (sM : Lss h b d M) (hM : ∀ Y ∈ M, small Y ∧ Y.length * 48 ≤ 140737488351232) (hMl : M.length * 24 ≤ 140737488351232) :
    HC Try.prog 7 #[.int .i64 bits, .int .i64 hashes, .slice a X.length c, .slice b M.length d, .int .i64 none_] h fun v h' => v = .bool true ∧ Ext h h' := by
  refine f7_sh _ _ _ _ _ _ _ _ _ _ _ ((lives_c h).mono ?_)
  rintro _ h1 ⟨rfl, x1⟩
  refine ⟨x1, true, rfl, fun e => (by simp at e), fun _ => (filter_m bits hashes (sl.ext x1) hs hl).mono ?_⟩
  rintro _ h2 ⟨x2, hm⟩
  have x02 := x1.trans x2
  rcases hm with ⟨hno, rfl⟩ | ⟨hok, p, w, rfl, hp, hw, fm⟩
  · refine ⟨x2, none, 150, rfl, (filter_r bits hashes (sl.ext x02) hs hl).mono ?_⟩
    rintro _ h3 ⟨x3, ⟨_, rfl⟩ | ⟨q, _⟩⟩
    · exact ⟨x3, none, 150, rfl, fun e => (by simp at e), fun _ => ⟨fun _ => ⟨rfl, x02.trans x3⟩, fun e => (by cases e)⟩⟩
    · exact absurd q hno
  refine ⟨x2, some ⟨p, 0, none⟩, 0, rfl, (filter_r bits hashes (sl.ext x02) hs hl).mono ?_⟩
  rintro _ h3 ⟨x3, ⟨q, _⟩ | ⟨_, p', w', rfl, hp', hw', fr⟩⟩
  · exact absurd hok q
  refine ⟨x3, some ⟨p', 0, none⟩, 0, rfl, fun e => (by simp at e), fun _ => ⟨fun e => (by cases e), fun _ => (bytes_m (fm.ext x3)).mono ?_⟩⟩
  rintro _ h4 ⟨x4, nb, B, rfl, hB, hBb, sB⟩
  have x04 := x02.trans (x3.trans x4)
  have fr4 := fr.ext x4
  obtain ⟨W, k1, k2, k3⟩ := fr4.wrd
  have hBW : B = W := bits_eq hBb k3 (by omega)
  have hn8 : (bits.toNat + 7) / 8 = B.length := hB.symm
  have hbl : B.length ≤ 140737488351232 := by have := fr4.b2; omega
  refine ⟨some ⟨nb, 0, none⟩, _, _, rfl, p', 0, rfl, some ⟨w', 0, none⟩, B.length, B.length, by rw [hcell_row fr4.row, hn8]; rfl, fun e => (by simp at e), fun _ => ⟨fun v => ∃ k : Nat, v = k ∧ k ≤ B.length, fun v => B.length - v.toNat, ⟨0, rfl, Nat.zero_le _⟩, ?_⟩⟩
  rintro _ ⟨k, rfl, hk⟩
  refine ⟨fun e => ?_, fun _ => ?_⟩
  · have hkl := lt_of_dec e
    obtain ⟨bb, bo, eb, db⟩ := sB.at (sl_get hkl)
    refine ⟨bb, bo, eb, by omega, by omega, _, db.1, w', 0, rfl, by omega, by omega, B[k], ?_, fun e2 => (by simp at e2), fun _ => ?_⟩
    · rw [hcell_row k2, Int.toNat_natCast, Nat.zero_add, Nat.mul_one, List.getElem?_toArray, List.getElem?_map, ← hBW, sl_get hkl]; rfl
    · rw [wadd k (by omega)]
      exact ⟨⟨k + 1, rfl, hkl⟩, by show B.length - Int.toNat _ < B.length - Int.toNat _; omega⟩
  refine ⟨fun fs fn fc xs xn xc v hh => ∃ (k : Nat) (P Q : List (Option Addr)) (G : List (Option (Nat → Bool))), v = k ∧ k ≤ M.length ∧ fn = P.length ∧ xn = Q.length ∧ P.length = k ∧ Q.length = k ∧ Ext h hh ∧ FlsM hh bits.toNat hashes.toNat fs fc P G ∧ Own ePt.k tPm h.size hh fs fc ∧ FlsR hh bits.toNat hashes.toNat xs xc Q G ∧ Own ePt.k tPr h.size hh xs xc, fun _ _ _ _ _ _ v _ => M.length - v.toNat,
    ⟨0, [], [], [], rfl, Nat.zero_le _, rfl, rfl, rfl, rfl, x04, FlsM.nil _ _ _, Own.nil _ _ _ _, FlsR.nil _ _ _, Own.nil _ _ _ _⟩, ?_⟩
  rintro fs _ fc xs _ xc _ h5 ⟨k, P, Q, G, rfl, hk, rfl, rfl, hP, hQ, x5, fM, wM, fR, wR⟩
  refine ⟨fun e => ?_, fun _ => ?_⟩
  · have hkl := lt_of_dec e
    obtain ⟨lb, lo, ra, rc, el, c1, sr⟩ := (sM.ext x5).at_ hkl
    obtain ⟨hsY, hlY⟩ := hM _ (List.getElem_mem hkl)
    generalize M[k] = Y at *
    refine ⟨lb, lo, el, by omega, by omega, ra, _, rc, c1, (filter_m bits hashes sr hsY hlY).mono ?_⟩
    rintro _ h6 ⟨x6, ⟨q, _⟩ | ⟨_, fp, fw, rfl, _, _, ff⟩⟩
    · exact absurd hok q
    refine ⟨x6, some ⟨fp, 0, none⟩, 0, rfl, ra, _, rc, x6.cell c1, (filter_r bits hashes (sr.ext x6) hsY hlY).mono ?_⟩
    rintro _ h7 ⟨x7, ⟨q, _⟩ | ⟨_, gp, gw, rfl, _, _, gg⟩⟩
    · exact absurd hok q
    refine ⟨x7, some ⟨gp, 0, none⟩, 0, rfl, fun f hf x3' hx3 nb8 h8 en8 e8 => ?_⟩
    have x57 := x6.trans x7
    have hz := x5.size
    have hz7 := x57.size
    let g : Option (Nat → Bool) := bif (k : Int) == none_ then none else some (fltR bits.toNat hashes.toNat Y)
    have hfm : (f = none ∧ g = none) ∨ ∃ p w F, f = some ⟨p, 0, none⟩ ∧ g = some F ∧ Flm h7 p w bits.toNat hashes.toNat F := by
      show (f = none ∧ (bif (k : Int) == none_ then none else some (fltR bits.toNat hashes.toNat Y)) = none) ∨ _
      cases hkn : ((k : Int) == none_) with
      | true => rw [hkn] at hf; exact .inl ⟨hf, rfl⟩
      | false => rw [hkn] at hf; exact .inr ⟨fp, fw, _, hf, (by show (bif (k : Int) == none_ then none else some (fltR bits.toNat hashes.toNat Y)) = _; rw [hkn]; rfl), ff.ext x7⟩
    refine FlsM.app (g := g) rfl (fM.ext x57) (wM.ext x57) en8 e8 hfm (by omega) (by omega) fun a9 c9 h9 f9 g9 w9 => ⟨a9, _, c9, rfl, fun nb10 h10 en10 e10 => ?_⟩
    have wM7 := wM.ext x57
    have wR7 := wR.ext x57
    have nR : ∀ q, blkA xs q → ¬ blkA fs q := fun q hq hq2 => own_ne2 wR7 wM7 (by decide) hq hq2
    have fR9 : FlsR h9 bits.toNat hashes.toNat xs xc Q G := (fR.ext x57).fr f9 nR fun q cs T fr r hT hb => by
      rcases hT with rfl | rfl
      · exact own_ne wM7 r (by decide) hb
      · exact own_ne wM7 r (by decide) hb
    have wR9 := wR7.fr f9 nR
    have gg9 : Flr h9 gp gw bits.toNat hashes.toNat (fltR bits.toNat hashes.toNat Y) := gg.fr f9 (fun hb => own_ne wM7 gg.row (by decide) hb) (fun hb => let ⟨_, _, k2, _⟩ := gg.wrd; own_ne wM7 k2 (by decide) hb)
    have hgm : (x3' = none ∧ g = none) ∨ ∃ p w F, x3' = some ⟨p, 0, none⟩ ∧ g = some F ∧ Flr h9 p w bits.toNat hashes.toNat F := by
      show (x3' = none ∧ (bif (k : Int) == none_ then none else some (fltR bits.toNat hashes.toNat Y)) = none) ∨ _
      cases hkn : ((k : Int) == none_) with
      | true => rw [hkn] at hx3; exact .inl ⟨hx3, rfl⟩
      | false => rw [hkn] at hx3; exact .inr ⟨gp, gw, _, hx3, (by show (bif (k : Int) == none_ then none else some (fltR bits.toNat hashes.toNat Y)) = _; rw [hkn]; rfl), gg9⟩
    have hz9 := f9.size
    refine FlsR.app (g := g) rfl fR9 wR9 en10 e10 hgm (by omega) (by omega) fun a11 c11 h11 f11 g11 w11 => ⟨a11, _, c11, rfl, ?_⟩
    rw [wadd k (by omega)]
    have nM : ∀ q, blkA a9 q → ¬ blkA xs q := fun q hq hq2 => own_ne2 w9 wR9 (by decide) hq hq2
    refine ⟨⟨k + 1, P ++ [f], Q ++ [x3'], G ++ [g], rfl, hkl, by simp, by simp, by simp [hP], by simp [hQ], ?_, ?_, w9.fr f11 nM, g11, w11⟩, by show M.length - Int.toNat _ < M.length - Int.toNat _; omega⟩
    · exact ((((x5.trans x57).fr (fun b => h.size ≤ b)).trans f9 fun i hi q => (wM7.low q).1).trans f11 fun i hi q => (wR9.low q).1).ext fun i hi q => by omega
    · exact g9.fr f11 nM fun q cs T fr r hT hb => by
        rcases hT with rfl | rfl
        · exact own_ne wR9 r (by decide) hb
        · exact own_ne wR9 r (by decide) hb
  · refine ⟨fun j hh => j = true ∧ Ext h hh, (needed_m (sl.ext x5) hs hl hv fM (by omega)).mono ?_, fun j h12 ⟨q1, q2⟩ => ⟨by rw [q1], q2⟩⟩
    rintro _ h13 ⟨x13, da, dc, D, hD, rfl, _, sD, _⟩
    refine ⟨x13, da, _, dc, rfl, (needed_r (sl.ext (x5.trans x13)) hs hl hv (fR.ext x13) (by omega)).mono ?_⟩
    rintro _ h14 ⟨x14, ea, ec, D', hD', rfl, sD', _⟩
    have hDD := hD.eq hD'
    subst hDD
    have hDl := isT_len hD hv
    refine ⟨x14, ea, _, ec, rfl, true, (recs_same (sD.ext x14) sD' (by omega)).mono ?_, fun _ => ?_, fun e => (by cases e)⟩
    · rintro _ _ ⟨⟨r, rfl, hr⟩, rfl⟩
      rw [hr rfl]; exact ⟨rfl, rfl⟩
    have x0 := x5.trans (x13.trans x14)
    refine (needed_m (P := []) (G := []) (b := bits.toNat) (s := hashes.toNat) (sl.ext x0) hs hl hv (FlsM.nil _ _ _) (by decide)).mono ?_
    rintro _ h15 ⟨x15, za, zc, Z, hZ, rfl, _, _, _⟩
    have hZ0 : Z = [] := hZ.nil_of fun r _ => rfl
    subst hZ0
    exact ⟨x15, za, _, zc, rfl, rfl, x0.trans x15⟩
end
end Cy
end Go.Proofs.Ytcdpapdefdnknaa
namespace Go.Proofs.Ytcdpapdefdnknaa
namespace Cy
open Go Go.ChangeShapes Go.WideShapes Go.Deep
theorem reach_eq : reachBytes = 140737488351232 := rfl
theorem recs_w {H : Type} : ∀ {X : List Rc} {es : List (DataW H)}, es.length = X.length → (∀ (i : Nat) y z, X[i]? = some y → es[i]? = some z → z = dRc y) → (∀ w ∈ DataW.weightsAll Try.prog 36 es, w ≤ reachBytes) → small X
  | [], [], _, _, _ => fun r h => (by simp at h)
  | y :: X, d :: es, hl, hg, hall => by
    simp only [DataW.weightsAll, List.mem_append] at hall
    have e := hg 0 y d rfl rfl
    have hw := hall y.key.size (.inl (by
      rw [e]
      simp only [dRc, DataW.weights, Try.underlying36]
      simp [DataW.weightsEach, DataW.weights]))
    rw [reach_eq] at hw
    intro r hr
    rcases List.mem_cons.1 hr with rfl | hr
    · omega
    · exact recs_w (X := X) (es := es) (by simpa using hl) (fun i y z h1 h2 => hg (i + 1) y z (by simpa using h1) (by simpa using h2)) (fun w h => hall w (.inr h)) r hr
theorem o_recs' {H : Type} {enc : TypeId × Value → H} {W : World} {n : Nat} {c : Value} {y : DataW H × List MemPlace} (g : DataW.trod enc Try.prog W 0 (fun _ => true) true n 32 [c] = some y) :
    ∃ a cap, ∃ X : List Rc, c = .slice a X.length cap ∧ Sl eRc W.heap a cap X ∧ (∀ r ∈ X, 0 ≤ r.ver) ∧ ((∀ w ∈ y.1.weights Try.prog 32, w ≤ reachBytes) → small X ∧ X.length * 48 ≤ 140737488351232) := by
  obtain ⟨a, len, cap, rfl⟩ := c_slice Try.underlying32 g
  obtain ⟨k1, k2, X, rfl, k4, k5⟩ := open_list eRc Try.underlying32 (by kernel_rfl) (by decide) (fun y d => d = dRc y ∧ wfRc y) (fun fuel cs x h => oRc fuel cs x h) g
  refine ⟨a, cap, X, rfl, k4, fun r hr => ?_, fun hall => ?_⟩
  · obtain ⟨i, hi, hie⟩ := List.getElem_of_mem hr
    rcases k5 with k5 | ⟨es, sp, e, hes, hg⟩
    · omega
    · exact (wf_u64 (hg i r es[i] (by rw [List.getElem?_eq_getElem hi, hie]) (List.getElem?_eq_getElem (by omega))).2.2.1).1
  · rcases k5 with k5 | ⟨es, sp, e, hes, hg⟩
    · have : X = [] := List.length_eq_zero_iff.1 k5
      subst this
      exact ⟨fun r h => (by simp at h), by decide⟩
    · rw [e] at hall
      simp only [DataW.weights, Try.underlying32, List.mem_cons, List.mem_append] at hall
      refine ⟨recs_w hes (fun i y z h1 h2 => (hg i y z h1 h2).1) fun w hw => hall w (.inr (.inl hw)), ?_⟩
      have := hall _ (.inl rfl)
      rw [show Try.prog.bytesOf 36 = 48 by kernel_rfl, reach_eq] at this
      omega
instance : Inhabited (Option Addr × Nat × Nat) := ⟨(none, 0, 0)⟩
def gLs {H : Type} (W : World) (y : Option Addr × Nat × Nat) (d : DataW H) : Prop := ∃ ra rc, ∃ Y : List Rc, y = (ra, Y.length, rc) ∧ Sl eRc W.heap ra rc Y ∧ ((∀ w ∈ d.weights Try.prog 32, w ≤ reachBytes) → small Y ∧ Y.length * 48 ≤ 140737488351232)
theorem oLs {H : Type} {enc : TypeId × Value → H} {W : World} (fuel : Nat) (cs : List Value) (x : DataW H × List MemPlace) (h : DataW.trod enc Try.prog W 0 (fun _ => true) true fuel 32 cs = some x) : ∃ y, cs = eSr.enc y ∧ gLs W y x.1 := by
  have hc : ∃ c, cs = [c] := by
    rcases open_slice Try.underlying32 h with ⟨hcs, _⟩ | ⟨a, len', cap', m, n, D, Pl, hcs, _⟩
    · exact ⟨_, hcs⟩
    · exact ⟨_, hcs⟩
  obtain ⟨c, rfl⟩ := hc
  obtain ⟨a, cap, X, rfl, k1, _, k3⟩ := o_recs' h
  exact ⟨(a, X.length, cap), rfl, a, cap, X, rfl, k1, k3⟩
theorem pick_ls {H : Type} {W : World} : ∀ {K : List (Option Addr × Nat × Nat)} {es : List (DataW H)}, es.length = K.length → (∀ (i : Nat) y z, K[i]? = some y → es[i]? = some z → gLs W y z) →
    ∃ M : List (List Rc), K.length = M.length ∧ (∀ (i : Nat) x X, K[i]? = some x → M[i]? = some X → ∃ ra rc, x = (ra, X.length, rc) ∧ Sl eRc W.heap ra rc X) ∧ ((∀ w ∈ DataW.weightsAll Try.prog 32 es, w ≤ reachBytes) → ∀ Y ∈ M, small Y ∧ Y.length * 48 ≤ 140737488351232)
  | [], [], _, _ => ⟨[], rfl, fun i x S h => (by rw [List.getElem?_nil] at h; cases h), fun _ Y h => (by simp at h)⟩
  | y :: K, d :: es, hl, hg => by
    obtain ⟨M, k1, k2, k3⟩ := pick_ls (K := K) (es := es) (by simpa using hl) fun i y z h1 h2 => hg (i + 1) y z (by simpa using h1) (by simpa using h2)
    obtain ⟨ra, rc, Y, e, s, hw⟩ := hg 0 y d rfl rfl
    refine ⟨Y :: M, by simp [k1], fun i x X h1 h2 => ?_, fun hall Z hZ => ?_⟩
    · cases i with
      | zero => simp at h1 h2; subst h1; subst h2; exact ⟨ra, rc, e, s⟩
      | succ i => exact k2 i x X (by simpa using h1) (by simpa using h2)
    · simp only [DataW.weightsAll, List.mem_append] at hall
      rcases List.mem_cons.1 hZ with rfl | hZ
      · exact hw fun w h => hall w (.inl h)
      · exact k3 (fun w h => hall w (.inr h)) Z hZ
theorem ls_of {H : Type} {enc : TypeId × Value → H} {W : World} {a : Option Addr} {len cap : Nat} {d : DataW H} {p : List MemPlace} (h : DataW.Trod enc Try.prog W 0 (fun _ => true) true 46 (.slice a len cap) d p) :
    ∃ M, len = M.length ∧ Lss W.heap a cap M ∧ ((∀ w ∈ d.weights Try.prog 46, w ≤ reachBytes) → (∀ Y ∈ M, small Y ∧ Y.length * 48 ≤ 140737488351232) ∧ M.length * 24 ≤ 140737488351232) := by
  obtain ⟨k1, k2, K, rfl, k4, k5⟩ := open_listT eSr Try.underlying46 (by kernel_rfl) (by decide) (gLs W) (fun fuel cs x h => oLs fuel cs x h) h
  rcases k5 with k5 | ⟨es, sp, rfl, hes, hg⟩
  · have : K = [] := List.length_eq_zero_iff.1 k5
    subst this
    exact ⟨[], rfl, ⟨[], k4, rfl, fun i x S h => (by rw [List.getElem?_nil] at h; cases h)⟩, fun _ => ⟨fun Y h => (by simp at h), by decide⟩⟩
  · obtain ⟨M, m1, m2, m3⟩ := pick_ls hes hg
    refine ⟨M, m1, ⟨K, k4, m1, m2⟩, fun hall => ?_⟩
    simp only [DataW.weights, Try.underlying46, List.mem_append, List.mem_cons] at hall
    refine ⟨m3 fun w hw => hall w (.inr (.inl hw)), ?_⟩
    have := hall _ (.inl rfl)
    rw [show Try.prog.bytesOf 32 = 24 by kernel_rfl, reach_eq] at this
    omega
theorem rs_of {H : Type} {enc : TypeId × Value → H} {W : World} {a : Option Addr} {len cap : Nat} {d : DataW H} {p : List MemPlace} (h : DataW.Trod enc Try.prog W 0 (fun _ => true) true 32 (.slice a len cap) d p) :
    ∃ X, len = X.length ∧ Sl eRc W.heap a cap X ∧ (∀ r ∈ X, 0 ≤ r.ver) ∧ ((∀ w ∈ d.weights Try.prog 32, w ≤ reachBytes) → small X ∧ X.length * 48 ≤ 140737488351232) := by
  obtain ⟨fuel, h⟩ := h
  obtain ⟨a', cap', X, e, k1, k2, k3⟩ := o_recs' (y := (d, p)) h
  cases e
  exact ⟨X, rfl, k1, k2, k3⟩
theorem is_of {H : Type} {enc : TypeId × Value → H} {W : World} {a : Option Addr} {len cap : Nat} {d : DataW H} {p : List MemPlace} (h : DataW.Trod enc Try.prog W 0 (fun _ => true) true 38 (.slice a len cap) d p) :
    ∃ As, len = As.length ∧ Sl Stb.eI W.heap a cap As ∧ As.length ≤ Rows.uptoBulk d := by
  obtain ⟨k1, k2, As, rfl, k4, k5⟩ := open_listT Stb.eI Try.underlying38 (by kernel_rfl) (by decide) (fun _ _ => True) (fun fuel cs x h => by
    obtain ⟨n, e, _, w⟩ := DataW.trod_int Try.underlying3 (x := x) h
    exact ⟨n, e, trivial⟩) h
  refine ⟨As, rfl, k4, ?_⟩
  rcases k5 with k5 | ⟨es, sp, rfl, hes, _⟩
  · omega
  · have := bulk_len es
    simp only [Rows.uptoBulk]; omega
end Cy
end Go.Proofs.Ytcdpapdefdnknaa
