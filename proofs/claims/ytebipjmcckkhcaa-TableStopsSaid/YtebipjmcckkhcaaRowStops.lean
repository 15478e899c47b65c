/- PROVED HERE: the law TableStops: whatever the numbers, the calls and the entry that it is handed, it returns true, and what it was handed reads as it did. No condition. -/
import Derived.Test.YtebipjmcckkhcaaRows
import Derived.Test.YtebipjmcckkhcaaTI
import Derived.WalkKit
import Derived.ProofKit
import Derived.OpenShut
import Derived.ShutString
import Derived.ChangeOld
import Derived.Below
import Derived.Carry
namespace Go.Proofs.Ytebipjmcckkhcaa.tableStops
open Go.ChangeShapes Go.WideShapes Go.ChangeAt Go.RowKit
open Go.ChangeMaps (open_string shut_string)
open RH

theorem walk {H : Type} {enc : TypeId × Value → H} {W : World} {base : Nat} {a0 a2 : Int} {a1 : Option Addr} {len1 cap1 : Nat} {v3 : Value} {d1 d3 : DataW H} {p1 p3 : List MemPlace}
    (_w0 : (Lit.int .i64 a0).wf = true) (h1 : DataW.Trod enc Try.prog W 0 (fun _ => true) true 22 (.slice a1 len1 cap1) d1 p1) (_w2 : (Lit.int .i64 a2).wf = true)
    (hv : Value.okWide Try.prog W .any base 31 v3) (h3 : DataW.Trod enc Try.prog W 0 (fun _ => true) true 31 v3 d3 p3) :
    Calls Try.prog 6 #[.int .i64 a0, .slice a1 len1 cap1, .int .i64 a2, v3] W fun e w' => e = .returned (.bool true) ∧ Below W.heap.size W w' := by
  obtain ⟨hl, K, E, ho⟩ := ops_open Try.underlying22 rfl h1
  have hm : len1 ≤ 9223372036854775807 := hl
  obtain ⟨cs, rfl, _⟩ := okWide_struct Try.underlying31 hv
  obtain ⟨fuel, h0⟩ := h3
  obtain ⟨e, hw, hc⟩ := ent_cells h0
  have hcs : cs = #[.int .u64 e.h, .int .u64 e.a, .int .u64 e.v, .int .u8 e.k] := by
    have : cs.toList = [.int .u64 e.h, .int .u64 e.a, .int .u64 e.v, .int .u8 e.k] := by simpa [Value.cells] using hc
    exact Array.toList_inj.1 this
  subst hcs
  refine (law_stops hm ho hw W rfl).mono ?_
  rintro e w' ⟨v, rfl, hs, rfl, he⟩
  exact ⟨rfl, below_of hs he⟩

theorem own : ownKnob Try.prog.godebug = none := by kernel_rfl
theorem laidOut : laidOutB Try.prog = true := by kernel_rfl

set_option maxRecDepth 100000 in
theorem lifted (os : Os) (started : os.Started) (H : Type) (enc : TypeId × Value → H) :
    ReturnsInHanded {} Try.checked os 6 .any (Rows.tableStopsSpec.pre6 enc Try.prog Try.f6 Rows.tableStopsRow.domain false) (Rows.tableStopsSpec.post enc Try.prog Try.f6 false true false false) := by
  refine returnsInHanded_of_change (C := Try.checked) own started (by kernel_rfl) Try.func6
    (ChangeSpec.witness6 (enc := enc) (C := Try.checked) false ⟨#[], #[.int .i64 0, .slice none 0 0, .int .i64 0, .agg #[.int .u64 0, .int .u64 0, .int .u64 0, .int .u8 0]], []⟩ 8 (by kernel_rfl) (by kernel_rfl) (by kernel_rfl) (by kernel_rfl)) ?_
  intro W base args ds gs before hval0 hW hcnd _
  have hval : ∀ (j : Nat) t v, Try.f6.params[j]? = some t → args[j]? = some v → Value.okWide Try.prog W .any base t v := hval0
  have hW' := hW
  obtain ⟨p, q, hA0, hV, rfl, hfz, hnd⟩ := hW
  have hA : DataW.TrodAll enc Try.prog W 0 (fun _ => true) true Try.f6.params.toList args.toList ds p := hA0
  rw [Try.params6] at hA hval
  obtain ⟨v0, vs0, d0, ds0, p0, q0, hargs, rfl, rfl, h0, r0⟩ := trodAll_cons hA
  obtain ⟨v1, vs1, d1, ds1, p1, q1, rfl, rfl, rfl, h1, r1⟩ := trodAll_cons r0
  obtain ⟨v2, vs2, d2, ds2, p2, q2, rfl, rfl, rfl, h2, r2⟩ := trodAll_cons r1
  obtain ⟨v3, vs3, d3, ds3, p3, q3, rfl, rfl, rfl, h3, r3⟩ := trodAll_cons r2
  obtain ⟨rfl, rfl, rfl⟩ := trodAll_nil r3
  obtain rfl : args = #[v0, v1, v2, v3] := by cases args; simp_all
  obtain ⟨rfl, rfl⟩ := trodVars_none hV
  obtain ⟨a0, rfl, rfl, rfl, w0⟩ := open_int Try.underlying3 (hval 0 3 v0 rfl rfl) h0
  obtain ⟨a1, len1, cap1, rfl⟩ := okWide_slice Try.underlying22 (hval 1 22 v1 rfl rfl)
  have k1 := h1
  have lt1 : ∀ x ∈ p1, x.block < W.heap.size := by obtain ⟨m, hm⟩ := k1; exact DataW.trod_lt m _ _ _ hm
  obtain ⟨a2, rfl, rfl, rfl, w2⟩ := open_int Try.underlying3 (hval 2 3 v2 rfl rfl) h2
  have k3 := h3
  have lt3 : ∀ x ∈ p3, x.block < W.heap.size := by obtain ⟨m, hm⟩ := k3; exact DataW.trod_lt m _ _ _ hm
  clear hA0 hval0
  refine (walk w0 h1 w2 (hval 3 31 v3 rfl rfl) h3).mono fun e W' ⟨he, bel⟩ => ?_
  subst he
  exact ⟨_, rfl, _, _, _, [], _, [], hW', trodAll_mk1 (shut_bool Try.underlying4 _), (trodAll_cons_mk (shut_int Try.underlying3 w0) (trodAll_cons_mk (Below.trod laidOut (by kernel_rfl) (of_decide_eq_true (by kernel_rfl)) k1 bel lt1) (trodAll_cons_mk (shut_int Try.underlying3 w2) (trodAll_cons_mk (Below.trod laidOut (by kernel_rfl) (of_decide_eq_true (by kernel_rfl)) k3 bel lt3) trodAll_mk0)))), rfl, bel.frame _, fun h => by cases h⟩

theorem over : Rows.tableStopsRow.holds Try.pinned (OpenSpec.ofChange Rows.tableStopsSpec) :=
  OpenClaim.holds_of_wide 6 Try.f6 rfl rfl rfl rfl rfl rfl rfl ⟨rfl, rfl, rfl, rfl, rfl⟩ rfl rfl rfl rfl rfl (by kernel_rfl) Try.func6 (by kernel_rfl)
    (of_decide_eq_true (by kernel_rfl)) (by unfold Func.isWrapper; first | (rw [if_pos (by decide +kernel)]; kernel_rfl) | (rw [if_neg (by decide +kernel)]; exact ⟨rfl, rfl⟩))
    (fun os started H enc _ => lifted os started H enc)

end Go.Proofs.Ytebipjmcckkhcaa.tableStops
namespace Go.Proofs.Ytebipjmcckkhcaa
/-- The statement. -/
theorem tableStops_proved : Rows.TableStopsSaid := tableStops.over
#print axioms tableStops_proved
end Go.Proofs.Ytebipjmcckkhcaa
