/-
Slices of regions, appended to.
-/
import Derived.Test.YtfdgjgjcppfmiaaReg9
namespace Go.Proofs.Ytfdgjgjcppfmiaa
open Go

theorem Fc.u28 : Try.prog.underlying 28 = some (.slice 31) := by kernel_rfl
theorem Fc.sz31 : szB Try.prog 31 = some 4 := by kernel_rfl
theorem Fc.by31 : byB Try.prog 31 = some 32 := by kernel_rfl
theorem Fc.z31 : zeroB Try.prog 31 (.agg #[.int .i64 0, .int .u64 0, .int .i64 0, .int .i64 0]) := by unfold zeroB; kernel_rfl

/-- A slice of regions, in a block from S on. -/
structure InfoSl (h : Heap) (S : Nat) (a : Option Addr) (c m : Nat) (I : Nat → Info) : Prop where
  le : m ≤ c
  ex : (a = none ∧ c = 0) ∨ ∃ b cs, a = some ⟨b, 0, none⟩ ∧ S ≤ b ∧ h[b]? = some (.cells cs 31 (0, 0)) ∧ c * 4 ≤ cs.size ∧ ∀ i, i < m → InfoAt cs i (I i)

theorem InfoSl.ext {h h' : Heap} {S : Nat} {a : Option Addr} {c m : Nat} {I : Nat → Info} (k : InfoSl h S a c m I) (x : Ext h h') : InfoSl h' S a c m I :=
  ⟨k.le, k.ex.imp id fun ⟨b, cs, e, hb, r, hc⟩ => ⟨b, cs, e, hb, x.row r, hc⟩⟩
theorem InfoSl.fr {h h' : Heap} {S : Nat} {a : Option Addr} {c m : Nat} {I : Nat → Info} (k : InfoSl h S a c m I) (e : ∀ b, blkOf a b → h'[b]? = h[b]?) : InfoSl h' S a c m I :=
  ⟨k.le, k.ex.imp id fun ⟨b, cs, e1, hb, r, hc⟩ => ⟨b, cs, e1, hb, (e b ⟨0, e1⟩).trans r, hc⟩⟩

theorem app_info {h : Heap} {S : Nat} {a : Option Addr} {c m : Nat} {I : Nat → Info} (k : InfoSl h S a c m I) {nb : Nat} (hn : h[nb]? = some (.cells #[.int .i64 (I m).st, .int .u64 (I m).sq, .int .i64 (I m).pins, .int .i64 (I m).er] 31 (0, 0))) (hm : m ≤ 4096) (hS : S ≤ h.size) {K : Value → Heap → Prop}
    (hk : ∀ a' c' h', Fr (fun b => S ≤ b) h h' → InfoSl h' S a' c' (m + 1) I → K (.slice a' (m + 1) c') h') : HAppend Try.prog 28 28 (.slice a m c) (.slice (some ⟨nb, 0, none⟩) 1 1) h K := by
  have src : Src h (.slice (some ⟨nb, 0, none⟩) 1 1) 1 4 (I m).vals := ⟨rfl, .inr ⟨nb, 0, 1, rfl, fun j u hu => by
    rw [hcell_row hn, Nat.zero_add]
    have hj : j < 4 := by have := (List.getElem?_eq_some_iff.1 hu).1; simpa [Info.vals] using this
    match j, hj with
    | 0, _ => exact hu
    | 1, _ => exact hu
    | 2, _ => exact hu
    | 3, _ => exact hu⟩⟩
  by_cases hroom : m + 1 ≤ c
  · rcases k.ex with ⟨_, e⟩ | ⟨b, cs, rfl, hb, r, hl, hc⟩
    · omega
    · refine happ_room (size := 4) Fc.u28 Fc.sz31 src hroom (fun v hv => ?_) (fun j hj => HW_row r (by simp [Info.vals] at hj; omega)) ?_
      · simp [Info.vals] at hv; rcases hv with rfl | rfl | rfl | rfl <;> rfl
      refine hk _ c _ (fr_hsets _ (fun _ => hb)) ⟨hroom, .inr ⟨b, _, rfl, hb, hsets_row _ r, by rw [sets_size]; exact hl, fun i hi => ?_⟩⟩
      have hsz : (0 + m * 4) + (I m).vals.length ≤ cs.size := by simp [Info.vals]; omega
      have key : ∀ j, j < 4 → (sets cs (0 + m * 4) (I m).vals)[i * 4 + j]? = if i = m then (I m).vals[j]? else cs[i * 4 + j]? := by
        intro j hj
        rw [sets_get _ _ _ _ hsz]
        have hv : (I m).vals.length = 4 := rfl
        rw [hv]
        by_cases e : i = m
        · rw [if_pos e, if_pos (by omega)]
          have : i * 4 + j - (0 + m * 4) = j := by omega
          rw [this]
        · rw [if_neg e, if_neg (by omega)]
      by_cases e : i = m
      · subst e
        exact ⟨by have := key 0 (by omega); rw [if_pos rfl] at this; exact this, by have := key 1 (by omega); rw [if_pos rfl] at this; exact this, by have := key 2 (by omega); rw [if_pos rfl] at this; exact this, by have := key 3 (by omega); rw [if_pos rfl] at this; exact this⟩
      · have h0 := hc i (by omega)
        exact ⟨by have := key 0 (by omega); rw [if_neg e] at this; exact this.trans h0.c0, by have := key 1 (by omega); rw [if_neg e] at this; exact this.trans h0.c1, by have := key 2 (by omega); rw [if_neg e] at this; exact this.trans h0.c2, by have := key 3 (by omega); rw [if_neg e] at this; exact this.trans h0.c3⟩
  · have hle := k.le
    have old : ∃ olds : List Value, Src h (.slice a m c) m 4 olds ∧ ∀ i, i < m → ∀ j, j < 4 → olds[i * 4 + j]? = (I i).vals[j]? := by
      rcases k.ex with ⟨e, e0⟩ | ⟨b, cs, rfl, hb, r, hl, hc⟩
      · have : m = 0 := by omega
        subst this
        exact ⟨[], ⟨rfl, .inl ⟨c, by rw [e], rfl⟩⟩, fun i hi => by omega⟩
      · refine ⟨cs.toList.take (m * 4), ⟨by simp; omega, .inr ⟨b, 0, c, rfl, fun j u hu => ?_⟩⟩, fun i hi j hj => ?_⟩
        · rw [hcell_row r, Nat.zero_add]
          rw [List.getElem?_take] at hu
          split at hu
          · simpa using hu
          · cases hu
        · rw [List.getElem?_take, if_pos (by omega)]
          have h0 := hc i hi
          match j, hj with
          | 0, _ => rw [Array.getElem?_toList]; exact h0.c0
          | 1, _ => rw [Array.getElem?_toList]; exact h0.c1
          | 2, _ => rw [Array.getElem?_toList]; exact h0.c2
          | 3, _ => rw [Array.getElem?_toList]; exact h0.c3
    obtain ⟨olds, hs, hol⟩ := old
    have hlen : olds.length = m * 4 := hs.1
    refine happ_grow (size := 4) (by_ := 32) (zs := [.int .i64 0, .int .u64 0, .int .i64 0, .int .i64 0]) Fc.u28 Fc.sz31 Fc.by31 Fc.z31 rfl hs src (by omega) (by omega) (by omega) ?_
    intro b cap h' eb hc1 hc2 eh
    refine hk _ cap h' (by rw [eh]; exact (Ext.push _ _).fr _) ⟨hc1, .inr ⟨b, _, rfl, by omega, by rw [eh]; exact push_new eb, ?_, fun i hi => ?_⟩⟩
    · simp [Builtin.zeroCells, hlen, Info.vals]; omega
    · have hv : (I m).vals.length = 4 := rfl
      have key : ∀ j, j < 4 → (olds ++ (I m).vals ++ (Builtin.zeroCells [Value.int .i64 0, .int .u64 0, .int .i64 0, .int .i64 0].toArray (cap - (m + 1))).toList).toArray[i * 4 + j]? = (I i).vals[j]? := by
        intro j hj
        rw [List.getElem?_toArray, List.getElem?_append_left (by rw [List.length_append, hlen, hv]; omega)]
        by_cases e : i < m
        · rw [List.getElem?_append_left (by rw [hlen]; omega)]; exact hol i e j hj
        · have : i = m := by omega
          subst this
          rw [List.getElem?_append_right (by rw [hlen]; omega), hlen]
          have : i * 4 + j - i * 4 = j := by omega
          rw [this]
      exact ⟨key 0 (by omega), key 1 (by omega), key 2 (by omega), key 3 (by omega)⟩

end Go.Proofs.Ytfdgjgjcppfmiaa
