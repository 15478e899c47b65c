/-
Slices of ints, appended to.
-/
import Derived.Test.YtfdgjgjcppfmiaaReg2
namespace Go.Proofs.Ytfdgjgjcppfmiaa
open Go

theorem Fc.u50 : Try.prog.underlying 50 = some (.slice 3) := by kernel_rfl
theorem Fc.sz3 : szB Try.prog 3 = some 1 := by kernel_rfl
theorem Fc.by3 : byB Try.prog 3 = some 8 := by kernel_rfl
theorem Fc.z3 : zeroB Try.prog 3 (.int .i64 0) := by unfold zeroB; kernel_rfl

section
variable {h : Heap} {N0 : Lo}

theorem zc_get (n i : Nat) (hi : i < n) : (Builtin.zeroCells [Value.int .i64 0].toArray n)[i]? = some (.int .i64 0) := by
  unfold Builtin.zeroCells
  rw [Array.getElem?_map, Array.getElem?_range]
  have : i < n * [Value.int .i64 0].toArray.size := by simpa using hi
  rw [if_pos this]
  simp [Nat.mod_one]
theorem zc_size (n : Nat) : (Builtin.zeroCells [Value.int .i64 0].toArray n).size = n := by unfold Builtin.zeroCells; simp

theorem app_int {a : Option Addr} {c : Nat} {L : List Int} (k : IntSl h N0 a c L) {nb : Nat} {x : Int} (hnb : hcell h nb 0 = some (.int .i64 x)) (hlen : L.length ≤ 4194304) (hN : N0.ok h.size) {K : Value → Heap → Prop}
    (hk : ∀ a' c' h', Fr (blkOf a) h h' → IntSl h' N0 a' c' (L ++ [x]) → (∀ b, blkOf a' b → blkOf a b ∨ h.size ≤ b) → (∀ b sz, IntBlk h N0 b sz → IntBlk h' N0 b sz) → K (.slice a' (L.length + 1) c') h') :
    HAppend Try.prog 50 50 (.slice a L.length c) (.slice (some ⟨nb, 0, none⟩) 1 1) h K := by
  have src : Src h (.slice (some ⟨nb, 0, none⟩) 1 1) 1 1 [.int .i64 x] := ⟨rfl, .inr ⟨nb, 0, 1, rfl, fun j u hu => by
    cases j with
    | zero => simp at hu; subst hu; simpa using hnb
    | succ j => simp at hu⟩⟩
  by_cases hroom : L.length + 1 ≤ c
  · rcases k.ex with ⟨_, e⟩ | ⟨b, o, rfl, kb, kc⟩
    · omega
    · obtain ⟨cs, e1, e2, e3⟩ := kb.ex
      refine happ_room (size := 1) Fc.u50 Fc.sz3 src hroom (fun v hv => by simp at hv; subst hv; rfl) (fun j hj => HW_row e1 (by simp at hj; omega)) ?_
      have hrow : (hsets h b (o + L.length * 1) [.int .i64 x])[b]? = some (.cells (cs.setIfInBounds (o + L.length * 1) (.int .i64 x)) 3 (0, 0)) := hsets_row _ e1
      have blk : ∀ b' sz, IntBlk h N0 b' sz → IntBlk (hsets h b (o + L.length * 1) [.int .i64 x]) N0 b' sz := by
        intro b' sz kb'
        by_cases eb : b' = b
        · subst eb
          obtain ⟨cs', g1, g2, _⟩ := kb'.ex
          rw [e1] at g1; cases g1
          refine ⟨kb'.low, _, hrow, by simpa using g2, fun i hi => ?_⟩
          simp only [Array.size_setIfInBounds] at hi
          rw [Array.getElem?_setIfInBounds]
          by_cases ei : o + L.length * 1 = i
          · rw [if_pos ei, if_pos (by omega)]; exact ⟨x, rfl⟩
          · rw [if_neg ei]; exact e3 i hi
        · exact kb'.same (hsets_ne _ eb)
      refine hk _ c _ (fr_hsets (blkOf (some ⟨b, o, none⟩)) (fun _ => ⟨o, rfl⟩)) ⟨by simp; exact hroom, .inr ⟨b, o, rfl, blk b _ kb, fun i z hz => ?_⟩⟩ (fun b' hb' => .inl hb') blk
      rw [hcell_row hrow, Nat.mul_one]
      by_cases hi : i < L.length
      · rw [Array.getElem?_setIfInBounds_ne (by omega), ← hcell_row e1]
        rw [List.getElem?_append_left hi] at hz
        exact kc i z hz
      · have hiL : i = L.length := by
          have := (List.getElem?_eq_some_iff.1 hz).1
          simp at this; omega
        subst hiL
        rw [List.getElem?_append_right (Nat.le_refl _)] at hz
        simp at hz; subst hz
        have : o + L.length < cs.size := by omega
        simp [this]
  · have hol : Src h (.slice a L.length c) L.length 1 (L.map (Value.int .i64)) := by
      refine ⟨by simp, ?_⟩
      rcases k.ex with ⟨e, e0⟩ | ⟨b, o, rfl, kb, kc⟩
      · have := k.le
        have h0 : L = [] := List.length_eq_zero_iff.1 (by omega)
        exact .inl ⟨c, by rw [h0, e], by rw [h0]; rfl⟩
      · refine .inr ⟨b, o, c, rfl, fun j u hu => ?_⟩
        rw [List.getElem?_map] at hu
        cases hz : L[j]? with
        | none => rw [hz] at hu; cases hu
        | some z => rw [hz] at hu; simp at hu; subst hu; exact kc j z hz
    refine happ_grow (size := 1) (by_ := 8) (zs := [.int .i64 0]) Fc.u50 Fc.sz3 Fc.by3 Fc.z3 rfl hol src (by omega) (by omega) (by omega) ?_
    intro b cap h' eb hc1 hc2 eh
    have hrow : h'[b]? = some (.cells (L.map (Value.int .i64) ++ [Value.int .i64 x] ++ (Builtin.zeroCells [Value.int .i64 0].toArray (cap - (L.length + 1))).toList).toArray 3 (0, 0)) := by rw [eh]; exact push_new eb
    have ex : Ext h h' := by rw [eh]; exact Ext.push _ _
    refine hk _ cap h' (ex.fr _) ⟨by simp; exact hc1, .inr ⟨b, 0, rfl, ⟨by rw [eb]; exact hN, _, hrow, by simp [zc_size]; omega, fun i hi => ?_⟩, fun i z hz => ?_⟩⟩ (fun b' ⟨o, e⟩ => by cases e; exact .inr (by omega)) (fun b' sz kb => kb.same (ex.block b' kb.lt))
    · rw [List.getElem?_toArray]
      by_cases h1 : i < L.length
      · rw [List.getElem?_append_left (by simp; omega), List.getElem?_append_left (by simpa using h1)]
        exact ⟨L[i], by simp [h1]⟩
      · by_cases h2 : i = L.length
        · subst h2
          rw [List.getElem?_append_left (by simp), List.getElem?_append_right (by simp)]
          exact ⟨x, by simp⟩
        · rw [List.getElem?_append_right (by simp; omega)]
          refine ⟨0, ?_⟩
          simp only [List.length_append, List.length_map, List.length_cons, List.length_nil]
          have hi' : i - (L.length + (0 + 1)) < cap - (L.length + 1) := by
            simp [zc_size] at hi; omega
          rw [Array.getElem?_toList]
          exact zc_get _ _ hi'
    · rw [hcell_row hrow, Nat.zero_add, List.getElem?_toArray]
      have hlt := (List.getElem?_eq_some_iff.1 hz).1
      rw [List.getElem?_append_left (by simp at hlt ⊢; omega)]
      have : (L ++ [x]).map (Value.int .i64) = L.map (Value.int .i64) ++ [.int .i64 x] := by simp
      rw [← this, List.getElem?_map, hz]; rfl

/-- Whatever it holds. -/
theorem AnySl.list {a : Option Addr} {m c : Nat} (k : AnySl h N0 a m c) : ∃ L : List Int, L.length = m ∧ IntSl h N0 a c L := by
  rcases k.ex with ⟨rfl, e⟩ | ⟨b, o, rfl, kb⟩
  · have := k.le
    exact ⟨[], by simp; omega, ⟨by simp, .inl ⟨rfl, e⟩⟩⟩
  · obtain ⟨cs, e1, e2, e3⟩ := kb.ex
    have hle := k.le
    have each : ∀ i, ∃ z : Int, i < m → cs[o + i]? = some (.int .i64 z) := fun i => by
      by_cases hi : i < m
      · obtain ⟨z, hz⟩ := e3 (o + i) (by omega)
        exact ⟨z, fun _ => hz⟩
      · exact ⟨0, fun h => absurd h hi⟩
    refine ⟨(List.range m).map fun i => Classical.choose (each i), by simp, ⟨by simpa using hle, .inr ⟨b, o, rfl, kb, fun i z hz => ?_⟩⟩⟩
    have hi : i < m := by have := (List.getElem?_eq_some_iff.1 hz).1; simpa using this
    rw [List.getElem?_map, List.getElem?_range hi] at hz
    simp at hz
    rw [hcell_row e1, ← hz]
    exact Classical.choose_spec (each i) hi
theorem IntSl.any {a : Option Addr} {c : Nat} {L : List Int} (k : IntSl h N0 a c L) : AnySl h N0 a L.length c := ⟨k.le, k.ex.imp id fun ⟨b, o, e, kb, _⟩ => ⟨b, o, e, kb⟩⟩

end
end Go.Proofs.Ytfdgjgjcppfmiaa
