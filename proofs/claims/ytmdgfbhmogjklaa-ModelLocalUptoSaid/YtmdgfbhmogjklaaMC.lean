/-
The lossy map's functions: third part.
-/
import Derived.Test.YtmdgfbhmogjklaaMB
import Derived.Test.YtmdgfbhmogjklaaShC
namespace Go.Proofs.Ytmdgfbhmogjklaa
open Go Ml

abbrev tMt : TypeId := 40
abbrev tMts : TypeId := 27
abbrev tMv : TypeId := 31
abbrev tMvs : TypeId := 22
theorem aMt : AppT Try.prog tMts tMt eMt.k 24 := ⟨by kernel_rfl, by kernel_rfl, by kernel_rfl, ⟨.agg #[.bool false, .string ByteArray.empty], [.bool false, .string ByteArray.empty], by unfold zeroB; kernel_rfl, rfl, rfl⟩, by decide⟩
theorem aMv : AppT Try.prog tMvs tMv eMv.k 80 := ⟨by kernel_rfl, by kernel_rfl, by kernel_rfl, ⟨.agg #[.int .i64 0, .string ByteArray.empty, .string ByteArray.empty, .int .i64 0, .bool false, .int .i64 0, .int .i64 0, .int .i64 0], [.int .i64 0, .string ByteArray.empty, .string ByteArray.empty, .int .i64 0, .bool false, .int .i64 0, .int .i64 0, .int .i64 0], by unfold zeroB; kernel_rfl, rfl, rfl⟩, by decide⟩

theorem check_c (m : Mv) (h : Heap) : HC Try.prog 20 #[mvV m] h fun v h' => v = .int .i64 (check m) ∧ Ext h h' := by
  obtain ⟨k, key, val, err, hit, life, fr, to⟩ := m
  refine f20_sh _ _ _ _ _ _ _ _ _ _ ⟨fun e _ x => ⟨?_, x⟩, fun e _ x => ⟨?_, x⟩⟩
  · unfold check
    rw [if_pos]
    simp only [hits] at e ⊢
    by_cases h1 : k = 1 <;> by_cases h2 : k = 2 <;> by_cases h3 : err = 0 <;> by_cases h4 : to ≥ 0 <;> by_cases h5 : val = ByteArray.empty <;> by_cases h6 : key = ByteArray.empty <;> cases hit <;> simp_all <;> omega
  · unfold check
    rw [if_neg]
    simp only [hits] at e ⊢
    by_cases h1 : k = 1 <;> by_cases h2 : k = 2 <;> by_cases h3 : err = 0 <;> by_cases h4 : to ≥ 0 <;> by_cases h5 : val = ByteArray.empty <;> by_cases h6 : key = ByteArray.empty <;> cases hit <;> simp_all <;> omega
theorem compare_c (a b : Mt) (h : Heap) : HC Try.prog 33 #[mtV a, mtV b] h fun v h' => v = .int .i64 (mcmp a b) ∧ Ext h h' := by
  obtain ⟨a1, a2⟩ := a
  obtain ⟨b1, b2⟩ := b
  have key : ∀ r : Int, (a1 = b1 → r = scmp a2 b2) → (a1 ≠ b1 → r = if b1 then -1 else 1) → r = mcmp ⟨a1, a2⟩ ⟨b1, b2⟩ := by
    intro r h1 h2
    by_cases e : a1 = b1
    · rw [h1 e]
      subst e
      unfold mcmp scmp mlt
      simp only [Mt.mk.injEq, true_and, if_true]
      cases e1 : slt a2 b2 with
      | true =>
        have : a2 ≠ b2 := fun e => by rw [e, slt_irrefl] at e1; cases e1
        simp [this]
      | false =>
        rcases slt_or e1 with e2 | e2
        · subst e2; simp [slt_irrefl]
        · have : a2 ≠ b2 := fun e => by rw [e, slt_irrefl] at e2; cases e2
          simp [this, e2]
    · rw [h2 e]
      unfold mcmp mlt
      simp [e]
  refine f33_sh _ _ _ _ _ _ ⟨fun e _ x => ⟨?_, x⟩, fun e => ⟨fun e2 _ x => ⟨?_, x⟩, fun e2 _ x => ⟨?_, x⟩⟩⟩
  · simp at e
    rw [← key _ (fun _ => rfl) (fun h => absurd e h)]
  · simp at e
    rw [← key (-1) (fun h => absurd h e) (fun _ => by simp at e2; simp [e2])]
  · simp at e
    rw [← key 1 (fun h => absurd h e) (fun _ => by simp at e2; simp [e2])]
theorem start_c (h : Heap) : HC Try.prog 23 #[] h fun v h' => New eMt tMt h h' v Ml.start :=
  f23_sh _ _ fun _ x _ _ eb eh => New.lit x eb eh rfl rfl
theorem rstart_c (h : Heap) : HC Try.prog 27 #[] h fun v h' => New eMt tMt h h' v Ml.start :=
  f27_sh _ _ fun _ _ eb eh => New.lit (Ext.refl _) eb eh rfl rfl
theorem gets_c (w : Mt) (m : Mv) (hk : m.kind = 1) (h : Heap) : HC Try.prog 39 #[mtV w, mvV m] h fun v h' => New eMt tMt h h' v (outs m w) := by
  refine f39_sh _ _ _ _ _ _ _ _ _ _ _ _ ⟨fun e _ x => ?_, fun e _ x _ _ eb eh => ?_⟩
  · have : outs m w = [] := by
      unfold outs; rw [if_pos hk, if_pos]
      simp at e; exact ⟨e.1, e.2⟩
    rw [this]; exact New.nil x
  · have : outs m w = [w] := by
      unfold outs; rw [if_pos hk, if_neg]
      rintro ⟨h1, h2⟩
      have h3 : hits ⟨m.kind, m.key, m.val, m.err, m.hit, m.life, m.fr, m.to⟩ = true := h1
      rw [h3] at e
      simp at e
      rcases h2 with h2 | h2
      · rw [h2] at e; simp at e
      · exact h2 e.2
    rw [this]; exact New.lit x eb eh rfl rfl
theorem puts_c (w : Mt) (m : Mv) (hk : m.kind = 2) (h : Heap) : HC Try.prog 40 #[mtV w, mvV m] h fun v h' => New eMt tMt h h' v (outs m w) := by
  have e0 : outs m w = putF (fate m) ⟨true, m.val⟩ w := by unfold outs; rw [if_neg (by omega), if_pos hk]
  have eta : (⟨m.kind, m.key, m.val, m.err, m.hit, m.life, m.fr, m.to⟩ : Mv) = m := rfl
  refine f40_sh _ _ _ _ _ _ _ _ _ _ _ _ ⟨fun e _ _ _ _ _ _ _ x _ _ eb eh => ?_, fun e1 => ⟨fun e _ _ h5 _ _ _ _ x => ?_, fun e2 => ⟨fun e _ _ _ _ x _ _ eb eh => ?_, fun e3 _ x _ _ eb eh => ?_⟩⟩⟩
  · have hf : fate m = 1 := by simp only [eta, beq_iff_eq] at e; omega
    rw [e0, hf]; exact New.lit x eb eh rfl rfl
  · have hf : fate m = 2 := by simp only [eta, beq_iff_eq] at e; omega
    rw [e0, hf]
    refine (start_c h5).mono ?_
    rintro v h7 ⟨a, c, rfl, x7, s7, w7⟩
    exact ⟨x7.kp _, a, _, c, rfl, a, c, rfl, x.trans x7, s7, w7.down x.size⟩
  · have hf : fate m = 3 := by simp only [eta, beq_iff_eq] at e; omega
    rw [e0, hf]; exact New.lit x eb eh rfl rfl
  · have hf : fate m ≠ 1 ∧ fate m ≠ 2 ∧ fate m ≠ 3 := by simp [eta] at e1 e2 e3; omega
    have : putF (fate m) ⟨true, m.val⟩ w = [w] := by unfold putF; rw [if_neg hf.1, if_neg hf.2.1, if_neg hf.2.2]
    rw [e0, this]; exact New.lit x eb eh rfl rfl
theorem deletes_c (w : Mt) (m : Mv) (hk : m.kind = 3) (h : Heap) : HC Try.prog 41 #[mtV w, mvV m] h fun v h' => New eMt tMt h h' v (outs m w) := by
  have e0 : outs m w = delF (fate m) w := by unfold outs; rw [if_neg (by omega), if_neg (by omega), if_pos hk]
  have eta : (⟨m.kind, m.key, m.val, m.err, m.hit, m.life, m.fr, m.to⟩ : Mv) = m := rfl
  refine f41_sh _ _ _ _ _ _ _ _ _ _ _ _ ⟨fun e _ h5 _ _ x => ?_, fun e1 => ⟨fun e _ _ _ _ x _ _ eb eh => ?_, fun e3 _ x _ _ eb eh => ?_⟩⟩
  · have hf : fate m = 1 := by simp only [eta, beq_iff_eq] at e; omega
    rw [e0, hf]
    refine (start_c h5).mono ?_
    rintro v h7 ⟨a, c, rfl, x7, s7, w7⟩
    exact ⟨x7.kp _, a, _, c, rfl, a, c, rfl, x.trans x7, s7, w7.down x.size⟩
  · have hf : fate m = 3 := by simp only [eta, beq_iff_eq] at e; omega
    rw [e0, hf]; exact New.lit x eb eh rfl rfl
  · have hf : fate m ≠ 1 ∧ fate m ≠ 3 := by simp [eta] at e1 e3; omega
    have : delF (fate m) w = [w] := by unfold delF; rw [if_neg hf.1, if_neg hf.2]
    rw [e0, this]; exact New.lit x eb eh rfl rfl
theorem other_c (w : Mt) (m : Mv) (hk : m.kind ≠ 1 ∧ m.kind ≠ 2 ∧ m.kind ≠ 3) (h : Heap) : HC Try.prog 31 #[mtV w, mvV m] h fun v h' => New eMt tMt h h' v (outs m w) := by
  have : outs m w = [w] := by unfold outs; rw [if_neg hk.1, if_neg hk.2.1, if_neg hk.2.2]
  rw [this]
  exact f31_sh _ _ _ _ _ _ _ _ _ _ _ _ fun _ x _ _ eb eh => New.lit x eb eh rfl rfl
end Go.Proofs.Ytmdgfbhmogjklaa
