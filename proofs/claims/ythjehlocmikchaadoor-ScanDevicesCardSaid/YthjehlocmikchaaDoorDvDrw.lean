import Derived.Test.YthjehlocmikchaaDoorDvDraw
namespace Go.Proofs.YthjehlocmikchaaDoor
open Go
inductive PT where
  | done
  | one (i : Nat) (t : PT)
  | fork (is : List Nat) (t : Nat → PT)
def treeB (ops : Array Oper) (anc : List Nat) (ks : List Kd) : Nat → PT → Array Bool → Bool
  | _, .done, l => (Region.ready .any ops l).isEmpty
  | f + 1, .one i t, l => stepB ops anc ks i l && treeB ops anc ks f t (l.setIfInBounds i true)
  | f + 1, .fork is t, l => !is.isEmpty && (Region.ready .any ops l == is) && is.all fun i => treeB ops anc ks f (t i) (l.setIfInBounds i true)
  | 0, _, _ => false
def HOne (P : Program) (ops : Array Oper) (ks : List Kd) (T : Heap → Heap → Prop) (C : Regs → Heap → Prop) (i : Nat) (ρ : Regs) (h : Heap) : Prop :=
  match ops[i]? with
  | none => False
  | some o => if Region.wanted o (yl ops ρ) then (match kdOf ks i with
      | .pure => ∃ v, (∀ h', HVal P ρ o h' v) ∧ C (updo ρ o.dst v) h
      | .read => ∃ v, (∀ h', Ext h h' → HVal P ρ o h' v) ∧ C (updo ρ o.dst v) h
      | .stay => ∃ v, (∀ h', T h h' → HVal P ρ o h' v) ∧ C (updo ρ o.dst v) h
      | k => HStep P ρ o h fun v h' => k.ok T h h' ∧ C (updo ρ o.dst v) h')
    else C (updo ρ o.dst undef) h
def HTree (P : Program) (ops : Array Oper) (ks : List Kd) (T : Heap → Heap → Prop) (Q : Regs → Heap → Prop) : PT → Regs → Heap → Prop
  | .done, ρ, h => Q ρ h
  | .one i t, ρ, h => HOne P ops ks T (HTree P ops ks T Q t) i ρ h
  | .fork is t, ρ, h => ∀ i ∈ is, HOne P ops ks T (HTree P ops ks T Q (t i)) i ρ h
theorem hOp_of_one {P : Program} {ops : Array Oper} {ks : List Kd} {T : Heap → Heap → Prop} (hT : Fit T) {C : Regs → Heap → Prop} {i : Nat} {ρ : Regs} {h : Heap} (hp : HOne P ops ks T C i ρ h) : hOp P ops (fun i => (kdOf ks i).ok T) i C ρ h := by
  unfold HOne at hp
  unfold hOp
  cases ho : ops[i]? with
  | none => rw [ho] at hp; exact hp.elim
  | some o =>
    simp only [ho] at hp
    simp only
    by_cases hw : Region.wanted o (yl ops ρ) = true
    · rw [if_pos hw] at hp ⊢
      cases hk : kdOf ks i with
      | pure => simp only [hk] at hp; obtain ⟨v, hv, hn⟩ := hp; exact HStep.of_val (hv h) ⟨rfl, hn⟩
      | read => simp only [hk] at hp; obtain ⟨v, hv, hn⟩ := hp; exact HStep.of_val (hv h (Ext.refl h)) ⟨rfl, hn⟩
      | stay => simp only [hk] at hp; obtain ⟨v, hv, hn⟩ := hp; exact HStep.of_val (hv h (hT.refl h)) ⟨rfl, hn⟩
      | ext => simp only [hk] at hp; exact hp
      | tame => simp only [hk] at hp; exact hp
      | wild => simp only [hk] at hp; exact hp
    · rw [if_neg hw] at hp ⊢
      exact hp
theorem hAny_step {P : Program} {ops : Array Oper} {ks : List Kd} {T : Heap → Heap → Prop} {Q : Regs → Heap → Prop} (hT : Fit T) (hs : Region.noSelect ops = true) {f i : Nat} {l : Array Bool} {ρ : Regs} {h : Heap} {C : Regs → Heap → Prop}
    (hc : Shut ops l) (hB1 : stepB ops (ancs ops.toList []) ks i l = true) (hC : i ∈ Region.ready .any ops l → ∀ ρ h, C ρ h → HAny P ops (fun i => (kdOf ks i).ok T) Q f (l.setIfInBounds i true) ρ h) (hp : HOne P ops ks T C i ρ h) :
    HAny P ops (fun i => (kdOf ks i).ok T) Q (f + 1) l ρ h := by
  have hp0 := hp
  unfold HOne at hp
  cases ho : ops[i]? with
  | none => rw [ho] at hp; exact hp.elim
  | some o =>
    simp only [ho] at hp
    have first : ∀ (U : Heap → Heap → Prop) (v : Value), (∀ h, U h h) → (∀ a b c, U a b → U b c → U a c) → (Region.ready .any ops l).contains i = true → Region.free .any ops l i = true →
        (∀ j, l.getD j true = false → ¬ Desc ops i j → ∀ h h', (kdOf ks j).ok T h h' → U h h') →
        Yl P ops o v (fun h' => U h h') ρ → C (updo ρ o.dst v) h → HAny P ops (fun i => (kdOf ks i).ok T) Q (f + 1) l ρ h := by
      intro U v hUr hUt hr hf hw hy hn
      have hr' : i ∈ Region.ready .any ops l := by simpa using hr
      exact hAny_first ho (Region.noSelect_spec hs) (fun i h => Kd.ok_refl hT _ h) U hUr hUt f l ρ h hc (Region.free_spec ho hf) hw hr' hy (hC hr' _ _ hn)
    have uP : ∀ v, (Region.ready .any ops l).contains i = true → Region.free .any ops l i = true → Yl P ops o v (fun _ => True) ρ → C (updo ρ o.dst v) h → HAny P ops (fun i => (kdOf ks i).ok T) Q (f + 1) l ρ h :=
      fun v hr hf hy hn => first (fun _ _ => True) v (fun _ => trivial) (fun _ _ _ _ _ => trivial) hr hf (fun _ _ _ _ _ _ => trivial) hy hn
    have uR : ∀ v, (Region.ready .any ops l).contains i = true → Region.free .any ops l i = true → aheadB (fun k => k == .wild || k == .tame) (ancs ops.toList []) ks i l = true → Yl P ops o v (fun h' => Ext h h') ρ → C (updo ρ o.dst v) h → HAny P ops (fun i => (kdOf ks i).ok T) Q (f + 1) l ρ h := by
      intro v hr hf hb hy hn
      refine first Ext v Ext.refl (fun _ _ _ => Ext.trans) hr hf (fun j hun hd h h' hk => ?_) hy hn
      have := aheadB_spec (by rfl) hb hun hd
      exact Kd.ok_ext (fun e => by rw [e] at this; simp at this) (fun e => by rw [e] at this; simp at this) hk
    have uS : ∀ v, (Region.ready .any ops l).contains i = true → Region.free .any ops l i = true → aheadB (fun k => k == .wild) (ancs ops.toList []) ks i l = true → Yl P ops o v (fun h' => T h h') ρ → C (updo ρ o.dst v) h → HAny P ops (fun i => (kdOf ks i).ok T) Q (f + 1) l ρ h := by
      intro v hr hf hb hy hn
      refine first T v hT.refl hT.trans hr hf (fun j hun hd h h' hk => ?_) hy hn
      have := aheadB_spec (by rfl) hb hun hd
      exact Kd.ok_T hT (fun e => by rw [e] at this; simp at this) hk
    have lone : ∀ (_hr : Region.ready .any ops l = [i]), HAny P ops (fun i => (kdOf ks i).ok T) Q (f + 1) l ρ h := by
      intro hr
      refine ⟨fun h => (by rw [hr] at h; cases h), fun j hj => ?_⟩
      rw [hr] at hj
      obtain rfl : j = i := by simpa using hj
      exact hOp_mono (hC (by rw [hr]; simp)) (hOp_of_one hT hp0)
    unfold stepB at hB1
    by_cases hw : Region.wanted o (yl ops ρ) = true
    · simp only [hw, if_true] at hp
      cases hk : kdOf ks i with
      | pure =>
        simp only [hk, Bool.and_eq_true] at hB1 hp
        obtain ⟨v, hv, hn⟩ := hp
        exact uP v hB1.1 hB1.2 (.inl ⟨hw, fun h' _ => hv h'⟩) hn
      | read =>
        simp only [hk, Bool.and_eq_true] at hB1 hp
        obtain ⟨v, hv, hn⟩ := hp
        exact uR v hB1.1.1 hB1.1.2 hB1.2 (.inl ⟨hw, fun h' hh' => hv h' hh'⟩) hn
      | stay =>
        simp only [hk, Bool.and_eq_true] at hB1 hp
        obtain ⟨v, hv, hn⟩ := hp
        exact uS v hB1.1.1 hB1.1.2 hB1.2 (.inl ⟨hw, fun h' hh' => hv h' hh'⟩) hn
      | ext => simp only [hk, beq_iff_eq] at hB1; exact lone hB1
      | tame => simp only [hk, beq_iff_eq] at hB1; exact lone hB1
      | wild => simp only [hk, beq_iff_eq] at hB1; exact lone hB1
    · have hw' : Region.wanted o (yl ops ρ) = false := by simpa using hw
      simp only [hw', Bool.false_eq_true, if_false] at hp
      cases hk : kdOf ks i with
      | pure =>
        simp only [hk, Bool.and_eq_true] at hB1
        exact uP undef hB1.1 hB1.2 (.inr ⟨hw', rfl⟩) hp
      | read =>
        simp only [hk, Bool.and_eq_true] at hB1
        exact uR undef hB1.1.1 hB1.1.2 hB1.2 (.inr ⟨hw', rfl⟩) hp
      | stay =>
        simp only [hk, Bool.and_eq_true] at hB1
        exact uS undef hB1.1.1 hB1.1.2 hB1.2 (.inr ⟨hw', rfl⟩) hp
      | ext => simp only [hk, beq_iff_eq] at hB1; exact lone hB1
      | tame => simp only [hk, beq_iff_eq] at hB1; exact lone hB1
      | wild => simp only [hk, beq_iff_eq] at hB1; exact lone hB1
theorem hAny_of_tree {P : Program} {ops : Array Oper} {ks : List Kd} {T : Heap → Heap → Prop} {Q : Regs → Heap → Prop} (hT : Fit T) (hs : Region.noSelect ops = true) :
    ∀ (t : PT) (f : Nat) (l : Array Bool) (ρ : Regs) (h : Heap), Shut ops l → treeB ops (ancs ops.toList []) ks f t l = true → HTree P ops ks T Q t ρ h → HAny P ops (fun i => (kdOf ks i).ok T) Q f l ρ h := by
  intro t
  induction t with
  | done =>
    intro f l ρ h hc hB hp
    have hr : Region.ready .any ops l = [] := by cases f <;> simpa [treeB] using hB
    cases f with
    | zero => exact ⟨hr, hp⟩
    | succ f => exact ⟨fun _ => hp, fun i hi => by rw [hr] at hi; cases hi⟩
  | one i t ih =>
    intro f l ρ h hc hB hp
    cases f with
    | zero => simp [treeB] at hB
    | succ f =>
      simp only [treeB, Bool.and_eq_true] at hB
      exact hAny_step hT hs hc hB.1 (fun hi ρ' h' hn => ih f _ ρ' h' (hc.set hi) hB.2 hn) hp
  | fork is t ih =>
    intro f l ρ h hc hB hp
    cases f with
    | zero => simp [treeB] at hB
    | succ f =>
      simp only [treeB, Bool.and_eq_true, beq_iff_eq, List.all_eq_true] at hB
      obtain ⟨⟨hne, hB⟩, hall⟩ := hB
      replace hB := And.intro hB hall
      cases his : is with
      | nil =>
        rw [his] at hne; simp at hne
      | cons i0 is' =>
        refine ⟨fun hr => (by rw [hB.1, his] at hr; cases hr), fun i hi => ?_⟩
        have hi' := hi
        rw [hB.1] at hi'
        exact hOp_mono (fun ρ' h' hn => ih i f _ ρ' h' (hc.set hi) (hB.2 i hi') hn) (hOp_of_one hT (hp i hi'))
def regT (n : Nat) (ops : Array Oper) (ks : List Kd) (t : PT) : Bool :=
  Region.noSelect ops && ops.all (dstB n) && treeB ops (ancs ops.toList []) ks ops.size t (Array.replicate ops.size false)
theorem hx_tree {m : Mo} {P : Program} {n : Nat} {Q : Exit → Regs → Heap → Prop} {ρ : Regs} {h : Heap} {id : Nat} {l : List Oper} (hmix : P.follows .mixedOrders = true) (T : Heap → Heap → Prop) (hT : Fit T) (ks : List Kd) (t : PT)
    (hB : regT n l.toArray ks t = true) (hp : HTree P l.toArray ks T (Q .normal) t ρ h) : HX m P n (.region id l.toArray true) Q ρ h := by
  intro N a w s hm hw
  simp only [regT, Bool.and_eq_true] at hB
  obtain ⟨⟨h1, h2⟩, h4⟩ := hB
  have hd : ∀ (i : Nat) (o : Oper), (l.toArray)[i]? = some o → dstB n o = true := fun i o ho => Array.all_eq_true_iff_forall_mem.1 h2 o (Array.mem_of_getElem? ho)
  refine wpIn_mono (wpIn_region_any hmix (wpAny_of_hAny (kd := fun i => (kdOf ks i).ok T) (Q := Q .normal) (w0 := w) hd _ _ ρ h a _ s hm hw ⟨rfl, rfl, rfl, Nat.le_succ _, HG.refl _⟩ ?_)) fun _ _ _ ⟨he, g1, ρ', g2, g3, g4⟩ => ⟨g1, ρ', g2, g3, by rw [he]; exact g4⟩
  refine hAny_of_tree hT h1 t _ _ ρ h (fun j o _ hl => ?_) h4 hp
  have : (Array.replicate l.toArray.size false).getD j false = false := by
    rcases Nat.lt_or_ge j l.toArray.size with h | h <;> simp [Array.getD, h]
  rw [this] at hl; cases hl
section
variable {P : Program} {ops : Array Oper} {ks : List Kd} {T : Heap → Heap → Prop} {Q : Regs → Heap → Prop} {i : Nat} {t : PT} {ρ : Regs} {h : Heap} {o : Oper}
theorem ht_done (hq : Q ρ h) : HTree P ops ks T Q .done ρ h := hq
theorem ho_pure {C : Regs → Heap → Prop} (ho : ops[i]? = some o) (hw : Region.wanted o (yl ops ρ) = true) (hk : kdOf ks i = .pure) (v : Value) (hv : ∀ h', HVal P ρ o h' v) (hn : C (updo ρ o.dst v) h) : HOne P ops ks T C i ρ h := by
  simp only [HOne, ho, hw, if_true, hk]; exact ⟨v, hv, hn⟩
theorem ho_read {C : Regs → Heap → Prop} (ho : ops[i]? = some o) (hw : Region.wanted o (yl ops ρ) = true) (hk : kdOf ks i = .read) (v : Value) (hv : ∀ h', Ext h h' → HVal P ρ o h' v) (hn : C (updo ρ o.dst v) h) : HOne P ops ks T C i ρ h := by
  simp only [HOne, ho, hw, if_true, hk]; exact ⟨v, hv, hn⟩
theorem ho_stay {C : Regs → Heap → Prop} (ho : ops[i]? = some o) (hw : Region.wanted o (yl ops ρ) = true) (hk : kdOf ks i = .stay) (v : Value) (hv : ∀ h', T h h' → HVal P ρ o h' v) (hn : C (updo ρ o.dst v) h) : HOne P ops ks T C i ρ h := by
  simp only [HOne, ho, hw, if_true, hk]; exact ⟨v, hv, hn⟩
theorem ho_tame {C : Regs → Heap → Prop} (ho : ops[i]? = some o) (hw : Region.wanted o (yl ops ρ) = true) (hk : kdOf ks i = .tame) (hs : HStep P ρ o h fun v h' => T h h' ∧ C (updo ρ o.dst v) h') : HOne P ops ks T C i ρ h := by
  simp only [HOne, ho, hw, if_true, hk]; exact hs
theorem ho_ext {C : Regs → Heap → Prop} (ho : ops[i]? = some o) (hw : Region.wanted o (yl ops ρ) = true) (hk : kdOf ks i = .ext) (hs : HStep P ρ o h fun v h' => Ext h h' ∧ C (updo ρ o.dst v) h') : HOne P ops ks T C i ρ h := by
  simp only [HOne, ho, hw, if_true, hk]; exact hs
theorem ho_wild {C : Regs → Heap → Prop} (ho : ops[i]? = some o) (hw : Region.wanted o (yl ops ρ) = true) (hk : kdOf ks i = .wild) (hs : HStep P ρ o h fun v h' => C (updo ρ o.dst v) h') : HOne P ops ks T C i ρ h := by
  simp only [HOne, ho, hw, if_true, hk]; exact hs.mono fun v h' hn => ⟨trivial, hn⟩
theorem ht_one (hp : HOne P ops ks T (HTree P ops ks T Q t) i ρ h) : HTree P ops ks T Q (.one i t) ρ h := hp
theorem ht_fork2 {i j : Nat} {u : PT} {f : Nat → PT} (hi : f i = t) (hj : f j = u) (h1 : HOne P ops ks T (HTree P ops ks T Q t) i ρ h) (h2 : HOne P ops ks T (HTree P ops ks T Q u) j ρ h) : HTree P ops ks T Q (.fork [i, j] f) ρ h := by
  intro k hk
  simp only [List.mem_cons, List.not_mem_nil, or_false] at hk
  rcases hk with rfl | rfl
  · rw [hi]; exact h1
  · rw [hj]; exact h2
end
end Go.Proofs.YthjehlocmikchaaDoor
