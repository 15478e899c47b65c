import Derived.Test.YthjehlocmikchaaDoorDvEng
namespace Go.Proofs.YthjehlocmikchaaDoor
open Go
inductive Kd where
  | pure | read | stay | ext | tame | wild
  deriving DecidableEq
def Kd.ok (T : Heap → Heap → Prop) : Kd → Heap → Heap → Prop
  | .pure, h, h' => h' = h
  | .read, h, h' => h' = h
  | .stay, h, h' => h' = h
  | .ext, h, h' => Ext h h'
  | .tame, h, h' => T h h'
  | .wild, _, _ => True
structure Fit (T : Heap → Heap → Prop) : Prop where
  ext : ∀ h h', Ext h h' → T h h'
  trans : ∀ a b c, T a b → T b c → T a c
theorem Fit.refl {T : Heap → Heap → Prop} (f : Fit T) (h : Heap) : T h h := f.ext _ _ (Ext.refl h)
theorem fit_true : Fit (fun _ _ => True) := ⟨fun _ _ _ => trivial, fun _ _ _ _ _ => trivial⟩
theorem Kd.ok_refl {T : Heap → Heap → Prop} (f : Fit T) (k : Kd) (h : Heap) : k.ok T h h := by
  cases k <;> first | rfl | exact Ext.refl _ | exact f.refl h | trivial
theorem Kd.ok_ext {T : Heap → Heap → Prop} {k : Kd} (hk : k ≠ .wild) (hk' : k ≠ .tame) {h h' : Heap} (ho : k.ok T h h') : Ext h h' := by
  cases k with
  | pure => rw [show h' = h from ho]; exact Ext.refl _
  | read => rw [show h' = h from ho]; exact Ext.refl _
  | stay => rw [show h' = h from ho]; exact Ext.refl _
  | ext => exact ho
  | tame => exact absurd rfl hk'
  | wild => exact absurd rfl hk
theorem Kd.ok_T {T : Heap → Heap → Prop} (f : Fit T) {k : Kd} (hk : k ≠ .wild) {h h' : Heap} (ho : k.ok T h h') : T h h' := by
  cases k with
  | tame => exact ho
  | wild => exact absurd rfl hk
  | _ => exact f.ext _ _ (Kd.ok_ext (by simp) (by simp) ho)
section
variable (P : Program) (ops : Array Oper) (kd : Nat → Heap → Heap → Prop)
def hOp (i : Nat) (K : Regs → Heap → Prop) (ρ : Regs) (h : Heap) : Prop :=
  match ops[i]? with
  | none => K ρ h
  | some o => if Region.wanted o (yl ops ρ) then HStep P ρ o h (fun v h' => kd i h h' ∧ K (updo ρ o.dst v) h') else K (updo ρ o.dst undef) h
def HAny (Q : Regs → Heap → Prop) : Nat → Array Bool → Regs → Heap → Prop
  | 0, l, ρ, h => Region.ready .any ops l = [] ∧ Q ρ h
  | f + 1, l, ρ, h => (Region.ready .any ops l = [] → Q ρ h) ∧ ∀ i ∈ Region.ready .any ops l, hOp P ops kd i (HAny Q f (l.setIfInBounds i true)) ρ h
variable {P ops kd}
theorem hOp_mono {i : Nat} {K K' : Regs → Heap → Prop} {ρ : Regs} {h : Heap} (hk : ∀ ρ h, K ρ h → K' ρ h) (hh : hOp P ops kd i K ρ h) : hOp P ops kd i K' ρ h := by
  unfold hOp at *
  split
  · rename_i ho; simp only [ho] at hh; exact hk _ _ hh
  · rename_i o ho
    simp only [ho] at hh
    split
    · rename_i hw; rw [if_pos hw] at hh; exact hh.mono fun v h' ⟨h1, h2⟩ => ⟨h1, hk _ _ h2⟩
    · rename_i hw; rw [if_neg hw] at hh; exact hk _ _ hh
theorem wpOp_of_hOp {m : Mo} {N n i : Nat} {K : Regs → Heap → Prop} {K' : Act → World → Prop} {Q' : Exit → Act → World → Prop} {ρ : Regs} {h : Heap} {a : Act} {w w0 : World}
    (hd : ∀ o, ops[i]? = some o → dstB n o = true) (s : St n ρ a) (hm : Marks m N a.defers w.heap) (hw : w.heap = h) (h0 : Sim w0 w)
    (hk : ∀ ρ h a w, St n ρ a → Marks m N a.defers w.heap → w.heap = h → Sim w0 w → K ρ h → K' a w) (hh : hOp P ops kd i K ρ h) : wpOpIn m.fence 0 P ops Q' i K' a w := by
  unfold hOp at hh
  unfold wpOpIn
  split
  · rename_i ho; simp only [ho] at hh; exact hk _ _ _ _ s hm hw h0 hh
  · rename_i o ho
    simp only [ho] at hh
    rw [s.yielded]
    split
    · rename_i hw'; rw [if_pos hw'] at hh
      exact wp_of_step hh s hw h0 hm fun v w' h1 h2 h3 => hk _ _ _ _ (s.put (dstB_spec (hd o ho)) v) h2 rfl h1 h3.2
    · rename_i hw'; rw [if_neg hw'] at hh
      exact ⟨fun _ _ => trivial, hk _ _ _ _ (s.put (dstB_spec (hd o ho)) _) (by rw [put_defers]; exact hm) hw h0 hh⟩
theorem wpAny_of_hAny {m : Mo} {N n : Nat} {Q : Regs → Heap → Prop} {w0 : World} (hd : ∀ (i : Nat) (o : Oper), ops[i]? = some o → dstB n o = true) : ∀ (f : Nat) (l : Array Bool) (ρ : Regs) (h : Heap) (a : Act) (w : World),
    St n ρ a → Marks m N a.defers w.heap → w.heap = h → Sim w0 w → HAny P ops kd Q f l ρ h → wpAnyIn m.fence 0 P .any ops (RQ m N n w0 Q) f l a w
  | 0, _, ρ, _, _, _, s, hm, hw, h0, hh => ⟨hh.1, rfl, h0, ρ, s, hm, by rw [hw]; exact hh.2⟩
  | f + 1, l, ρ, _, _, _, s, hm, hw, h0, hh => ⟨fun hr => ⟨rfl, h0, ρ, s, hm, by rw [hw]; exact hh.1 hr⟩, fun i hi =>
      wpOp_of_hOp (fun o ho => hd i o ho) s hm hw h0 (fun ρ' h' a' w' s' hm' hw' h0' hk => wpAny_of_hAny hd f _ ρ' h' a' w' s' hm' hw' h0' hk) (hh.2 i hi)⟩
theorem ev_updo {ρ : Regs} {dst : Option Nat} {v : Value} {x : Operand} (h : ∀ d, dst = some d → x ≠ .tmp d) : ev (updo ρ dst v) x = ev ρ x := by
  cases dst with
  | none => rfl
  | some d => cases x with
    | tmp t => exact upd_ne _ _ (fun e => h d rfl (by rw [e]))
    | _ => rfl
theorem exec_updo (o : Oper) (hs : ∀ cs b, o.op ≠ .select cs b) (ρ : Regs) (dst : Option Nat) (v : Value) (h : ∀ d, dst = some d → d ∉ o.looksAt ops) :
    execOp (ev (updo ρ dst v)) o = execOp (ev ρ) o :=
  execOp_congr o hs fun x hx => ev_updo fun d hd hxd => h d hd (by
    subst hxd
    exact List.mem_append_left _ (List.mem_filterMap.2 ⟨.tmp d, by simpa using hx, rfl⟩))
theorem wanted_updo (o : Oper) (ρ : Regs) (dst : Option Nat) (v : Value) (h : ∀ d, dst = some d → d ∉ o.looksAt ops) :
    Region.wanted o (yl ops (updo ρ dst v)) = Region.wanted o (yl ops ρ) := by
  cases dst with
  | none => rfl
  | some d =>
    have hd := h d rfl
    unfold Region.wanted
    cases hg : o.guard with
    | none => rfl
    | some p =>
      obtain ⟨j, want⟩ := p
      simp only
      have : yl ops (updo ρ (some d) v) j = yl ops ρ j := by
        unfold yl
        cases hj : (ops[j]?).bind (·.dst) with
        | none => rfl
        | some t =>
          have hne : t ≠ d := fun e => hd (by
            subst e
            refine List.mem_append_right _ ?_
            rw [hg]
            simp [hj])
          simp only [updo]
          rw [upd_ne _ _ hne]
      rw [this]
theorem updo_comm (ρ : Regs) {x y : Option Nat} (v u : Value) (h : ∀ d, x = some d → y ≠ some d) : updo (updo ρ x v) y u = updo (updo ρ y u) x v := by
  cases x with
  | none => rfl
  | some d => cases y with
    | none => rfl
    | some e => exact upd_comm ρ v u (fun he => h d rfl (by rw [he]))
def Yl (P : Program) (ops : Array Oper) (o : Oper) (v : Value) (S : Heap → Prop) (ρ : Regs) : Prop :=
  (Region.wanted o (yl ops ρ) = true ∧ ∀ h, S h → HVal P ρ o h v) ∨ (Region.wanted o (yl ops ρ) = false ∧ v = undef)
theorem Yl.hOp {i : Nat} {o : Oper} {v : Value} {S : Heap → Prop} {ρ : Regs} {h : Heap} (hi : ops[i]? = some o) (hy : Yl P ops o v S ρ) (hS : S h) (hrf : ∀ i h, kd i h h)
    {K : Regs → Heap → Prop} (hk : K (updo ρ o.dst v) h) : hOp P ops kd i K ρ h := by
  unfold Go.Proofs.YthjehlocmikchaaDoor.hOp
  simp only [hi]
  rcases hy with ⟨hw, hv⟩ | ⟨hw, rfl⟩
  · rw [if_pos hw]
    exact HStep.of_val (hv h hS) ⟨hrf i h, hk⟩
  · rw [if_neg (by simp [hw])]; exact hk
theorem Yl.updo {o : Oper} {v : Value} {S S' : Heap → Prop} {ρ : Regs} (hs : ∀ cs b, o.op ≠ .select cs b) (hy : Yl P ops o v S ρ) {dst : Option Nat} (u : Value)
    (h : ∀ d, dst = some d → d ∉ o.looksAt ops) (hS : ∀ h, S' h → S h) : Yl P ops o v S' (updo ρ dst u) := by
  unfold Yl at *
  rw [wanted_updo o ρ dst u h]
  refine hy.imp (fun ⟨h1, h2⟩ => ⟨h1, fun h' hh' => ?_⟩) id
  have := h2 h' (hS h' hh')
  unfold HVal HStep at *
  rw [exec_updo o hs ρ dst u h]
  exact this
inductive Desc (ops : Array Oper) (i : Nat) : Nat → Prop
  | one {j : Nat} {o : Oper} {e : Edge} : ops[j]? = some o → e ∈ o.after → Region.binds .any e = true → e.on = i → Desc ops i j
  | more {j : Nat} {o : Oper} {e : Edge} : ops[j]? = some o → e ∈ o.after → Region.binds .any e = true → Desc ops i e.on → Desc ops i j
def Shut (ops : Array Oper) (l : Array Bool) : Prop := ∀ j o, ops[j]? = some o → l.getD j false = true → ∀ e ∈ o.after, Region.binds .any e = true → l.getD e.on false = true
theorem Shut.desc {l : Array Bool} (hc : Shut ops l) {i j : Nat} (hi : l.getD i false = false) (hd : Desc ops i j) : l.getD j false = false := by
  induction hd with
  | one hj he hb ho =>
    cases hl : l.getD _ false
    · rfl
    · have := hc _ _ hj hl _ he hb; rw [ho, hi] at this; cases this
  | more hj he hb _ ih =>
    cases hl : l.getD _ false
    · rfl
    · have := hc _ _ hj hl _ he hb; rw [ih] at this; cases this
theorem Shut.not_ready {l : Array Bool} (hc : Shut ops l) {i j : Nat} (hi : l.getD i false = false) (hd : Desc ops i j) : j ∉ Region.ready .any ops l := by
  intro hr
  obtain ⟨_, o, ho, hall⟩ := mem_ready.1 hr
  cases hd with
  | one hj he hb hon => rw [ho] at hj; cases hj; have := hall _ he hb; rw [hon, hi] at this; cases this
  | more hj he hb hd' => rw [ho] at hj; cases hj; have := hall _ he hb; rw [hc.desc hi hd'] at this; cases this
theorem Shut.set {l : Array Bool} (hc : Shut ops l) {i : Nat} (hi : i ∈ Region.ready .any ops l) : Shut ops (l.setIfInBounds i true) := by
  intro j o hj hl e he hb
  obtain ⟨_, oi, hoi, hall⟩ := mem_ready.1 hi
  by_cases hij : i = j
  · subst hij; rw [hoi] at hj; cases hj; exact getD_set_true (hall e he hb)
  · rw [getD_set_ne false hij] at hl; exact getD_set_true (hc j o hj hl e he hb)
theorem ready_un {l : Array Bool} {i : Nat} (hi : i ∈ Region.ready .any ops l) : l.getD i false = false := by
  have := (mem_ready.1 hi).1
  rcases Nat.lt_or_ge i l.size with h' | h'
  · simp [h'] at this ⊢; exact this
  · simp [Array.getElem?_eq_none h']
theorem hAny_first {Q : Regs → Heap → Prop} {i : Nat} {oi : Oper} {v : Value} (hi : ops[i]? = some oi) (hsel : ∀ (j : Nat) (o : Oper) cs b, ops[j]? = some o → o.op ≠ .select cs b)
    (hrf : ∀ i h, kd i h h) (U : Heap → Heap → Prop) (hUr : ∀ h, U h h) (hUt : ∀ a b c, U a b → U b c → U a c) : ∀ (f : Nat) (l : Array Bool) (ρ : Regs) (h : Heap), Shut ops l →
      (∀ j oj, ops[j]? = some oj → j ≠ i → l.getD j true = false → (∀ e ∈ oj.after, Region.binds .any e = true → e.on ≠ i) → oi.apart ops oj = true) →
      (∀ j, l.getD j true = false → ¬ Desc ops i j → ∀ h h', kd j h h' → U h h') →
      i ∈ Region.ready .any ops l → Yl P ops oi v (fun h' => U h h') ρ →
      HAny P ops kd Q f (l.setIfInBounds i true) (updo ρ oi.dst v) h → HAny P ops kd Q (f + 1) l ρ h := by
  intro f
  induction f with
  | zero =>
    intro l ρ h hc _ _ hr hy H
    refine ⟨fun h => (by rw [h] at hr; cases hr), fun j hj => ?_⟩
    by_cases hji : j = i
    · subst hji; exact hy.hOp hi (hUr _) hrf H
    · have := ready_mono hj hji
      rw [H.1] at this
      cases this
  | succ f ih =>
    intro l ρ h hc hfree hwild hr hy H
    refine ⟨fun h => (by rw [h] at hr; cases hr), fun j hj => ?_⟩
    by_cases hji : j = i
    · subst hji; exact hy.hOp hi (hUr _) hrf H
    · have h1 := H.2 j (ready_mono hj hji)
      obtain ⟨hjun, oj, hoj, hall⟩ := mem_ready.1 hj
      have hiun := ready_un hr
      have hnot : ∀ e ∈ oj.after, Region.binds .any e = true → e.on ≠ i := fun e he hb heq => by
        have h1 := hall e he hb; rw [heq, hiun] at h1; cases h1
      obtain ⟨a1, a2, a3⟩ := Oper.apart_spec (hfree j oj hoj hji hjun hnot)
      have hkw : ∀ h h', kd j h h' → U h h' := hwild j hjun (fun hd => hc.not_ready hiun hd hj)
      -- what is known at the next state
      have hfree' : ∀ k ok, ops[k]? = some ok → k ≠ i → (l.setIfInBounds j true).getD k true = false →
          (∀ e ∈ ok.after, Region.binds .any e = true → e.on ≠ i) → oi.apart ops ok = true := fun k ok hk hki hun hno => by
        refine hfree k ok hk hki ?_ hno
        by_cases hjk : j = k
        · subst hjk; exact hjun
        · rw [getD_set_ne true hjk] at hun; exact hun
      have hwild' : ∀ k, (l.setIfInBounds j true).getD k true = false → ¬ Desc ops i k → ∀ h h', kd k h h' → U h h' := fun k hun => by
        refine hwild k ?_
        by_cases hjk : j = k
        · subst hjk; exact hjun
        · rw [getD_set_ne true hjk] at hun; exact hun
      unfold hOp at h1 ⊢
      simp only [hoj] at h1 ⊢
      rw [wanted_updo oj ρ oi.dst v a1] at h1
      split
      · rename_i hw
        rw [if_pos hw] at h1
        have h2 : HStep P ρ oj h (fun u h' => kd j h h' ∧ HAny P ops kd Q f ((l.setIfInBounds i true).setIfInBounds j true) (updo (updo ρ oi.dst v) oj.dst u) h') := by
          unfold HStep at *
          rw [exec_updo oj (fun cs b => hsel j oj cs b hoj) ρ oi.dst v a1] at h1
          exact h1
        refine h2.mono fun u h' ⟨hk, hn⟩ => ⟨hk, ?_⟩
        refine ih (l.setIfInBounds j true) (updo ρ oj.dst u) h' (hc.set hj) hfree' hwild' (ready_mono hr (Ne.symm hji)) ?_ ?_
        · exact hy.updo (fun cs b => hsel i oi cs b hi) u a3 (fun h'' hh'' => hUt _ _ _ (hkw _ _ hk) hh'')
        · rw [Array.setIfInBounds_comm _ _ hji, ← updo_comm ρ v u a2]; exact hn
      · rename_i hw
        rw [if_neg hw] at h1
        refine ih (l.setIfInBounds j true) (updo ρ oj.dst undef) h (hc.set hj) hfree' hwild' (ready_mono hr (Ne.symm hji)) ?_ ?_
        · exact hy.updo (fun cs b => hsel i oi cs b hi) undef a3 (fun h'' hh'' => hh'')
        · rw [Array.setIfInBounds_comm _ _ hji, ← updo_comm ρ v undef a2]; exact h1
end
def ancs : List Oper → List Nat → List Nat
  | [], acc => acc
  | o :: l, acc => ancs l (acc ++ [o.after.toList.foldl (fun s e => if Region.binds .any e then s ||| (2 ^ e.on ||| acc.getD e.on 0) else s) 0])
theorem fold_mask (ops : Array Oper) (acc : List Nat) (i : Nat) : ∀ (es : List Edge) (s : Nat), (es.foldl (fun s e => if Region.binds .any e then s ||| (2 ^ e.on ||| acc.getD e.on 0) else s) s).testBit i = true →
    s.testBit i = true ∨ ∃ e ∈ es, Region.binds .any e = true ∧ (e.on = i ∨ (acc.getD e.on 0).testBit i = true)
  | [], s, h => .inl h
  | e :: es, s, h => by
    simp only [List.foldl_cons] at h
    rcases fold_mask ops acc i es _ h with h1 | ⟨e', he', h2⟩
    · by_cases hb : Region.binds .any e = true
      · rw [if_pos hb, Nat.testBit_or, Nat.testBit_or] at h1
        simp only [Bool.or_eq_true] at h1
        rcases h1 with h1 | h1 | h1
        · exact .inl h1
        · refine .inr ⟨e, by simp, hb, .inl ?_⟩
          rw [Nat.testBit_two_pow] at h1; simpa using h1
        · exact .inr ⟨e, by simp, hb, .inr h1⟩
      · rw [if_neg hb] at h1; exact .inl h1
    · exact .inr ⟨e', by simp [he'], h2⟩
theorem ancs_spec (ops : Array Oper) (i : Nat) : ∀ (l : List Oper) (acc : List Nat), (∀ k, l[k]? = ops[acc.length + k]?) → (∀ j, (acc.getD j 0).testBit i = true → Desc ops i j) →
    ∀ j, ((ancs l acc).getD j 0).testBit i = true → Desc ops i j
  | [], _, _, h => h
  | o :: l, acc, hl, h => by
    refine ancs_spec ops i l _ (fun k => ?_) (fun j hj => ?_)
    · have := hl (k + 1); simp only [List.getElem?_cons_succ] at this; rw [this]; simp; congr 1; omega
    · rw [List.getD_eq_getElem?_getD] at hj
      by_cases h1 : j < acc.length
      · rw [List.getElem?_append_left h1, ← List.getD_eq_getElem?_getD] at hj; exact h j hj
      · by_cases h2 : j = acc.length
        · subst h2
          rw [List.getElem?_append_right (Nat.le_refl _)] at hj
          simp only [Nat.sub_self, List.getElem?_cons_zero, Option.getD_some] at hj
          have ho : ops[acc.length]? = some o := by simpa using (hl 0).symm
          rcases fold_mask ops acc i o.after.toList 0 hj with h3 | ⟨e, he, hb, h3⟩
          · simp at h3
          · rcases h3 with h3 | h3
            · exact .one ho (by simpa using he) hb h3
            · exact .more ho (by simpa using he) hb (h _ h3)
        · rw [List.getElem?_eq_none (by simp; omega)] at hj; simp at hj
def kdOf (ks : List Kd) (i : Nat) : Kd := ks.getD i .pure
def aheadB (bad : Kd → Bool) (anc : List Nat) (ks : List Kd) (i : Nat) (l : Array Bool) : Bool :=
  (List.range ks.length).all fun j => l.getD j true || !(bad (kdOf ks j)) || (anc.getD j 0).testBit i
def stepB (ops : Array Oper) (anc : List Nat) (ks : List Kd) (i : Nat) (l : Array Bool) : Bool :=
  match kdOf ks i with
  | .pure => (Region.ready .any ops l).contains i && Region.free .any ops l i
  | .read => (Region.ready .any ops l).contains i && Region.free .any ops l i && aheadB (fun k => k == .wild || k == .tame) anc ks i l
  | .stay => (Region.ready .any ops l).contains i && Region.free .any ops l i && aheadB (fun k => k == .wild) anc ks i l
  | _ => Region.ready .any ops l == [i]
def planB (ops : Array Oper) (anc : List Nat) (ks : List Kd) : List Nat → Array Bool → Bool
  | [], l => (Region.ready .any ops l).isEmpty
  | i :: π, l => stepB ops anc ks i l && planB ops anc ks π (l.setIfInBounds i true)
def HPlan (P : Program) (ops : Array Oper) (ks : List Kd) (T : Heap → Heap → Prop) (Q : Regs → Heap → Prop) : List Nat → Regs → Heap → Prop
  | [], ρ, h => Q ρ h
  | i :: π, ρ, h => match ops[i]? with
    | none => False
    | some o => if Region.wanted o (yl ops ρ) then (match kdOf ks i with
        | .pure => ∃ v, (∀ h', HVal P ρ o h' v) ∧ HPlan P ops ks T Q π (updo ρ o.dst v) h
        | .read => ∃ v, (∀ h', Ext h h' → HVal P ρ o h' v) ∧ HPlan P ops ks T Q π (updo ρ o.dst v) h
        | .stay => ∃ v, (∀ h', T h h' → HVal P ρ o h' v) ∧ HPlan P ops ks T Q π (updo ρ o.dst v) h
        | k => HStep P ρ o h fun v h' => k.ok T h h' ∧ HPlan P ops ks T Q π (updo ρ o.dst v) h')
      else HPlan P ops ks T Q π (updo ρ o.dst undef) h
theorem kdOf_lt {ks : List Kd} {j : Nat} (h : kdOf ks j ≠ .pure) : j < ks.length := by
  rcases Nat.lt_or_ge j ks.length with h' | h'
  · exact h'
  · unfold kdOf at h; rw [List.getD_eq_getElem?_getD, List.getElem?_eq_none h'] at h; exact absurd rfl h
theorem aheadB_spec {bad : Kd → Bool} (hb : bad .pure = false) {ops : Array Oper} {ks : List Kd} {i : Nat} {l : Array Bool} (h : aheadB bad (ancs ops.toList []) ks i l = true) {j : Nat} (hun : l.getD j true = false) (hd : ¬ Desc ops i j) : bad (kdOf ks j) = false := by
  cases hk : bad (kdOf ks j) with
  | false => rfl
  | true =>
    have hl : j < ks.length := kdOf_lt (fun e => by rw [e, hb] at hk; cases hk)
    have h1 := List.all_eq_true.1 h j (List.mem_range.2 hl)
    rw [hun, hk] at h1
    simp only [Bool.false_or, Bool.not_true] at h1
    exact absurd (ancs_spec ops i ops.toList [] (fun k => by simp) (fun j hj => by simp at hj) j h1) hd
theorem hAny_of_plan {P : Program} {ops : Array Oper} {ks : List Kd} {T : Heap → Heap → Prop} {Q : Regs → Heap → Prop} (hT : Fit T) (hs : Region.noSelect ops = true) :
    ∀ (π : List Nat) (l : Array Bool) (ρ : Regs) (h : Heap), Shut ops l → planB ops (ancs ops.toList []) ks π l = true → HPlan P ops ks T Q π ρ h → HAny P ops (fun i => (kdOf ks i).ok T) Q π.length l ρ h
  | [], l, ρ, h, _, hB, hp => ⟨by simpa [planB] using hB, hp⟩
  | i :: π, l, ρ, h, hc, hB, hp => by
    simp only [planB, Bool.and_eq_true] at hB
    obtain ⟨hB1, hB2⟩ := hB
    simp only [HPlan] at hp
    cases ho : ops[i]? with
    | none => rw [ho] at hp; exact hp.elim
    | some o =>
      simp only [ho] at hp
      have first : ∀ (U : Heap → Heap → Prop) (v : Value), (∀ h, U h h) → (∀ a b c, U a b → U b c → U a c) → (Region.ready .any ops l).contains i = true → Region.free .any ops l i = true →
          (∀ j, l.getD j true = false → ¬ Desc ops i j → ∀ h h', (kdOf ks j).ok T h h' → U h h') →
          Yl P ops o v (fun h' => U h h') ρ → HPlan P ops ks T Q π (updo ρ o.dst v) h → HAny P ops (fun i => (kdOf ks i).ok T) Q (π.length + 1) l ρ h := by
        intro U v hUr hUt hr hf hw hy hn
        have hr' : i ∈ Region.ready .any ops l := by simpa using hr
        exact hAny_first ho (Region.noSelect_spec hs) (fun i h => Kd.ok_refl hT _ h) U hUr hUt π.length l ρ h hc (Region.free_spec ho hf) hw hr' hy
          (hAny_of_plan hT hs π _ _ _ (hc.set hr') hB2 hn)
      have uP : ∀ v, (Region.ready .any ops l).contains i = true → Region.free .any ops l i = true → Yl P ops o v (fun _ => True) ρ → HPlan P ops ks T Q π (updo ρ o.dst v) h → HAny P ops (fun i => (kdOf ks i).ok T) Q (π.length + 1) l ρ h :=
        fun v hr hf hy hn => first (fun _ _ => True) v (fun _ => trivial) (fun _ _ _ _ _ => trivial) hr hf (fun _ _ _ _ _ _ => trivial) hy hn
      have uR : ∀ v, (Region.ready .any ops l).contains i = true → Region.free .any ops l i = true → aheadB (fun k => k == .wild || k == .tame) (ancs ops.toList []) ks i l = true → Yl P ops o v (fun h' => Ext h h') ρ → HPlan P ops ks T Q π (updo ρ o.dst v) h → HAny P ops (fun i => (kdOf ks i).ok T) Q (π.length + 1) l ρ h := by
        intro v hr hf hb hy hn
        refine first Ext v Ext.refl (fun _ _ _ => Ext.trans) hr hf (fun j hun hd h h' hk => ?_) hy hn
        have := aheadB_spec (by rfl) hb hun hd
        exact Kd.ok_ext (fun e => by rw [e] at this; simp at this) (fun e => by rw [e] at this; simp at this) hk
      have uS : ∀ v, (Region.ready .any ops l).contains i = true → Region.free .any ops l i = true → aheadB (fun k => k == .wild) (ancs ops.toList []) ks i l = true → Yl P ops o v (fun h' => T h h') ρ → HPlan P ops ks T Q π (updo ρ o.dst v) h → HAny P ops (fun i => (kdOf ks i).ok T) Q (π.length + 1) l ρ h := by
        intro v hr hf hb hy hn
        refine first T v hT.refl hT.trans hr hf (fun j hun hd h h' hk => ?_) hy hn
        have := aheadB_spec (by rfl) hb hun hd
        exact Kd.ok_T hT (fun e => by rw [e] at this; simp at this) hk
      have lone : ∀ (_hr : Region.ready .any ops l = [i]), hOp P ops (fun i => (kdOf ks i).ok T) i (fun ρ h => HPlan P ops ks T Q π ρ h) ρ h → HAny P ops (fun i => (kdOf ks i).ok T) Q (π.length + 1) l ρ h := by
        intro hr hh
        refine ⟨fun h => (by rw [hr] at h; cases h), fun j hj => ?_⟩
        rw [hr] at hj
        obtain rfl : j = i := by simpa using hj
        exact hOp_mono (fun ρ' h' hn => hAny_of_plan hT hs π _ ρ' h' (hc.set (by rw [hr]; simp)) hB2 hn) hh
      unfold stepB at hB1
      by_cases hw : Region.wanted o (yl ops ρ) = true
      · simp only [hw, if_true] at hp
        cases hk : kdOf ks i with
        | pure =>
          simp only [hk, Bool.and_eq_true] at hB1 hp
          obtain ⟨v, hv, hn⟩ := hp
          exact uP v hB1.1 hB1.2 (.inl ⟨hw, fun h' _ => hv h'⟩) hn
        | read =>
          simp only [hk, Bool.and_eq_true] at hB1 hp
          obtain ⟨v, hv, hn⟩ := hp
          exact uR v hB1.1.1 hB1.1.2 hB1.2 (.inl ⟨hw, fun h' hh' => hv h' hh'⟩) hn
        | stay =>
          simp only [hk, Bool.and_eq_true] at hB1 hp
          obtain ⟨v, hv, hn⟩ := hp
          exact uS v hB1.1.1 hB1.1.2 hB1.2 (.inl ⟨hw, fun h' hh' => hv h' hh'⟩) hn
        | ext =>
          simp only [hk, beq_iff_eq] at hB1 hp
          refine lone hB1 ?_
          unfold hOp; simp only [ho, hw, if_true, hk]; exact hp
        | tame =>
          simp only [hk, beq_iff_eq] at hB1 hp
          refine lone hB1 ?_
          unfold hOp; simp only [ho, hw, if_true, hk]; exact hp
        | wild =>
          simp only [hk, beq_iff_eq] at hB1 hp
          refine lone hB1 ?_
          unfold hOp; simp only [ho, hw, if_true, hk]; exact hp
      · have hw' : Region.wanted o (yl ops ρ) = false := by simpa using hw
        simp only [hw', Bool.false_eq_true, if_false] at hp
        cases hk : kdOf ks i with
        | pure =>
          simp only [hk, Bool.and_eq_true] at hB1
          exact uP undef hB1.1 hB1.2 (.inr ⟨hw', rfl⟩) hp
        | read =>
          simp only [hk, Bool.and_eq_true] at hB1
          exact uR undef hB1.1.1 hB1.1.2 hB1.2 (.inr ⟨hw', rfl⟩) hp
        | stay =>
          simp only [hk, Bool.and_eq_true] at hB1
          exact uS undef hB1.1.1 hB1.1.2 hB1.2 (.inr ⟨hw', rfl⟩) hp
        | ext =>
          simp only [hk, beq_iff_eq] at hB1
          refine lone hB1 ?_
          unfold hOp; simp only [ho, hw', Bool.false_eq_true, if_false]; exact hp
        | tame =>
          simp only [hk, beq_iff_eq] at hB1
          refine lone hB1 ?_
          unfold hOp; simp only [ho, hw', Bool.false_eq_true, if_false]; exact hp
        | wild =>
          simp only [hk, beq_iff_eq] at hB1
          refine lone hB1 ?_
          unfold hOp; simp only [ho, hw', Bool.false_eq_true, if_false]; exact hp
def regB (n : Nat) (ops : Array Oper) (ks : List Kd) (π : List Nat) : Bool :=
  Region.noSelect ops && ops.all (dstB n) && (π.length == ops.size) && planB ops (ancs ops.toList []) ks π (Array.replicate ops.size false)
theorem hx_drawT {m : Mo} {P : Program} {n : Nat} {Q : Exit → Regs → Heap → Prop} {ρ : Regs} {h : Heap} {id : Nat} {l : List Oper} (hmix : P.follows .mixedOrders = true) (T : Heap → Heap → Prop) (hT : Fit T) (ks : List Kd) (π : List Nat)
    (hB : regB n l.toArray ks π = true) (hp : HPlan P l.toArray ks T (Q .normal) π ρ h) : HX m P n (.region id l.toArray true) Q ρ h := by
  intro N a w s hm hw
  simp only [regB, Bool.and_eq_true, beq_iff_eq] at hB
  obtain ⟨⟨⟨h1, h2⟩, h3⟩, h4⟩ := hB
  have hd : ∀ (i : Nat) (o : Oper), (l.toArray)[i]? = some o → dstB n o = true := fun i o ho => Array.all_eq_true_iff_forall_mem.1 h2 o (Array.mem_of_getElem? ho)
  refine wpIn_mono (wpIn_region_any hmix (wpAny_of_hAny (kd := fun i => (kdOf ks i).ok T) (Q := Q .normal) (w0 := w) hd _ _ ρ h a _ s hm hw ⟨rfl, rfl, rfl, Nat.le_succ _, HG.refl _⟩ ?_)) fun _ _ _ ⟨he, g1, ρ', g2, g3, g4⟩ => ⟨g1, ρ', g2, g3, by rw [he]; exact g4⟩
  rw [← h3]
  refine hAny_of_plan hT h1 π _ ρ h (fun j o _ hl => ?_) (by rw [h3]; exact h4) hp
  have : (Array.replicate π.length false).getD j false = false := by
    rcases Nat.lt_or_ge j π.length with h | h <;> simp [Array.getD, h]
  rw [this] at hl; cases hl
theorem hx_draw {m : Mo} {P : Program} {n : Nat} {Q : Exit → Regs → Heap → Prop} {ρ : Regs} {h : Heap} {id : Nat} {l : List Oper} (hmix : P.follows .mixedOrders = true) (ks : List Kd) (π : List Nat)
    (hB : regB n l.toArray ks π = true) (hp : HPlan P l.toArray ks (fun _ _ => True) (Q .normal) π ρ h) : HX m P n (.region id l.toArray true) Q ρ h := hx_drawT hmix _ fit_true ks π hB hp
section
variable {P : Program} {ops : Array Oper} {ks : List Kd} {T : Heap → Heap → Prop} {Q : Regs → Heap → Prop} {i : Nat} {π : List Nat} {ρ : Regs} {h : Heap} {o : Oper}
theorem hp_nil (hq : Q ρ h) : HPlan P ops ks T Q [] ρ h := hq
theorem hp_pure (ho : ops[i]? = some o) (hw : Region.wanted o (yl ops ρ) = true) (hk : kdOf ks i = .pure) (v : Value) (hv : ∀ h', HVal P ρ o h' v) (hn : HPlan P ops ks T Q π (updo ρ o.dst v) h) : HPlan P ops ks T Q (i :: π) ρ h := by
  simp only [HPlan, ho, hw, if_true, hk]; exact ⟨v, hv, hn⟩
theorem hp_read (ho : ops[i]? = some o) (hw : Region.wanted o (yl ops ρ) = true) (hk : kdOf ks i = .read) (v : Value) (hv : ∀ h', Ext h h' → HVal P ρ o h' v) (hn : HPlan P ops ks T Q π (updo ρ o.dst v) h) : HPlan P ops ks T Q (i :: π) ρ h := by
  simp only [HPlan, ho, hw, if_true, hk]; exact ⟨v, hv, hn⟩
theorem hp_stay (ho : ops[i]? = some o) (hw : Region.wanted o (yl ops ρ) = true) (hk : kdOf ks i = .stay) (v : Value) (hv : ∀ h', T h h' → HVal P ρ o h' v) (hn : HPlan P ops ks T Q π (updo ρ o.dst v) h) : HPlan P ops ks T Q (i :: π) ρ h := by
  simp only [HPlan, ho, hw, if_true, hk]; exact ⟨v, hv, hn⟩
theorem hp_tame (ho : ops[i]? = some o) (hw : Region.wanted o (yl ops ρ) = true) (hk : kdOf ks i = .tame) (hs : HStep P ρ o h fun v h' => T h h' ∧ HPlan P ops ks T Q π (updo ρ o.dst v) h') : HPlan P ops ks T Q (i :: π) ρ h := by
  simp only [HPlan, ho, hw, if_true, hk]; exact hs
theorem hp_ext (ho : ops[i]? = some o) (hw : Region.wanted o (yl ops ρ) = true) (hk : kdOf ks i = .ext) (hs : HStep P ρ o h fun v h' => Ext h h' ∧ HPlan P ops ks T Q π (updo ρ o.dst v) h') : HPlan P ops ks T Q (i :: π) ρ h := by
  simp only [HPlan, ho, hw, if_true, hk]; exact hs
theorem hp_wild (ho : ops[i]? = some o) (hw : Region.wanted o (yl ops ρ) = true) (hk : kdOf ks i = .wild) (hs : HStep P ρ o h fun v h' => HPlan P ops ks T Q π (updo ρ o.dst v) h') : HPlan P ops ks T Q (i :: π) ρ h := by
  simp only [HPlan, ho, hw, if_true, hk]; exact hs.mono fun v h' hn => ⟨trivial, hn⟩
theorem hp_no (ho : ops[i]? = some o) (hw : Region.wanted o (yl ops ρ) = false) (hn : HPlan P ops ks T Q π (updo ρ o.dst undef) h) : HPlan P ops ks T Q (i :: π) ρ h := by
  simp only [HPlan, ho, hw, Bool.false_eq_true, if_false]; exact hn
end
end Go.Proofs.YthjehlocmikchaaDoor
