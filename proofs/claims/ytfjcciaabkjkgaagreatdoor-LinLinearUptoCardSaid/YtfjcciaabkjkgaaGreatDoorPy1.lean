import Derived.Orders
import Derived.Tactics
import Derived.KernelRfl
import Derived.Deep.Draws
import Derived.OrdersIn
import Derived.TacticsIn
import Derived.RangeFuncRecord
import Derived.WalkKit
import Derived.RangeFuncLeaves
import Derived.MapKept
namespace Go.Proofs.YtfjcciaabkjkgaaGreatDoor
open Go
abbrev Heap := Array Obj
abbrev Regs := Nat → Value
def HG (h h' : Heap) : Prop := h.size ≤ h'.size ∧ ∀ b : Nat, h[b]? = some (.deferred (some [])) → h'[b]? = some (.deferred (some []))
theorem HG.refl (h : Heap) : HG h h := ⟨Nat.le_refl _, fun _ h => h⟩
theorem HG.trans {a b c : Heap} (h : HG a b) (k : HG b c) : HG a c := ⟨Nat.le_trans h.1 k.1, fun i hi => k.2 i (h.2 i hi)⟩
theorem HG.push (h : Heap) (o : Obj) : HG h (h.push o) := ⟨by simp, fun b hb => by
  have : b < h.size := (Array.getElem?_eq_some_iff.1 hb).1
  rw [Array.getElem?_push, if_neg (by omega)]; exact hb⟩
structure Sim (w w' : World) : Prop where
  os : w'.os = w.os
  tape : w'.tape = w.tape
  output : w'.output = w.output
  grow : HG w.heap w'.heap
theorem Sim.refl (w : World) : Sim w w := ⟨rfl, rfl, rfl, HG.refl _⟩
theorem Sim.trans {a b c : World} (h : Sim a b) (k : Sim b c) : Sim a c := ⟨k.os.trans h.os, k.tape.trans h.tape, k.output.trans h.output, h.grow.trans k.grow⟩
def HC (P : Program) (f : FuncId) (args : Array Value) (h : Heap) (R : Value → Heap → Prop) : Prop :=
  ∀ w : World, w.heap = h → Calls P f args w fun e w' => ∃ v, e = .returned v ∧ Sim w w' ∧ R v w'.heap
theorem HC.mono {P : Program} {f : FuncId} {args : Array Value} {h : Heap} {R R' : Value → Heap → Prop} (hc : HC P f args h R)
    (hr : ∀ v h', R v h' → R' v h') : HC P f args h R' :=
  fun w hw => (hc w hw).mono fun _ _ ⟨v, he, hs, hR⟩ => ⟨v, he, hs, hr _ _ hR⟩
structure Ext (h h' : Heap) : Prop where
  size : h.size ≤ h'.size
  block : ∀ b, b < h.size → h'[b]? = h[b]?
theorem Ext.refl (h : Heap) : Ext h h := ⟨Nat.le_refl _, fun _ _ => rfl⟩
theorem Ext.trans {a b c : Heap} (h : Ext a b) (k : Ext b c) : Ext a c :=
  ⟨Nat.le_trans h.size k.size, fun i hi => (k.block i (Nat.lt_of_lt_of_le hi h.size)).trans (h.block i hi)⟩
theorem Ext.push (h : Heap) (o : Obj) : Ext h (h.push o) :=
  ⟨by simp, fun b hb => by rw [Array.getElem?_push, if_neg (by omega)]⟩
def upd (ρ : Regs) (d : Nat) (v : Value) : Regs := fun i => bif Nat.beq i d then v else ρ i
def updo (ρ : Regs) : Option Nat → Value → Regs
  | some d, v => upd ρ d v
  | none, _ => ρ
theorem upd_same (ρ : Regs) (d : Nat) (v : Value) : upd ρ d v d = v := by simp [upd]
theorem upd_ne (ρ : Regs) {d i : Nat} (v : Value) (h : i ≠ d) : upd ρ d v i = ρ i := by
  have hb : Nat.beq i d = false := by
    cases hb : Nat.beq i d
    · rfl
    · exact absurd (Nat.eq_of_beq_eq_true hb) h
  simp [upd, hb]
theorem upd_comm (ρ : Regs) {d e : Nat} (v u : Value) (h : d ≠ e) : upd (upd ρ d v) e u = upd (upd ρ e u) d v := by
  funext i
  by_cases h1 : i = d
  · subst h1; rw [upd_ne _ _ h, upd_same, upd_same]
  · by_cases h2 : i = e
    · subst h2; rw [upd_same, upd_ne _ _ h1, upd_same]
    · rw [upd_ne _ _ h2, upd_ne _ _ h1, upd_ne _ _ h1, upd_ne _ _ h2]
def ev (ρ : Regs) : Operand → Value
  | .tmp t => ρ t
  | .const v => v
  | .global g => .pointer (some ⟨g, 0, none⟩)
  | .func f => .func (.func f) #[] #[]
structure St (n : Nat) (ρ : Regs) (a : Act) : Prop where
  size : a.tmps.size = n
  get : ∀ i, i < n → a.tmps.getD i undef = ρ i
  out : ∀ i, n ≤ i → ρ i = undef
theorem St.all {n : Nat} {ρ : Regs} {a : Act} (s : St n ρ a) (i : Nat) : a.tmps.getD i undef = ρ i := by
  by_cases h : i < n
  · exact s.get i h
  · rw [s.out i (by omega)]
    have : ¬ i < a.tmps.size := by rw [s.size]; exact h
    simp [Array.getD, this]
theorem St.eval {n : Nat} {ρ : Regs} {a : Act} (s : St n ρ a) : a.eval = ev ρ := by
  funext x
  cases x with
  | tmp t => exact s.all t
  | _ => rfl
theorem St.put {n : Nat} {ρ : Regs} {a : Act} (s : St n ρ a) {dst : Option Nat} (hd : ∀ d, dst = some d → d < n) (v : Value) : St n (updo ρ dst v) (a.put dst v) := by
  cases dst with
  | none => exact s
  | some d =>
    have hdn := hd d rfl
    refine ⟨by simp [Act.put, s.size], fun i hi => ?_, fun i hi => ?_⟩
    · by_cases h : i = d
      · subst h; rw [updo, upd_same]; simp [Act.put, Array.getD, s.size, hi]
      · rw [updo, upd_ne _ _ h, ← s.get i hi]
        simp [Act.put, Array.getElem?_setIfInBounds_ne (Ne.symm h)]
    · rw [updo, upd_ne _ _ (by omega)]; exact s.out i hi
def yl (ops : Array Oper) (ρ : Regs) (j : Nat) : Option Bool :=
  match (ops[j]?).bind (·.dst) with
  | some d => (match ρ d with | .bool b => some b | _ => none)
  | none => none
theorem St.yielded {n : Nat} {ρ : Regs} {a : Act} (s : St n ρ a) (ops : Array Oper) : yielded ops a.tmps = yl ops ρ := by
  funext j
  unfold Go.yielded yl
  cases h : (ops[j]?).bind (·.dst) with
  | none => simp
  | some d =>
    simp only [Option.bind_some]
    by_cases hd : d < n
    · have h1 := s.get d hd
      have h2 : a.tmps[d]? = some (ρ d) := by
        have : d < a.tmps.size := by rw [s.size]; exact hd
        rw [Array.getElem?_eq_getElem this]
        simp [Array.getD, this] at h1
        rw [h1]
      rw [h2]
      cases ρ d <;> rfl
    · have h1 := s.out d (Nat.le_of_not_lt hd)
      have h2 : a.tmps[d]? = none := by rw [Array.getElem?_eq_none]; rw [s.size]; exact Nat.le_of_not_lt hd
      rw [h2, h1]
      rfl
structure Mo where
  round : Option Nat
  marks : Bool
def Mo.fence (m : Mo) : Fence := { Fence.wide with round := m.round }
theorem Mo.fn (m : Mo) (f : FuncId) : m.fence.fn f := trivial
theorem Mo.depth (m : Mo) (n : Nat) : m.fence.depth.isSome = true → 1 ≤ n := fun h => by simp [Mo.fence, Fence.wide] at h
theorem Mo.callsIn {m : Mo} {n : Nat} {P : Program} {f : FuncId} {args : Array Value} {w : World} {R : Ending → World → Prop} (h : Calls P f args w R) : CallsIn m.fence n P f args w R :=
  have h' : CallsIn Fence.wide n P f args w R := callsIn_wide.2 h
  ⟨trivial, fun cs _ => h'.2 cs (room_wide _)⟩
structure Marks (m : Mo) (N : Nat) (ds : List Deferred) (h : Heap) : Prop where
  none : m.marks = false → ds = []
  le : N ≤ h.size
  apart : (ds.map (·.target)).Pairwise (· ≠ ·)
  all : ∀ d ∈ ds, ∃ b, d.target = .collected b ∧ N ≤ b ∧ h[b]? = some (.deferred (some []))
theorem Marks.sim {m : Mo} {N : Nat} {ds : List Deferred} {h h' : Heap} (k : Marks m N ds h) (g : HG h h') : Marks m N ds h' :=
  ⟨k.none, Nat.le_trans k.le g.1, k.apart, fun d hd => let ⟨b, h1, h2, h3⟩ := k.all d hd; ⟨b, h1, h2, g.2 b h3⟩⟩
theorem put_defers (a : Act) (d : Option Nat) (v : Value) : (a.put d v).defers = a.defers := by cases d <;> rfl
def HRound (P : Program) (l : Nat) (f : FuncId) (tmps : Array Value) (assign body : Code) (h : Heap) (K : Value → Heap → Prop) : Prop :=
  ∀ w : World, w.heap = h → RoundIn Fence.wide 0 P l f tmps assign body w fun e w' => ∃ v, e = .returned v ∧ Sim w w' ∧ K v w'.heap
theorem HRound.mono {P : Program} {l : Nat} {f : FuncId} {tmps : Array Value} {assign body : Code} {h : Heap} {K K' : Value → Heap → Prop} (hr : HRound P l f tmps assign body h K) (hk : ∀ v h', K v h' → K' v h') :
    HRound P l f tmps assign body h K' := fun w hw => (hr w hw).mono fun _ _ ⟨v, he, hs, hR⟩ => ⟨v, he, hs, hk _ _ hR⟩
def HStep (P : Program) (ρ : Regs) (o : Oper) (h : Heap) (K : Value → Heap → Prop) : Prop :=
  ∀ w : World, w.heap = h → match (execOp (ev ρ) o).run P w with
    | .ok (.value v) w' => Sim w w' ∧ K v w'.heap
    | .ok .skip w' => Sim w w' ∧ K undef w'.heap
    | .ok (.enter f args) w' => Sim w w' ∧ w'.heap = h ∧ HC P f args h K
    | .ok (.round l f tmps assign body) w' => Sim w w' ∧ w'.heap = h ∧ HRound P l f tmps assign body h K
    | _ => False
theorem HStep.mono {P : Program} {ρ : Regs} {o : Oper} {h : Heap} {K K' : Value → Heap → Prop} (hs : HStep P ρ o h K) (hk : ∀ v h', K v h' → K' v h') : HStep P ρ o h K' := by
  intro w hw
  have := hs w hw
  generalize (execOp (ev ρ) o).run P w = r at *
  cases r with
  | halt x w' => exact this
  | ok n w' =>
    cases n <;> try exact this.elim
    case value v => exact ⟨this.1, hk _ _ this.2⟩
    case skip => exact ⟨this.1, hk _ _ this.2⟩
    case enter f args => exact ⟨this.1, this.2.1, this.2.2.mono hk⟩
    case round l f tmps assign body => exact ⟨this.1, this.2.1, this.2.2.mono hk⟩
def HVal (P : Program) (ρ : Regs) (o : Oper) (h : Heap) (v : Value) : Prop := HStep P ρ o h fun v' h' => v' = v ∧ h' = h
theorem HStep.of_val {P : Program} {ρ : Regs} {o : Oper} {h : Heap} {v : Value} {K : Value → Heap → Prop} (hv : HVal P ρ o h v) (hk : K v h) : HStep P ρ o h K :=
  HStep.mono hv fun _ _ ⟨h1, h2⟩ => by rw [h1, h2]; exact hk
theorem semAt_of {P : Program} {ρ : Regs} {o : Oper} {h : Heap} {K : Value → Heap → Prop} (hs : HStep P ρ o h K) {w : World} (hw : w.heap = h) (r : Option Nat) :
    (o.semAt r (ev ρ)).run P w = (execOp (ev ρ) o).run P w := by
  have := hs w hw
  by_cases hd : ∃ c, o.op = .defer c
  · obtain ⟨c, hc⟩ := hd
    exfalso
    have e : execOp (ev ρ) o = (do pure (.defer (← resolve (ev ρ) c o.type))) := by unfold execOp; rw [hc]
    rw [e] at this
    simp only [Sem.run_bind] at this
    generalize (resolve (ev ρ) c o.type).run P w = r at this
    cases r <;> simp [Result.andThen, Sem.run_pure] at this
  · rw [Oper.semAt_eq _ _ _ fun c hc => hd ⟨c, hc⟩]
def RQ (m : Mo) (N n : Nat) (w0 : World) (Q : Regs → Heap → Prop) : Exit → Act → World → Prop :=
  fun e a w => e = .normal ∧ Sim w0 w ∧ ∃ ρ, St n ρ a ∧ Marks m N a.defers w.heap ∧ Q ρ w.heap
theorem wp_of_step {P : Program} {m : Mo} {N n : Nat} {ρ : Regs} {o : Oper} {h : Heap} {a : Act} {w w0 : World} {K : Value → Heap → Prop} {K' : Act → World → Prop} {Q' : Exit → Act → World → Prop}
    (hs : HStep P ρ o h K) (s : St n ρ a) (hw : w.heap = h) (h0 : Sim w0 w) (hm : Marks m N a.defers w.heap)
    (hk : ∀ v w', Sim w0 w' → Marks m N (a.put o.dst v).defers w'.heap → K v w'.heap → K' (a.put o.dst v) w') : o.wpIn m.fence 0 P a w K' Q' := by
  have := hs w hw
  have hsa := semAt_of hs hw m.round
  unfold Oper.wpIn
  refine ⟨fun _ _ => trivial, ?_⟩
  rw [s.eval]
  show o.uponIn m.fence 0 P a K' Q' ((o.semAt m.round (ev ρ)).run P w)
  rw [hsa]
  have hm' : ∀ {v w'}, Sim w w' → Marks m N (a.put o.dst v).defers w'.heap := fun hs => by rw [put_defers]; exact hm.sim hs.grow
  generalize (execOp (ev ρ) o).run P w = r at *
  cases r with
  | halt x w' => exact this.elim
  | ok nx w' =>
    cases nx <;> try exact this.elim
    case value v => exact hk _ _ (h0.trans this.1) (hm' this.1) this.2
    case skip => exact hk _ _ (h0.trans this.1) (hm' this.1) this.2
    case enter f args =>
      obtain ⟨h1, h2, h3⟩ := this
      simp only [Oper.uponIn]
      refine ⟨m.depth _, Mo.callsIn ((h3 w' h2).mono fun e w'' ⟨v, he, hs', hK⟩ => ?_)⟩
      subst he; exact hk _ _ ((h0.trans h1).trans hs') (hm' (h1.trans hs')) hK
    case round l f tmps assign body =>
      obtain ⟨h1, h2, h3⟩ := this
      simp only [Oper.uponIn]
      refine ⟨m.depth _, ?_⟩
      have h4 : RoundIn m.fence 0 P l f tmps assign body w' fun e w'' => ∃ v, e = .returned v ∧ Sim w' w'' ∧ K v w''.heap := ⟨trivial, fun c cs _ => (h3 w' h2).2 c cs (room_wide _)⟩
      refine h4.mono fun e w'' ⟨v, he, hs', hK⟩ => ?_
      subst he; exact hk _ _ ((h0.trans h1).trans hs') (hm' (h1.trans hs')) hK
def dstB (n : Nat) (o : Oper) : Bool := match o.dst with | some d => Nat.blt d n | none => true
theorem dstB_spec {n : Nat} {o : Oper} (h : dstB n o = true) : ∀ d, o.dst = some d → d < n := by
  intro d hd; simp [dstB, hd] at h; exact h
def HL (m : Mo) (P : Program) (n : Nat) (ops : Array Oper) (Q : Regs → Heap → Prop) (l : List Oper) (ρ : Regs) (h : Heap) : Prop :=
  ∀ N a w w0, St n ρ a → Marks m N a.defers w.heap → w.heap = h → Sim w0 w → wpListIn m.fence 0 P ops (RQ m N n w0 Q) l a w
theorem hl_nil {m : Mo} {P : Program} {n : Nat} {ops : Array Oper} {Q : Regs → Heap → Prop} {ρ : Regs} {h : Heap} (hq : Q ρ h) : HL m P n ops Q [] ρ h :=
  fun N a w w0 s hm hw h0 => wpListIn_nil ⟨rfl, h0, ρ, s, hm, by rw [hw]; exact hq⟩
theorem hl_step {m : Mo} {P : Program} {n : Nat} {ops : Array Oper} {Q : Regs → Heap → Prop} {o : Oper} {rest : List Oper} {ρ : Regs} {h : Heap}
    (hg : o.guard = none) (hd : dstB n o = true) (hs : HStep P ρ o h fun v h' => HL m P n ops Q rest (updo ρ o.dst v) h') : HL m P n ops Q (o :: rest) ρ h :=
  fun _ _ _ _ s hm hw h0 => wpListIn_plain hg fun _ hK => wp_of_step hs s hw h0 hm fun v _ h1 h2 hl => hK _ _ (hl _ _ _ _ (s.put (dstB_spec hd) v) h2 rfl h1)
theorem hl_val {m : Mo} {P : Program} {n : Nat} {ops : Array Oper} {Q : Regs → Heap → Prop} {o : Oper} {rest : List Oper} {ρ : Regs} {h : Heap} {v : Value}
    (hg : o.guard = none) (hd : dstB n o = true) (hs : HVal P ρ o h v) (hn : HL m P n ops Q rest (updo ρ o.dst v) h) : HL m P n ops Q (o :: rest) ρ h :=
  hl_step hg hd (HStep.of_val hs hn)
theorem hl_yes {m : Mo} {P : Program} {n : Nat} {ops : Array Oper} {Q : Regs → Heap → Prop} {o : Oper} {rest : List Oper} {ρ : Regs} {h : Heap}
    (hg : Region.wanted o (yl ops ρ) = true) (hd : dstB n o = true) (hs : HStep P ρ o h fun v h' => HL m P n ops Q rest (updo ρ o.dst v) h') : HL m P n ops Q (o :: rest) ρ h :=
  fun N a w w0 s hm hw h0 => wpListIn_step fun K hK => by
    rw [s.yielded, hg, if_pos rfl]
    exact wp_of_step hs s hw h0 hm fun v w' h1 h2 hl => hK _ _ (hl _ _ _ _ (s.put (dstB_spec hd) v) h2 rfl h1)
theorem hl_no {m : Mo} {P : Program} {n : Nat} {ops : Array Oper} {Q : Regs → Heap → Prop} {o : Oper} {rest : List Oper} {ρ : Regs} {h : Heap}
    (hg : Region.wanted o (yl ops ρ) = false) (hd : dstB n o = true) (hn : HL m P n ops Q rest (updo ρ o.dst undef) h) : HL m P n ops Q (o :: rest) ρ h :=
  fun N a w w0 s hm hw h0 => wpListIn_step fun K hK => by
    rw [s.yielded, hg, if_neg (by simp)]
    exact ⟨fun _ _ => trivial, hK _ _ (hn _ _ _ _ (s.put (dstB_spec hd) _) (by rw [put_defers]; exact hm) hw h0)⟩
def XQ (m : Mo) (N n : Nat) (w : World) (Q : Exit → Regs → Heap → Prop) : Exit → Act → World → Prop :=
  fun e a' w' => Sim w w' ∧ ∃ ρ', St n ρ' a' ∧ Marks m N a'.defers w'.heap ∧ Q e ρ' w'.heap
def HX (m : Mo) (P : Program) (n : Nat) (c : Code) (Q : Exit → Regs → Heap → Prop) (ρ : Regs) (h : Heap) : Prop :=
  ∀ N a w, St n ρ a → Marks m N a.defers w.heap → w.heap = h → c.wpIn m.fence 0 P (XQ m N n w Q) a w
section code
variable {m : Mo} {P : Program} {n : Nat} {Q : Exit → Regs → Heap → Prop} {ρ : Regs} {h : Heap}
theorem hx_mono {c : Code} {Q' : Exit → Regs → Heap → Prop} (hx : HX m P n c Q ρ h) (hq : ∀ e ρ h, Q e ρ h → Q' e ρ h) : HX m P n c Q' ρ h :=
  fun N a w s hm hw => wpIn_mono (hx N a w s hm hw) fun _ _ _ ⟨h1, ρ', h2, h3, h4⟩ => ⟨h1, ρ', h2, h3, hq _ _ _ h4⟩
theorem hx_region {id : Nat} {l : List Oper} (hl : HL m P n l.toArray (Q .normal) l ρ h) : HX m P n (.region id l.toArray false) Q ρ h :=
  fun N a w s hm hw => wpIn_mono (wpIn_region_lit (hl N a w w s hm hw (Sim.refl _))) fun _ _ _ ⟨he, h1, ρ', h2, h3, h4⟩ => ⟨h1, ρ', h2, h3, by rw [he]; exact h4⟩
theorem hx_skip (hq : Q .normal ρ h) : HX m P n .skip Q ρ h := fun N a w s hm hw => wpIn_skip ⟨Sim.refl _, ρ, s, hm, by rw [hw]; exact hq⟩
theorem hx_label {l : Nat} (hq : Q .normal ρ h) : HX m P n (.label l) Q ρ h := fun N a w s hm hw => wpIn_label ⟨Sim.refl _, ρ, s, hm, by rw [hw]; exact hq⟩
theorem hx_exit {id : Nat} (hq : Q (.exit id) ρ h) : HX m P n (.exit id) Q ρ h := fun N a w s hm hw => wpIn_exit ⟨Sim.refl _, ρ, s, hm, by rw [hw]; exact hq⟩
theorem hx_ret (hq : Q .ret ρ h) : HX m P n .ret Q ρ h := fun N a w s hm hw => wpIn_ret ⟨Sim.refl _, ρ, s, hm, by rw [hw]; exact hq⟩
def seqQ (K : Regs → Heap → Prop) (Q : Exit → Regs → Heap → Prop) : Exit → Regs → Heap → Prop
  | .normal, ρ, h => K ρ h
  | e, ρ, h => Q e ρ h
theorem seqQ_n {K : Regs → Heap → Prop} (hk : K ρ h) : seqQ K Q .normal ρ h := hk
theorem seqQ_ret {K : Regs → Heap → Prop} (hk : Q .ret ρ h) : seqQ K Q .ret ρ h := hk
theorem seqQ_exit {K : Regs → Heap → Prop} {i : Nat} (hk : Q (.exit i) ρ h) : seqQ K Q (.exit i) ρ h := hk
theorem hx_seq {x y : Code} (hx : HX m P n x (seqQ (HX m P n y Q) Q) ρ h) : HX m P n (.seq x y) Q ρ h := by
  intro N a w s hm hw
  refine wpIn_seq (wpIn_mono (hx N a w s hm hw) ?_)
  rintro e a1 w1 ⟨h1, ρ1, s1, m1, hq⟩
  cases e with
  | normal => exact wpIn_mono (hq N a1 w1 s1 m1 rfl) fun _ _ _ ⟨h2, ρ2, s2, m2, hq2⟩ => ⟨h1.trans h2, ρ2, s2, m2, hq2⟩
  | exit i => exact ⟨h1, ρ1, s1, m1, hq⟩
  | goto i => exact ⟨h1, ρ1, s1, m1, hq⟩
  | ret => exact ⟨h1, ρ1, s1, m1, hq⟩
  | panic c => exact ⟨h1, ρ1, s1, m1, hq⟩
  | outgrown => exact ⟨h1, ρ1, s1, m1, hq⟩
theorem hx_cut {x y : Code} (A : Regs → Heap → Prop) (hx : HX m P n x (seqQ A Q) ρ h) (hy : ∀ ρ h, A ρ h → HX m P n y Q ρ h) : HX m P n (.seq x y) Q ρ h :=
  hx_seq (hx_mono hx fun e ρ h hq => by cases e <;> first | exact hy _ _ hq | exact hq)
theorem hx_cond {c : Operand} {x y : Code} {b : Bool} (hc : ev ρ c = .bool b) (ht : b = true → HX m P n x Q ρ h) (hf : b = false → HX m P n y Q ρ h) : HX m P n (.cond c x y) Q ρ h :=
  fun N a w s hm hw => wpIn_cond_split (t := b) (by rw [s.eval]; exact hc) (fun e => ht e N a w s hm hw) (fun e => hf e N a w s hm hw)
def blockQ (id : Nat) (Q : Exit → Regs → Heap → Prop) : Exit → Regs → Heap → Prop
  | .exit id', ρ, h => if id' = id then Q .normal ρ h else Q (.exit id') ρ h
  | e, ρ, h => Q e ρ h
theorem blockQ_n {id : Nat} (hk : Q .normal ρ h) : blockQ id Q .normal ρ h := hk
theorem blockQ_ret {id : Nat} (hk : Q .ret ρ h) : blockQ id Q .ret ρ h := hk
theorem blockQ_here {id : Nat} (hk : Q .normal ρ h) : blockQ id Q (.exit id) ρ h := by simpa [blockQ] using hk
theorem blockQ_past {id i : Nat} (hi : Nat.beq i id = false) (hk : Q (.exit i) ρ h) : blockQ id Q (.exit i) ρ h := by
  have : i ≠ id := fun e => by simp [e] at hi
  simpa [blockQ, this] using hk
theorem hx_block {id : Nat} {c : Code} (hx : HX m P n c (blockQ id Q) ρ h) : HX m P n (.block id c) Q ρ h := by
  intro N a w s hm hw
  refine wpIn_block (wpIn_mono (hx N a w s hm hw) ?_)
  rintro e a1 w1 ⟨h1, ρ1, s1, m1, hq⟩
  cases e with
  | exit i =>
    simp only [Exit.inBlock]
    simp only [blockQ] at hq
    split <;> rename_i hi <;> simp only [hi, if_true, if_false] at hq <;> exact ⟨h1, ρ1, s1, m1, hq⟩
  | normal => exact ⟨h1, ρ1, s1, m1, hq⟩
  | goto i => exact ⟨h1, ρ1, s1, m1, hq⟩
  | ret => exact ⟨h1, ρ1, s1, m1, hq⟩
  | panic c => exact ⟨h1, ρ1, s1, m1, hq⟩
  | outgrown => exact ⟨h1, ρ1, s1, m1, hq⟩
theorem stepR_scope {b : Frame} {a : Act} {k : List Item} {cs : List Frame} {w : World} {c : Code} : step P (lone (b.atR a (.code (.scope c) :: k)) cs w) = .next (lone (b.atR a (.code c :: .inScope c :: k)) cs w) :=
  step_lone_go (by simp [stepG, stepG.exec, Frame.atR])
theorem stepR_inScope {b : Frame} {a : Act} {k : List Item} {cs : List Frame} {w : World} {c : Code} : step P (lone (b.atR a (.inScope c :: k)) cs w) = .next (lone (b.atR a k) cs w) :=
  step_lone_go (by simp [stepG, stepG.exec, Frame.atR])
def noGoto (Q : Exit → Act → World → Prop) : Exit → Act → World → Prop
  | .goto _, _, _ => False
  | e, a, w => Q e a w
theorem wpIn_scope {F : Fence} {n : Nat} {c : Code} {Q : Exit → Act → World → Prop} {a : Act} {w : World} (h : c.wpIn F n P (noGoto Q) a w) : (Code.scope c).wpIn F n P Q a w := by
  intro b k cs hro hb hr
  have h0 : (lone (b.atR a (.code (.scope c) :: k)) cs w).fenced P F := fenced_calm hb hr rfl
  obtain ⟨e, a₁, w₁, hq, harr⟩ := h b (.inScope c :: k) cs hro hb hr
  cases e with
  | normal => exact ⟨.normal, a₁, w₁, hq, .head h0 stepR_scope (StepsIn.trans harr (.one (fenced_calm hb hr rfl) stepR_inScope))⟩
  | exit id =>
    have hx : exitTo id (.inScope c :: k) = exitTo id k := by simp [exitTo]
    exact ⟨.exit id, a₁, w₁, hq, fun k' hk => .head h0 stepR_scope (harr.1 k' (by rw [hx]; exact hk)),
      fun hr' hk => let ⟨k₁, h1, h2⟩ := harr.2 hr' (by rw [hx]; exact hk); ⟨k₁, h1, .head h0 stepR_scope h2⟩⟩
  | goto l => exact hq.elim
  | ret => exact ⟨_, a₁, w₁, hq, .of_steps (.one h0 stepR_scope) harr⟩
  | panic ch => exact ⟨_, a₁, w₁, hq, .of_steps (.one h0 stepR_scope) harr⟩
  | outgrown => exact ⟨_, a₁, w₁, hq, .of_steps (.one h0 stepR_scope) harr⟩
def scopeQ (Q : Exit → Regs → Heap → Prop) : Exit → Regs → Heap → Prop
  | .goto _, _, _ => False
  | e, ρ, h => Q e ρ h
theorem scopeQ_ret (hk : Q .ret ρ h) : scopeQ Q .ret ρ h := hk
theorem hx_scope {c : Code} (hx : HX m P n c (scopeQ Q) ρ h) : HX m P n (.scope c) Q ρ h :=
  fun N a w s hm hw => wpIn_scope (wpIn_mono (hx N a w s hm hw) fun e _ _ ⟨h1, ρ1, s1, m1, hq⟩ => by
    cases e <;> first | exact ⟨h1, ρ1, s1, m1, hq⟩ | exact hq)
theorem hx_loop {c : Code} (I : Regs → Heap → Prop) (μ : Regs → Heap → Nat) (h0 : I ρ h)
    (round : ∀ ρ h, I ρ h → HX m P n c (seqQ (fun ρ' h' => I ρ' h' ∧ μ ρ' h' < μ ρ h) Q) ρ h) : HX m P n (.loop c) Q ρ h := by
  intro N a w s hm hw
  -- the measure is of registers: it is read off the frame
  refine wpIn_loop (fun a' w' => Sim w w' ∧ ∃ ρ', St n ρ' a' ∧ Marks m N a'.defers w'.heap ∧ I ρ' w'.heap) (fun a' w' => μ (fun i => a'.tmps.getD i undef) w'.heap) ⟨Sim.refl _, ρ, s, hm, by rw [hw]; exact h0⟩ ?_
  rintro a1 w1 ⟨h1, ρ1, s1, m1, hI⟩
  refine wpIn_mono (round ρ1 _ hI N a1 w1 s1 m1 rfl) ?_
  rintro e a2 w2 ⟨h2, ρ2, s2, m2, hq⟩
  have e1 : (fun i => a1.tmps.getD i undef) = ρ1 := funext s1.all
  have e2 : (fun i => a2.tmps.getD i undef) = ρ2 := funext s2.all
  cases e with
  | normal => refine ⟨⟨h1.trans h2, ρ2, s2, m2, hq.1⟩, ?_⟩; rw [e1, e2]; exact hq.2
  | exit i => exact ⟨h1.trans h2, ρ2, s2, m2, hq⟩
  | goto i => exact ⟨h1.trans h2, ρ2, s2, m2, hq⟩
  | ret => exact ⟨h1.trans h2, ρ2, s2, m2, hq⟩
  | panic c => exact ⟨h1.trans h2, ρ2, s2, m2, hq⟩
  | outgrown => exact ⟨h1.trans h2, ρ2, s2, m2, hq⟩
end code
def Has (ρ : Regs) : List (Nat × Value) → Prop
  | [] => True
  | (i, v) :: l => ρ i = v ∧ Has ρ l
def updl (ρ : Regs) : List (Nat × Value) → Regs
  | [] => ρ
  | (i, v) :: l => upd (updl ρ l) i v
theorem updl_has {ρ : Regs} : ∀ (l : List (Nat × Value)), Has ρ l → updl ρ l = ρ
  | [], _ => rfl
  | (i, v) :: l, hh => by
    rw [updl, updl_has l hh.2]
    funext j
    by_cases e : j = i
    · subst e; rw [upd_same, hh.1]
    · rw [upd_ne _ _ e]
theorem hx_has {m : Mo} {P : Program} {n : Nat} {c : Code} {Q : Exit → Regs → Heap → Prop} {ρ : Regs} {h : Heap} (l : List (Nat × Value)) (hh : Has ρ l) (hx : HX m P n c Q (updl ρ l) h) : HX m P n c Q ρ h := by
  rw [updl_has l hh] at hx; exact hx
theorem least (p : Nat → Prop) (h : ∃ n, p n) : ∃ m, p m ∧ ∀ k, p k → m ≤ k := by
  obtain ⟨n, hn⟩ := h
  induction n using Nat.strongRecOn with
  | _ n ih =>
    by_cases hl : ∃ k, k < n ∧ p k
    · obtain ⟨k, hk, hp⟩ := hl; exact ih k hk hp
    · exact ⟨n, hn, fun k hk => Nat.le_of_not_lt fun hlt => hl ⟨k, hlt, hk⟩⟩
open Classical in
noncomputable def leastOf (p : Nat → Prop) : Nat := if h : ∃ n, p n then Classical.choose (least p h) else 0
theorem leastOf_spec {p : Nat → Prop} (h : ∃ n, p n) : p (leastOf p) ∧ ∀ k, p k → leastOf p ≤ k := by
  unfold leastOf; rw [dif_pos h]; exact Classical.choose_spec (least p h)
theorem hx_loopT {m : Mo} {P : Program} {n : Nat} {c : Code} {Q : Exit → Regs → Heap → Prop} {ρ : Regs} {h : Heap} {σ : Type} (regs : σ → List (Nat × Value)) (I : σ → Heap → Prop) (μ : σ → Heap → Nat) (s0 : σ)
    (h0 : I s0 h) (hH : Has ρ (regs s0)) (round : ∀ s ρ h, I s h → HX m P n c (seqQ (fun ρ' h' => ∃ s', (I s' h' ∧ μ s' h' < μ s h) ∧ Has ρ' (regs s')) Q) (updl ρ (regs s)) h) : HX m P n (.loop c) Q ρ h := by
  refine hx_loop (fun ρ h => ∃ s, I s h ∧ Has ρ (regs s)) (fun ρ h => leastOf fun m => ∃ s, I s h ∧ Has ρ (regs s) ∧ μ s h = m) ⟨s0, h0, hH⟩ ?_
  rintro ρ1 h1 ⟨s1, hI1, hH1⟩
  obtain ⟨⟨s, hI, hS, hm⟩, _⟩ := leastOf_spec (p := fun m => ∃ s, I s h1 ∧ Has ρ1 (regs s) ∧ μ s h1 = m) ⟨_, s1, hI1, hH1, rfl⟩
  have hr := round s ρ1 h1 hI
  rw [updl_has _ hS] at hr
  refine hx_mono hr fun e ρ2 h2 hq => ?_
  cases e with
  | normal =>
    obtain ⟨s', ⟨hI', hlt⟩, hH'⟩ := hq
    refine ⟨⟨s', hI', hH'⟩, ?_⟩
    have := (leastOf_spec (p := fun m => ∃ s, I s h2 ∧ Has ρ2 (regs s) ∧ μ s h2 = m) ⟨_, s', hI', hH', rfl⟩).2 _ ⟨s', hI', hH', rfl⟩
    show leastOf _ < leastOf _
    omega
  | _ => exact hq
def resB (P : Program) (fn : Func) (ρ : Regs) (h : Heap) (v : Value) : Prop :=
  ∀ (a : Act) (w : World) (n : Nat), St n ρ a → w.heap = h → (results fn a.tmps).run P w = .ok v w
def endQ (P : Program) (fn : Func) (R : Value → Heap → Prop) : Exit → Regs → Heap → Prop
  | .normal, ρ, h | .ret, ρ, h => ∃ v, resB P fn ρ h v ∧ R v h
  | _, _, _ => False
theorem endQ_n {P : Program} {fn : Func} {R : Value → Heap → Prop} {ρ : Regs} {h : Heap} (v : Value) (hr : resB P fn ρ h v) (hR : R v h) : endQ P fn R .normal ρ h := ⟨v, hr, hR⟩
theorem endQ_ret {P : Program} {fn : Func} {R : Value → Heap → Prop} {ρ : Regs} {h : Heap} (v : Value) (hr : resB P fn ρ h v) (hR : R v h) : endQ P fn R .ret ρ h := ⟨v, hr, hR⟩
def reg0 (args : List Value) : Regs := updl (fun _ => undef) (args.zipIdx.map fun (v, i) => (i, v))
def rvF (tmps : Array Value) : ResultVar → Sem Value
  | .tmp t => pure (tmps.getD t undef)
  | .cell x t => do loadVar t (← asAddr (tmps.getD x undef))
theorem results_eq (fn : Func) (tmps : Array Value) : results fn tmps = (fn.results.mapM (rvF tmps) >>= fun vs => pure (if h : vs.size = 1 then vs[0] else .tuple vs)) := by
  unfold results
  congr 1
def RV (P : Program) (r : ResultVar) (ρ : Regs) (h : Heap) (v : Value) : Prop :=
  ∀ (a : Act) (w : World) (n : Nat), St n ρ a → w.heap = h → (rvF a.tmps r).run P w = .ok v w
theorem rv_tmp {P : Program} {ρ : Regs} {h : Heap} {t : Nat} {v : Value} (hv : ρ t = v) : RV P (.tmp t) ρ h v :=
  fun a w n s hw => by simp only [rvF, s.all t, hv, Sem.run_pure]
theorem res_none {P : Program} {fn : Func} {ρ : Regs} {h : Heap} (hr : fn.results = #[]) : resB P fn ρ h (.tuple #[]) :=
  fun a w n s hw => by simp [results, hr]
theorem res_one {P : Program} {fn : Func} {ρ : Regs} {h : Heap} {r : ResultVar} {v : Value} (hr : fn.results = #[r]) (hv : RV P r ρ h v) : resB P fn ρ h v :=
  fun a w n s hw => by
    have h1 := hv a w n s hw
    rw [results_eq, hr]
    simp [h1]
theorem res_two {P : Program} {fn : Func} {ρ : Regs} {h : Heap} {r r' : ResultVar} {v v' : Value} (hr : fn.results = #[r, r']) (hv : RV P r ρ h v) (hv' : RV P r' ρ h v') : resB P fn ρ h (.tuple #[v, v']) :=
  fun a w n s hw => by
    have h1 := hv a w n s hw
    have h2 := hv' a w n s hw
    rw [results_eq, hr]
    simp [Sem.run_bind, h1, h2]
theorem res_three {P : Program} {fn : Func} {ρ : Regs} {h : Heap} {r r' r'' : ResultVar} {v v' v'' : Value} (hr : fn.results = #[r, r', r'']) (hv : RV P r ρ h v) (hv' : RV P r' ρ h v') (hv'' : RV P r'' ρ h v'') : resB P fn ρ h (.tuple #[v, v', v'']) :=
  fun a w n s hw => by
    have h1 := hv a w n s hw
    have h2 := hv' a w n s hw
    have h3 := hv'' a w n s hw
    rw [results_eq, hr]
    simp [Sem.run_bind, h1, h2, h3]
theorem zip_get (args : List Value) (k : Nat) (ρ : Regs) (i : Nat) : updl ρ ((args.zipIdx k).map fun (v, i) => (i, v)) i = if k ≤ i ∧ i < k + args.length then args.getD (i - k) undef else ρ i := by
  induction args generalizing k with
  | nil => simp [updl]; intro h1 h2; omega
  | cons v l ih =>
    simp only [List.zipIdx_cons, List.map_cons, updl]
    by_cases e : i = k
    · subst e; rw [upd_same]; simp
    · rw [upd_ne _ _ e, ih]
      simp only [List.length_cons]
      by_cases h1 : k + 1 ≤ i ∧ i < k + 1 + l.length
      · rw [if_pos h1, if_pos (by omega)]
        have : i - k = (i - (k + 1)) + 1 := by omega
        rw [this]; simp
      · rw [if_neg h1, if_neg (by omega)]
theorem st_enter {n : Nat} {fn : Func} {args : List Value} (hn : fn.ntmps = n) (hl : args.length ≤ n) :
    St n (reg0 args) { tmps := args.toArray ++ Array.replicate (fn.ntmps - args.toArray.size) undef, defers := [] } := by
  refine ⟨by simp [hn]; omega, fun i hi => ?_, fun i hi => ?_⟩
  · rw [reg0, zip_get]
    simp only [Nat.zero_le, true_and, Nat.zero_add, Nat.sub_zero]
    have hsz : i < (args.toArray ++ Array.replicate (fn.ntmps - args.toArray.size) undef).size := by simp [hn]; omega
    show (args.toArray ++ Array.replicate (fn.ntmps - args.toArray.size) undef).getD i undef = _
    rw [Array.getD, dif_pos hsz]
    show (args.toArray ++ Array.replicate (fn.ntmps - args.toArray.size) undef)[i] = _
    by_cases h1 : i < args.length
    · rw [if_pos h1, Array.getElem_append_left (by simpa using h1)]
      simp [h1]
    · rw [if_neg h1, Array.getElem_append_right (by simpa using Nat.le_of_not_lt h1)]
      simp
  · rw [reg0, zip_get]; simp; intro h1; omega
theorem hc_of {P : Program} {f : FuncId} {fn : Func} {c : Code} {args : List Value} {n : Nat} {h : Heap} {R : Value → Heap → Prop}
    (hf : P.funcs[f]? = some fn) (hb : fn.body = some c) (hn : fn.ntmps = n) (hl : args.length ≤ n)
    (hx : HX ⟨none, false⟩ P n c (endQ P fn R) (reg0 args) h) : HC P f args.toArray h R := by
  intro w hw
  refine (callsIn_wide (n := 0)).1 (callsIn_of_wp hf hb trivial (wpIn_mono (hx w.heap.size _ w (st_enter hn hl) ⟨fun _ => rfl, Nat.le_refl _, List.Pairwise.nil, fun d hd => by cases hd⟩ hw) ?_))
  rintro e a w' ⟨h1, ρ', s, hm, hq⟩
  cases e <;> try exact hq.elim
  · obtain ⟨v, hr, hR⟩ := hq; exact ⟨hm.none rfl, v, hr a w' _ s rfl, v, rfl, h1, hR⟩
  · obtain ⟨v, hr, hR⟩ := hq; exact ⟨hm.none rfl, v, hr a w' _ s rfl, v, rfl, h1, hR⟩
end Go.Proofs.YtfjcciaabkjkgaaGreatDoor
namespace Go.Proofs.YtfjcciaabkjkgaaGreatDoor
open Go
inductive Kd where
  | pure | read | stay | ext | tame | wild
  deriving DecidableEq
def Kd.ok (T : Heap → Heap → Prop) : Kd → Heap → Heap → Prop
  | .pure, h, h' => h' = h
  | .read, h, h' => h' = h
  | .stay, h, h' => h' = h
  | .ext, h, h' => Ext h h'
  | .tame, h, h' => T h h'
  | .wild, _, _ => True
structure Fit (T : Heap → Heap → Prop) : Prop where
  ext : ∀ h h', Ext h h' → T h h'
  trans : ∀ a b c, T a b → T b c → T a c
theorem Fit.refl {T : Heap → Heap → Prop} (f : Fit T) (h : Heap) : T h h := f.ext _ _ (Ext.refl h)
theorem fit_true : Fit (fun _ _ => True) := ⟨fun _ _ _ => trivial, fun _ _ _ _ _ => trivial⟩
theorem Kd.ok_refl {T : Heap → Heap → Prop} (f : Fit T) (k : Kd) (h : Heap) : k.ok T h h := by
  cases k <;> first | rfl | exact Ext.refl _ | exact f.refl h | trivial
theorem Kd.ok_ext {T : Heap → Heap → Prop} {k : Kd} (hk : k ≠ .wild) (hk' : k ≠ .tame) {h h' : Heap} (ho : k.ok T h h') : Ext h h' := by
  cases k with
  | pure => rw [show h' = h from ho]; exact Ext.refl _
  | read => rw [show h' = h from ho]; exact Ext.refl _
  | stay => rw [show h' = h from ho]; exact Ext.refl _
  | ext => exact ho
  | tame => exact absurd rfl hk'
  | wild => exact absurd rfl hk
theorem Kd.ok_T {T : Heap → Heap → Prop} (f : Fit T) {k : Kd} (hk : k ≠ .wild) {h h' : Heap} (ho : k.ok T h h') : T h h' := by
  cases k with
  | tame => exact ho
  | wild => exact absurd rfl hk
  | _ => exact f.ext _ _ (Kd.ok_ext (by simp) (by simp) ho)
section
variable (P : Program) (ops : Array Oper) (kd : Nat → Heap → Heap → Prop)
def hOp (i : Nat) (K : Regs → Heap → Prop) (ρ : Regs) (h : Heap) : Prop :=
  match ops[i]? with
  | none => K ρ h
  | some o => if Region.wanted o (yl ops ρ) then HStep P ρ o h (fun v h' => kd i h h' ∧ K (updo ρ o.dst v) h') else K (updo ρ o.dst undef) h
def HAny (Q : Regs → Heap → Prop) : Nat → Array Bool → Regs → Heap → Prop
  | 0, l, ρ, h => Region.ready .any ops l = [] ∧ Q ρ h
  | f + 1, l, ρ, h => (Region.ready .any ops l = [] → Q ρ h) ∧ ∀ i ∈ Region.ready .any ops l, hOp P ops kd i (HAny Q f (l.setIfInBounds i true)) ρ h
variable {P ops kd}
theorem hOp_mono {i : Nat} {K K' : Regs → Heap → Prop} {ρ : Regs} {h : Heap} (hk : ∀ ρ h, K ρ h → K' ρ h) (hh : hOp P ops kd i K ρ h) : hOp P ops kd i K' ρ h := by
  unfold hOp at *
  split
  · rename_i ho; simp only [ho] at hh; exact hk _ _ hh
  · rename_i o ho
    simp only [ho] at hh
    split
    · rename_i hw; rw [if_pos hw] at hh; exact hh.mono fun v h' ⟨h1, h2⟩ => ⟨h1, hk _ _ h2⟩
    · rename_i hw; rw [if_neg hw] at hh; exact hk _ _ hh
theorem wpOp_of_hOp {m : Mo} {N n i : Nat} {K : Regs → Heap → Prop} {K' : Act → World → Prop} {Q' : Exit → Act → World → Prop} {ρ : Regs} {h : Heap} {a : Act} {w w0 : World}
    (hd : ∀ o, ops[i]? = some o → dstB n o = true) (s : St n ρ a) (hm : Marks m N a.defers w.heap) (hw : w.heap = h) (h0 : Sim w0 w)
    (hk : ∀ ρ h a w, St n ρ a → Marks m N a.defers w.heap → w.heap = h → Sim w0 w → K ρ h → K' a w) (hh : hOp P ops kd i K ρ h) : wpOpIn m.fence 0 P ops Q' i K' a w := by
  unfold hOp at hh
  unfold wpOpIn
  split
  · rename_i ho; simp only [ho] at hh; exact hk _ _ _ _ s hm hw h0 hh
  · rename_i o ho
    simp only [ho] at hh
    rw [s.yielded]
    split
    · rename_i hw'; rw [if_pos hw'] at hh
      exact wp_of_step hh s hw h0 hm fun v w' h1 h2 h3 => hk _ _ _ _ (s.put (dstB_spec (hd o ho)) v) h2 rfl h1 h3.2
    · rename_i hw'; rw [if_neg hw'] at hh
      exact ⟨fun _ _ => trivial, hk _ _ _ _ (s.put (dstB_spec (hd o ho)) _) (by rw [put_defers]; exact hm) hw h0 hh⟩
theorem wpAny_of_hAny {m : Mo} {N n : Nat} {Q : Regs → Heap → Prop} {w0 : World} (hd : ∀ (i : Nat) (o : Oper), ops[i]? = some o → dstB n o = true) : ∀ (f : Nat) (l : Array Bool) (ρ : Regs) (h : Heap) (a : Act) (w : World),
    St n ρ a → Marks m N a.defers w.heap → w.heap = h → Sim w0 w → HAny P ops kd Q f l ρ h → wpAnyIn m.fence 0 P .any ops (RQ m N n w0 Q) f l a w
  | 0, _, ρ, _, _, _, s, hm, hw, h0, hh => ⟨hh.1, rfl, h0, ρ, s, hm, by rw [hw]; exact hh.2⟩
  | f + 1, l, ρ, _, _, _, s, hm, hw, h0, hh => ⟨fun hr => ⟨rfl, h0, ρ, s, hm, by rw [hw]; exact hh.1 hr⟩, fun i hi =>
      wpOp_of_hOp (fun o ho => hd i o ho) s hm hw h0 (fun ρ' h' a' w' s' hm' hw' h0' hk => wpAny_of_hAny hd f _ ρ' h' a' w' s' hm' hw' h0' hk) (hh.2 i hi)⟩
theorem ev_updo {ρ : Regs} {dst : Option Nat} {v : Value} {x : Operand} (h : ∀ d, dst = some d → x ≠ .tmp d) : ev (updo ρ dst v) x = ev ρ x := by
  cases dst with
  | none => rfl
  | some d => cases x with
    | tmp t => exact upd_ne _ _ (fun e => h d rfl (by rw [e]))
    | _ => rfl
theorem exec_updo (o : Oper) (hs : ∀ cs b, o.op ≠ .select cs b) (ρ : Regs) (dst : Option Nat) (v : Value) (h : ∀ d, dst = some d → d ∉ o.looksAt ops) :
    execOp (ev (updo ρ dst v)) o = execOp (ev ρ) o :=
  execOp_congr o hs fun x hx => ev_updo fun d hd hxd => h d hd (by
    subst hxd
    exact List.mem_append_left _ (List.mem_filterMap.2 ⟨.tmp d, by simpa using hx, rfl⟩))
theorem wanted_updo (o : Oper) (ρ : Regs) (dst : Option Nat) (v : Value) (h : ∀ d, dst = some d → d ∉ o.looksAt ops) :
    Region.wanted o (yl ops (updo ρ dst v)) = Region.wanted o (yl ops ρ) := by
  cases dst with
  | none => rfl
  | some d =>
    have hd := h d rfl
    unfold Region.wanted
    cases hg : o.guard with
    | none => rfl
    | some p =>
      obtain ⟨j, want⟩ := p
      simp only
      have : yl ops (updo ρ (some d) v) j = yl ops ρ j := by
        unfold yl
        cases hj : (ops[j]?).bind (·.dst) with
        | none => rfl
        | some t =>
          have hne : t ≠ d := fun e => hd (by
            subst e
            refine List.mem_append_right _ ?_
            rw [hg]
            simp [hj])
          simp only [updo]
          rw [upd_ne _ _ hne]
      rw [this]
theorem updo_comm (ρ : Regs) {x y : Option Nat} (v u : Value) (h : ∀ d, x = some d → y ≠ some d) : updo (updo ρ x v) y u = updo (updo ρ y u) x v := by
  cases x with
  | none => rfl
  | some d => cases y with
    | none => rfl
    | some e => exact upd_comm ρ v u (fun he => h d rfl (by rw [he]))
def Yl (P : Program) (ops : Array Oper) (o : Oper) (v : Value) (S : Heap → Prop) (ρ : Regs) : Prop :=
  (Region.wanted o (yl ops ρ) = true ∧ ∀ h, S h → HVal P ρ o h v) ∨ (Region.wanted o (yl ops ρ) = false ∧ v = undef)
theorem Yl.hOp {i : Nat} {o : Oper} {v : Value} {S : Heap → Prop} {ρ : Regs} {h : Heap} (hi : ops[i]? = some o) (hy : Yl P ops o v S ρ) (hS : S h) (hrf : ∀ i h, kd i h h)
    {K : Regs → Heap → Prop} (hk : K (updo ρ o.dst v) h) : hOp P ops kd i K ρ h := by
  unfold Go.Proofs.YtfjcciaabkjkgaaGreatDoor.hOp
  simp only [hi]
  rcases hy with ⟨hw, hv⟩ | ⟨hw, rfl⟩
  · rw [if_pos hw]
    exact HStep.of_val (hv h hS) ⟨hrf i h, hk⟩
  · rw [if_neg (by simp [hw])]; exact hk
theorem Yl.updo {o : Oper} {v : Value} {S S' : Heap → Prop} {ρ : Regs} (hs : ∀ cs b, o.op ≠ .select cs b) (hy : Yl P ops o v S ρ) {dst : Option Nat} (u : Value)
    (h : ∀ d, dst = some d → d ∉ o.looksAt ops) (hS : ∀ h, S' h → S h) : Yl P ops o v S' (updo ρ dst u) := by
  unfold Yl at *
  rw [wanted_updo o ρ dst u h]
  refine hy.imp (fun ⟨h1, h2⟩ => ⟨h1, fun h' hh' => ?_⟩) id
  have := h2 h' (hS h' hh')
  unfold HVal HStep at *
  rw [exec_updo o hs ρ dst u h]
  exact this
inductive Desc (ops : Array Oper) (i : Nat) : Nat → Prop
  | one {j : Nat} {o : Oper} {e : Edge} : ops[j]? = some o → e ∈ o.after → Region.binds .any e = true → e.on = i → Desc ops i j
  | more {j : Nat} {o : Oper} {e : Edge} : ops[j]? = some o → e ∈ o.after → Region.binds .any e = true → Desc ops i e.on → Desc ops i j
def Shut (ops : Array Oper) (l : Array Bool) : Prop := ∀ j o, ops[j]? = some o → l.getD j false = true → ∀ e ∈ o.after, Region.binds .any e = true → l.getD e.on false = true
theorem Shut.desc {l : Array Bool} (hc : Shut ops l) {i j : Nat} (hi : l.getD i false = false) (hd : Desc ops i j) : l.getD j false = false := by
  induction hd with
  | one hj he hb ho =>
    cases hl : l.getD _ false
    · rfl
    · have := hc _ _ hj hl _ he hb; rw [ho, hi] at this; cases this
  | more hj he hb _ ih =>
    cases hl : l.getD _ false
    · rfl
    · have := hc _ _ hj hl _ he hb; rw [ih] at this; cases this
theorem Shut.not_ready {l : Array Bool} (hc : Shut ops l) {i j : Nat} (hi : l.getD i false = false) (hd : Desc ops i j) : j ∉ Region.ready .any ops l := by
  intro hr
  obtain ⟨_, o, ho, hall⟩ := mem_ready.1 hr
  cases hd with
  | one hj he hb hon => rw [ho] at hj; cases hj; have := hall _ he hb; rw [hon, hi] at this; cases this
  | more hj he hb hd' => rw [ho] at hj; cases hj; have := hall _ he hb; rw [hc.desc hi hd'] at this; cases this
theorem Shut.set {l : Array Bool} (hc : Shut ops l) {i : Nat} (hi : i ∈ Region.ready .any ops l) : Shut ops (l.setIfInBounds i true) := by
  intro j o hj hl e he hb
  obtain ⟨_, oi, hoi, hall⟩ := mem_ready.1 hi
  by_cases hij : i = j
  · subst hij; rw [hoi] at hj; cases hj; exact getD_set_true (hall e he hb)
  · rw [getD_set_ne false hij] at hl; exact getD_set_true (hc j o hj hl e he hb)
theorem ready_un {l : Array Bool} {i : Nat} (hi : i ∈ Region.ready .any ops l) : l.getD i false = false := by
  have := (mem_ready.1 hi).1
  rcases Nat.lt_or_ge i l.size with h' | h'
  · simp [h'] at this ⊢; exact this
  · simp [Array.getElem?_eq_none h']
theorem hAny_first {Q : Regs → Heap → Prop} {i : Nat} {oi : Oper} {v : Value} (hi : ops[i]? = some oi) (hsel : ∀ (j : Nat) (o : Oper) cs b, ops[j]? = some o → o.op ≠ .select cs b)
    (hrf : ∀ i h, kd i h h) (U : Heap → Heap → Prop) (hUr : ∀ h, U h h) (hUt : ∀ a b c, U a b → U b c → U a c) : ∀ (f : Nat) (l : Array Bool) (ρ : Regs) (h : Heap), Shut ops l →
      (∀ j oj, ops[j]? = some oj → j ≠ i → l.getD j true = false → (∀ e ∈ oj.after, Region.binds .any e = true → e.on ≠ i) → oi.apart ops oj = true) →
      (∀ j, l.getD j true = false → ¬ Desc ops i j → ∀ h h', kd j h h' → U h h') →
      i ∈ Region.ready .any ops l → Yl P ops oi v (fun h' => U h h') ρ →
      HAny P ops kd Q f (l.setIfInBounds i true) (updo ρ oi.dst v) h → HAny P ops kd Q (f + 1) l ρ h := by
  intro f
  induction f with
  | zero =>
    intro l ρ h hc _ _ hr hy H
    refine ⟨fun h => (by rw [h] at hr; cases hr), fun j hj => ?_⟩
    by_cases hji : j = i
    · subst hji; exact hy.hOp hi (hUr _) hrf H
    · have := ready_mono hj hji
      rw [H.1] at this
      cases this
  | succ f ih =>
    intro l ρ h hc hfree hwild hr hy H
    refine ⟨fun h => (by rw [h] at hr; cases hr), fun j hj => ?_⟩
    by_cases hji : j = i
    · subst hji; exact hy.hOp hi (hUr _) hrf H
    · have h1 := H.2 j (ready_mono hj hji)
      obtain ⟨hjun, oj, hoj, hall⟩ := mem_ready.1 hj
      have hiun := ready_un hr
      have hnot : ∀ e ∈ oj.after, Region.binds .any e = true → e.on ≠ i := fun e he hb heq => by
        have h1 := hall e he hb; rw [heq, hiun] at h1; cases h1
      obtain ⟨a1, a2, a3⟩ := Oper.apart_spec (hfree j oj hoj hji hjun hnot)
      have hkw : ∀ h h', kd j h h' → U h h' := hwild j hjun (fun hd => hc.not_ready hiun hd hj)
      -- what is known at the next state
      have hfree' : ∀ k ok, ops[k]? = some ok → k ≠ i → (l.setIfInBounds j true).getD k true = false →
          (∀ e ∈ ok.after, Region.binds .any e = true → e.on ≠ i) → oi.apart ops ok = true := fun k ok hk hki hun hno => by
        refine hfree k ok hk hki ?_ hno
        by_cases hjk : j = k
        · subst hjk; exact hjun
        · rw [getD_set_ne true hjk] at hun; exact hun
      have hwild' : ∀ k, (l.setIfInBounds j true).getD k true = false → ¬ Desc ops i k → ∀ h h', kd k h h' → U h h' := fun k hun => by
        refine hwild k ?_
        by_cases hjk : j = k
        · subst hjk; exact hjun
        · rw [getD_set_ne true hjk] at hun; exact hun
      unfold hOp at h1 ⊢
      simp only [hoj] at h1 ⊢
      rw [wanted_updo oj ρ oi.dst v a1] at h1
      split
      · rename_i hw
        rw [if_pos hw] at h1
        have h2 : HStep P ρ oj h (fun u h' => kd j h h' ∧ HAny P ops kd Q f ((l.setIfInBounds i true).setIfInBounds j true) (updo (updo ρ oi.dst v) oj.dst u) h') := by
          unfold HStep at *
          rw [exec_updo oj (fun cs b => hsel j oj cs b hoj) ρ oi.dst v a1] at h1
          exact h1
        refine h2.mono fun u h' ⟨hk, hn⟩ => ⟨hk, ?_⟩
        refine ih (l.setIfInBounds j true) (updo ρ oj.dst u) h' (hc.set hj) hfree' hwild' (ready_mono hr (Ne.symm hji)) ?_ ?_
        · exact hy.updo (fun cs b => hsel i oi cs b hi) u a3 (fun h'' hh'' => hUt _ _ _ (hkw _ _ hk) hh'')
        · rw [Array.setIfInBounds_comm _ _ hji, ← updo_comm ρ v u a2]; exact hn
      · rename_i hw
        rw [if_neg hw] at h1
        refine ih (l.setIfInBounds j true) (updo ρ oj.dst undef) h (hc.set hj) hfree' hwild' (ready_mono hr (Ne.symm hji)) ?_ ?_
        · exact hy.updo (fun cs b => hsel i oi cs b hi) undef a3 (fun h'' hh'' => hh'')
        · rw [Array.setIfInBounds_comm _ _ hji, ← updo_comm ρ v undef a2]; exact h1
end
def ancs : List Oper → List Nat → List Nat
  | [], acc => acc
  | o :: l, acc => ancs l (acc ++ [o.after.toList.foldl (fun s e => if Region.binds .any e then s ||| (2 ^ e.on ||| acc.getD e.on 0) else s) 0])
theorem fold_mask (ops : Array Oper) (acc : List Nat) (i : Nat) : ∀ (es : List Edge) (s : Nat), (es.foldl (fun s e => if Region.binds .any e then s ||| (2 ^ e.on ||| acc.getD e.on 0) else s) s).testBit i = true →
    s.testBit i = true ∨ ∃ e ∈ es, Region.binds .any e = true ∧ (e.on = i ∨ (acc.getD e.on 0).testBit i = true)
  | [], s, h => .inl h
  | e :: es, s, h => by
    simp only [List.foldl_cons] at h
    rcases fold_mask ops acc i es _ h with h1 | ⟨e', he', h2⟩
    · by_cases hb : Region.binds .any e = true
      · rw [if_pos hb, Nat.testBit_or, Nat.testBit_or] at h1
        simp only [Bool.or_eq_true] at h1
        rcases h1 with h1 | h1 | h1
        · exact .inl h1
        · refine .inr ⟨e, by simp, hb, .inl ?_⟩
          rw [Nat.testBit_two_pow] at h1; simpa using h1
        · exact .inr ⟨e, by simp, hb, .inr h1⟩
      · rw [if_neg hb] at h1; exact .inl h1
    · exact .inr ⟨e', by simp [he'], h2⟩
theorem ancs_spec (ops : Array Oper) (i : Nat) : ∀ (l : List Oper) (acc : List Nat), (∀ k, l[k]? = ops[acc.length + k]?) → (∀ j, (acc.getD j 0).testBit i = true → Desc ops i j) →
    ∀ j, ((ancs l acc).getD j 0).testBit i = true → Desc ops i j
  | [], _, _, h => h
  | o :: l, acc, hl, h => by
    refine ancs_spec ops i l _ (fun k => ?_) (fun j hj => ?_)
    · have := hl (k + 1); simp only [List.getElem?_cons_succ] at this; rw [this]; simp; congr 1; omega
    · rw [List.getD_eq_getElem?_getD] at hj
      by_cases h1 : j < acc.length
      · rw [List.getElem?_append_left h1, ← List.getD_eq_getElem?_getD] at hj; exact h j hj
      · by_cases h2 : j = acc.length
        · subst h2
          rw [List.getElem?_append_right (Nat.le_refl _)] at hj
          simp only [Nat.sub_self, List.getElem?_cons_zero, Option.getD_some] at hj
          have ho : ops[acc.length]? = some o := by simpa using (hl 0).symm
          rcases fold_mask ops acc i o.after.toList 0 hj with h3 | ⟨e, he, hb, h3⟩
          · simp at h3
          · rcases h3 with h3 | h3
            · exact .one ho (by simpa using he) hb h3
            · exact .more ho (by simpa using he) hb (h _ h3)
        · rw [List.getElem?_eq_none (by simp; omega)] at hj; simp at hj
def kdOf (ks : List Kd) (i : Nat) : Kd := ks.getD i .pure
def aheadB (bad : Kd → Bool) (anc : List Nat) (ks : List Kd) (i : Nat) (l : Array Bool) : Bool :=
  (List.range ks.length).all fun j => l.getD j true || !(bad (kdOf ks j)) || (anc.getD j 0).testBit i
def stepB (ops : Array Oper) (anc : List Nat) (ks : List Kd) (i : Nat) (l : Array Bool) : Bool :=
  match kdOf ks i with
  | .pure => (Region.ready .any ops l).contains i && Region.free .any ops l i
  | .read => (Region.ready .any ops l).contains i && Region.free .any ops l i && aheadB (fun k => k == .wild || k == .tame) anc ks i l
  | .stay => (Region.ready .any ops l).contains i && Region.free .any ops l i && aheadB (fun k => k == .wild) anc ks i l
  | _ => Region.ready .any ops l == [i]
def planB (ops : Array Oper) (anc : List Nat) (ks : List Kd) : List Nat → Array Bool → Bool
  | [], l => (Region.ready .any ops l).isEmpty
  | i :: π, l => stepB ops anc ks i l && planB ops anc ks π (l.setIfInBounds i true)
def HPlan (P : Program) (ops : Array Oper) (ks : List Kd) (T : Heap → Heap → Prop) (Q : Regs → Heap → Prop) : List Nat → Regs → Heap → Prop
  | [], ρ, h => Q ρ h
  | i :: π, ρ, h => match ops[i]? with
    | none => False
    | some o => if Region.wanted o (yl ops ρ) then (match kdOf ks i with
        | .pure => ∃ v, (∀ h', HVal P ρ o h' v) ∧ HPlan P ops ks T Q π (updo ρ o.dst v) h
        | .read => ∃ v, (∀ h', Ext h h' → HVal P ρ o h' v) ∧ HPlan P ops ks T Q π (updo ρ o.dst v) h
        | .stay => ∃ v, (∀ h', T h h' → HVal P ρ o h' v) ∧ HPlan P ops ks T Q π (updo ρ o.dst v) h
        | k => HStep P ρ o h fun v h' => k.ok T h h' ∧ HPlan P ops ks T Q π (updo ρ o.dst v) h')
      else HPlan P ops ks T Q π (updo ρ o.dst undef) h
theorem kdOf_lt {ks : List Kd} {j : Nat} (h : kdOf ks j ≠ .pure) : j < ks.length := by
  rcases Nat.lt_or_ge j ks.length with h' | h'
  · exact h'
  · unfold kdOf at h; rw [List.getD_eq_getElem?_getD, List.getElem?_eq_none h'] at h; exact absurd rfl h
theorem aheadB_spec {bad : Kd → Bool} (hb : bad .pure = false) {ops : Array Oper} {ks : List Kd} {i : Nat} {l : Array Bool} (h : aheadB bad (ancs ops.toList []) ks i l = true) {j : Nat} (hun : l.getD j true = false) (hd : ¬ Desc ops i j) : bad (kdOf ks j) = false := by
  cases hk : bad (kdOf ks j) with
  | false => rfl
  | true =>
    have hl : j < ks.length := kdOf_lt (fun e => by rw [e, hb] at hk; cases hk)
    have h1 := List.all_eq_true.1 h j (List.mem_range.2 hl)
    rw [hun, hk] at h1
    simp only [Bool.false_or, Bool.not_true] at h1
    exact absurd (ancs_spec ops i ops.toList [] (fun k => by simp) (fun j hj => by simp at hj) j h1) hd
theorem hAny_of_plan {P : Program} {ops : Array Oper} {ks : List Kd} {T : Heap → Heap → Prop} {Q : Regs → Heap → Prop} (hT : Fit T) (hs : Region.noSelect ops = true) :
    ∀ (π : List Nat) (l : Array Bool) (ρ : Regs) (h : Heap), Shut ops l → planB ops (ancs ops.toList []) ks π l = true → HPlan P ops ks T Q π ρ h → HAny P ops (fun i => (kdOf ks i).ok T) Q π.length l ρ h
  | [], l, ρ, h, _, hB, hp => ⟨by simpa [planB] using hB, hp⟩
  | i :: π, l, ρ, h, hc, hB, hp => by
    simp only [planB, Bool.and_eq_true] at hB
    obtain ⟨hB1, hB2⟩ := hB
    simp only [HPlan] at hp
    cases ho : ops[i]? with
    | none => rw [ho] at hp; exact hp.elim
    | some o =>
      simp only [ho] at hp
      have first : ∀ (U : Heap → Heap → Prop) (v : Value), (∀ h, U h h) → (∀ a b c, U a b → U b c → U a c) → (Region.ready .any ops l).contains i = true → Region.free .any ops l i = true →
          (∀ j, l.getD j true = false → ¬ Desc ops i j → ∀ h h', (kdOf ks j).ok T h h' → U h h') →
          Yl P ops o v (fun h' => U h h') ρ → HPlan P ops ks T Q π (updo ρ o.dst v) h → HAny P ops (fun i => (kdOf ks i).ok T) Q (π.length + 1) l ρ h := by
        intro U v hUr hUt hr hf hw hy hn
        have hr' : i ∈ Region.ready .any ops l := by simpa using hr
        exact hAny_first ho (Region.noSelect_spec hs) (fun i h => Kd.ok_refl hT _ h) U hUr hUt π.length l ρ h hc (Region.free_spec ho hf) hw hr' hy
          (hAny_of_plan hT hs π _ _ _ (hc.set hr') hB2 hn)
      have uP : ∀ v, (Region.ready .any ops l).contains i = true → Region.free .any ops l i = true → Yl P ops o v (fun _ => True) ρ → HPlan P ops ks T Q π (updo ρ o.dst v) h → HAny P ops (fun i => (kdOf ks i).ok T) Q (π.length + 1) l ρ h :=
        fun v hr hf hy hn => first (fun _ _ => True) v (fun _ => trivial) (fun _ _ _ _ _ => trivial) hr hf (fun _ _ _ _ _ _ => trivial) hy hn
      have uR : ∀ v, (Region.ready .any ops l).contains i = true → Region.free .any ops l i = true → aheadB (fun k => k == .wild || k == .tame) (ancs ops.toList []) ks i l = true → Yl P ops o v (fun h' => Ext h h') ρ → HPlan P ops ks T Q π (updo ρ o.dst v) h → HAny P ops (fun i => (kdOf ks i).ok T) Q (π.length + 1) l ρ h := by
        intro v hr hf hb hy hn
        refine first Ext v Ext.refl (fun _ _ _ => Ext.trans) hr hf (fun j hun hd h h' hk => ?_) hy hn
        have := aheadB_spec (by rfl) hb hun hd
        exact Kd.ok_ext (fun e => by rw [e] at this; simp at this) (fun e => by rw [e] at this; simp at this) hk
      have uS : ∀ v, (Region.ready .any ops l).contains i = true → Region.free .any ops l i = true → aheadB (fun k => k == .wild) (ancs ops.toList []) ks i l = true → Yl P ops o v (fun h' => T h h') ρ → HPlan P ops ks T Q π (updo ρ o.dst v) h → HAny P ops (fun i => (kdOf ks i).ok T) Q (π.length + 1) l ρ h := by
        intro v hr hf hb hy hn
        refine first T v hT.refl hT.trans hr hf (fun j hun hd h h' hk => ?_) hy hn
        have := aheadB_spec (by rfl) hb hun hd
        exact Kd.ok_T hT (fun e => by rw [e] at this; simp at this) hk
      have lone : ∀ (_hr : Region.ready .any ops l = [i]), hOp P ops (fun i => (kdOf ks i).ok T) i (fun ρ h => HPlan P ops ks T Q π ρ h) ρ h → HAny P ops (fun i => (kdOf ks i).ok T) Q (π.length + 1) l ρ h := by
        intro hr hh
        refine ⟨fun h => (by rw [hr] at h; cases h), fun j hj => ?_⟩
        rw [hr] at hj
        obtain rfl : j = i := by simpa using hj
        exact hOp_mono (fun ρ' h' hn => hAny_of_plan hT hs π _ ρ' h' (hc.set (by rw [hr]; simp)) hB2 hn) hh
      unfold stepB at hB1
      by_cases hw : Region.wanted o (yl ops ρ) = true
      · simp only [hw, if_true] at hp
        cases hk : kdOf ks i with
        | pure =>
          simp only [hk, Bool.and_eq_true] at hB1 hp
          obtain ⟨v, hv, hn⟩ := hp
          exact uP v hB1.1 hB1.2 (.inl ⟨hw, fun h' _ => hv h'⟩) hn
        | read =>
          simp only [hk, Bool.and_eq_true] at hB1 hp
          obtain ⟨v, hv, hn⟩ := hp
          exact uR v hB1.1.1 hB1.1.2 hB1.2 (.inl ⟨hw, fun h' hh' => hv h' hh'⟩) hn
        | stay =>
          simp only [hk, Bool.and_eq_true] at hB1 hp
          obtain ⟨v, hv, hn⟩ := hp
          exact uS v hB1.1.1 hB1.1.2 hB1.2 (.inl ⟨hw, fun h' hh' => hv h' hh'⟩) hn
        | ext =>
          simp only [hk, beq_iff_eq] at hB1 hp
          refine lone hB1 ?_
          unfold hOp; simp only [ho, hw, if_true, hk]; exact hp
        | tame =>
          simp only [hk, beq_iff_eq] at hB1 hp
          refine lone hB1 ?_
          unfold hOp; simp only [ho, hw, if_true, hk]; exact hp
        | wild =>
          simp only [hk, beq_iff_eq] at hB1 hp
          refine lone hB1 ?_
          unfold hOp; simp only [ho, hw, if_true, hk]; exact hp
      · have hw' : Region.wanted o (yl ops ρ) = false := by simpa using hw
        simp only [hw', Bool.false_eq_true, if_false] at hp
        cases hk : kdOf ks i with
        | pure =>
          simp only [hk, Bool.and_eq_true] at hB1
          exact uP undef hB1.1 hB1.2 (.inr ⟨hw', rfl⟩) hp
        | read =>
          simp only [hk, Bool.and_eq_true] at hB1
          exact uR undef hB1.1.1 hB1.1.2 hB1.2 (.inr ⟨hw', rfl⟩) hp
        | stay =>
          simp only [hk, Bool.and_eq_true] at hB1
          exact uS undef hB1.1.1 hB1.1.2 hB1.2 (.inr ⟨hw', rfl⟩) hp
        | ext =>
          simp only [hk, beq_iff_eq] at hB1
          refine lone hB1 ?_
          unfold hOp; simp only [ho, hw', Bool.false_eq_true, if_false]; exact hp
        | tame =>
          simp only [hk, beq_iff_eq] at hB1
          refine lone hB1 ?_
          unfold hOp; simp only [ho, hw', Bool.false_eq_true, if_false]; exact hp
        | wild =>
          simp only [hk, beq_iff_eq] at hB1
          refine lone hB1 ?_
          unfold hOp; simp only [ho, hw', Bool.false_eq_true, if_false]; exact hp
def regB (n : Nat) (ops : Array Oper) (ks : List Kd) (π : List Nat) : Bool :=
  Region.noSelect ops && ops.all (dstB n) && (π.length == ops.size) && planB ops (ancs ops.toList []) ks π (Array.replicate ops.size false)
theorem hx_drawT {m : Mo} {P : Program} {n : Nat} {Q : Exit → Regs → Heap → Prop} {ρ : Regs} {h : Heap} {id : Nat} {l : List Oper} (hmix : P.follows .mixedOrders = true) (T : Heap → Heap → Prop) (hT : Fit T) (ks : List Kd) (π : List Nat)
    (hB : regB n l.toArray ks π = true) (hp : HPlan P l.toArray ks T (Q .normal) π ρ h) : HX m P n (.region id l.toArray true) Q ρ h := by
  intro N a w s hm hw
  simp only [regB, Bool.and_eq_true, beq_iff_eq] at hB
  obtain ⟨⟨⟨h1, h2⟩, h3⟩, h4⟩ := hB
  have hd : ∀ (i : Nat) (o : Oper), (l.toArray)[i]? = some o → dstB n o = true := fun i o ho => Array.all_eq_true_iff_forall_mem.1 h2 o (Array.mem_of_getElem? ho)
  refine wpIn_mono (wpIn_region_any hmix (wpAny_of_hAny (kd := fun i => (kdOf ks i).ok T) (Q := Q .normal) (w0 := w) hd _ _ ρ h a _ s hm hw ⟨rfl, rfl, rfl, HG.refl _⟩ ?_)) fun _ _ _ ⟨he, g1, ρ', g2, g3, g4⟩ => ⟨g1, ρ', g2, g3, by rw [he]; exact g4⟩
  rw [← h3]
  refine hAny_of_plan hT h1 π _ ρ h (fun j o _ hl => ?_) (by rw [h3]; exact h4) hp
  have : (Array.replicate π.length false).getD j false = false := by
    rcases Nat.lt_or_ge j π.length with h | h <;> simp [Array.getD, h]
  rw [this] at hl; cases hl
theorem hx_draw {m : Mo} {P : Program} {n : Nat} {Q : Exit → Regs → Heap → Prop} {ρ : Regs} {h : Heap} {id : Nat} {l : List Oper} (hmix : P.follows .mixedOrders = true) (ks : List Kd) (π : List Nat)
    (hB : regB n l.toArray ks π = true) (hp : HPlan P l.toArray ks (fun _ _ => True) (Q .normal) π ρ h) : HX m P n (.region id l.toArray true) Q ρ h := hx_drawT hmix _ fit_true ks π hB hp
section
variable {P : Program} {ops : Array Oper} {ks : List Kd} {T : Heap → Heap → Prop} {Q : Regs → Heap → Prop} {i : Nat} {π : List Nat} {ρ : Regs} {h : Heap} {o : Oper}
theorem hp_nil (hq : Q ρ h) : HPlan P ops ks T Q [] ρ h := hq
theorem hp_pure (ho : ops[i]? = some o) (hw : Region.wanted o (yl ops ρ) = true) (hk : kdOf ks i = .pure) (v : Value) (hv : ∀ h', HVal P ρ o h' v) (hn : HPlan P ops ks T Q π (updo ρ o.dst v) h) : HPlan P ops ks T Q (i :: π) ρ h := by
  simp only [HPlan, ho, hw, if_true, hk]; exact ⟨v, hv, hn⟩
theorem hp_read (ho : ops[i]? = some o) (hw : Region.wanted o (yl ops ρ) = true) (hk : kdOf ks i = .read) (v : Value) (hv : ∀ h', Ext h h' → HVal P ρ o h' v) (hn : HPlan P ops ks T Q π (updo ρ o.dst v) h) : HPlan P ops ks T Q (i :: π) ρ h := by
  simp only [HPlan, ho, hw, if_true, hk]; exact ⟨v, hv, hn⟩
theorem hp_stay (ho : ops[i]? = some o) (hw : Region.wanted o (yl ops ρ) = true) (hk : kdOf ks i = .stay) (v : Value) (hv : ∀ h', T h h' → HVal P ρ o h' v) (hn : HPlan P ops ks T Q π (updo ρ o.dst v) h) : HPlan P ops ks T Q (i :: π) ρ h := by
  simp only [HPlan, ho, hw, if_true, hk]; exact ⟨v, hv, hn⟩
theorem hp_tame (ho : ops[i]? = some o) (hw : Region.wanted o (yl ops ρ) = true) (hk : kdOf ks i = .tame) (hs : HStep P ρ o h fun v h' => T h h' ∧ HPlan P ops ks T Q π (updo ρ o.dst v) h') : HPlan P ops ks T Q (i :: π) ρ h := by
  simp only [HPlan, ho, hw, if_true, hk]; exact hs
theorem hp_ext (ho : ops[i]? = some o) (hw : Region.wanted o (yl ops ρ) = true) (hk : kdOf ks i = .ext) (hs : HStep P ρ o h fun v h' => Ext h h' ∧ HPlan P ops ks T Q π (updo ρ o.dst v) h') : HPlan P ops ks T Q (i :: π) ρ h := by
  simp only [HPlan, ho, hw, if_true, hk]; exact hs
theorem hp_wild (ho : ops[i]? = some o) (hw : Region.wanted o (yl ops ρ) = true) (hk : kdOf ks i = .wild) (hs : HStep P ρ o h fun v h' => HPlan P ops ks T Q π (updo ρ o.dst v) h') : HPlan P ops ks T Q (i :: π) ρ h := by
  simp only [HPlan, ho, hw, if_true, hk]; exact hs.mono fun v h' hn => ⟨trivial, hn⟩
theorem hp_no (ho : ops[i]? = some o) (hw : Region.wanted o (yl ops ρ) = false) (hn : HPlan P ops ks T Q π (updo ρ o.dst undef) h) : HPlan P ops ks T Q (i :: π) ρ h := by
  simp only [HPlan, ho, hw, Bool.false_eq_true, if_false]; exact hn
end
end Go.Proofs.YtfjcciaabkjkgaaGreatDoor
namespace Go.Proofs.YtfjcciaabkjkgaaGreatDoor
open Go
def hcell (h : Heap) (b o : Nat) : Option Value :=
  match h[b]? with
  | some (.cells c _ _) => c[o]?
  | _ => none
theorem cell_hcell (w : World) (b o : Nat) : w.cell? ⟨b, o, none⟩ = hcell w.heap b o := by
  unfold World.cell? hcell; simp
  split <;> simp_all
theorem hcell_lt {h : Heap} {b o : Nat} {v : Value} (hc : hcell h b o = some v) : b < h.size := by
  unfold hcell at hc
  rcases Nat.lt_or_ge b h.size with h' | h'
  · exact h'
  · rw [Array.getElem?_eq_none h'] at hc; cases hc
theorem Ext.cell {h h' : Heap} (he : Ext h h') {b o : Nat} {v : Value} (hc : hcell h b o = some v) : hcell h' b o = some v := by
  have := he.block b (hcell_lt hc)
  unfold hcell at *; rw [this]; exact hc
def HCells (h : Heap) (b : Nat) : Nat → List Value → Prop
  | _, [] => True
  | o, v :: vs => hcell h b o = some v ∧ HCells h b (o + 1) vs
theorem HCells.ext {h h' : Heap} (he : Ext h h') {b : Nat} : ∀ {o : Nat} {vs : List Value}, HCells h b o vs → HCells h' b o vs
  | _, [], _ => trivial
  | _, _ :: _, hc => ⟨he.cell hc.1, HCells.ext he hc.2⟩
def ptr (b o : Nat) : Value := .pointer (some ⟨b, o, none⟩)
section
variable {P : Program} {ρ : Regs} {h : Heap} {d : Option Nat} {ty : TypeId} {p : String} {af : Array Edge} {g : Option (Nat × Bool)}
theorem hv_of {o : Oper} {v : Value} (hr : ∀ w : World, w.heap = h → (execOp (ev ρ) o).run P w = .ok (.value v) w) : HVal P ρ o h v := by
  intro w hw; rw [hr w hw]; exact ⟨Sim.refl _, rfl, hw⟩
theorem hs_of {o : Oper} {v : Value} {h' : Heap} {K : Value → Heap → Prop} (hr : ∀ w : World, w.heap = h → (execOp (ev ρ) o).run P w = .ok (.value v) { w with heap := h' }) (hk : K v h') (hg : HG h h' := by exact HG.push _ _) : HStep P ρ o h K := by
  intro w hw; rw [hr w hw]; exact ⟨⟨rfl, rfl, rfl, by rw [hw]; exact hg⟩, hk⟩
theorem hs_skip_of {o : Oper} {h' : Heap} {K : Value → Heap → Prop} (hr : ∀ w : World, w.heap = h → (execOp (ev ρ) o).run P w = .ok .skip { w with heap := h' }) (hk : K undef h') (hg : HG h h') : HStep P ρ o h K := by
  intro w hw; rw [hr w hw]; exact ⟨⟨rfl, rfl, rfl, by rw [hw]; exact hg⟩, hk⟩
theorem hv_move {x : Operand} {v : Value} (hx : ev ρ x = v) : HVal P ρ ⟨d, .move x, ty, p, af, g⟩ h v :=
  hv_of fun w _ => by simp [execOp, hx, go_sem]
theorem hv_assign {x : Operand} {v : Value} (hx : ev ρ x = v) : HVal P ρ ⟨d, .assign x, ty, p, af, g⟩ h v :=
  hv_of fun w _ => by simp [execOp, hx, go_sem]
theorem hv_pick {c a b : Operand} {t : Bool} {v : Value} (hc : ev ρ c = .bool t) (hx : (if t then ev ρ a else ev ρ b) = v) : HVal P ρ ⟨d, .pick c a b, ty, p, af, g⟩ h v :=
  hv_of fun w _ => by simp [execOp, hc, ← hx, go_sem, asBool]
theorem hv_nil {x : Operand} {a : Addr} (hx : ev ρ x = .pointer (some a)) : HVal P ρ ⟨d, .nilCheck x, ty, p, af, g⟩ h (.pointer (some a)) :=
  hv_of fun w _ => by simp [execOp, hx, go_sem]
theorem hv_extract {x : Operand} {i : Nat} {vs : Array Value} {v : Value} (hx : ev ρ x = .tuple vs) (hi : vs[i]? = some v) : HVal P ρ ⟨d, .extract x i, ty, p, af, g⟩ h v :=
  hv_of fun w _ => by simp [execOp, hx, go_sem, Instr.extract, hi]
theorem hv_makeFunc {f : Fn} {fs cs : List Operand} {fv cv : List Value} (hf : List.map (ev ρ) fs = fv) (hc : List.map (ev ρ) cs = cv) : HVal P ρ ⟨d, .makeFunc f fs.toArray cs.toArray, ty, p, af, g⟩ h (.func f fv.toArray cv.toArray) :=
  hv_of fun w _ => by simp [execOp, go_sem, Instr.makeFunc, ← hf, ← hc]
theorem rnew {P : Program} {w : World} (o : Obj) : (newObj o).run P w = .ok w.heap.size { w with heap := w.heap.push o } := by simp [newObj, Sem.run]
def arithV (op : BinOp) (k : IntKind) (a b : Int) : Option Value :=
  match op with
  | .add => some (.int k (k.wrap (a + b)))
  | .sub => some (.int k (k.wrap (a - b)))
  | .mul => some (.int k (k.wrap (a * b)))
  | .quo => if b = 0 then none else some (.int k (k.wrap (a.tdiv b)))
  | .rem => if b = 0 then none else some (.int k (a.tmod b))
  | .eql => some (.bool (a == b))
  | .neq => some (.bool (a != b))
  | .lss => some (.bool (decide (a < b)))
  | .leq => some (.bool (decide (a ≤ b)))
  | .gtr => some (.bool (decide (a > b)))
  | .geq => some (.bool (decide (a ≥ b)))
  | _ => none
def shiftV (op : BinOp) (k : IntKind) (a b : Int) : Option Value :=
  match op with
  | .shl => some (.int k (k.wrap (a * 2 ^ min b.toNat k.bits)))
  | .shr => some (.int k (a.fdiv (2 ^ min b.toNat k.bits)))
  | _ => none
def oneC : Value → Bool
  | .agg _ | .tuple _ => false
  | _ => true
theorem rload {P : Program} {w : World} {a : Addr} {v : Value} {α : Type} {m : Mode} {k : Value → Sem α} (h : w.cell? a = some v) : (Sem.load m a k).run P w = (k v).run P w := by simp [Sem.run, h]
theorem rstore {P : Program} {w : World} {a : Addr} {v u : Value} {α : Type} {m : Mode} {k : Sem α} (hv : oneC v = true) (h : w.cell? a = some u) (hf : w.frozen? a = false) : (Sem.store m a v k).run P w = k.run P (w.setCell a v) := by
  cases v <;> simp [oneC] at hv <;> simp [Sem.run, h, hf]
theorem hv_arith {op : BinOp} {t t' : TypeId} {x y : Operand} {k : IntKind} {a b : Int} {v : Value} (hx : ev ρ x = .int k a) (hy : ev ρ y = .int k b)
    (hv : arithV op k a b = some v) : HVal P ρ ⟨d, .binOp op t x y t', ty, p, af, g⟩ h v :=
  hv_of fun w _ => by
    cases op <;> simp only [arithV, Option.some.injEq, reduceCtorEq] at hv
    case quo => by_cases hb : b = 0 <;> simp [hb] at hv; simp [execOp, hx, hy, go_sem, eqGuard, binOp, Op.intDiv, hb, ← hv]
    case rem => by_cases hb : b = 0 <;> simp [hb] at hv; simp [execOp, hx, hy, go_sem, eqGuard, binOp, Op.intDiv, hb, ← hv]
    all_goals simp [execOp, hx, hy, go_sem, eqGuard, binOp, Op.intArith, Op.intCmp, ← hv]
theorem hv_shift {op : BinOp} {t t' : TypeId} {x y : Operand} {k k' : IntKind} {a b : Int} {v : Value} (hx : ev ρ x = .int k a) (hy : ev ρ y = .int k' b) (hb : 0 ≤ b)
    (hv : shiftV op k a b = some v) : HVal P ρ ⟨d, .binOp op t x y t', ty, p, af, g⟩ h v :=
  hv_of fun w _ => by
    have : ¬ b < 0 := by omega
    cases op <;> simp only [shiftV, Option.some.injEq, reduceCtorEq] at hv
    all_goals simp [execOp, hx, hy, go_sem, eqGuard, binOp, Op.shift, this, ← hv]
theorem hv_not {t : TypeId} {x : Operand} {b : Bool} (hx : ev ρ x = .bool b) : HVal P ρ ⟨d, .unOp .not t x, ty, p, af, g⟩ h (.bool !b) :=
  hv_of fun w _ => by simp [execOp, hx, go_sem, Op.unary]
theorem hv_neg {t : TypeId} {x : Operand} {k : IntKind} {a : Int} (hx : ev ρ x = .int k a) : HVal P ρ ⟨d, .unOp .neg t x, ty, p, af, g⟩ h (.int k (k.wrap (0 - a))) :=
  hv_of fun w _ => by simp [execOp, hx, go_sem, Op.unary, Op.intArith]
theorem hv_convInt {s t : TypeId} {x : Operand} {k k' : IntKind} {a : Int} {ds : TypeDesc} (hs : P.underlying s = some ds) (ht : P.underlying t = some (.int k')) (hx : ev ρ x = .int k a) :
    HVal P ρ ⟨d, .convert s t x, ty, p, af, g⟩ h (.int k' (k'.wrap a)) :=
  hv_of fun w _ => by simp [execOp, hx, go_sem, convert, run_underlying hs, run_underlying ht, Conv.intToInt]
def aggB (P : Program) (t : TypeId) : Option Bool := (P.underlying t).map fun | .struct _ | .array _ _ => true | _ => false
def szB (P : Program) (t : TypeId) : Option Nat := (P.info? t).map (·.size)
theorem run_isAgg {t : TypeId} {b : Bool} (hb : aggB P t = some b) (w : World) : (isAgg t).run P w = .ok b w := by
  unfold aggB at hb
  cases hu : P.underlying t with
  | none => rw [hu] at hb; cases hb
  | some d => rw [hu] at hb; cases d <;> simp at hb <;> subst hb <;> simp [isAgg, run_underlying hu, go_sem]
theorem run_sizeOf {t : TypeId} {n : Nat} (hn : szB P t = some n) (w : World) : (sizeOf t).run P w = .ok n w := by
  unfold szB at hn
  cases hi : P.info? t with
  | none => rw [hi] at hn; cases hn
  | some i => rw [hi] at hn; simp at hn; subst hn; simp [sizeOf, typeInfo, hi, go_sem]
theorem hv_load {t : TypeId} {x : Operand} {b o : Nat} {v : Value} (ha : aggB P t = some false) (hx : ev ρ x = ptr b o) (hc : hcell h b o = some v) : HVal P ρ ⟨d, .load t x, ty, p, af, g⟩ h v :=
  hv_of fun w hw => by
    have hc' : w.cell? ⟨b, o, none⟩ = some v := by rw [cell_hcell, hw]; exact hc
    simp [execOp, hx, ptr, go_sem, Instr.loadAt, Instr.sureAddr, loadVar, run_isAgg ha, load, rload hc']
theorem add_lit (b o k : Nat) : (⟨b, o, none⟩ : Addr).add k = ⟨b, o + k, none⟩ := by unfold Addr.add; split <;> simp_all
theorem run_loadFrom (w : World) (b o : Nat) : ∀ (vs : List Value) (i : Nat) (acc : Array Value), HCells w.heap b (o + i) vs → (loadCellsFrom ⟨b, o, none⟩ i vs.length acc).run P w = .ok (acc ++ vs.toArray) w
  | [], i, acc, _ => by simp [loadCellsFrom, go_sem]
  | v :: vs, i, acc, hc => by
    have h1 : w.cell? ⟨b, o + i, none⟩ = some v := by rw [cell_hcell]; exact hc.1
    have ih := run_loadFrom w b o vs (i + 1) (acc.push v) (by have := hc.2; rwa [Nat.add_assoc] at this)
    have hl : (loadCellsFrom ⟨b, o, none⟩ i (v :: vs).length acc).run P w = (Sem.load .plain ⟨b, o + i, none⟩ fun v => loadCellsFrom ⟨b, o, none⟩ (i + 1) vs.length (acc.push v)).run P w := by
      rw [← add_lit]; rfl
    rw [hl, rload h1, ih]; simp
theorem hv_loads {t : TypeId} {x : Operand} {b o : Nat} {vs : List Value} (ha : aggB P t = some true) (hn : szB P t = some vs.length) (hx : ev ρ x = ptr b o) (hc : HCells h b o vs) : HVal P ρ ⟨d, .load t x, ty, p, af, g⟩ h (.agg vs.toArray) :=
  hv_of fun w hw => by
    have := run_loadFrom (P := P) w b o vs 0 #[] (by rw [hw]; exact hc)
    simp only [Array.empty_append] at this
    simp [execOp, hx, ptr, go_sem, Instr.loadAt, Instr.sureAddr, loadVar, run_isAgg ha, run_sizeOf hn, loadCells, this]
def fldB (P : Program) (s : TypeId) (f : Nat) : Option Nat :=
  match P.underlying s with
  | some (.struct fs) => match fs[f]? with
    | some fl => match szB P fl.type with
      | some (_ + 1) => some fl.offset
      | _ => none
    | none => none
  | _ => none
theorem hv_field {s : TypeId} {x : Operand} {f b o k : Nat} (hf : fldB P s f = some k) (hx : ev ρ x = ptr b o) : HVal P ρ ⟨d, .fieldAddr s x f, ty, p, af, g⟩ h (ptr b (o + k)) :=
  hv_of fun w _ => by
    unfold fldB at hf
    split at hf <;> try cases hf
    rename_i fs hu
    split at hf <;> try cases hf
    rename_i fl hfl
    split at hf <;> try cases hf
    rename_i n hs
    simp [execOp, hx, ptr, go_sem, Instr.fieldAt, Instr.sureAddr, run_underlying hu, hfl, fieldPlace, run_sizeOf hs, add_lit]
def elB (P : Program) (t : TypeId) : Option Nat :=
  match P.underlying t with
  | some (.slice e) => szB P e
  | _ => none
theorem hv_index {t : TypeId} {x y : Operand} {b o n c sz : Nat} {k : IntKind} {i : Int} (he : elB P t = some sz) (hx : ev ρ x = .slice (some ⟨b, o, none⟩) n c) (hy : ev ρ y = .int k i)
    (h0 : 0 ≤ i) (h1 : i < n) : HVal P ρ ⟨d, .indexAddr t x y, ty, p, af, g⟩ h (ptr b (o + i.toNat * sz)) :=
  hv_of fun w _ => by
    unfold elB at he
    split at he <;> try cases he
    rename_i e hu
    simp [execOp, hx, hy, ptr, go_sem, Instr.indexAt, asIntOf, run_underlying hu, h0, h1, run_sizeOf he, add_lit]
theorem hv_len {t : TypeId} {x : Operand} {e : TypeId} {a : Option Addr} {n c : Nat} (hu : P.underlying t = some (.slice e)) (hx : ev ρ x = .slice a n c) :
    HVal P ρ ⟨d, .call ⟨.builtin .len, #[x], #[t]⟩, ty, p, af, g⟩ h (.int .i64 n) :=
  hv_of fun w _ => by simp [hx, go_sem, Builtin.len_, run_underlying hu, goInt]
def zeroB (P : Program) (t : TypeId) (v : Value) : Prop := (P.info? t).bind (·.zero) = some v
theorem run_zero {t : TypeId} {v : Value} (hz : zeroB P t v) (w : World) : (zeroValue t).run P w = .ok v w := by
  unfold zeroB at hz
  cases hi : P.info? t with
  | none => rw [hi] at hz; cases hz
  | some i => rw [hi] at hz; simp at hz; simp [zeroValue, typeInfo, hi, hz, go_sem]
theorem hs_alloc {t : TypeId} {v : Value} {K : Value → Heap → Prop} (hz : zeroB P t v) (hk : K (ptr h.size 0) (h.push (.cells v.cells t))) : HStep P ρ ⟨d, .alloc t, ty, p, af, g⟩ h K :=
  hs_of (fun w hw => by simp [execOp, go_sem, Instr.alloc, run_zero hz, newVar, newRow, ptr]; subst hw; exact ⟨rfl, rfl⟩) hk
theorem hs_box {t : TypeId} {x : Operand} {v : Value} {K : Value → Heap → Prop} (hx : ev ρ x = v) (hk : K (ptr h.size 0) (h.push (.cells v.cells t))) : HStep P ρ ⟨d, .box t x, ty, p, af, g⟩ h K :=
  hs_of (fun w hw => by simp [execOp, go_sem, Instr.box, hx, newVar, newRow, ptr]; subst hw; exact ⟨rfl, rfl⟩) hk
def HW (h : Heap) (b o : Nat) : Prop := ∃ c T fr, h[b]? = some (.cells c T fr) ∧ o < c.size ∧ ¬ (fr.1 ≤ o ∧ o < fr.2)
def hset (h : Heap) (b o : Nat) (v : Value) : Heap :=
  h.modify b fun
    | .cells c T fr => .cells (c.setIfInBounds o v) T fr
    | x => x
theorem HG.hset (h : Heap) (b o : Nat) (v : Value) : HG h (hset h b o v) := by
  refine ⟨by unfold Go.Proofs.YtfjcciaabkjkgaaGreatDoor.hset; simp, fun i hi => ?_⟩
  unfold Go.Proofs.YtfjcciaabkjkgaaGreatDoor.hset
  rw [Array.getElem?_modify, hi]
  split <;> rfl
theorem run_store {b o : Nat} {v : Value} (w : World) (hv : oneC v = true) (hW : HW w.heap b o) : (store ⟨b, o, none⟩ v).run P w = .ok () { w with heap := hset w.heap b o v } := by
  obtain ⟨c, T, fr, h1, h2, h3⟩ := hW
  have hc : w.cell? ⟨b, o, none⟩ = some c[o] := by rw [cell_hcell]; unfold hcell; rw [h1]; simp [h2]
  have hf : w.frozen? ⟨b, o, none⟩ = false := by
    unfold World.frozen?; simp only [h1]
    obtain ⟨lo, hi⟩ := fr
    simp at h3 ⊢; exact h3
  simp only [store]; rw [rstore hv hc hf]; simp only [Sem.run]; rfl
def hsets (h : Heap) (b : Nat) : Nat → List Value → Heap
  | _, [] => h
  | o, v :: vs => hsets (hset h b o v) b (o + 1) vs
theorem HG.hsets (b : Nat) : ∀ (vs : List Value) (h : Heap) (o : Nat), HG h (hsets h b o vs)
  | [], h, _ => HG.refl h
  | v :: vs, h, o => (HG.hset h b o v).trans (HG.hsets b vs _ _)
theorem HW.hset {h : Heap} {b o o' : Nat} {v : Value} (hW : HW h b o) : HW (hset h b o' v) b o := by
  obtain ⟨c, T, fr, h1, h2, h3⟩ := hW
  refine ⟨c.setIfInBounds o' v, T, fr, ?_, by simpa using h2, h3⟩
  unfold Go.Proofs.YtfjcciaabkjkgaaGreatDoor.hset; rw [Array.getElem?_modify]; simp [h1]
theorem run_storeCells {b o : Nat} : ∀ (vs : List Value) (i : Nat) (w : World), (∀ v ∈ vs, oneC v = true) → (∀ j, j < vs.length → HW w.heap b (o + i + j)) →
    (storeCells ⟨b, o, none⟩ vs i).run P w = .ok () { w with heap := hsets w.heap b (o + i) vs }
  | [], i, w, _, _ => by simp [storeCells, go_sem, hsets]
  | v :: vs, i, w, hv, hW => by
    have h1 := run_store (P := P) (b := b) (o := o + i) (v := v) w (hv v (by simp)) (hW 0 (by simp))
    have ih := run_storeCells vs (i + 1) { w with heap := hset w.heap b (o + i) v } (fun u hu => hv u (by simp [hu])) (fun j hj => by
      have := hW (j + 1) (by simp; omega)
      have h2 : o + i + (j + 1) = o + (i + 1) + j := by omega
      rw [h2] at this
      exact HW.hset this)
    simp only [storeCells, add_lit, Sem.run_bind, h1, Result.andThen_ok, ih, hsets, Nat.add_assoc]
theorem run_storeVar {t : TypeId} {b o : Nat} {v : Value} {vs : List Value} (w : World) (hc : v.cells = vs.toArray) (hn : szB P t = some vs.length) (hv : ∀ v ∈ vs, oneC v = true)
    (hW : ∀ j, j < vs.length → HW w.heap b (o + j)) : (storeVar t ⟨b, o, none⟩ v).run P w = .ok () { w with heap := hsets w.heap b o vs } := by
  have := run_storeCells (P := P) (b := b) (o := o) vs 0 w hv (by simpa using hW)
  unfold storeVar
  rw [hc]
  simp only [Sem.run_bind, run_sizeOf hn, Result.andThen_ok, List.size_toArray, ne_eq, not_true, if_false]
  simpa using this
theorem hs_store {t : TypeId} {x y : Operand} {b o : Nat} {v : Value} {K : Value → Heap → Prop} (hx : ev ρ x = ptr b o) (hy : ev ρ y = v) (hn : szB P t = some 1) (hv : oneC v = true) (hW : HW h b o) (hk : K undef (hset h b o v)) :
    HStep P ρ ⟨d, .store t x y, ty, p, af, g⟩ h K :=
  hs_skip_of (h' := hset h b o v) (fun w hw => by
    subst hw
    have hc : v.cells = [v].toArray := by cases v <;> simp [oneC] at hv <;> rfl
    have := run_storeVar (P := P) (t := t) (b := b) (o := o) w hc hn (by simpa using hv) (fun j hj => by simp at hj; subst hj; exact hW)
    simp only [execOp, hx, hy, ptr, Instr.storeAt, Instr.sureAddr, Sem.run_bind, Sem.run_pure, Result.andThen_ok, this, hsets]) hk (HG.hset _ _ _ _)
theorem hs_stores {t : TypeId} {x y : Operand} {b o : Nat} {vs : List Value} {K : Value → Heap → Prop} (hx : ev ρ x = ptr b o) (hy : ev ρ y = .agg vs.toArray) (hn : szB P t = some vs.length) (hv : ∀ v ∈ vs, oneC v = true)
    (hW : ∀ j, j < vs.length → HW h b (o + j)) (hk : K undef (hsets h b o vs)) : HStep P ρ ⟨d, .store t x y, ty, p, af, g⟩ h K :=
  hs_skip_of (h' := hsets h b o vs) (fun w hw => by
    subst hw
    have := run_storeVar (P := P) (t := t) (b := b) (o := o) (v := .agg vs.toArray) w rfl hn hv hW
    simp only [execOp, hx, hy, ptr, Instr.storeAt, Instr.sureAddr, Sem.run_bind, Sem.run_pure, Result.andThen_ok, this]) hk (HG.hsets _ _ _ _)
def CallB (P : Program) (f : FuncId) : Prop := ∀ (args : Array Value) (w : World), (callFunc f args).run P w = .ok (.enter f args) w
theorem hs_call {f : FuncId} {xs : List Operand} {ts : Array TypeId} {vs : List Value} {K : Value → Heap → Prop} (hb : CallB P f) (hx : xs.map (ev ρ) = vs) (hc : HC P f vs.toArray h K) :
    HStep P ρ ⟨d, .call ⟨.value (.func f), xs.toArray, ts⟩, ty, p, af, g⟩ h K := by
  intro w hw
  have : (execOp (ev ρ) ⟨d, .call ⟨.value (.func f), xs.toArray, ts⟩, ty, p, af, g⟩).run P w = .ok (.enter f vs.toArray) w := by
    simp [execOp, go_sem, resolve, ev, Deferred.ofValue, invoke, hx]; exact hb _ _
  rw [this]
  exact ⟨Sim.refl _, hw, hc⟩
theorem hs_callV {x : Operand} {f : FuncId} {first cap : List Value} {xs : List Operand} {ts : Array TypeId} {vs : List Value} {K : Value → Heap → Prop} (hb : CallB P f) (hf : ev ρ x = .func (.func f) first.toArray cap.toArray)
    (hx : xs.map (ev ρ) = vs) (hc : HC P f (first ++ vs ++ cap).toArray h K) :
    HStep P ρ ⟨d, .call ⟨.value x, xs.toArray, ts⟩, ty, p, af, g⟩ h K := by
  intro w hw
  have : (execOp (ev ρ) ⟨d, .call ⟨.value x, xs.toArray, ts⟩, ty, p, af, g⟩).run P w = .ok (.enter f (first ++ vs ++ cap).toArray) w := by
    simp [execOp, go_sem, resolve, hf, Deferred.ofValue, invoke, hx]; exact hb _ _
  rw [this]
  exact ⟨Sim.refl _, hw, hc⟩
def plB (P : Program) (t : TypeId) : Option (List (Nat × Nat)) :=
  match P.underlying t with
  | some (.struct fs) => fs.toList.mapM fun f => (szB P f.type).map fun n => (f.offset, n)
  | _ => none
theorem run_places (w : World) : ∀ (fs : List Field) (pl : List (Nat × Nat)), (fs.mapM fun f => (szB P f.type).map fun n => (f.offset, n)) = some pl →
    (fs.mapM (m := Sem) fun f => do pure (f.offset, ← sizeOf f.type)).run P w = .ok pl w
  | [], pl, hp => by simp at hp; subst hp; simp [go_sem]
  | f :: fs, pl, hp => by
    simp only [List.mapM_cons] at hp
    cases h1 : szB P f.type with
    | none => simp [h1] at hp
    | some n =>
      cases h2 : fs.mapM fun f => (szB P f.type).map fun n => (f.offset, n) with
      | none => simp [h1, h2] at hp
      | some pl' =>
        simp [h1, h2] at hp
        subst hp
        have ih := run_places w fs pl' h2
        rw [List.mapM_cons]
        simp only [Sem.run_bind, Sem.run_pure, run_sizeOf h1, Result.andThen_ok, ih]
theorem hv_build {t : TypeId} {ps : List (Nat × Operand)} {z : Value} {pl : List (Nat × Nat)} {vs : List (Nat × Value)} {cs : Array Value} (hz : zeroB P t z) (hp : plB P t = some pl)
    (hv : (ps.map fun (i, x) => (i, ev ρ x)) = vs) (hf : Instr.fill (fun i => pl[i]?) z.cells vs = some cs) : HVal P ρ ⟨d, .build t ps.toArray, ty, p, af, g⟩ h (.agg cs) :=
  hv_of fun w _ => by
    unfold plB at hp
    split at hp <;> try cases hp
    rename_i fs hu
    have h1 := run_places w fs.toList pl hp
    have h2 : (fs.mapM (m := Sem) fun f => do pure (f.offset, ← sizeOf f.type)).run P w = .ok pl.toArray w := by
      rw [Array.mapM_eq_mapM_toList]
      have e : (List.toArray <$> List.mapM (m := Sem) (fun f => do pure (f.offset, ← sizeOf f.type)) fs.toList) = (List.mapM (m := Sem) (fun f => do pure (f.offset, ← sizeOf f.type)) fs.toList >>= fun l => pure l.toArray) := rfl
      rw [e]
      simp only [Sem.run_bind, h1, Result.andThen_ok, Sem.run_pure]
    have h3 : (ps.toArray.map fun (i, x) => (i, ev ρ x)) = vs.toArray := by rw [← hv]; simp
    simp only [execOp, Instr.build, Sem.run_bind, run_zero hz, run_underlying hu, Result.andThen_ok, h3]
    rw [h2]
    have h4 : (fun (i : Nat) => pl.toArray[i]?) = fun (i : Nat) => pl[i]? := by funext i; simp
    simp only [Result.andThen_ok, h4, hf, Sem.run_pure]
theorem hn_alloc {t : TypeId} {v : Value} {K : Value → Heap → Prop} (hz : zeroB P t v) (hk : ∀ b h', b = h.size → h' = h.push (.cells v.cells t) → K (ptr b 0) h') : HStep P ρ ⟨d, .alloc t, ty, p, af, g⟩ h K :=
  hs_alloc hz (hk _ _ rfl rfl)
theorem hn_box {t : TypeId} {x : Operand} {v : Value} {K : Value → Heap → Prop} (hx : ev ρ x = v) (hk : ∀ b h', b = h.size → h' = h.push (.cells v.cells t) → K (ptr b 0) h') : HStep P ρ ⟨d, .box t x, ty, p, af, g⟩ h K :=
  hs_box hx (hk _ _ rfl rfl)
theorem hn_store {t : TypeId} {x y : Operand} {b o : Nat} {v : Value} {K : Value → Heap → Prop} (hx : ev ρ x = ptr b o) (hy : ev ρ y = v) (hn : szB P t = some 1) (hv : oneC v = true) (hW : HW h b o) (hk : ∀ h', h' = hset h b o v → K undef h') :
    HStep P ρ ⟨d, .store t x y, ty, p, af, g⟩ h K := hs_store hx hy hn hv hW (hk _ rfl)
theorem hn_stores {t : TypeId} {x y : Operand} {b o : Nat} {vs : List Value} {K : Value → Heap → Prop} (hx : ev ρ x = ptr b o) (hy : ev ρ y = .agg vs.toArray) (hn : szB P t = some vs.length) (hv : vs.all oneC = true)
    (hW : ∀ j, j < vs.length → HW h b (o + j)) (hk : ∀ h', h' = hsets h b o vs → K undef h') : HStep P ρ ⟨d, .store t x y, ty, p, af, g⟩ h K :=
  hs_stores hx hy hn (List.all_eq_true.1 hv) hW (hk _ rfl)
theorem hv_pick_t {c a b : Operand} {t : Bool} {v : Value} (hc : ev ρ c = .bool t) (ht : t = true) (hx : ev ρ a = v) : HVal P ρ ⟨d, .pick c a b, ty, p, af, g⟩ h v := hv_pick hc (by rw [ht]; exact hx)
theorem hv_pick_f {c a b : Operand} {t : Bool} {v : Value} (hc : ev ρ c = .bool t) (ht : t = false) (hx : ev ρ b = v) : HVal P ρ ⟨d, .pick c a b, ty, p, af, g⟩ h v := hv_pick hc (by rw [ht]; exact hx)
theorem hv_quo {t t' : TypeId} {x y : Operand} {k : IntKind} {a b : Int} (hx : ev ρ x = .int k a) (hy : ev ρ y = .int k b) (hb : b ≠ 0) : HVal P ρ ⟨d, .binOp .quo t x y t', ty, p, af, g⟩ h (.int k (k.wrap (a.tdiv b))) := hv_arith hx hy (by simp [arithV, hb])
theorem hv_rem {t t' : TypeId} {x y : Operand} {k : IntKind} {a b : Int} (hx : ev ρ x = .int k a) (hy : ev ρ y = .int k b) (hb : b ≠ 0) : HVal P ρ ⟨d, .binOp .rem t x y t', ty, p, af, g⟩ h (.int k (a.tmod b)) := hv_arith hx hy (by simp [arithV, hb])
theorem run_eqIn_ptrNil {P : Program} (d : Nat) {t e : TypeId} (hu : P.underlying t = some (.pointer e)) (q : Option Addr) (w : World) : (Op.equalIn (d + 1) t (.pointer q) (.pointer none)).run P w = .ok q.isNone w := by
  cases q <;> simp [Op.equalIn, run_underlying hu, go_sem]
theorem hv_ptrNil {op : BinOp} {t t' : TypeId} {x : Operand} {e : TypeId} {q : Option Addr} {v : Value} (hu : P.underlying t = some (.pointer e)) (hx : ev ρ x = .pointer q)
    (hv : (match op with | .eql => some (Value.bool q.isNone) | .neq => some (Value.bool q.isSome) | _ => none) = some v) : HVal P ρ ⟨d, .binOp op t x (.const (.pointer none)) t', ty, p, af, g⟩ h v :=
  hv_of fun w _ => by
    have he : (Op.equal t (.pointer q) (.pointer none)).run P w = .ok q.isNone w := by
      exact run_eqIn_ptrNil 9999 hu q w
    have e2 : ev ρ (.const (.pointer none)) = .pointer none := rfl
    cases op <;> simp only [Option.some.injEq, reduceCtorEq] at hv
    all_goals (cases q <;> simp [execOp, hx, e2, go_sem, eqGuard, binOp, he, ← hv])
theorem rv_cell {x : Nat} {t : TypeId} {b o : Nat} {vs : List Value} (ha : aggB P t = some true) (hn : szB P t = some vs.length) (hx : ρ x = ptr b o) (hc : HCells h b o vs) : RV P (.cell x t) ρ h (.agg vs.toArray) :=
  fun a w n s hw => by
    have := run_loadFrom (P := P) w b o vs 0 #[] (by rw [hw]; exact hc)
    simp only [Array.empty_append] at this
    simp only [rvF, s.all x, hx, ptr, asAddr, Sem.run_bind, Sem.run_pure, Result.andThen_ok, loadVar, run_isAgg ha, if_true, run_sizeOf hn, loadCells, this]
def HCF (P : Program) (f : Value) (vs : List Value) (h : Heap) (K : Value → Heap → Prop) : Prop :=
  ∃ (i : FuncId) (first cap : List Value), f = .func (.func i) first.toArray cap.toArray ∧ CallB P i ∧ HC P i (first ++ vs ++ cap).toArray h K
theorem HCF.mono {f : Value} {vs : List Value} {K K' : Value → Heap → Prop} (hc : HCF P f vs h K) (hk : ∀ v h', K v h' → K' v h') : HCF P f vs h K' :=
  let ⟨i, first, cap, h1, h2, h3⟩ := hc
  ⟨i, first, cap, h1, h2, h3.mono hk⟩
def setT (ps : Array Tmp) (vs : Array Value) (T : Array Value) : Array Value := (ps.zip vs).foldl (fun tmps (t, a) => tmps.setIfInBounds t a) T
def HCY (P : Program) (f : Value) (vs : List Value) (h : Heap) (K : Value → Heap → Prop) : Prop :=
  ∃ (l : Nat) (r : Loop), f = .func (.yield l) #[] #[] ∧ h[l]? = some (.loop r) ∧ vs.toArray.size = r.params.size ∧ HRound P l r.fn (setT r.params vs.toArray r.tmps) r.assign r.body h K
def HCV (P : Program) (f : Value) (vs : List Value) (h : Heap) (K : Value → Heap → Prop) : Prop := HCF P f vs h K ∨ HCY P f vs h K
theorem HCV.mono {f : Value} {vs : List Value} {K K' : Value → Heap → Prop} (hc : HCV P f vs h K) (hk : ∀ v h', K v h' → K' v h') : HCV P f vs h K' :=
  hc.imp (fun h => h.mono hk) fun ⟨l, r, h1, h2, h3, h4⟩ => ⟨l, r, h1, h2, h3, h4.mono hk⟩
theorem hs_callF {x : Operand} {f : Value} {xs : List Operand} {ts : Array TypeId} {vs : List Value} {K : Value → Heap → Prop} (hf : ev ρ x = f) (hx : xs.map (ev ρ) = vs) (hc : HCV P f vs h K) :
    HStep P ρ ⟨d, .call ⟨.value x, xs.toArray, ts⟩, ty, p, af, g⟩ h K := by
  rcases hc with ⟨_, _, _, h1, h2, h3⟩ | ⟨l, r, h1, h2, h3, h4⟩
  · exact hs_callV h2 (by rw [hf, h1]) hx h3
  · intro w hw
    have hl : w.heap[l]? = some (.loop r) := by rw [hw]; exact h2
    have : (execOp (ev ρ) ⟨d, .call ⟨.value x, xs.toArray, ts⟩, ty, p, af, g⟩).run P w = .ok (.round l r.fn (setT r.params vs.toArray r.tmps) r.assign r.body) w := by
      simp [execOp, go_sem, resolve, hf, h1, Deferred.ofValue, invoke, hx]
      exact run_yield hl h3
    rw [this]
    exact ⟨Sim.refl _, hw, h4⟩
def fsL : List Field → Option (List (Nat × Nat))
  | [] => some []
  | f :: fs => if f.name == "_" then none else (fsL fs).map fun l => (f.type, f.offset) :: l
def seB (P : Program) (t : TypeId) : Option (List (Nat × Nat)) :=
  if P.stoodInHeld t || P.eqGuardType P.depth t then none else
  match P.underlying t with
  | some (.struct fs) => fsL fs.toList
  | _ => none
def eqV : Value → Value → Option Bool
  | .int k a, .int k' b => if k = k' then some (a == b) else none
  | .bool a, .bool b => some (a == b)
  | .string a, .string b => some (a == b)
  | _, _ => none
def fitsV (P : Program) (t : TypeId) (v : Value) : Bool :=
  match P.underlying t, v with
  | some (.int _), .int _ _ => true
  | some .bool, .bool _ => true
  | some .string, .string _ => true
  | _, _ => false
def eqL (P : Program) (xs ys : List Value) : List (Nat × Nat) → Option Bool
  | [] => some true
  | (t, o) :: l =>
    match xs[o]?, ys[o]? with
    | some x, some y =>
      match fitsV P t x, eqV x y, eqL P xs ys l with
      | true, some b, some r => some (b && r)
      | _, _, _ => none
    | _, _ => none
theorem run_eqOne (dp : Nat) {f : TypeId} {x y : Value} {b : Bool} (w : World) (hk : fitsV P f x = true) (hb : eqV x y = some b) : (Op.equalIn (dp + 1) f x y).run P w = .ok b w := by
  unfold fitsV at hk
  cases hd : P.underlying f with
  | none => rw [hd] at hk; cases hk
  | some ds =>
    rw [hd] at hk
    cases ds <;> cases x <;> simp at hk <;> cases y <;> simp [eqV] at hb
    · subst hb; simp [Op.equalIn, run_underlying hd, go_sem]
    · obtain ⟨h1, h2⟩ := hb; subst h2; simp [Op.equalIn, run_underlying hd, go_sem, h1]
    · subst hb; simp [Op.equalIn, run_underlying hd, go_sem]
theorem run_partOne {f : TypeId} {x : Value} {xs : List Value} {o : Nat} (w : World) (hk : fitsV P f x = true) (hx : xs[o]? = some x) : (part f xs.toArray o).run P w = .ok x w := by
  have ha : aggB P f = some false := by
    unfold fitsV at hk; unfold aggB
    cases hd : P.underlying f with
    | none => rw [hd] at hk; cases hk
    | some ds => rw [hd] at hk; cases ds <;> first | rfl | (cases x <;> simp at hk)
  have hx' : xs.toArray[o]? = some x := by simpa using hx
  simp only [part, Sem.run_bind, run_isAgg ha, Result.andThen_ok, Bool.false_eq_true, if_false, hx', Sem.run_pure]
theorem run_eqFs (dp : Nat) (xs ys : List Value) (w : World) : ∀ (fs : List Field) (l : List (Nat × Nat)) (b : Bool),
    fsL fs = some l → eqL P xs ys l = some b → (Op.eqFields (dp + 1) xs.toArray ys.toArray fs).run P w = .ok b w
  | [], l, b, hl, hb => by simp [fsL] at hl; subst hl; simp [eqL] at hb; subst hb; simp [Op.eqFields, go_sem]
  | f :: fs, l, b, hl, hb => by
    simp only [fsL] at hl
    by_cases hn : (f.name == "_") = true
    · rw [if_pos hn] at hl; cases hl
    · have hn' : f.name ≠ "_" := by simpa using hn
      rw [if_neg hn] at hl
      cases h2 : fsL fs with
      | none => rw [h2] at hl; cases hl
      | some l' =>
        rw [h2] at hl
        simp only [Option.map_some, Option.some.injEq] at hl
        subst hl
        simp only [eqL] at hb
        split at hb <;> try cases hb
        rename_i x y hx hy
        split at hb <;> try cases hb
        rename_i b1 r hf he hr
        have hy' : fitsV P f.type y = true := by
          unfold fitsV at hf ⊢; unfold eqV at he
          cases hd : P.underlying f.type with
          | none => rw [hd] at hf; cases hf
          | some ds => rw [hd] at hf; cases ds <;> cases x <;> simp at hf <;> cases y <;> simp at he ⊢
        have ih := run_eqFs dp xs ys w fs l' r h2 hr
        simp only [Op.eqFields, ne_eq, hn', not_false_eq_true, if_true, Sem.run_bind, run_partOne w hf hx, run_partOne w hy' hy, Result.andThen_ok, run_eqOne dp w hf he]
        cases b1
        · simp [go_sem]
        · simp [ih]
theorem hv_structEq {op : BinOp} {t t' : TypeId} {x y : Operand} {xs ys : List Value} {l : List (Nat × Nat)} {b : Bool} {v : Value} (hs : seB P t = some l) (hx : ev ρ x = .agg xs.toArray) (hy : ev ρ y = .agg ys.toArray)
    (he : eqL P xs ys l = some b) (hv : (match op with | .eql => some (Value.bool b) | .neq => some (Value.bool !b) | _ => none) = some v) : HVal P ρ ⟨d, .binOp op t x y t', ty, p, af, g⟩ h v :=
  hv_of fun w _ => by
    unfold seB at hs
    split at hs <;> try cases hs
    rename_i hc
    split at hs <;> try cases hs
    rename_i fs hu
    simp only [Bool.or_eq_true, not_or, Bool.not_eq_true] at hc
    obtain ⟨hc1, hc2⟩ := hc
    have hf : P.fieldsOf t = fs := by unfold Program.fieldsOf; rw [hu]
    have hrun : (Op.equalIn (9999 + 1) t (.agg xs.toArray) (.agg ys.toArray)).run P w = .ok b w := by
      rw [run_equalIn_struct w 9999 t xs.toArray ys.toArray (by rw [hf]; exact hu) hc1, hf]
      exact run_eqFs 9998 xs ys w fs.toList l b hs he
    have hg := run_eqGuard_agg (P := P) w op t x y xs.toArray ys.toArray hc2
    cases op <;> simp only [Option.some.injEq, reduceCtorEq] at hv
    · have h1 := run_eql_struct (P := P) w t xs.toArray ys.toArray
      rw [show (10000 : Nat) = 9999 + 1 from rfl, hrun] at h1
      simp only [execOp, hx, hy, Sem.run_bind, hg, Result.andThen_ok, h1, Sem.run_pure, hv]
    · have h1 := run_neq_struct (P := P) w t xs.toArray ys.toArray
      rw [show (10000 : Nat) = 9999 + 1 from rfl, hrun] at h1
      simp only [execOp, hx, hy, Sem.run_bind, hg, Result.andThen_ok, h1, Sem.run_pure, hv]
def byB (P : Program) (t : TypeId) : Option Nat := (P.info? t).map (·.bytes)
def zcells (z : List Value) (n : Nat) : List Value := (List.replicate n z).flatten
theorem zcells_getElem (z : List Value) : ∀ (n i : Nat) (_ : i < n * z.length), (zcells z n)[i]? = z[i % z.length]?
  | 0, i, hi => by simp at hi
  | n + 1, i, hi => by
    have hz : 0 < z.length := by rcases Nat.eq_zero_or_pos z.length with h0 | h0; · rw [h0] at hi; simp at hi
                                 · exact h0
    unfold zcells
    rw [List.replicate_succ, List.flatten_cons]
    by_cases h1 : i < z.length
    · rw [List.getElem?_append_left h1, Nat.mod_eq_of_lt h1]
    · rw [List.getElem?_append_right (Nat.le_of_not_lt h1)]
      have h2 : i - z.length < n * z.length := by rw [Nat.add_mul] at hi; omega
      have := zcells_getElem z n (i - z.length) h2
      unfold zcells at this
      rw [this, ← Nat.mod_eq_sub_mod (Nat.le_of_not_lt h1)]
theorem zcells_length (z : List Value) (n : Nat) : (zcells z n).length = n * z.length := by
  simp [zcells]
theorem zcells_range (z : List Value) (n : Nat) : ((Array.range (n * z.length)).map fun i => z.toArray[i % z.toArray.size]!) = (zcells z n).toArray := by
  apply Array.ext_getElem?
  intro i
  rw [Array.getElem?_map, Array.getElem?_range, List.getElem?_toArray]
  by_cases hi : i < n * z.length
  · rw [if_pos hi, zcells_getElem z n i hi]
    have hz : 0 < z.length := by rcases Nat.eq_zero_or_pos z.length with h0 | h0; · rw [h0] at hi; simp at hi
                                 · exact h0
    have h1 := Nat.mod_lt i hz
    simp [h1]
  · rw [if_neg hi, List.getElem?_eq_none (by rw [zcells_length]; omega)]; rfl
theorem hn_buildSlice {t e : TypeId} {n sz : Nat} {ps : List (Nat × Operand)} {z : Value} {vs : List (Nat × Value)} {cs : Array Value} {K : Value → Heap → Prop} (hu : P.underlying t = some (.slice e)) (hs : szB P e = some sz) (hz : zeroB P e z)
    (hv : (ps.map fun (i, x) => (i, ev ρ x)) = vs) (hsm : Nat.ble (n * sz) 16777216 = true) (hf : Instr.fill (fun i => some (i * sz, sz)) ((Array.range (n * sz)).map fun i => (if n * sz = 0 then #[] else z.cells)[i % (if n * sz = 0 then #[] else z.cells).size]!) vs = some cs)
    (hk : ∀ b h', b = h.size → h' = h.push (.cells cs e) → K (.slice (some ⟨b, 0, none⟩) n n) h') : HStep P ρ ⟨d, .buildSlice t n ps.toArray, ty, p, af, g⟩ h K :=
  hs_of (v := .slice (some ⟨h.size, 0, none⟩) n n) (h' := h.push (.cells cs e)) (fun w hw => by
    subst hw
    have h3 : (ps.toArray.map fun (i, x) => (i, ev ρ x)) = vs.toArray := by rw [← hv]; simp
    have hle : ¬ n * sz > 2 ^ 24 := by have := Nat.le_of_ble_eq_true hsm; omega
    simp only [execOp, Instr.buildSlice, Sem.run_bind, run_underlying hu, Result.andThen_ok, h3, run_sizeOf hs, hle, if_false]
    by_cases h0 : n * sz = 0
    · simp only [h0, if_true] at hf ⊢
      simp only [Sem.run_pure, Result.andThen_ok, hf, newRow, Sem.run_bind, rnew]
    · simp only [h0, if_false] at hf ⊢
      simp only [Sem.run_bind, run_zero hz, Sem.run_pure, Result.andThen_ok, hf, newRow, rnew]) (hk _ _ rfl rfl)
theorem wanted_y {o : Oper} {l : List Oper} {j dd : Nat} {want c : Bool} (hg : o.guard = some (j, want)) (hd : (l[j]?).bind (·.dst) = some dd) (hv : ρ dd = .bool c) (hc : c = want) : Region.wanted o (yl l.toArray ρ) = true := by
  unfold Region.wanted yl; rw [hg]; simp only [List.getElem?_toArray, hd, hv, hc]; simp
theorem wanted_n {o : Oper} {l : List Oper} {j dd : Nat} {want c : Bool} (hg : o.guard = some (j, want)) (hd : (l[j]?).bind (·.dst) = some dd) (hv : ρ dd = .bool c) (hc : c = !want) : Region.wanted o (yl l.toArray ρ) = false := by
  unfold Region.wanted yl; rw [hg]; simp only [List.getElem?_toArray, hd, hv, hc]; cases want <;> simp
theorem wanted_u {o : Oper} {l : List Oper} {j dd : Nat} {want : Bool} (hg : o.guard = some (j, want)) (hd : (l[j]?).bind (·.dst) = some dd) (hv : ρ dd = undef) : Region.wanted o (yl l.toArray ρ) = false := by
  unfold Region.wanted yl; rw [hg]; simp only [List.getElem?_toArray, hd, hv, undef]; rfl
theorem wanted_0 {o : Oper} {f : Nat → Option Bool} (hg : o.guard = none) : Region.wanted o f = true := by unfold Region.wanted; rw [hg]
end
theorem has_nil {ρ : Regs} : Has ρ [] := trivial
theorem has_cons {ρ : Regs} {i : Nat} {v : Value} {l : List (Nat × Value)} (h : ρ i = v) (hl : Has ρ l) : Has ρ ((i, v) :: l) := ⟨h, hl⟩
theorem bool_or (c : Bool) : c = true ∨ c = false := by cases c <;> simp
theorem hcells_cons {h : Heap} {b o : Nat} {v : Value} {vs : List Value} (h1 : hcell h b o = some v) (h2 : HCells h b (o + 1) vs) : HCells h b o (v :: vs) := ⟨h1, h2⟩
theorem hcells_nil {h : Heap} {b o : Nat} : HCells h b o [] := trivial
def HWs (h : Heap) (b o n : Nat) : Prop := ∀ j, j < n → HW h b (o + j)
end Go.Proofs.YtfjcciaabkjkgaaGreatDoor
namespace Go.Proofs.YtfjcciaabkjkgaaGreatDoor
open Go
def HAppend (P : Program) (t u : TypeId) (s x : Value) (h : Heap) (K : Value → Heap → Prop) : Prop :=
  ∀ (ty : TypeId) (w : World), w.heap = h → ∃ v w', (Builtin.append_ #[t, u] ty #[s, x]).run P w = .ok v w' ∧ Sim w w' ∧ K v w'.heap
theorem HAppend.mono {P : Program} {t u : TypeId} {s x : Value} {h : Heap} {K K' : Value → Heap → Prop} (ha : HAppend P t u s x h K) (hk : ∀ v h', K v h' → K' v h') : HAppend P t u s x h K' :=
  fun ty w hw => let ⟨v, w', h1, h2, h3⟩ := ha ty w hw; ⟨v, w', h1, h2, hk _ _ h3⟩
section
variable {P : Program} {ρ : Regs} {h : Heap} {d : Option Nat} {ty : TypeId} {p : String} {af : Array Edge} {g : Option (Nat × Bool)}
theorem hs_append {t u : TypeId} {x y : Operand} {vx vy : Value} {K : Value → Heap → Prop} (hx : ev ρ x = vx) (hy : ev ρ y = vy) (ha : HAppend P t u vx vy h K) :
    HStep P ρ ⟨d, .call ⟨.builtin .append, #[x, y], #[t, u]⟩, ty, p, af, g⟩ h K := by
  intro w hw
  obtain ⟨v, w', h1, h2, h3⟩ := ha ty w hw
  have : (execOp (ev ρ) ⟨d, .call ⟨.builtin .append, #[x, y], #[t, u]⟩, ty, p, af, g⟩).run P w = .ok (.value v) w' := by
    simp only [execOp, resolve, invoke, builtin, Sem.run_bind, Sem.run_pure, Result.andThen_ok, List.map_toArray, List.map_cons, List.map_nil, hx, hy, h1]
  rw [this]
  exact ⟨h2, h3⟩
def Src (h : Heap) (x : Value) (m size : Nat) (news : List Value) : Prop :=
  news.length = m * size ∧ ((∃ a c, x = .slice a m c ∧ m = 0) ∨ ∃ b o c, x = .slice (some ⟨b, o, none⟩) m c ∧ ∀ j u, news[j]? = some u → hcell h b (o + j) = some u)
theorem Src.first {w : World} {x : Value} {m size : Nat} {news : List Value} (hs : Src w.heap x m size news) : (Builtin.firstCells size m x).run P w = .ok news.toArray w := by
  obtain ⟨hl, ⟨a, c, rfl, rfl⟩ | ⟨b, o, c, rfl, hc⟩⟩ := hs
  · have : news = [] := List.eq_nil_of_length_eq_zero (by simpa using hl)
    subst this
    cases a with
    | none => exact run_firstCells_none w _ _ _ _
    | some ad => exact run_firstCells_some w size 0 ad 0 c [] (by simp) (fun j v hv => by simp at hv)
  · exact run_firstCells_some w size m ⟨b, o, none⟩ m c news hl (fun j v hv => by rw [add_lit, cell_hcell]; exact hc j v hv)
theorem Src.len {w : World} {x : Value} {m size : Nat} {news : List Value} (hs : Src w.heap x m size news) : (Builtin.lenOf x).run P w = .ok m w := by
  obtain ⟨hl, ⟨a, c, rfl, rfl⟩ | ⟨b, o, c, rfl, hc⟩⟩ := hs
  · cases a <;> simp [Builtin.lenOf, go_sem]
  · simp [Builtin.lenOf, go_sem]
theorem Src.ext {h h' : Heap} (he : Ext h h') {x : Value} {m size : Nat} {news : List Value} (hs : Src h x m size news) : Src h' x m size news := by
  obtain ⟨hl, hx | ⟨b, o, c, rfl, hc⟩⟩ := hs
  · exact ⟨hl, .inl hx⟩
  · exact ⟨hl, .inr ⟨b, o, c, rfl, fun j u hu => he.cell (hc j u hu)⟩⟩
theorem happ_room {t e : TypeId} {size : Nat} (hu : P.underlying t = some (.slice e)) (hz : szB P e = some size) {b o n c m : Nat} {x : Value} {news : List Value} (hx : Src h x m size news) (hroom : n + m ≤ c) (hone : ∀ v ∈ news, oneC v = true)
    (hW : ∀ j, j < news.length → HW h b (o + n * size + j)) {K : Value → Heap → Prop} (hk : K (.slice (some ⟨b, o, none⟩) (n + m) c) (hsets h b (o + n * size) news)) : HAppend P t t (.slice (some ⟨b, o, none⟩) n c) x h K := by
  intro ty w hw
  subst hw
  refine ⟨_, { w with heap := hsets w.heap b (o + n * size) news }, ?_, ⟨rfl, rfl, rfl, HG.hsets _ _ _ _⟩, hk⟩
  have hst := run_storeCells (P := P) (b := b) (o := o + n * size) news 0 w hone (by simpa using hW)
  simp only [Nat.add_zero] at hst
  have hi : ∃ i, P.info? e = some i ∧ i.size = size := by
    unfold szB at hz
    cases hi : P.info? e with
    | none => rw [hi] at hz; cases hz
    | some i => rw [hi] at hz; exact ⟨i, rfl, by simpa using hz⟩
  obtain ⟨i, hi, his⟩ := hi
  simp [Builtin.append_, run_underlying hu, run_sizeOf hz, hx.len, hroom, hx.first, add_lit, hst]
theorem happ_zero {t e : TypeId} {size : Nat} (hu : P.underlying t = some (.slice e)) (hz : szB P e = some size) {a : Option Addr} {n c : Nat} {x : Value} (hx : Src h x 0 size []) (hn : n ≤ c) {K : Value → Heap → Prop} (hk : K (.slice a n c) h) : HAppend P t t (.slice a n c) x h K := by
  intro ty w hw
  subst hw
  refine ⟨_, w, ?_, Sim.refl _, hk⟩
  have hf := hx.first (P := P)
  cases a <;> simp [Builtin.append_, run_underlying hu, run_sizeOf hz, hx.len, hn, hf, storeCells]
theorem happ_grow {t e : TypeId} {size by_ : Nat} {zs : List Value} {z : Value} (hu : P.underlying t = some (.slice e)) (hz : szB P e = some size) (hby : byB P e = some by_) (hzv : zeroB P e z) (hzc : z.cells = zs.toArray) {a : Option Addr} {n c m : Nat} {x : Value} {olds news : List Value}
    (hs : Src h (.slice a n c) n size olds) (hx : Src h x m size news) (hroom : c < n + m) (h47 : (n + m) * by_ ≤ 140737488355328) (h63 : n + m ≤ 9223372036854775807) {K : Value → Heap → Prop}
    (hk : ∀ b cap h', b = h.size → n + m ≤ cap → cap ≤ 9223372036854775807 → h' = h.push (.cells (olds ++ news ++ (Builtin.zeroCells zs.toArray (cap - (n + m))).toList).toArray e) → K (.slice (some ⟨b, 0, none⟩) (n + m) cap) h') : HAppend P t t (.slice a n c) x h K := by
  intro ty w hw
  subst hw
  have hi : ∃ i, P.info? e = some i ∧ i.size = size ∧ i.bytes = by_ ∧ i.zero = some z := by
    unfold szB at hz; unfold byB at hby; unfold zeroB at hzv
    cases hi : P.info? e with
    | none => rw [hi] at hz; cases hz
    | some i => rw [hi] at hz hby hzv; exact ⟨i, rfl, by simpa using hz, by simpa using hby, by simpa using hzv⟩
  obtain ⟨i, hi, his, hib, hiz⟩ := hi
  have hfit : Builtin.nextslicecap (n + m) c * i.bytes ≤ 281474976710656 := by rw [hib]; exact growslice_fits hroom h47
  have hcm : grownCap w (n + m) c e ≤ 9223372036854775807 := by
    have hlt := Nat.mod_lt (w.tape w.drawn (.appendCap (n + m) c e)) (show 0 < 2 ^ 63 - (n + m) by omega)
    simp only [grownCap, Question.cut]
    omega
  have hcg : n + m ≤ grownCap w (n + m) c e := by simp [grownCap, Question.cut]
  refine ⟨.slice (some ⟨w.heap.size, 0, none⟩) (n + m) (grownCap w (n + m) c e), { w with drawn := w.drawn + 1, heap := w.heap.push (.cells (olds ++ news ++ (Builtin.zeroCells zs.toArray (grownCap w (n + m) c e - (n + m))).toList).toArray e) }, ?_, ⟨rfl, rfl, rfl, HG.push _ _⟩, hk _ _ _ rfl hcg hcm rfl⟩
  have hn : ¬ (n + m ≤ c) := by omega
  have h63' : ¬ (9223372036854775807 < ((n : Int) + (m : Int))) := by omega
  have h48' : ¬ (281474976710656 < Builtin.nextslicecap (n + m) c * i.bytes) := by omega
  have hf := Src.first (P := P) (w := w.drew) (x := x) (m := m) (size := size) (news := news) hx
  have hfo := Src.first (P := P) (w := w.drew) (x := .slice a n c) (m := n) (size := size) (news := olds) hs
  simp [Builtin.append_, run_underlying hu, sizeOf, typeInfo, zeroValue, hi, hiz, hx.len, hn, h63', h48', Question.forced, his, hf, hfo, newRow, grownCap]
  rw [hzc]
  generalize Builtin.zeroCells zs.toArray _ = Z
  have e1 : olds.toArray ++ (news.toArray ++ Z) = (olds ++ (news ++ Z.toList)).toArray := by apply Array.ext'; simp
  rw [e1]
  rfl
theorem hv_eqBool {op : BinOp} {t t' : TypeId} {x y : Operand} {a b : Bool} {v : Value} (hu : P.underlying t = some .bool) (hx : ev ρ x = .bool a) (hy : ev ρ y = .bool b)
    (hv : (match op with | .eql => some (Value.bool (a == b)) | .neq => some (Value.bool (a != b)) | _ => none) = some v) : HVal P ρ ⟨d, .binOp op t x y t', ty, p, af, g⟩ h v :=
  hv_of fun w _ => by
    have he : (Op.equal t (.bool a) (.bool b)).run P w = .ok (a == b) w := by
      have h1 : ∀ dp, (Op.equalIn (dp + 1) t (.bool a) (.bool b)).run P w = .ok (a == b) w := by
        intro dp; simp [Op.equalIn, run_underlying hu, go_sem]
      exact h1 9999
    cases op <;> simp only [Option.some.injEq, reduceCtorEq] at hv
    all_goals (simp [execOp, hx, hy, go_sem, eqGuard, binOp, he, ← hv, bne])
theorem hv_sliceNil {op : BinOp} {t t' e : TypeId} {x : Operand} {a : Option Addr} {n c : Nat} {v : Value} (hu : P.underlying t = some (.slice e)) (hx : ev ρ x = .slice a n c)
    (hv : (match op with | .eql => some (Value.bool a.isNone) | .neq => some (Value.bool a.isSome) | _ => none) = some v) : HVal P ρ ⟨d, .binOp op t x (.const (.slice none 0 0)) t', ty, p, af, g⟩ h v :=
  hv_of fun w _ => by
    have he : (Op.equal t (.slice a n c) (.slice none 0 0)).run P w = .ok a.isNone w := by
      have h1 : ∀ dp, (Op.equalIn (dp + 1) t (.slice a n c) (.slice none 0 0)).run P w = .ok a.isNone w := by
        intro dp; cases a <;> simp [Op.equalIn, run_underlying hu, go_sem]
      exact h1 9999
    have e2 : ev ρ (.const (.slice none 0 0)) = .slice none 0 0 := rfl
    cases op <;> simp only [Option.some.injEq, reduceCtorEq] at hv
    all_goals (cases a <;> simp [execOp, hx, e2, go_sem, eqGuard, binOp, he, ← hv])
def slA (a : Option Addr) (l size m : Nat) : Option Addr := if m = l then a else a.map (·.add (l * size))
def sliceLo (ρ : Regs) (lo : Option Operand) (l : Int) : Prop := match lo with | some x => ∃ k, ev ρ x = .int k l | none => l = 0
def sliceHi (ρ : Regs) (hi : Option Operand) (n : Nat) (r : Int) : Prop := match hi with | some x => ∃ k, ev ρ x = .int k r | none => r = n
theorem run_bounds (isS : Bool) (n c : Nat) (lo hi : Option Operand) (l r : Int) (w : World) (hl : sliceLo ρ lo l) (hr : sliceHi ρ hi n r) (h0 : 0 ≤ l) (h1 : l ≤ r) (h2 : r ≤ c) :
    (Instr.sliceBounds isS n c (lo.map (ev ρ)) (hi.map (ev ρ)) none).run P w = .ok (l.toNat, r.toNat, c) w := by
  have h3 : 0 ≤ r := by omega
  have h4 : l ≤ max r 0 := by omega
  cases lo <;> cases hi <;> simp only [sliceLo, sliceHi] at hl hr
  · subst hl; subst hr; simp [Instr.sliceBounds, go_sem]
  · obtain ⟨k, hr⟩ := hr; subst hl; simp [Instr.sliceBounds, Instr.sliceBound, go_sem, hr, asIntOf, h3, h2]
  · obtain ⟨k, hl⟩ := hl; subst hr; have : l ≤ (n : Int) := h1; simp [Instr.sliceBounds, Instr.sliceBound, go_sem, hl, asIntOf, h0, this]
  · obtain ⟨k, hl⟩ := hl; obtain ⟨k', hr⟩ := hr; simp [Instr.sliceBounds, Instr.sliceBound, go_sem, hl, hr, asIntOf, h0, h3, h2]
    intro h5; omega
theorem hv_slice {t e : TypeId} {x : Operand} {lo hi : Option Operand} {size n c : Nat} {a q : Option Addr} {l r : Int} (hu : P.underlying t = some (.slice e)) (hz : szB P e = some size) (hx : ev ρ x = .slice a n c)
    (hl : sliceLo ρ lo l) (hr : sliceHi ρ hi n r) (h0 : 0 ≤ l) (h1 : l ≤ r) (h2 : r ≤ c) (hq : q = slA a l.toNat size c) :
    HVal P ρ ⟨d, .slice t x lo hi none, ty, p, af, g⟩ h (.slice q (r.toNat - l.toNat) (c - l.toNat)) :=
  hv_of fun w _ => by
    have hb := run_bounds (P := P) (ρ := ρ) true n c lo hi l r w hl hr h0 h1 h2
    subst hq
    simp only [execOp, Instr.sliceAt, Sem.run_bind, run_underlying hu, Result.andThen_ok, Instr.slice, hx, hb, run_sizeOf hz, Option.map_none, slA]
    simp [go_sem]
end
theorem sl_none {ρ : Regs} : sliceLo ρ none 0 := rfl
theorem sl_some {ρ : Regs} {x : Operand} {k : IntKind} {l : Int} (h : ev ρ x = .int k l) : sliceLo ρ (some x) l := ⟨k, h⟩
theorem sh_none {ρ : Regs} {n : Nat} : sliceHi ρ none n n := rfl
theorem sh_some {ρ : Regs} {x : Operand} {k : IntKind} {n : Nat} {r : Int} (h : ev ρ x = .int k r) : sliceHi ρ (some x) n r := ⟨k, h⟩
end Go.Proofs.YtfjcciaabkjkgaaGreatDoor
namespace Go.Proofs.YtfjcciaabkjkgaaGreatDoor
open Go
theorem hcell_row {h : Heap} {b o : Nat} {c : Array Value} {T : TypeId} {fr : Nat × Nat} (hr : h[b]? = some (.cells c T fr)) : hcell h b o = c[o]? := by
  unfold hcell; rw [hr]
theorem push_new {h : Heap} {o : Obj} {b : Nat} (hb : b = h.size) : (Array.push h o)[b]? = some o := by subst hb; simp
theorem row_lt {h : Heap} {b : Nat} {o : Obj} (hr : h[b]? = some o) : b < h.size := (Array.getElem?_eq_some_iff.1 hr).1
theorem HW_row {h : Heap} {b o : Nat} {c : Array Value} {T : TypeId} (hr : h[b]? = some (.cells c T (0, 0))) (ho : o < c.size) : HW h b o := ⟨c, T, (0, 0), hr, ho, by simp⟩
theorem HWs_row {h : Heap} {b o n : Nat} {c : Array Value} {T : TypeId} (hr : h[b]? = some (.cells c T (0, 0))) (ho : o + n ≤ c.size) : HWs h b o n := fun j hj => HW_row hr (by omega)
theorem hset_row {h : Heap} {b o : Nat} {v : Value} {c : Array Value} {T : TypeId} {fr : Nat × Nat} (hr : h[b]? = some (.cells c T fr)) : (hset h b o v)[b]? = some (.cells (c.setIfInBounds o v) T fr) := by
  unfold hset; rw [Array.getElem?_modify]; simp [hr]
theorem hset_ne {h : Heap} {b b' o : Nat} {v : Value} (hb : b' ≠ b) : (hset h b o v)[b']? = h[b']? := by
  unfold hset; rw [Array.getElem?_modify, if_neg (Ne.symm hb)]
theorem hset_size {h : Heap} {b o : Nat} {v : Value} : Array.size (hset h b o v) = Array.size h := by unfold hset; simp
def sets (c : Array Value) : Nat → List Value → Array Value
  | _, [] => c
  | o, v :: vs => sets (c.setIfInBounds o v) (o + 1) vs
theorem sets_size : ∀ (vs : List Value) (c : Array Value) (o : Nat), (sets c o vs).size = c.size
  | [], _, _ => rfl
  | v :: vs, c, o => by rw [sets, sets_size vs]; simp
theorem sets_get : ∀ (vs : List Value) (c : Array Value) (o j : Nat), o + vs.length ≤ c.size → (sets c o vs)[j]? = if o ≤ j ∧ j < o + vs.length then vs[j - o]? else c[j]?
  | [], c, o, j, _ => by rw [sets, if_neg (by simp only [List.length_nil]; omega)]
  | v :: vs, c, o, j, hs => by
    simp only [List.length_cons] at hs ⊢
    rw [sets, sets_get vs _ _ _ (by simp; omega)]
    by_cases h1 : j = o
    · subst h1
      rw [if_neg (by omega), if_pos (by omega), Nat.sub_self, Array.getElem?_setIfInBounds]
      have : j < c.size := by omega
      simp [this]
    · by_cases h2 : o + 1 ≤ j ∧ j < o + 1 + vs.length
      · rw [if_pos h2, if_pos (by omega)]
        have : j - o = (j - (o + 1)) + 1 := by omega
        rw [this, List.getElem?_cons_succ]
      · rw [if_neg h2, if_neg (by omega), Array.getElem?_setIfInBounds_ne (Ne.symm h1)]
theorem hsets_row : ∀ (vs : List Value) {h : Heap} {b o : Nat} {c : Array Value} {T : TypeId} {fr : Nat × Nat}, h[b]? = some (.cells c T fr) → (hsets h b o vs)[b]? = some (.cells (sets c o vs) T fr)
  | [], _, _, _, _, _, _, hr => hr
  | v :: vs, _, _, _, _, _, _, hr => by rw [hsets, sets]; exact hsets_row vs (hset_row hr)
theorem hsets_ne : ∀ (vs : List Value) {h : Heap} {b b' o : Nat}, b' ≠ b → (hsets h b o vs)[b']? = h[b']?
  | [], _, _, _, _, _ => rfl
  | v :: vs, _, _, _, _, hb => by rw [hsets, hsets_ne vs hb, hset_ne hb]
theorem hsets_size : ∀ (vs : List Value) {h : Heap} {b o : Nat}, Array.size (hsets h b o vs) = Array.size h
  | [], _, _, _ => rfl
  | v :: vs, _, _, _ => by rw [hsets, hsets_size vs, hset_size]
structure Fr (S : Nat → Prop) (h h' : Heap) : Prop where
  size : h.size ≤ h'.size
  block : ∀ b, b < h.size → ¬ S b → h'[b]? = h[b]?
theorem Fr.refl (S : Nat → Prop) (h : Heap) : Fr S h h := ⟨Nat.le_refl _, fun _ _ _ => rfl⟩
theorem Fr.trans {S S' : Nat → Prop} {a b c : Heap} (h : Fr S a b) (k : Fr S' b c) (hs : ∀ i, i < a.size → S' i → S i) : Fr S a c :=
  ⟨Nat.le_trans h.size k.size, fun i hi hn => (k.block i (Nat.lt_of_lt_of_le hi h.size) fun h' => hn (hs i hi h')).trans (h.block i hi hn)⟩
theorem Fr.mono {S S' : Nat → Prop} {a b : Heap} (h : Fr S a b) (hs : ∀ i, i < a.size → S i → S' i) : Fr S' a b := ⟨h.size, fun i hi hn => h.block i hi fun h' => hn (hs i hi h')⟩
theorem Ext.fr {h h' : Heap} (he : Ext h h') (S : Nat → Prop) : Fr S h h' := ⟨he.size, fun b hb _ => he.block b hb⟩
theorem Fr.ext {S : Nat → Prop} {h h' : Heap} (he : Fr S h h') (hs : ∀ i, i < h.size → ¬ S i) : Ext h h' := ⟨he.size, fun b hb => he.block b hb (hs b hb)⟩
theorem fr_hset (S : Nat → Prop) {h : Heap} {b o : Nat} {v : Value} (hS : b < h.size → S b) : Fr S h (hset h b o v) :=
  ⟨Nat.le_of_eq hset_size.symm, fun i hi hn => hset_ne fun e => hn (by subst e; exact hS hi)⟩
theorem fr_hsets (S : Nat → Prop) {h : Heap} {b o : Nat} {vs : List Value} (hS : b < h.size → S b) : Fr S h (hsets h b o vs) :=
  ⟨Nat.le_of_eq (hsets_size vs).symm, fun i hi hn => hsets_ne vs fun e => hn (by subst e; exact hS hi)⟩
theorem Ext.row {h h' : Heap} (he : Ext h h') {b : Nat} {o : Obj} (hr : h[b]? = some o) : h'[b]? = some o := (he.block b (row_lt hr)).trans hr
theorem Fr.row {S : Nat → Prop} {h h' : Heap} (he : Fr S h h') {b : Nat} {o : Obj} (hr : h[b]? = some o) (hn : ¬ S b) : h'[b]? = some o := (he.block b (row_lt hr) hn).trans hr
theorem w64 {x : Int} (h1 : -9223372036854775808 ≤ x) (h2 : x ≤ 9223372036854775807) : IntKind.i64.wrap x = x := by
  simp [IntKind.wrap, IntKind.bits, IntKind.signed]; omega
theorem wu64 {x : Int} (h1 : 0 ≤ x) (h2 : x < 18446744073709551616) : IntKind.u64.wrap x = x := by
  simp [IntKind.wrap, IntKind.bits, IntKind.signed]; omega
end Go.Proofs.YtfjcciaabkjkgaaGreatDoor
namespace Go.Proofs.YtfjcciaabkjkgaaGreatDoor
open Go
def setp (ρ : Regs) : List (Nat × Value) → Regs
  | [] => ρ
  | (i, v) :: l => setp (upd ρ i v) l
theorem St.setp {n : Nat} : ∀ (l : List (Nat × Value)) {ρ : Regs} {T : Array Value}, St n ρ ⟨T, []⟩ → (∀ x ∈ l, x.1 < n) →
    St n (setp ρ l) ⟨l.foldl (fun tmps (t, a) => tmps.setIfInBounds t a) T, []⟩
  | [], _, _, s, _ => s
  | (i, v) :: l, ρ, T, s, h => by
    have s1 : St n (upd ρ i v) ⟨T.setIfInBounds i v, []⟩ := s.put (dst := some i) (fun d hd => by cases hd; exact h (i, v) (by simp)) v
    exact St.setp l s1 (fun x hx => h x (by simp [hx]))
structure LoopAt (h : Heap) (l n : Nat) (ρ : Regs) (ps : List Tmp) (assign body : Code) (st : LoopState) (pend : Option Code) : Prop where
  ex : ∃ fn T d, h[l]? = some (.loop { state := st, pending := pend, fn, tmps := T, params := ps.toArray, assign, body, defers := d }) ∧ St n ρ ⟨T, []⟩
theorem LoopAt.lt {h : Heap} {l n : Nat} {ρ : Regs} {ps : List Tmp} {assign body : Code} {st : LoopState} {pend : Option Code} (k : LoopAt h l n ρ ps assign body st pend) : l < h.size := by
  obtain ⟨fn, T, d, h1, _⟩ := k.ex; exact row_lt h1
theorem LoopAt.fr {h h' : Heap} {S : Nat → Prop} {l n : Nat} {ρ : Regs} {ps : List Tmp} {assign body : Code} {st : LoopState} {pend : Option Code} (k : LoopAt h l n ρ ps assign body st pend) (f : Fr S h h') (hl : ¬ S l) : LoopAt h' l n ρ ps assign body st pend :=
  let ⟨fn, T, d, h1, h2⟩ := k.ex; ⟨fn, T, d, f.row h1 hl, h2⟩
theorem LoopAt.ext {h h' : Heap} {l n : Nat} {ρ : Regs} {ps : List Tmp} {assign body : Code} {st : LoopState} {pend : Option Code} (k : LoopAt h l n ρ ps assign body st pend) (f : Ext h h') : LoopAt h' l n ρ ps assign body st pend :=
  let ⟨fn, T, d, h1, h2⟩ := k.ex; ⟨fn, T, d, f.row h1, h2⟩
theorem LoopAt.same {h h' : Heap} {l n : Nat} {ρ : Regs} {ps : List Tmp} {assign body : Code} {st : LoopState} {pend : Option Code} (k : LoopAt h l n ρ ps assign body st pend) (e : h'[l]? = h[l]?) : LoopAt h' l n ρ ps assign body st pend :=
  let ⟨fn, T, d, h1, h2⟩ := k.ex; ⟨fn, T, d, e.trans h1, h2⟩
structure Only (l : Nat) (h h' : Heap) : Prop where
  size : h'.size = h.size
  block : ∀ b, b ≠ l → h'[b]? = h[b]?
theorem Only.fr {l : Nat} {h h' : Heap} (o : Only l h h') : Fr (fun b => b = l) h h' := ⟨Nat.le_of_eq o.size.symm, fun b _ hn => o.block b hn⟩
theorem only_put {w : World} {l : Nat} {o : Obj} : Only l w.heap (w.putObj l o).heap := ⟨World.putObj_size, fun _ hb => World.putObj_heap_other hb⟩
theorem sim_put {w : World} {l : Nat} {o : Obj} {r : Loop} (hl : w.heap[l]? = some (.loop r)) : Sim w (w.putObj l o) :=
  ⟨rfl, rfl, rfl, Nat.le_of_eq World.putObj_size.symm, fun b hb => by
    by_cases e : b = l
    · subst e; rw [hl] at hb; cases hb
    · rw [World.putObj_heap_other e]; exact hb⟩
section
variable {P : Program} {n : Nat} {ρ : Regs} {h : Heap} {ps : List Tmp} {assign body : Code}
def roundQ (l n : Nat) (ρ : Regs) (ps : List Tmp) (assign body : Code) (K : Value → Heap → Prop) : Exit → Regs → Heap → Prop := fun e _ h =>
  LoopAt h l n ρ ps assign body .busy none ∧
  match e with
  | .normal => ∀ h', Only l h h' → LoopAt h' l n ρ ps assign body .ready none → K (.bool true) h'
  | .ret => ∀ h', Only l h h' → LoopAt h' l n ρ ps assign body .done (some .ret) → K (.bool false) h'
  | .exit id => ∀ h', Only l h h' → LoopAt h' l n ρ ps assign body .done (some (.exit id)) → K (.bool false) h'
  | _ => False
theorem hcv_yield {l : Nat} {vs : List Value} {K : Value → Heap → Prop} (hl : LoopAt h l n ρ ps assign body .ready none) (hs : vs.length = ps.length) (hp : ps.all (fun p => Nat.blt p n) = true)
    (hx : HX ⟨some l, false⟩ P n assign (fun e ρ1 h1 => e = .normal ∧ LoopAt h1 l n ρ ps assign body .ready none ∧ ∀ h2, Only l h1 h2 → LoopAt h2 l n ρ ps assign body .busy none → HX ⟨some l, false⟩ P n body (roundQ l n ρ ps assign body K) ρ1 h2)
      (setp ρ (ps.zip vs)) h) : HCV P (.func (.yield l) #[] #[]) vs h K := by
  obtain ⟨fn, T, d, hr, sT⟩ := hl.ex
  refine .inr ⟨l, _, rfl, hr, by simpa using hs, ?_⟩
  intro w hw
  have st : St n (setp ρ (ps.zip vs)) ⟨setT ps.toArray vs.toArray T, []⟩ := by
    have := St.setp (ps.zip vs) sT (fun x hx => by
      have h1 := List.all_eq_true.1 hp x.1 (List.of_mem_zip (a := x.1) (b := x.2) hx).1
      simpa [Nat.blt_eq] using h1)
    unfold setT
    rw [List.zip_toArray, List.foldl_toArray]
    exact this
  have mk0 : ∀ (w : World), Marks ⟨some l, false⟩ w.heap.size [] w.heap := fun w => ⟨fun _ => rfl, Nat.le_refl _, List.Pairwise.nil, fun d hd => by cases hd⟩
  refine roundIn_of_wpIn trivial (wpIn_mono (hx w.heap.size _ w st (mk0 w) hw) ?_)
  rintro e a1 w1 ⟨s1, ρ1, st1, m1, rfl, hl1, hb⟩
  obtain ⟨fn1, T1, d1, hr1, sT1⟩ := hl1.ex
  refine ⟨_, run_beginRound hr1 rfl, ?_⟩
  have hl2 : LoopAt (w1.putObj l (.loop { state := .busy, pending := none, fn := fn1, tmps := T1, params := ps.toArray, assign, body, defers := d1 })).heap l n ρ ps assign body .busy none :=
    ⟨fn1, T1, d1, World.putObj_heap_same (row_lt hr1), sT1⟩
  have s2 : Sim w1 (w1.putObj l (.loop { state := .busy, pending := none, fn := fn1, tmps := T1, params := ps.toArray, assign, body, defers := d1 })) := sim_put hr1
  refine wpIn_mono (hb _ only_put hl2 w.heap.size a1 _ st1 (m1.sim s2.grow) rfl) ?_
  rintro e2 a2 w3 ⟨s3, ρ2, st2, m2, hl3, hq⟩
  obtain ⟨fn3, T3, d3, hr3, sT3⟩ := hl3.ex
  have fin : ∀ (j : Option Code), Sim w (w3.putObj l (.loop { state := if j.isNone then .ready else .done, pending := j, fn := fn3, tmps := T3, params := ps.toArray, assign, body, defers := d3 })) := fun j => (s1.trans s2).trans (s3.trans (sim_put hr3))
  have la : ∀ (j : Option Code), LoopAt (w3.putObj l (.loop { state := if j.isNone then .ready else .done, pending := j, fn := fn3, tmps := T3, params := ps.toArray, assign, body, defers := d3 })).heap l n ρ ps assign body (if j.isNone then .ready else .done) j :=
    fun j => ⟨fn3, T3, d3, World.putObj_heap_same (row_lt hr3), sT3⟩
  cases e2 with
  | normal => exact ⟨_, _, run_endRound none hr3, _, rfl, fin none, hq _ only_put (la none)⟩
  | ret => exact ⟨_, _, run_endRound (some .ret) hr3, _, rfl, fin (some .ret), hq _ only_put (la (some .ret))⟩
  | exit id => exact ⟨_, _, run_endRound (some (.exit id)) hr3, _, rfl, fin (some (.exit id)), hq _ only_put (la (some (.exit id)))⟩
  | goto t => exact hq.elim
  | panic c => exact hq.elim
  | outgrown => exact hq.elim
theorem enter_world (w : World) (a : Act) (fn : FuncId) (ps : List Tmp) (assign body : Code) (s : St n ρ a) :
    ∃ w1, (Instr.enterLoop fn a.tmps ps.toArray assign body none).run P w = .ok (w.heap.size + 1, [{ target := .collected w.heap.size, args := #[] }]) w1 ∧ Sim w w1 ∧ Ext w.heap w1.heap ∧ w1.heap.size = w.heap.size + 2 ∧
      LoopAt w1.heap (w.heap.size + 1) n ρ ps assign body .ready none ∧ w1.heap[w.heap.size]? = some (.deferred (some [])) := by
  refine ⟨_, run_enterLoop_outer (P := P) (w := w) fn a.tmps ps.toArray assign body, ⟨rfl, rfl, rfl, (HG.push w.heap _).trans (HG.push _ _)⟩, (Ext.push w.heap (.deferred (some []))).trans (Ext.push _ _), by simp, ⟨fn, a.tmps, w.heap.size, ?_, s.size, s.get, s.out⟩,
    (Ext.push (w.alloc (.deferred (some []))).heap _).row (World.alloc_heap_new w _)⟩
  have := World.alloc_heap_new (w.alloc (.deferred (some []))) (.loop { state := .ready, pending := none, fn, tmps := a.tmps, params := ps.toArray, assign, body, defers := w.heap.size })
  rw [World.size_alloc] at this
  exact this
theorem end_world {w : World} {l : Nat} {st : LoopState} {pend : Option Code} (k : LoopAt w.heap l n ρ ps assign body st pend) (hst : st ≠ .busy) :
    ∃ w', (Instr.endLoop l).run P w = .ok pend w' ∧ Sim w w' ∧ Only l w.heap w'.heap ∧ LoopAt w'.heap l n ρ ps assign body .exhausted pend := by
  obtain ⟨fn, T, d, hr, sT⟩ := k.ex
  exact ⟨_, run_endLoop hr hst, sim_put hr, only_put, fn, T, d, World.putObj_heap_same (row_lt hr), sT⟩
def jumpQ (Q : Exit → Regs → Heap → Prop) (ρ : Regs) (h : Heap) : Option Code → Prop
  | none => Q .normal ρ h
  | some .ret => Q .ret ρ h
  | some (.exit id) => Q (.exit id) ρ h
  | _ => False
def rangeQ (l n : Nat) (ρ : Regs) (ps : List Tmp) (assign body : Code) (Q : Exit → Regs → Heap → Prop) : Value → Heap → Prop := fun _ h =>
  ∃ st pend, LoopAt h l n ρ ps assign body st pend ∧ st ≠ .busy ∧ ∀ h', Only l h h' → LoopAt h' l n ρ ps assign body .exhausted pend → jumpQ Q ρ h' pend
theorem jumpQ_n {Q : Exit → Regs → Heap → Prop} (hq : Q .normal ρ h) : jumpQ Q ρ h none := hq
theorem jump_wp {m : Mo} {N : Nat} {Q : Exit → Regs → Heap → Prop} {a : Act} {w w' : World} {c : Code} (hs : Sim w w') (s : St n ρ a) (mk : Marks m N a.defers w'.heap) (hq : jumpQ Q ρ w'.heap (some c)) :
    c.wpIn m.fence 0 P (XQ m N n w Q) a w' := by
  unfold jumpQ at hq
  split at hq
  · rename_i h; cases h
  · rename_i h; cases h; exact wpIn_ret ⟨hs, ρ, s, mk, hq⟩
  · rename_i h; cases h; exact wpIn_exit ⟨hs, ρ, s, mk, hq⟩
  · exact hq.elim
theorem marks_new {m : Mo} {N : Nat} {ds : List Deferred} {h h1 h2 : Heap} (hm : m.marks = true) (mk : Marks m N ds h) (g1 : HG h h1) (hd : h1[h.size]? = some (.deferred (some []))) (g2 : HG h1 h2) :
    Marks m N (({ target := .collected h.size, args := #[] } : Deferred) :: ds) h2 := by
  refine Marks.sim (h := h1) ⟨fun h => (by rw [hm] at h; cases h), Nat.le_trans mk.le g1.1, ?_, fun d hd' => ?_⟩ g2
  · rw [List.map_cons, List.pairwise_cons]
    refine ⟨fun t ht heq => ?_, mk.apart⟩
    obtain ⟨d, hd, rfl⟩ := List.mem_map.1 ht
    obtain ⟨b, h1, _, h3⟩ := mk.all d hd
    have h4 : (Target.collected h.size) = .collected b := heq.trans h1
    injection h4 with h4
    have := row_lt h3
    omega
  · rcases List.mem_cons.1 hd' with rfl | hd'
    · exact ⟨_, rfl, mk.le, hd⟩
    · obtain ⟨b, h1, h2, h3⟩ := mk.all d hd'
      exact ⟨b, h1, h2, g1.2 b h3⟩
theorem hx_range {m : Mo} {g : Operand} {fv : Value} {Q : Exit → Regs → Heap → Prop} (hr : m.round = none) (hm : m.marks = true) (hg : ev ρ g = fv)
    (hc : ∀ h1 l, l = h.size + 1 → Ext h h1 → h1.size = h.size + 2 → LoopAt h1 l n ρ ps assign body .ready none → HCF P fv [.func (.yield l) #[] #[]] h1 (rangeQ l n ρ ps assign body Q)) :
    HX m P n (.rangeFunc g ps.toArray assign body) Q ρ h := by
  intro N a w s hmk hw
  refine wpIn_rangeFunc fun fn _ => ?_
  obtain ⟨w1, he, s1, e1, z1, l1, d1⟩ := enter_world (P := P) w a fn ps assign body s
  have hro : m.fence.round = none := hr
  obtain ⟨i, first, cap, hfv, hb, hcall⟩ := hc w1.heap (w.heap.size + 1) (by rw [hw]) (by rw [← hw]; exact e1) (by rw [z1, hw]) l1
  subst hfv
  have hcall' := hcall w1 rfl
  have hg' : a.eval g = .func (.func i) first.toArray cap.toArray := by rw [s.eval]; exact hg
  have hy : a.eval (.const (.func (.yield (w.heap.size + 1)) #[] #[])) = .func (.yield (w.heap.size + 1)) #[] #[] := rfl
  have hdep : m.fence.depth.isSome = true → 1 ≤ 0 := fun hd => by simp [Mo.fence, Fence.wide] at hd
  have hc2 : CallsIn m.fence (0 - 1) P i (first ++ [Value.func (.yield (w.heap.size + 1)) #[] #[]] ++ cap).toArray w1 (rangePost m.fence 0 P (w.heap.size + 1) (XQ m N n w Q) { a with defers := [{ target := .collected w.heap.size, args := #[] }] ++ a.defers }) := ?_
  · refine ⟨w.heap.size + 1, [{ target := .collected w.heap.size, args := #[] }], w1, ⟨.fn (.func i) cap.toArray, first.toArray ++ #[.func (.yield (w.heap.size + 1)) #[] #[]]⟩, w1, i, (first ++ [Value.func (.yield (w.heap.size + 1)) #[] #[]] ++ cap).toArray, w1, ?_, ?_, ?_, ?_, ?_, ?_⟩
    · rw [hro]; exact he
    · generalize a.eval = ee at hg' hy ⊢
      simp [resolve, hg', hy, Deferred.ofValue, go_sem]
    · intro _ _; exact m.fn _
    · have : (invoke (.fn (.func i) cap.toArray) (first.toArray ++ #[.func (.yield (w.heap.size + 1)) #[] #[]])).run P w1 = .ok (.enter i (first ++ [Value.func (.yield (w.heap.size + 1)) #[] #[]] ++ cap).toArray) w1 := by
        simp [invoke]; exact hb _ _
      exact this
    · exact hdep
    · exact hc2
  refine Mo.callsIn (hcall'.mono ?_)
  · rintro e w2 ⟨v, rfl, s2, st, pend, l2, hst, hq⟩
    obtain ⟨w3, hend, s3, o3, l3⟩ := end_world (P := P) l2 hst
    have hq' := hq _ o3 l3
    have sall := (s1.trans s2).trans s3
    have sa : St n ρ { a with defers := [{ target := .collected w.heap.size, args := #[] }] ++ a.defers } := ⟨s.size, s.get, s.out⟩
    have mk := marks_new hm hmk s1.grow d1 (s2.trans s3).grow
    refine ⟨pend, w3, hend, ?_⟩
    cases pend with
    | none => exact ⟨sall, ρ, sa, mk, hq'⟩
    | some c => exact jump_wp sall sa mk hq'
structure Shut' (N : Nat) (h h' : Heap) : Prop where
  size : h'.size = h.size
  block : ∀ b : Nat, h'[b]? = h[b]? ∨ (N ≤ b ∧ h[b]? = some (.deferred (some [])) ∧ h'[b]? = some (.deferred none))
theorem Shut'.row {N : Nat} {h h' : Heap} (s : Shut' N h h') {b : Nat} {o : Obj} (hb : h[b]? = some o) (hn : o ≠ .deferred (some [])) : h'[b]? = some o := by
  rcases s.block b with e | ⟨_, e, _⟩
  · rw [e]; exact hb
  · rw [hb] at e; cases e; exact absurd rfl hn
theorem Shut'.refl (N : Nat) (h : Heap) : Shut' N h h := ⟨rfl, fun _ => .inl rfl⟩
theorem Shut'.low {N : Nat} {h h' : Heap} (s : Shut' N h h') {b : Nat} (hb : b < N) : h'[b]? = h[b]? := by
  rcases s.block b with e | ⟨e, _⟩
  · exact e
  · omega
theorem Shut'.fr {N : Nat} {h h' : Heap} (s : Shut' N h h') : Fr (fun b => N ≤ b) h h' := ⟨Nat.le_of_eq s.size.symm, fun _ _ hn => s.low (Nat.lt_of_not_le hn)⟩
theorem shut_cell {N : Nat} {h h' : Heap} (s : Shut' N h h') {b o : Nat} {v : Value} (hc : hcell h b o = some v) : hcell h' b o = some v := by
  have hc0 := hc
  unfold hcell at hc
  split at hc
  · rename_i e
    unfold hcell
    rw [s.row e (by simp)]; exact hc
  · cases hc
def endQM (P : Program) (fn : Func) (N : Nat) (R : Value → Heap → Prop) : Exit → Regs → Heap → Prop
  | .normal, ρ, h | .ret, ρ, h => ∃ v, ∀ h', Shut' N h h' → resB P fn ρ h' v ∧ R v h'
  | _, _, _ => False
theorem leaves_marks {fn : Func} {tmps : Array Value} {R : Ending → World → Prop} {m : Mo} {N : Nat} : ∀ (ds : List Deferred) (w : World), Marks m N ds w.heap →
    (∀ w', w'.os = w.os → w'.tape = w.tape → w'.output = w.output → w.drawn ≤ w'.drawn → Shut' N w.heap w'.heap → ∃ v, (results fn tmps).run P w' = .ok v w' ∧ R (.returned v) w') →
    LeavesInM Fence.wide 0 P fn tmps R ds .returning w
  | [], w, _, hk => hk w rfl rfl rfl (Nat.le_refl _) (Shut'.refl _ _)
  | d :: ds, w, mk, hk => by
    obtain ⟨b, h1, h2, h3⟩ := mk.all d (by simp)
    refine ⟨by simp, .inl ⟨b, _, h1, run_takeDeferred h3, ?_⟩⟩
    have hlt := row_lt h3
    have ap := mk.apart
    rw [List.map_cons, List.pairwise_cons] at ap
    refine leaves_marks (m := m) (N := N) ds _ ⟨fun hmm => by have := mk.none hmm; simp at this, ?_, ap.2, fun d' hd' => ?_⟩ ?_
    · rw [World.putObj_size]; exact mk.le
    · obtain ⟨b', k1, k2, k3⟩ := mk.all d' (by simp [hd'])
      refine ⟨b', k1, k2, ?_⟩
      rw [World.putObj_heap_other (fun e => ?_)]
      · exact k3
      · exact ap.1 _ (List.mem_map.2 ⟨d', hd', rfl⟩) (by rw [h1, k1, e])
    · intro w' e1 e2 e3 e4 sh
      refine hk w' e1 e2 e3 e4 ⟨sh.size.trans World.putObj_size, fun i => ?_⟩
      by_cases hib : i = b
      · subst hib
        have hs := sh.block i
        rw [World.putObj_heap_same hlt] at hs
        rcases hs with hs | ⟨_, hs, _⟩
        · exact .inr ⟨h2, h3, hs⟩
        · cases hs
      · have hs := sh.block i
        rw [World.putObj_heap_other hib] at hs
        exact hs
theorem hc_ofM {f : FuncId} {fn : Func} {c : Code} {args : List Value} {R : Value → Heap → Prop}
    (hf : P.funcs[f]? = some fn) (hb : fn.body = some c) (hn : fn.ntmps = n) (hl : args.length ≤ n)
    (hx : HX ⟨none, true⟩ P n c (endQM P fn (Array.size h) R) (reg0 args) h) : HC P f args.toArray h R := by
  intro w hw
  rw [← hw] at hx
  refine (callsIn_wide (n := 0)).1 (callsIn_of_wp_marks hf hb trivial (wpIn_mono (hx w.heap.size _ w (st_enter hn hl) ⟨fun h => (by cases h), Nat.le_refl _, List.Pairwise.nil, fun d hd => by cases hd⟩ rfl) ?_))
  rintro e a w' ⟨h1, ρ', s, hm, hq⟩
  have fin : (∃ v, ∀ h', Shut' w.heap.size w'.heap h' → resB P fn ρ' h' v ∧ R v h') → LeavesInM Fence.wide 0 P fn a.tmps (fun e w' => ∃ v, e = .returned v ∧ Sim w w' ∧ R v w'.heap) a.defers .returning w' := by
    rintro ⟨v, hv⟩
    refine leaves_marks a.defers w' hm fun w2 e1 e2 e3 e4 sh => ?_
    obtain ⟨hr, hR⟩ := hv _ sh
    refine ⟨v, hr a w2 _ s rfl, v, rfl, ⟨e1.trans h1.os, e2.trans h1.tape, e3.trans h1.output, by rw [sh.size]; exact h1.grow.1, fun b hb' => ?_⟩, hR⟩
    rw [sh.low (row_lt hb')]
    exact h1.grow.2 b hb'
  cases e <;> try exact hq.elim
  · exact fin hq
  · exact fin hq
theorem endQM_ret {fn : Func} {N : Nat} {R : Value → Heap → Prop} (v : Value) (hr : ∀ h', Shut' N h h' → resB P fn ρ h' v ∧ R v h') : endQM P fn N R .ret ρ h := ⟨v, hr⟩
end
end Go.Proofs.YtfjcciaabkjkgaaGreatDoor
namespace Go.Proofs.YtfjcciaabkjkgaaGreatDoor
open Go
theorem ba_beq (a b : ByteArray) : (a == b) = decide (a = b) := by
  rcases a with ⟨a⟩; rcases b with ⟨b⟩
  have h : ((⟨a⟩ : ByteArray) == ⟨b⟩) = (a == b) := rfl
  rw [h, Bool.eq_iff_iff]
  simp
theorem set_same {h : Heap} {b : Nat} {o o' : Obj} (hb : h[b]? = some o) : (h.setIfInBounds b o')[b]? = some o' := by
  have := row_lt hb
  simp [this]
structure KeyT (d : TypeDesc) {κ : Type} [DecidableEq κ] (enc : κ → Value) : Prop where
  isKey : ∀ a, MapKept.IsKey d (enc a)
  same : ∀ a b, Instr.sameNow d (enc a) (enc b) = some (decide (a = b))
  bits : ∀ a, Instr.sameBits 10000 (enc a) (enc a) = true
theorem intK (k : IntKind) : KeyT (.int k) (Value.int k) where
  isKey a := by simp [MapKept.IsKey]
  same a b := by simp only [Instr.sameNow, if_true, Option.some.injEq]; rw [Bool.eq_iff_iff]; simp
  bits a := by simp [Instr.sameBits]
theorem strK : KeyT .string Value.string where
  isKey a := by simp [MapKept.IsKey]
  same a b := by simp only [Instr.sameNow, Option.some.injEq]; exact ba_beq a b
  bits a := by simp [Instr.sameBits, ba_beq]
section
variable {κ : Type}
def Brn (l : List MapEntry) (c : Nat) : Prop := (∀ x ∈ l, x.born < c) ∧ (l.map (·.born)).Nodup
theorem Brn.nil (c : Nat) : Brn [] c := ⟨by simp, by simp⟩
theorem Brn.push {l : List MapEntry} {c : Nat} {k v : Value} (b : Brn l c) : Brn (l ++ [{ key := k, val := v, born := c }]) (c + 1) :=
  ⟨fun x hx => by
    rcases List.mem_append.1 hx with q | q
    · have := b.1 x q; omega
    · rw [List.mem_singleton.1 q]; exact Nat.lt_succ_self c, by
    rw [List.map_append, List.nodup_append]
    refine ⟨b.2, by simp, fun x hx y hy e => ?_⟩
    obtain ⟨z, hz, rfl⟩ := List.mem_map.1 hx
    simp only [List.map_cons, List.map_nil, List.mem_singleton] at hy
    have := b.1 z hz; omega⟩
theorem brn_modify {k v : Value} : ∀ (l : List MapEntry) (j : Nat), (l.modify j fun e => { e with key := k, val := v }).map (·.born) = l.map (·.born)
  | [], j => by cases j <;> rfl
  | e :: l, 0 => rfl
  | e :: l, j + 1 => by simp only [List.modify_succ_cons, List.map_cons, brn_modify l j]
theorem Brn.of_map {l l' : List MapEntry} {c : Nat} (b : Brn l c) (e : l'.map (·.born) = l.map (·.born)) : Brn l' c :=
  ⟨fun x hx => by
    have : x.born ∈ l.map (·.born) := by rw [← e]; exact List.mem_map_of_mem hx
    obtain ⟨y, hy, q⟩ := List.mem_map.1 this
    rw [← q]; exact b.1 y hy, by rw [e]; exact b.2⟩
theorem Brn.sub {l l' : List MapEntry} {c : Nat} (b : Brn l c) (s : l'.Sublist l) : Brn l' c := ⟨fun x hx => b.1 x (s.subset hx), b.2.sublist (s.map _)⟩
def MapL (h : Heap) (b : Nat) (enc : κ → Value) (l : List (κ × Value)) : Prop :=
  ∃ es clock, h[b]? = some (.map es clock) ∧ es.toList.map (fun e => (e.key, e.val)) = l.map (fun p => (enc p.1, p.2)) ∧ (l.map (·.1)).Nodup ∧ Brn es.toList clock
theorem MapL.row {h h' : Heap} {b : Nat} {enc : κ → Value} {l : List (κ × Value)} (m : MapL h b enc l) (e : h'[b]? = h[b]?) : MapL h' b enc l :=
  let ⟨es, c, h1, h2⟩ := m; ⟨es, c, e.trans h1, h2⟩
theorem MapL.lt {h : Heap} {b : Nat} {enc : κ → Value} {l : List (κ × Value)} (m : MapL h b enc l) : b < h.size := let ⟨_, _, h1, _⟩ := m; row_lt h1
theorem MapL.nodup {h : Heap} {b : Nat} {enc : κ → Value} {l : List (κ × Value)} (m : MapL h b enc l) : (l.map (·.1)).Nodup := let ⟨_, _, _, _, h3, _⟩ := m; h3
theorem MapL.ext {h h' : Heap} (he : Ext h h') {b : Nat} {enc : κ → Value} {l : List (κ × Value)} (m : MapL h b enc l) : MapL h' b enc l := m.row (he.block b m.lt)
theorem MapL.fr {h h' : Heap} {S : Nat → Prop} (he : Fr S h h') {b : Nat} {enc : κ → Value} {l : List (κ × Value)} (m : MapL h b enc l) (hn : ¬ S b) : MapL h' b enc l := m.row (he.block b m.lt hn)
end
section
variable {κ : Type} [DecidableEq κ]
def lk : List (κ × Value) → κ → Option Value
  | [], _ => none
  | (b, v) :: t, a => if b = a then some v else lk t a
def fi : List (κ × Value) → κ → Option (Nat × Value)
  | [], _ => none
  | (b, v) :: t, a => if b = a then some (0, v) else (fi t a).map fun x => (x.1 + 1, x.2)
def kput : List (κ × Value) → κ → Value → List (κ × Value)
  | [], a, v => [(a, v)]
  | (b, u) :: t, a, v => if b = a then (a, v) :: t else (b, u) :: kput t a v
def kdel : List (κ × Value) → κ → List (κ × Value)
  | [], _ => []
  | (b, u) :: t, a => if b = a then t else (b, u) :: kdel t a
theorem fi_lk : ∀ (l : List (κ × Value)) (a : κ), (fi l a).map (·.2) = lk l a
  | [], _ => rfl
  | (b, v) :: t, a => by
    simp only [fi, lk]
    by_cases h : b = a
    · simp [h]
    · rw [if_neg h, if_neg h, ← fi_lk t a]; cases fi t a <;> rfl
theorem lk_kput : ∀ (l : List (κ × Value)) (a b : κ) (v : Value), lk (kput l a v) b = if b = a then some v else lk l b
  | [], a, b, v => by simp only [kput, lk, eq_comm]
  | (c, u) :: t, a, b, v => by
    simp only [kput]
    by_cases h : c = a
    · subst h
      simp only [if_true, lk]
      by_cases h2 : c = b
      · subst h2; simp
      · rw [if_neg h2, if_neg h2, if_neg (Ne.symm h2)]
    · rw [if_neg h]
      simp only [lk, lk_kput t a b v]
      by_cases h2 : c = b
      · subst h2; simp [h]
      · simp [h2]
theorem kput_keys : ∀ (l : List (κ × Value)) (a : κ) (v : Value) (x : κ), x ∈ (kput l a v).map (·.1) ↔ x = a ∨ x ∈ l.map (·.1)
  | [], a, v, x => by simp [kput]
  | (c, u) :: t, a, v, x => by
    simp only [kput]
    by_cases h : c = a
    · subst h; simp
    · rw [if_neg h]
      simp only [List.map_cons, List.mem_cons, kput_keys t a v x]
      constructor
      · rintro (h | h | h)
        · exact .inr (.inl h)
        · exact .inl h
        · exact .inr (.inr h)
      · rintro (h | h | h)
        · exact .inr (.inl h)
        · exact .inl h
        · exact .inr (.inr h)
theorem kput_nodup : ∀ (l : List (κ × Value)) (a : κ) (v : Value), (l.map (·.1)).Nodup → ((kput l a v).map (·.1)).Nodup
  | [], a, v, _ => by simp [kput]
  | (c, u) :: t, a, v, h => by
    simp only [List.map_cons, List.nodup_cons] at h
    simp only [kput]
    by_cases hc : c = a
    · subst hc; simp only [if_true, List.map_cons, List.nodup_cons]; exact h
    · rw [if_neg hc]
      simp only [List.map_cons, List.nodup_cons]
      exact ⟨fun hm => ((kput_keys t a v c).1 hm).elim hc h.1, kput_nodup t a v h.2⟩
theorem lk_mem : ∀ (l : List (κ × Value)) (a : κ) (v : Value), lk l a = some v → (a, v) ∈ l
  | [], _, _, h => by cases h
  | (c, u) :: t, a, v, h => by
    simp only [lk] at h
    by_cases hc : c = a
    · rw [if_pos hc] at h; cases h; subst hc; exact List.mem_cons_self
    · rw [if_neg hc] at h; exact List.mem_cons_of_mem _ (lk_mem t a v h)
variable {d : TypeDesc} {enc : κ → Value}
theorem find_now (k : KeyT d enc) (a : κ) : ∀ (es : List MapEntry) (l : List (κ × Value)) (i : Nat), es.map (fun e => (e.key, e.val)) = l.map (fun p => (enc p.1, p.2)) →
    Instr.findNow d (enc a) es i = some ((fi l a).map fun x => (x.1 + i, x.2))
  | [], [], _, _ => rfl
  | [], _ :: _, _, h => by simp at h
  | _ :: _, [], _, h => by simp at h
  | e :: es, (b, v) :: l, i, h => by
    simp only [List.map_cons, List.cons.injEq, Prod.mk.injEq] at h
    obtain ⟨⟨h1, h2⟩, h3⟩ := h
    simp only [Instr.findNow, h1, k.same, fi]
    by_cases hb : a = b
    · subst hb; simp [h2]
    · rw [if_neg (Ne.symm hb)]
      simp only [hb, decide_false]
      rw [find_now k a es l (i + 1) h3]
      cases fi l a with
      | none => rfl
      | some x => simp; omega
theorem fi_at (enc : κ → Value) (a : κ) : ∀ (es : List MapEntry) (l : List (κ × Value)) (j : Nat) (v : Value), es.map (fun e => (e.key, e.val)) = l.map (fun p => (enc p.1, p.2)) → fi l a = some (j, v) →
    ∃ e, es[j]? = some e ∧ e.key = enc a ∧ e.val = v ∧ (∀ u, (es.modify j fun e => { e with key := enc a, val := u }).map (fun e => (e.key, e.val)) = (kput l a u).map (fun p => (enc p.1, p.2))) ∧
      (es.eraseIdx j).map (fun e => (e.key, e.val)) = (kdel l a).map (fun p => (enc p.1, p.2))
  | [], [], _, _, _, hf => by cases hf
  | [], _ :: _, _, _, h, _ => by simp at h
  | _ :: _, [], _, _, h, _ => by simp at h
  | e :: es, (b, u) :: l, j, v, h, hf => by
    simp only [List.map_cons, List.cons.injEq, Prod.mk.injEq] at h
    obtain ⟨⟨h1, h2⟩, h3⟩ := h
    simp only [fi] at hf
    by_cases hb : b = a
    · subst hb
      rw [if_pos rfl] at hf
      cases hf
      exact ⟨e, rfl, h1, h2, fun w => by simp [kput, h3], by simp [kdel, h3]⟩
    · rw [if_neg hb] at hf
      cases hq : fi l a with
      | none => rw [hq] at hf; cases hf
      | some x =>
        obtain ⟨j', v'⟩ := x
        rw [hq] at hf
        cases hf
        obtain ⟨e', k1, k2, k3, k4, k5⟩ := fi_at enc a es l j' _ h3 hq
        refine ⟨e', by simpa using k1, k2, k3, fun w => ?_, ?_⟩
        · simp only [kput, if_neg hb, List.modify_succ_cons, List.map_cons, h1, h2, k4 w]
        · simp only [kdel, if_neg hb, List.eraseIdx_cons_succ, List.map_cons, h1, h2, k5]
theorem fi_none (a : κ) : ∀ (l : List (κ × Value)), fi l a = none → a ∉ l.map (·.1) ∧ (∀ v, kput l a v = l ++ [(a, v)]) ∧ kdel l a = l
  | [], _ => by simp [kput, kdel]
  | (b, u) :: l, h => by
    simp only [fi] at h
    by_cases hb : b = a
    · rw [if_pos hb] at h; cases h
    · rw [if_neg hb] at h
      have hn : fi l a = none := by cases hq : fi l a <;> rw [hq] at h <;> first | rfl | cases h
      obtain ⟨h1, h2, h3⟩ := fi_none a l hn
      exact ⟨by simp only [List.map_cons, List.mem_cons, not_or]; exact ⟨Ne.symm hb, h1⟩, fun v => by simp [kput, hb, h2], by simp [kdel, hb, h3]⟩
section ops
variable {P : Program} {ρ : Regs} {h : Heap} {dd : Option Nat} {ty : TypeId} {p : String} {af : Array Edge} {g : Option (Nat × Bool)}
theorem hg_set {b : Nat} {o o' : Obj} (hb : h[b]? = some o) (hn : o ≠ .deferred (some [])) : HG h (h.setIfInBounds b o') := by
  refine ⟨by simp, fun i hi => ?_⟩
  by_cases e : b = i
  · subst e; rw [hb] at hi; cases hi; exact absurd rfl hn
  · rw [Array.getElem?_setIfInBounds_ne e]; exact hi
theorem only_set {b : Nat} {o : Obj} : Only b h (h.setIfInBounds b o) := ⟨by simp, fun i hi => Array.getElem?_setIfInBounds_ne (Ne.symm hi)⟩
theorem run_look (k : KeyT d enc) {mt kt et : TypeId} {l : List (κ × Value)} {b : Nat} {z : Value} (hm : P.underlying mt = some (.map kt et)) (hd : P.underlying kt = some d) (hz : zeroB P et z) (ml : MapL h b enc l) (a : κ) (ok : Bool) (w : World) (hw : w.heap = h) :
    (Instr.lookup mt (.map (some b)) (enc a) ok).run P w = .ok (if ok then .tuple #[(lk l a).getD z, .bool (lk l a).isSome] else (lk l a).getD z) w := by
  subst hw
  obtain ⟨es, c, h1, h2, h3, _⟩ := ml
  have hf := find_now k a es.toList l 0 h2
  simp only [Instr.lookup, Sem.run_bind, run_underlying hm, Result.andThen_ok, MapKept.run_getObj_map h1, Sem.run_pure]
  rw [show (10000 : Nat) = 9999 + 1 from rfl, MapKept.run_checkKey hd (k.isKey a)]
  simp only [Result.andThen_ok, MapKept.run_findKey hd hf, ← fi_lk l a]
  cases hq : fi l a with
  | none => simp only [Option.map_none, Sem.run_bind, run_zero hz, Result.andThen_ok, Sem.run_pure]; cases ok <;> rfl
  | some x => simp only [Option.map_some]; cases ok <;> rfl
theorem hv_look (k : KeyT d enc) {mt kt et : TypeId} {l : List (κ × Value)} {b : Nat} {z v : Value} {x y : Operand} {a : κ} (hm : P.underlying mt = some (.map kt et)) (hd : P.underlying kt = some d) (hz : zeroB P et z) (hx : ev ρ x = .map (some b)) (hy : ev ρ y = enc a)
    (ml : MapL h b enc l) (hv : (lk l a).getD z = v) : HVal P ρ ⟨dd, .lookup mt x y false, ty, p, af, g⟩ h v :=
  hv_of fun w hw => by simp only [execOp, hx, hy, Sem.run_bind, run_look k hm hd hz ml a false w hw, Result.andThen_ok, Sem.run_pure, Bool.false_eq_true, if_false, hv]
theorem hv_look2 (k : KeyT d enc) {mt kt et : TypeId} {l : List (κ × Value)} {b : Nat} {z v : Value} {x y : Operand} {a : κ} (hm : P.underlying mt = some (.map kt et)) (hd : P.underlying kt = some d) (hz : zeroB P et z) (hx : ev ρ x = .map (some b)) (hy : ev ρ y = enc a)
    (ml : MapL h b enc l) (hv : (lk l a).getD z = v) : HVal P ρ ⟨dd, .lookup mt x y true, ty, p, af, g⟩ h (.tuple #[v, .bool (lk l a).isSome]) :=
  hv_of fun w hw => by simp only [execOp, hx, hy, Sem.run_bind, run_look k hm hd hz ml a true w hw, Result.andThen_ok, Sem.run_pure, if_true, hv]
theorem hn_mapPut (k : KeyT d enc) {mt kt et : TypeId} {l : List (κ × Value)} {b : Nat} {v : Value} {x y z : Operand} {a : κ} {K : Value → Heap → Prop} (hm : P.underlying mt = some (.map kt et)) (hd : P.underlying kt = some d) (hx : ev ρ x = .map (some b)) (hy : ev ρ y = enc a) (hz : ev ρ z = v)
    (ml : MapL h b enc l) (hk : ∀ h', Only b h h' → MapL h' b enc (kput l a v) → K undef h') : HStep P ρ ⟨dd, .mapUpdate mt x y z, ty, p, af, g⟩ h K := by
  obtain ⟨es, c, h1, h2, h3, hB⟩ := ml
  have hf := find_now k a es.toList l 0 h2
  cases hq : fi l a with
  | none =>
    obtain ⟨g1, g2, g3⟩ := fi_none a l hq
    refine hs_skip_of (h' := h.setIfInBounds b (.map (es.push { key := enc a, val := v, born := c }) (c + 1))) (fun w hw => ?_) (hk _ only_set ⟨_, _, set_same h1, ?_, kput_nodup l a v h3, by rw [Array.toList_push]; exact hB.push⟩) (hg_set h1 (by simp))
    · subst hw
      rw [hq] at hf
      simp only [execOp, hx, hy, hz, Instr.mapUpdate, Sem.run_bind, run_underlying hm, Result.andThen_ok, MapKept.run_getObj_map h1]
      rw [show (10000 : Nat) = 9999 + 1 from rfl, MapKept.run_checkKey hd (k.isKey a)]
      simp only [Result.andThen_ok, MapKept.run_findKey hd hf, Option.map_none, MapKept.run_setObj_map _ h1, Sem.run_pure]
    · rw [g2]; simp [h2]
  | some q =>
    obtain ⟨j, u⟩ := q
    obtain ⟨e, e1, e2, e3, e4, e5⟩ := fi_at enc a es.toList l j u h2 hq
    refine hs_skip_of (h' := h.setIfInBounds b (.map (es.modify j fun e => { e with key := enc a, val := v }) c)) (fun w hw => ?_) (hk _ only_set ⟨_, _, set_same h1, ?_, kput_nodup l a v h3, hB.of_map (by rw [Array.toList_modify]; exact brn_modify _ _)⟩) (hg_set h1 (by simp))
    · subst hw
      rw [hq] at hf
      have e1' : es[j]? = some e := by simpa using e1
      have hb : Instr.sameBits 10000 (enc a) (enc a) = true := k.bits a
      simp only [execOp, hx, hy, hz, Instr.mapUpdate, Sem.run_bind, run_underlying hm, Result.andThen_ok, MapKept.run_getObj_map h1]
      rw [MapKept.run_checkKey (n := 9999) hd (k.isKey a)]
      simp only [Result.andThen_ok, MapKept.run_findKey hd hf, Option.map_some, Nat.add_zero, e1', Option.getD_some, e2, Instr.keyThatStays, hb, if_true, Sem.run_pure, Sem.run_bind, MapKept.run_setObj_map _ h1]
    · rw [Array.toList_modify]; exact e4 v
theorem hn_mapIns (k : KeyT d enc) {mt kt et : TypeId} {l : List (κ × Value)} {b : Nat} {v : Value} {x y z : Operand} {a : κ} {K : Value → Heap → Prop} (hm : P.underlying mt = some (.map kt et)) (hd : P.underlying kt = some d) (hx : ev ρ x = .map (some b)) (hy : ev ρ y = enc a) (hz : ev ρ z = v)
    (ml : MapL h b enc l) (hk : ∀ h', Only b h h' → MapL h' b enc (kput l a v) → K undef h') : HStep P ρ ⟨dd, .insert mt x y z, ty, p, af, g⟩ h K :=
  show HStep P ρ ⟨dd, .mapUpdate mt x y z, ty, p, af, g⟩ h K from hn_mapPut k hm hd hx hy hz ml hk
end ops
end
theorem hn_makeMap {κ : Type} {enc : κ → Value} {P : Program} {ρ : Regs} {h : Heap} {dd : Option Nat} {ty : TypeId} {p : String} {af : Array Edge} {g : Option (Nat × Bool)} {t : TypeId} {K : Value → Heap → Prop} (hk : ∀ b h', b = h.size → Ext h h' → h'.size = h.size + 1 → MapL h' b enc [] → K (.map (some b)) h') : HStep P ρ ⟨dd, .makeMap t none, ty, p, af, g⟩ h K :=
  hs_of (v := .map (some h.size)) (h' := h.push (.map #[] 0)) (fun w hw => by subst hw; simp [execOp, Instr.makeMap, go_sem]) (hk _ _ rfl (Ext.push _ _) (by simp) ⟨#[], 0, push_new rfl, rfl, by simp, Brn.nil 0⟩)
section
variable {P : Program} {ρ : Regs} {h : Heap} {dd : Option Nat} {ty : TypeId} {p : String} {af : Array Edge} {g : Option (Nat × Bool)}
theorem hn_clear {t e : TypeId} {x : Operand} {ts : Array TypeId} {a : Option Addr} {n c : Nat} {z : Value} {zs : List Value} {K : Value → Heap → Prop} (hu : P.underlying t = some (.slice e)) (hz : zeroB P e z) (hzc : z.cells = zs.toArray) (hone : zs.all oneC = true) (ht : ts[0]? = some t) (hx : ev ρ x = .slice a n c)
    (h0 : n = 0 → K (.tuple #[]) h) (h1 : n ≠ 0 → ∃ b o, a = some ⟨b, o, none⟩ ∧ HWs h b o (n * zs.length) ∧ ∀ h', h' = hsets h b o (zcells zs n) → K (.tuple #[]) h') : HStep P ρ ⟨dd, .call ⟨.builtin .clear, #[x], ts⟩, ty, p, af, g⟩ h K := by
  by_cases hn : n = 0
  · subst hn
    intro w hw
    have e : (Builtin.clear_ ts ty #[.slice a 0 c]).run P w = .ok (.tuple #[]) w := by
      cases a <;> simp [Builtin.clear_, ht, run_underlying hu]
    have e2 : (execOp (ev ρ) ⟨dd, .call ⟨.builtin .clear, #[x], ts⟩, ty, p, af, g⟩).run P w = .ok (.value (.tuple #[])) w := by simp [hx, go_sem, e]
    rw [e2]
    exact ⟨Sim.refl _, by rw [hw]; exact h0 rfl⟩
  · obtain ⟨b, o, rfl, hW, hk⟩ := h1 hn
    refine hs_of (h' := hsets h b o (zcells zs n)) (fun w hw => ?_) (hk _ rfl) (HG.hsets _ _ _ _)
    subst hw
    have hone' : ∀ v ∈ zcells zs n, oneC v = true := by
      intro v hv
      unfold zcells at hv
      obtain ⟨l, hl, hv⟩ := List.mem_flatten.1 hv
      rw [(List.mem_replicate.1 hl).2] at hv
      exact List.all_eq_true.1 hone v hv
    have hst := run_storeCells (P := P) (b := b) (o := o) (zcells zs n) 0 w hone' (fun j hj => by rw [zcells_length] at hj; exact hW j hj)
    have hzz : (Builtin.zeroCells z.cells n).toList = zcells zs n := by
      unfold Builtin.zeroCells
      rw [hzc]
      have := zcells_range zs n
      simp only [List.size_toArray] at this ⊢
      rw [this]
    have e : (Builtin.clear_ ts ty #[.slice (some ⟨b, o, none⟩) n c]).run P w = .ok (.tuple #[]) { w with heap := hsets w.heap b o (zcells zs n) } := by
      obtain ⟨n', rfl⟩ : ∃ n', n = n' + 1 := ⟨n - 1, by omega⟩
      simp only [Builtin.clear_, ht, List.getElem?_toArray, List.getElem?_cons_zero, Sem.run_bind, run_underlying hu, Result.andThen_ok, run_zero hz, hzz, hst, Sem.run_pure, Nat.add_zero]
    simp [hx, go_sem, e]
theorem hn_clear2 {t e : TypeId} {x : Operand} {ts : Array TypeId} {a : Option Addr} {n c : Nat} {z : Value} {zs : List Value} {K : Value → Heap → Prop} (hu : P.underlying t = some (.slice e)) (hz : zeroB P e z) (hzc : z.cells = zs.toArray) (hone : zs.all oneC = true) (ht : ts[0]? = some t) (hx : ev ρ x = .slice a n c)
    (hw : n ≠ 0 → ∃ b o : Nat, a = some ⟨b, o, none⟩ ∧ HWs h b o (n * zs.length)) (hk : ∀ h2, (n = 0 → h2 = h) → (∀ b o : Nat, n ≠ 0 → a = some ⟨b, o, none⟩ → h2 = hsets h b o (zcells zs n)) → K (.tuple #[]) h2) : HStep P ρ ⟨dd, .call ⟨.builtin .clear, #[x], ts⟩, ty, p, af, g⟩ h K :=
  hn_clear hu hz hzc hone ht hx (fun e => hk h (fun _ => rfl) (fun _ _ n _ => absurd e n)) fun n => by
    obtain ⟨b, o, e1, e2⟩ := hw n
    exact ⟨b, o, e1, e2, fun h' e3 => hk h' (fun e => absurd e n) (fun b' o' _ e4 => by rw [e1] at e4; cases e4; exact e3)⟩
theorem hv_slice3 {t e : TypeId} {x y z u : Operand} {size n c : Nat} {a q : Option Addr} {k1 k2 k3 : IntKind} {l r mx : Int} (hu : P.underlying t = some (.slice e)) (hz : szB P e = some size) (hx : ev ρ x = .slice a n c)
    (hl : ev ρ y = .int k1 l) (hr : ev ρ z = .int k2 r) (hm : ev ρ u = .int k3 mx) (h0 : 0 ≤ l) (h1 : l ≤ r) (h2 : r ≤ mx) (h3 : mx ≤ c) (hq : q = slA a l.toNat size mx.toNat) :
    HVal P ρ ⟨dd, .slice t x (some y) (some z) (some u), ty, p, af, g⟩ h (.slice q (r.toNat - l.toNat) (mx.toNat - l.toNat)) :=
  hv_of fun w _ => by
    have hm0 : 0 ≤ mx := by omega
    have hr0 : 0 ≤ r := by omega
    have g1 : (Instr.sliceBound (.int k3 mx) c .slice3Acap).run P w = .ok mx.toNat w := by
      simp [Instr.sliceBound, asIntOf, hm0, h3]
    have g2 : (Instr.sliceBound (.int k2 r) mx.toNat .slice3B).run P w = .ok r.toNat w := by
      have : r ≤ (mx.toNat : Int) := by omega
      simp only [Instr.sliceBound, asIntOf, Sem.run_bind, Sem.run_pure, Result.andThen_ok, hr0, this, and_self, if_true]
    have g3 : (Instr.sliceBound (.int k1 l) r.toNat .slice3C).run P w = .ok l.toNat w := by
      have : l ≤ (r.toNat : Int) := by omega
      simp only [Instr.sliceBound, asIntOf, Sem.run_bind, Sem.run_pure, Result.andThen_ok, h0, this, and_self, if_true]
    have hb : (Instr.sliceBounds true n c (some (.int k1 l)) (some (.int k2 r)) (some (.int k3 mx))).run P w = .ok (l.toNat, r.toNat, mx.toNat) w := by
      simp only [Instr.sliceBounds, Sem.run_bind, if_true, g1, Result.andThen_ok, g2, Option.isSome_some, g3, Sem.run_pure]
    subst hq
    simp only [execOp, Instr.sliceAt, Sem.run_bind, run_underlying hu, Result.andThen_ok, Instr.slice, hx, Option.map_some, hl, hr, hm, hb, run_sizeOf hz, slA]
    simp [go_sem]
theorem hv_indexStr {t : TypeId} {x y : Operand} {s : ByteArray} {k : IntKind} {i : Int} {u : UInt8} (hu : P.underlying t = some .string) (hx : ev ρ x = .string s) (hy : ev ρ y = .int k i) (h0 : 0 ≤ i) (hs : s[i.toNat]? = some u) :
    HVal P ρ ⟨dd, .index t x y, ty, p, af, g⟩ h (.int .u8 u.toNat) :=
  hv_of fun w _ => by
    simp [execOp, hx, hy, Instr.index, asIntOf, go_sem, run_underlying hu, h0, hs]
end
end Go.Proofs.YtfjcciaabkjkgaaGreatDoor
namespace Go.Proofs.YtfjcciaabkjkgaaGreatDoor
open Go
structure Elt (α : Type) where
  k : Nat
  enc : α → List Value
  len : ∀ x, (enc x).length = k
  one : ∀ x, ∀ v ∈ enc x, oneC v = true
def blkA (a : Option Addr) (b : Nat) : Prop := ∃ x, a = some x ∧ x.block = b
theorem blkA_some {b o b' : Nat} : blkA (some ⟨b, o, none⟩) b' ↔ b' = b := ⟨fun ⟨_, e, h⟩ => by cases e; exact h.symm, fun e => ⟨_, rfl, e.symm⟩⟩
theorem blkA_none {b : Nat} : ¬ blkA none b := fun ⟨_, e, _⟩ => by cases e
theorem blkA_of {b o : Nat} {a : Option Addr} (e : a = some ⟨b, o, none⟩) : blkA a b := ⟨_, e, rfl⟩
theorem HCells.get {h : Heap} {b : Nat} : ∀ {vs : List Value} {o : Nat}, HCells h b o vs → ∀ {j : Nat} {v : Value}, vs[j]? = some v → hcell h b (o + j) = some v
  | [], _, _, _, _, hj => by simp at hj
  | u :: us, o, hc, 0, v, hj => by simp at hj; subst hj; exact hc.1
  | u :: us, o, hc, j + 1, v, hj => by
    have := HCells.get hc.2 (j := j) (v := v) (by simpa using hj)
    rw [show o + (j + 1) = o + 1 + j by omega]; exact this
theorem HCells.mk {h : Heap} {b : Nat} : ∀ {vs : List Value} {o : Nat}, (∀ j v, vs[j]? = some v → hcell h b (o + j) = some v) → HCells h b o vs
  | [], _, _ => trivial
  | u :: us, o, hc => ⟨hc 0 u rfl, HCells.mk fun j v hj => by
    have := hc (j + 1) v (by simpa using hj)
    rw [show o + 1 + j = o + (j + 1) by omega]; exact this⟩
theorem HCells.fr {h h' : Heap} {S : Nat → Prop} (f : Fr S h h') {b o : Nat} {vs : List Value} (hc : HCells h b o vs) (hn : ¬ S b) : HCells h' b o vs :=
  HCells.mk fun j v hj => by
    have h1 := hc.get hj
    have h2 := f.block b (hcell_lt h1) hn
    unfold hcell at *; rw [h2]; exact h1
theorem HCells.row {h : Heap} {b o : Nat} {vs : List Value} {cs : Array Value} {T : TypeId} {fr : Nat × Nat} (hr : h[b]? = some (.cells cs T fr)) (hv : ∀ j v, vs[j]? = some v → cs[o + j]? = some v) : HCells h b o vs :=
  HCells.mk fun j v hj => by rw [hcell_row hr]; exact hv j v hj
section
variable {α : Type}
theorem flat_len (E : Elt α) : ∀ L : List α, (L.flatMap E.enc).length = L.length * E.k
  | [] => by simp
  | x :: l => by rw [List.flatMap_cons, List.length_append, flat_len E l, E.len, List.length_cons, Nat.add_mul, Nat.one_mul, Nat.add_comm]
theorem flat_get (E : Elt α) : ∀ (L : List α) (i : Nat) (x : α) (r : Nat) (v : Value), L[i]? = some x → (E.enc x)[r]? = some v → (L.flatMap E.enc)[i * E.k + r]? = some v
  | [], i, x, r, v, h, _ => by simp at h
  | y :: l, 0, x, r, v, h, hr => by
    simp at h; subst h
    have := (List.getElem?_eq_some_iff.1 hr).1
    rw [List.flatMap_cons, Nat.zero_mul, Nat.zero_add, List.getElem?_append_left this]; exact hr
  | y :: l, i + 1, x, r, v, h, hr => by
    have := flat_get E l i x r v (by simpa using h) hr
    rw [List.flatMap_cons, List.getElem?_append_right (by rw [E.len, Nat.add_mul]; omega), E.len]
    rw [show (i + 1) * E.k + r - E.k = i * E.k + r by rw [Nat.add_mul]; omega]; exact this
theorem flat_inv (E : Elt α) : ∀ (L : List α) (j : Nat) (v : Value), (L.flatMap E.enc)[j]? = some v → ∃ i x r, L[i]? = some x ∧ (E.enc x)[r]? = some v ∧ j = i * E.k + r
  | [], j, v, h => by simp at h
  | y :: l, j, v, h => by
    rw [List.flatMap_cons] at h
    by_cases hj : j < E.k
    · rw [List.getElem?_append_left (by rw [E.len]; exact hj)] at h
      exact ⟨0, y, j, rfl, h, by omega⟩
    · rw [List.getElem?_append_right (by rw [E.len]; omega), E.len] at h
      obtain ⟨i, x, r, h1, h2, h3⟩ := flat_inv E l _ v h
      exact ⟨i + 1, x, r, by simpa using h1, h2, by rw [Nat.add_mul]; omega⟩
theorem flat_one (E : Elt α) (L : List α) : ∀ v ∈ L.flatMap E.enc, oneC v = true := fun v hv => by
  obtain ⟨x, _, h⟩ := List.mem_flatMap.1 hv
  exact E.one x v h
structure Sl (E : Elt α) (h : Heap) (a : Option Addr) (c : Nat) (L : List α) : Prop where
  le : L.length ≤ c
  ex : c = 0 ∨ ∃ b o, a = some ⟨b, o, none⟩ ∧ ∀ i x, L[i]? = some x → HCells h b (o + i * E.k) (E.enc x)
def Own (k : Nat) (T : TypeId) (N : Nat) (h : Heap) (a : Option Addr) (c : Nat) : Prop :=
  (a = none ∧ c = 0) ∨ ∃ b o cs, a = some ⟨b, o, none⟩ ∧ N ≤ b ∧ h[b]? = some (.cells cs T (0, 0)) ∧ o + c * k ≤ cs.size
theorem Sl.nil (E : Elt α) (h : Heap) : Sl E h none 0 [] := ⟨Nat.le_refl _, .inl rfl⟩
theorem Own.nil (k : Nat) (T : TypeId) (N : Nat) (h : Heap) : Own k T N h none 0 := .inl ⟨rfl, rfl⟩
variable {E : Elt α} {h h' : Heap} {a : Option Addr} {c : Nat} {L : List α} {k : Nat} {T : TypeId} {N : Nat}
theorem Sl.fr {S : Nat → Prop} (s : Sl E h a c L) (f : Fr S h h') (hn : ∀ b, blkA a b → ¬ S b) : Sl E h' a c L :=
  ⟨s.le, s.ex.imp id fun ⟨b, o, e, hc⟩ => ⟨b, o, e, fun i x hx => (hc i x hx).fr f (hn b (blkA_of e))⟩⟩
theorem Sl.ext (s : Sl E h a c L) (f : Ext h h') : Sl E h' a c L := s.fr (f.fr (fun _ => False)) (fun _ _ h => h)
theorem Own.fr {S : Nat → Prop} (s : Own k T N h a c) (f : Fr S h h') (hn : ∀ b, blkA a b → ¬ S b) : Own k T N h' a c :=
  s.imp id fun ⟨b, o, cs, e, h1, h2, h3⟩ => ⟨b, o, cs, e, h1, f.row h2 (hn b (blkA_of e)), h3⟩
theorem Own.ext (s : Own k T N h a c) (f : Ext h h') : Own k T N h' a c := s.fr (f.fr (fun _ => False)) (fun _ _ h => h)
theorem Own.low (s : Own k T N h a c) {b : Nat} (hb : blkA a b) : N ≤ b ∧ b < h.size := by
  obtain ⟨x, e, rfl⟩ := hb
  rcases s with ⟨h1, _⟩ | ⟨b', o', cs, h1, h2, h3, _⟩
  · rw [h1] at e; cases e
  · rw [h1] at e; cases e; exact ⟨h2, row_lt h3⟩
theorem Own.down {N' : Nat} (s : Own k T N h a c) (hN : N' ≤ N) : Own k T N' h a c :=
  s.imp id fun ⟨b, o, cs, e, h1, h2⟩ => ⟨b, o, cs, e, Nat.le_trans hN h1, h2⟩
theorem Sl.at (s : Sl E h a c L) {i : Nat} {x : α} (hx : L[i]? = some x) : ∃ b o, a = some ⟨b, o, none⟩ ∧ HCells h b (o + i * E.k) (E.enc x) := by
  rcases s.ex with e | ⟨b, o, e, hc⟩
  · have := (List.getElem?_eq_some_iff.1 hx).1
    have := s.le; omega
  · exact ⟨b, o, e, hc i x hx⟩
theorem Sl.addr (s : Sl E h a c L) (hp : 0 < L.length) : ∃ b o, a = some ⟨b, o, none⟩ ∧ ∀ i x, L[i]? = some x → HCells h b (o + i * E.k) (E.enc x) := by
  rcases s.ex with e | ⟨b, o, e, hc⟩
  · have := s.le; omega
  · exact ⟨b, o, e, hc⟩
theorem Sl.src (s : Sl E h a c L) : Src h (.slice a L.length c) L.length E.k (L.flatMap E.enc) := by
  refine ⟨flat_len E L, ?_⟩
  rcases s.ex with e2 | ⟨b, o, e, hc⟩
  · have := s.le
    have e0 : L.length = 0 := by omega
    exact .inl ⟨a, c, rfl, e0⟩
  · refine .inr ⟨b, o, c, by rw [e], fun j u hu => ?_⟩
    obtain ⟨i, x, r, h1, h2, rfl⟩ := flat_inv E L j u hu
    rw [← Nat.add_assoc]; exact (hc i x h1).get h2
theorem Sl.of_row {b o : Nat} {cs : Array Value} {T : TypeId} {fr : Nat × Nat} (hr : h[b]? = some (.cells cs T fr)) (hle : L.length ≤ c) (hc : ∀ j v, (L.flatMap E.enc)[j]? = some v → cs[o + j]? = some v) : Sl E h (some ⟨b, o, none⟩) c L :=
  ⟨hle, .inr ⟨b, o, rfl, fun i x hx => HCells.row hr fun r v hv => by rw [Nat.add_assoc]; exact hc _ _ (flat_get E L i x r v hx hv)⟩⟩
theorem Sl.lit {b : Nat} {T : TypeId} (hr : h[b]? = some (.cells (L.flatMap E.enc).toArray T (0, 0))) : Sl E h (some ⟨b, 0, none⟩) L.length L :=
  Sl.of_row hr (Nat.le_refl _) fun j v hv => by rw [Nat.zero_add]; simpa using hv
theorem Own.lit {b : Nat} {T : TypeId} (hr : h[b]? = some (.cells (L.flatMap E.enc).toArray T (0, 0))) (hN : N ≤ b) : Own E.k T N h (some ⟨b, 0, none⟩) L.length :=
  .inr ⟨b, 0, _, rfl, hN, hr, by rw [List.size_toArray, flat_len]; omega⟩
structure AppT (P : Program) (t T : TypeId) (k by_ : Nat) : Prop where
  hu : P.underlying t = some (.slice T)
  hz : szB P T = some k
  hby : byB P T = some by_
  ex : ∃ (z : Value) (zs : List Value), zeroB P T z ∧ z.cells = zs.toArray ∧ zs.length = k
  pos : 0 < by_
theorem app_sl {P : Program} {t : TypeId} {by_ : Nat} (A : AppT P t T E.k by_)
    {a2 : Option Addr} {c2 : Nat} {L2 : List α} (s : Sl E h a c L) (w : Own E.k T N h a c) (s2 : Sl E h a2 c2 L2) (hN : N ≤ h.size) (hsz : (L.length + L2.length) * by_ ≤ 140737488355328) {K : Value → Heap → Prop}
    (hk : ∀ a' c' h', Fr (blkA a) h h' → Sl E h' a' c' (L ++ L2) → Own E.k T N h' a' c' → (∀ b, blkA a' b → blkA a b ∨ h.size ≤ b) → K (.slice a' (L.length + L2.length) c') h') :
    HAppend P t t (.slice a L.length c) (.slice a2 L2.length c2) h K := by
  obtain ⟨hu, hz, hby, ⟨z, zs, hzv, hzc, hzl⟩, hb0⟩ := A
  by_cases hroom : L.length + L2.length ≤ c
  · rcases w with ⟨e1, e2⟩ | ⟨b, o, cs, rfl, hlow, hr, hcs⟩
    · have e3 : L.length = 0 := by omega
      have e4 : L2.length = 0 := by omega
      have el : L = [] := List.length_eq_zero_iff.1 e3
      have el2 : L2 = [] := List.length_eq_zero_iff.1 e4
      subst el; subst el2; subst e1; subst e2
      refine happ_zero hu hz ?_ (Nat.le_refl _) ?_
      · simpa using s2.src
      · exact hk _ _ _ (Fr.refl _ _) (by simpa using s) (Own.nil _ _ _ _) (fun b hb => .inl hb)
    · have hfit : (L.length + L2.length) * E.k ≤ c * E.k := Nat.mul_le_mul_right _ hroom
      rw [Nat.add_mul] at hfit
      refine happ_room hu hz s2.src hroom (flat_one E L2) (fun j hj => HW_row hr ?_) ?_
      · rw [flat_len] at hj; omega
      have hrow : (hsets h b (o + L.length * E.k) (L2.flatMap E.enc))[b]? = some (.cells (sets cs (o + L.length * E.k) (L2.flatMap E.enc)) T (0, 0)) := hsets_row _ hr
      have hget := sets_get (L2.flatMap E.enc) cs (o + L.length * E.k)
      refine hk _ _ _ (fr_hsets _ fun _ => blkA_of rfl) (Sl.of_row hrow (by simpa using hroom) fun j v hv => ?_) (.inr ⟨b, o, _, rfl, hlow, hrow, by rw [sets_size]; exact hcs⟩) (fun b hb => .inl hb)
      rw [hget _ (by rw [flat_len]; omega)]
      rw [List.flatMap_append] at hv
      have hl1 := flat_len E L
      by_cases hj : j < L.length * E.k
      · rw [if_neg (by omega)]
        rw [List.getElem?_append_left (by omega)] at hv
        have := s.src.2
        rcases this with ⟨_, _, _, e⟩ | ⟨b', o', c', e, hc⟩
        · rw [e] at hj; omega
        · cases e
          have := hc j v hv
          rw [hcell_row hr] at this; exact this
      · rw [List.getElem?_append_right (by omega), hl1] at hv
        have h2 := (List.getElem?_eq_some_iff.1 hv).1
        rw [if_pos (by omega)]
        rw [show o + j - (o + L.length * E.k) = j - L.length * E.k by omega]; exact hv
  · have h47 : L.length + L2.length ≤ 140737488355328 := Nat.le_trans (Nat.le_mul_of_pos_right _ hb0) hsz
    refine happ_grow hu hz hby hzv hzc s.src s2.src (by omega) hsz (by omega) ?_
    intro b cap h' eb h1 h2 eh
    have hrow := push_new (h := h) (o := .cells (L.flatMap E.enc ++ L2.flatMap E.enc ++ (Builtin.zeroCells zs.toArray (cap - (L.length + L2.length))).toList).toArray T) eb
    rw [← eh] at hrow
    have hx : Ext h h' := by rw [eh]; exact Ext.push _ _
    refine hk _ _ _ (hx.fr _) (Sl.of_row hrow (by simpa using h1) fun j v hv => ?_) (.inr ⟨b, 0, _, rfl, by omega, hrow, ?_⟩) (fun b' hb' => .inr ?_)
    · rw [Nat.zero_add, List.getElem?_toArray, ← List.flatMap_append]
      rw [List.getElem?_append_left (List.getElem?_eq_some_iff.1 hv).1]; exact hv
    · have e1 := flat_len E L
      have e2 := flat_len E L2
      have e3 : (Builtin.zeroCells zs.toArray (cap - (L.length + L2.length))).size = (cap - (L.length + L2.length)) * E.k := by
        unfold Builtin.zeroCells; simp [hzl]
      have e4 : cap * E.k = (L.length + L2.length) * E.k + (cap - (L.length + L2.length)) * E.k := by rw [← Nat.add_mul]; congr 1; omega
      simp only [List.size_toArray, List.length_append, e1, e2, Array.length_toList, e3, Nat.zero_add, e4, Nat.add_mul]
      exact Nat.le_refl _
    · rw [blkA_some] at hb'; omega
theorem Own.grown {h0 : Heap} (w : Own k T h0.size h a c) (x : Ext h0 h) (f : Fr (blkA a) h h') : Ext h0 h' :=
  ⟨Nat.le_trans x.size f.size, fun i hi => (f.block i (Nat.lt_of_lt_of_le hi x.size) (fun hb => absurd (w.low hb).1 (Nat.not_le_of_lt hi))).trans (x.block i hi)⟩
theorem app_own {P : Program} {t : TypeId} {by_ : Nat} (A : AppT P t T E.k by_) {h0 : Heap} {n n2 : Nat}
    {a2 : Option Addr} {c2 : Nat} {L2 : List α} (x0 : Ext h0 h) (s : Sl E h a c L) (w : Own E.k T h0.size h a c) (hn : n = L.length) (s2 : Sl E h a2 c2 L2) (hn2 : n2 = L2.length) (hsz : (n + n2) * by_ ≤ 140737488355328) {K : Value → Heap → Prop}
    (hk : ∀ a' c' h', Ext h0 h' → Fr (blkA a) h h' → Sl E h' a' c' (L ++ L2) → Own E.k T h0.size h' a' c' → (∀ b, blkA a' b → blkA a b ∨ h.size ≤ b) → K (.slice a' (n + n2) c') h') :
    HAppend P t t (.slice a n c) (.slice a2 n2 c2) h K := by
  subst hn; subst hn2
  exact app_sl A s w s2 x0.size hsz fun a' c' h' f s' w' bl => hk a' c' h' (w.grown x0 f) f s' w' bl
theorem app_one {P : Program} {t : TypeId} {by_ : Nat} (A : AppT P t T E.k by_) {h0 h1 : Heap} {nb n : Nat} {cs : Array Value} {x : α} (eb : nb = h.size) (eh : h1 = h.push (.cells cs T)) (ec : (E.enc x).toArray = cs)
    (x0 : Ext h0 h) (s : Sl E h a c L) (w : Own E.k T h0.size h a c) (hn : n = L.length) (hsz : (n + 1) * by_ ≤ 140737488355328) {K : Value → Heap → Prop}
    (hk : ∀ a' c' h', Ext h0 h' → Fr (blkA a) h h' → Sl E h' a' c' (L ++ [x]) → Own E.k T h0.size h' a' c' → (∀ b, blkA a' b → blkA a b ∨ h.size ≤ b) → K (.slice a' (n + 1) c') h') :
    HAppend P t t (.slice a n c) (.slice (some ⟨nb, 0, none⟩) 1 1) h1 K := by
  have xe : Ext h h1 := by rw [eh]; exact Ext.push _ _
  have hrow : h1[nb]? = some (.cells ([x].flatMap E.enc).toArray T (0, 0)) := by rw [eh, ← ec]; simp only [List.flatMap_cons, List.flatMap_nil, List.append_nil]; exact push_new eb
  refine app_own A (x0.trans xe) (s.ext xe) (w.ext xe) hn (Sl.lit (L := [x]) hrow) rfl hsz fun a' c' h' e f s' w' bl => hk a' c' h' e ((xe.fr (blkA a)).trans f (fun _ _ q => q)) s' w' fun b hb => ?_
  rcases bl b hb with q | q
  · exact .inl q
  · exact .inr (Nat.le_trans xe.size q)
theorem Sl.cast {L' : List α} (s : Sl E h a c L) (e : L = L') : Sl E h a c L' := by rw [← e]; exact s
theorem wadd (n : Nat) (hn : n ≤ 4611686018427387904) : IntKind.i64.wrap ((n : Int) + 1) = ((n + 1 : Nat) : Int) := by rw [w64 (by omega) (by omega)]; omega
theorem lt_of_dec {j n : Nat} (h : decide ((j : Int) < (n : Int)) = true) : j < n := by have := of_decide_eq_true h; omega
theorem ge_of_dec {j n : Nat} (h : decide ((j : Int) < (n : Int)) = false) : n ≤ j := by have := of_decide_eq_false h; omega
def New (E : Elt α) (T : TypeId) (h h' : Heap) (v : Value) (L : List α) : Prop := ∃ a c, v = .slice a L.length c ∧ Ext h h' ∧ Sl E h' a c L ∧ Own E.k T h.size h' a c
theorem New.ext {h0 h1 : Heap} {v : Value} (n : New E T h0 h1 v L) : Ext h0 h1 := let ⟨_, _, _, x, _⟩ := n; x
theorem New.lit {h0 h1 : Heap} {b n : Nat} {cs : Array Value} (x : Ext h0 h) (eb : b = h.size) (eh : h1 = h.push (.cells cs T)) (hn : n = L.length) (hc : (L.flatMap E.enc).toArray = cs) : New E T h0 h1 (.slice (some ⟨b, 0, none⟩) n n) L := by
  have hrow : h1[b]? = some (.cells (L.flatMap E.enc).toArray T (0, 0)) := by rw [eh, hc]; exact push_new eb
  subst hn
  exact ⟨_, _, rfl, x.trans (by rw [eh]; exact Ext.push _ _), Sl.lit hrow, Own.lit hrow (by rw [eb]; exact x.size)⟩
theorem New.nil {h0 h1 : Heap} (x : Ext h0 h1) : New E T h0 h1 (.slice none 0 0) ([] : List α) := ⟨none, 0, rfl, x, Sl.nil _ _, Own.nil _ _ _ _⟩
theorem slA_some {b o l sz m : Nat} : ∃ o', slA (some ⟨b, o, none⟩) l sz m = some ⟨b, o', none⟩ ∧ (l ≠ m → o' = o + l * sz) := by
  unfold slA
  by_cases e : m = l
  · rw [if_pos e]; exact ⟨o, rfl, fun h => absurd e.symm h⟩
  · rw [if_neg e]; exact ⟨o + l * sz, by simp [add_lit], fun _ => rfl⟩
theorem slA_none {l sz m : Nat} : slA none l sz m = none := by unfold slA; split <;> rfl
theorem Sl.cut (s : Sl E h a c L) {l r : Nat} (hlr : l ≤ r) (hr : r ≤ L.length) : Sl E h (slA a l E.k c) (c - l) ((L.take r).drop l) := by
  refine ⟨by have := s.le; simp; omega, ?_⟩
  rcases s.ex with e2 | ⟨b, o, rfl, hc⟩
  · exact .inl (by omega)
  · obtain ⟨o', e, ho⟩ := slA_some (b := b) (o := o) (l := l) (sz := E.k) (m := c)
    refine .inr ⟨b, o', e, fun i x hx => ?_⟩
    rw [List.getElem?_drop] at hx
    have hlt := (List.getElem?_eq_some_iff.1 hx).1
    simp at hlt
    rw [List.getElem?_take, if_pos (by omega)] at hx
    have := hc _ _ hx
    rw [ho (by have := s.le; omega), Nat.add_assoc, ← Nat.add_mul]; exact this
theorem Own.cut (w : Own k T N h a c) {l : Nat} (hl : l ≤ c) : Own k T N h (slA a l k c) (c - l) := by
  rcases w with ⟨rfl, e2⟩ | ⟨b, o, cs, rfl, h1, h2, h3⟩
  · exact .inl ⟨slA_none, by omega⟩
  · obtain ⟨o', e, ho⟩ := slA_some (b := b) (o := o) (l := l) (sz := k) (m := c)
    refine .inr ⟨b, o', cs, e, h1, h2, ?_⟩
    by_cases hc : l = c
    · subst hc
      have : o' ≤ o + l * k := by
        unfold slA at e; rw [if_pos rfl] at e; cases e; omega
      simp; omega
    · rw [ho hc, Nat.add_assoc, ← Nat.add_mul, show l + (c - l) = c by omega]; exact h3
theorem Sl.set {b o : Nat} (s : Sl E h (some ⟨b, o, none⟩) c L) {cs : Array Value} (hr : h[b]? = some (.cells cs T (0, 0))) (hcs : o + L.length * E.k ≤ cs.size) {i : Nat} (hi : i < L.length) (x : α) : Sl E (hsets h b (o + i * E.k) (E.enc x)) (some ⟨b, o, none⟩) c (L.set i x) := by
  have hrow := hsets_row (E.enc x) (o := o + i * E.k) hr
  have hik : (i + 1) * E.k ≤ L.length * E.k := Nat.mul_le_mul_right _ hi
  rw [Nat.add_mul] at hik
  refine ⟨by simpa using s.le, .inr ⟨b, o, rfl, fun j y hy => HCells.row hrow fun r v hv => ?_⟩⟩
  have hrk := (List.getElem?_eq_some_iff.1 hv).1
  rw [E.len] at hrk
  rw [sets_get _ _ _ _ (by rw [E.len]; omega), E.len]
  by_cases e : i = j
  · subst e
    rw [List.getElem?_set_self hi] at hy
    cases hy
    rw [if_pos (by omega), show o + i * E.k + r - (o + i * E.k) = r by omega]; exact hv
  · rw [List.getElem?_set_ne e] at hy
    have hc := s.ex
    rcases hc with e1 | ⟨b', o', e1, hc⟩
    · have := s.le; omega
    · cases e1
      have := (hc j y hy).get hv
      rw [hcell_row hr] at this
      rw [if_neg ?_]
      · exact this
      · rintro ⟨h1, h2⟩
        rcases Nat.lt_or_gt_of_ne e with hlt | hlt
        · have : (i + 1) * E.k ≤ j * E.k := Nat.mul_le_mul_right _ hlt
          rw [Nat.add_mul] at this; omega
        · have : (j + 1) * E.k ≤ i * E.k := Nat.mul_le_mul_right _ hlt
          rw [Nat.add_mul] at this; omega
end
theorem hcell_hset_ne {h : Heap} {b o o' : Nat} {v : Value} (n : o' ≠ o) : hcell (hset h b o v) b o' = hcell h b o' := by
  unfold hcell hset
  rw [Array.getElem?_modify, if_pos rfl]
  cases h[b]? with
  | none => rfl
  | some x => cases x <;> simp [Array.getElem?_setIfInBounds_ne (Ne.symm n)]
theorem hcell_hsets_lt {b o' : Nat} : ∀ (vs : List Value) {h : Heap} {o : Nat}, o' < o → hcell (hsets h b o vs) b o' = hcell h b o'
  | [], _, _, _ => rfl
  | v :: vs, h, o, hl => by rw [hsets, hcell_hsets_lt vs (by omega), hcell_hset_ne (by omega)]
theorem Own.hsets {k : Nat} {T : TypeId} {N : Nat} {h : Heap} {a : Option Addr} {c : Nat} (w : Own k T N h a c) (b o : Nat) (vs : List Value) : Own k T N (hsets h b o vs) a c := by
  rcases w with e | ⟨b', o', cs, e, h1, h2, h3⟩
  · exact .inl e
  · by_cases hb : b' = b
    · subst hb
      exact .inr ⟨b', o', _, e, h1, hsets_row vs h2, by rw [sets_size]; exact h3⟩
    · exact .inr ⟨b', o', cs, e, h1, by rw [hsets_ne vs hb]; exact h2, h3⟩
theorem Sl.before {α : Type} {E : Elt α} {h : Heap} {b o c : Nat} {L : List α} (s : Sl E h (some ⟨b, o, none⟩) c L) {j p : Nat} (hp : o + j * E.k ≤ p) (vs : List Value) : Sl E (hsets h b p vs) (some ⟨b, o, none⟩) c (L.take j) := by
  refine ⟨by have := s.le; simp; omega, .inr ⟨b, o, rfl, fun i x hx => ?_⟩⟩
  rw [List.getElem?_take] at hx
  split at hx
  · rename_i hi
    obtain ⟨b', o', e, hc⟩ := s.at hx
    cases e
    refine HCells.mk fun r v hv => ?_
    have hr := (List.getElem?_eq_some_iff.1 hv).1
    rw [E.len] at hr
    have : (i + 1) * E.k ≤ j * E.k := Nat.mul_le_mul_right _ hi
    rw [Nat.add_mul] at this
    rw [hcell_hsets_lt vs (by omega)]
    exact hc.get hv
  · cases hx
theorem Own.row {k : Nat} {T : TypeId} {N : Nat} {h : Heap} {b o c : Nat} (w : Own k T N h (some ⟨b, o, none⟩) c) : ∃ cs, h[b]? = some (.cells cs T (0, 0)) ∧ o + c * k ≤ cs.size ∧ N ≤ b := by
  rcases w with ⟨e, _⟩ | ⟨b', o', cs, e, h1, h2, h3⟩
  · cases e
  · cases e; exact ⟨cs, h2, h3, h1⟩
theorem Sl.put {α : Type} {E : Elt α} {T : TypeId} {N : Nat} {h : Heap} {b o c : Nat} {L : List α} (s : Sl E h (some ⟨b, o, none⟩) c L) (w : Own E.k T N h (some ⟨b, o, none⟩) c) {i : Nat} (hi : i < L.length) (x : α) :
    HWs h b (o + i * E.k) E.k ∧ Sl E (hsets h b (o + i * E.k) (E.enc x)) (some ⟨b, o, none⟩) c (L.set i x) ∧ Own E.k T N (hsets h b (o + i * E.k) (E.enc x)) (some ⟨b, o, none⟩) c := by
  obtain ⟨cs, h1, h2, _⟩ := w.row
  have hle := s.le
  have f1 : L.length * E.k ≤ c * E.k := Nat.mul_le_mul_right _ hle
  have f2 : (i + 1) * E.k ≤ L.length * E.k := Nat.mul_le_mul_right _ hi
  rw [Nat.add_mul] at f2
  exact ⟨HWs_row h1 (by omega), s.set h1 (by omega) hi x, Own.hsets w _ _ _⟩
theorem wsub (n : Nat) (h1 : 1 ≤ n) (hn : n ≤ 4611686018427387904) : IntKind.i64.wrap ((n : Int) - 1) = ((n - 1 : Nat) : Int) := by rw [w64 (by omega) (by omega)]; omega
def eStr : Elt ByteArray := ⟨1, fun x => [.string x], fun _ => rfl, fun x v hv => by simp at hv; subst hv; rfl⟩
end Go.Proofs.YtfjcciaabkjkgaaGreatDoor
namespace Go.Proofs.YtfjcciaabkjkgaaGreatDoor
open Go
theorem rowcell {h : Heap} {b o : Nat} {c : Array Value} {T : TypeId} {fr : Nat × Nat} {v : Value} (hr : h[b]? = some (.cells c T fr)) (hv : c[o]? = some v) : hcell h b o = some v := by rw [hcell_row hr]; exact hv
theorem row_hset_ne {h h1 : Heap} {b o p : Nat} {v : Value} {x : Obj} (e : h1 = hset h b o v) (n : p ≠ b) (r : h[p]? = some x) : h1[p]? = some x := by rw [e, hset_ne n]; exact r
theorem row_hsets_ne {h h1 : Heap} {b o p : Nat} {vs : List Value} {x : Obj} (e : h1 = hsets h b o vs) (n : p ≠ b) (r : h[p]? = some x) : h1[p]? = some x := by rw [e, hsets_ne vs n]; exact r
theorem row_hset_eq {h h1 : Heap} {b o : Nat} {v : Value} {c c' : Array Value} {T : TypeId} {fr : Nat × Nat} (e : h1 = hset h b o v) (r : h[b]? = some (.cells c T fr)) (q : c.setIfInBounds o v = c') : h1[b]? = some (.cells c' T fr) := by rw [e, hset_row r, q]
theorem row_hsets_eq {h h1 : Heap} {b o : Nat} {vs : List Value} {c c' : Array Value} {T : TypeId} {fr : Nat × Nat} (e : h1 = hsets h b o vs) (r : h[b]? = some (.cells c T fr)) (q : sets c o vs = c') : h1[b]? = some (.cells c' T fr) := by rw [e, hsets_row vs r, q]
theorem fr_hset_of {h h1 : Heap} {b o : Nat} {v : Value} (e : h1 = hset h b o v) : Fr (fun i => i = b) h h1 := by rw [e]; exact fr_hset _ fun _ => rfl
theorem fr_hsets_of {h h1 : Heap} {b o : Nat} {vs : List Value} (e : h1 = hsets h b o vs) : Fr (fun i => i = b) h h1 := by rw [e]; exact fr_hsets _ fun _ => rfl
theorem ext_of_fr {w h h1 : Heap} {b : Nat} (f : Fr (fun i => i = b) h h1) (x : Ext w h) (lo : w.size ≤ b) : Ext w h1 :=
  ⟨Nat.le_trans x.size f.size, fun i hi => (f.block i (Nat.lt_of_lt_of_le hi x.size) (by omega)).trans (x.block i hi)⟩
theorem ext_hset {w h h1 : Heap} {b o : Nat} {v : Value} (e : h1 = hset h b o v) (x : Ext w h) (lo : w.size ≤ b) : Ext w h1 := ext_of_fr (fr_hset_of e) x lo
theorem ext_hsets {w h h1 : Heap} {b o : Nat} {vs : List Value} (e : h1 = hsets h b o vs) (x : Ext w h) (lo : w.size ≤ b) : Ext w h1 := ext_of_fr (fr_hsets_of e) x lo
theorem row_congr {h : Heap} {b : Nat} {c c' : Array Value} {T : TypeId} {fr : Nat × Nat} (r : h[b]? = some (.cells c T fr)) (e : c = c') : h[b]? = some (.cells c' T fr) := by rw [← e]; exact r
def Kp (bs : List Nat) (h h' : Heap) : Prop := ∀ b ∈ bs, b < h.size → h'[b]? = h[b]?
theorem Kp.row {bs : List Nat} {h h' : Heap} (k : Kp bs h h') {b : Nat} (hb : b ∈ bs) {x : Obj} (r : h[b]? = some x) : h'[b]? = some x := (k b hb (row_lt r)).trans r
theorem Ext.kp {h h' : Heap} (x : Ext h h') (bs : List Nat) : Kp bs h h' := fun b _ hb => x.block b hb
theorem Fr.kp {S : Nat → Prop} {h h' : Heap} (x : Fr S h h') {bs : List Nat} (hn : ∀ b ∈ bs, ¬ S b) : Kp bs h h' := fun b hm hb => x.block b hb (hn b hm)
theorem hcv_func {P : Program} {i : FuncId} {vs : List Value} {h : Heap} {K : Value → Heap → Prop} (hb : CallB P i) (hc : HC P i vs.toArray h K) : HCV P (.func (.func i) #[] #[]) vs h K :=
  .inl ⟨i, [], [], rfl, hb, by simpa using hc⟩
theorem Sl.only {α κ : Type} {E : Elt α} {h h' : Heap} {mb : Nat} {enc : κ → Value} {l : List (κ × Value)} {a : Option Addr} {c : Nat} {L : List α} (s : Sl E h a c L) (o : Only mb h h') (m : MapL h mb enc l) : Sl E h' a c L := by
  refine ⟨s.le, s.ex.imp id fun ⟨b, q, e, hc⟩ => ⟨b, q, e, fun i x hx => HCells.mk fun j v hj => ?_⟩⟩
  have h1 := (hc i x hx).get hj
  have hne : b ≠ mb := fun e => by
    obtain ⟨es, cl, h2, _⟩ := m
    unfold hcell at h1; rw [e, h2] at h1; cases h1
  have hs : h'[b]? = h[b]? := o.block b hne
  unfold hcell at *; rw [hs]; exact h1
theorem ext_only {h h1 h2 : Heap} {mb : Nat} (x : Ext h h1) (o : Only mb h1 h2) (hb : h.size ≤ mb) : Ext h h2 :=
  ⟨Nat.le_trans x.size (Nat.le_of_eq o.size.symm), fun i hi => (o.block i (by omega)).trans (x.block i hi)⟩
def Off (b : Nat) (bs : List Nat) : Prop := ∀ p ∈ bs, p ≠ b
end Go.Proofs.YtfjcciaabkjkgaaGreatDoor
