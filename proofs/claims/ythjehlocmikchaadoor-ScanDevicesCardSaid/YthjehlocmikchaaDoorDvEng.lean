import Derived.Orders
import Derived.Tactics
import Derived.KernelRfl
import Derived.Deep.Draws
import Derived.OrdersIn
import Derived.TacticsIn
import Derived.RangeFuncRecord
namespace Go.Proofs.YthjehlocmikchaaDoor
open Go
abbrev Heap := Array Obj
abbrev Regs := Nat → Value
def HG (h h' : Heap) : Prop := h.size ≤ h'.size ∧ ∀ b : Nat, h[b]? = some (.deferred (some [])) → h'[b]? = some (.deferred (some []))
theorem HG.refl (h : Heap) : HG h h := ⟨Nat.le_refl _, fun _ h => h⟩
theorem HG.trans {a b c : Heap} (h : HG a b) (k : HG b c) : HG a c := ⟨Nat.le_trans h.1 k.1, fun i hi => k.2 i (h.2 i hi)⟩
theorem HG.push (h : Heap) (o : Obj) : HG h (h.push o) := ⟨by simp, fun b hb => by
  have : b < h.size := (Array.getElem?_eq_some_iff.1 hb).1
  rw [Array.getElem?_push, if_neg (by omega)]; exact hb⟩
structure Sim (w w' : World) : Prop where
  os : w'.os = w.os
  tape : w'.tape = w.tape
  output : w'.output = w.output
  drawn : w.drawn ≤ w'.drawn
  grow : HG w.heap w'.heap
theorem Sim.refl (w : World) : Sim w w := ⟨rfl, rfl, rfl, Nat.le_refl _, HG.refl _⟩
theorem Sim.trans {a b c : World} (h : Sim a b) (k : Sim b c) : Sim a c := ⟨k.os.trans h.os, k.tape.trans h.tape, k.output.trans h.output, Nat.le_trans h.drawn k.drawn, h.grow.trans k.grow⟩
def HC (P : Program) (f : FuncId) (args : Array Value) (h : Heap) (R : Value → Heap → Prop) : Prop :=
  ∀ w : World, w.heap = h → Calls P f args w fun e w' => ∃ v, e = .returned v ∧ Sim w w' ∧ R v w'.heap
theorem HC.mono {P : Program} {f : FuncId} {args : Array Value} {h : Heap} {R R' : Value → Heap → Prop} (hc : HC P f args h R)
    (hr : ∀ v h', R v h' → R' v h') : HC P f args h R' :=
  fun w hw => (hc w hw).mono fun _ _ ⟨v, he, hs, hR⟩ => ⟨v, he, hs, hr _ _ hR⟩
structure Ext (h h' : Heap) : Prop where
  size : h.size ≤ h'.size
  block : ∀ b, b < h.size → h'[b]? = h[b]?
theorem Ext.refl (h : Heap) : Ext h h := ⟨Nat.le_refl _, fun _ _ => rfl⟩
theorem Ext.trans {a b c : Heap} (h : Ext a b) (k : Ext b c) : Ext a c :=
  ⟨Nat.le_trans h.size k.size, fun i hi => (k.block i (Nat.lt_of_lt_of_le hi h.size)).trans (h.block i hi)⟩
theorem Ext.push (h : Heap) (o : Obj) : Ext h (h.push o) :=
  ⟨by simp, fun b hb => by rw [Array.getElem?_push, if_neg (by omega)]⟩
def upd (ρ : Regs) (d : Nat) (v : Value) : Regs := fun i => bif Nat.beq i d then v else ρ i
def updo (ρ : Regs) : Option Nat → Value → Regs
  | some d, v => upd ρ d v
  | none, _ => ρ
theorem upd_same (ρ : Regs) (d : Nat) (v : Value) : upd ρ d v d = v := by simp [upd]
theorem upd_ne (ρ : Regs) {d i : Nat} (v : Value) (h : i ≠ d) : upd ρ d v i = ρ i := by
  have hb : Nat.beq i d = false := by
    cases hb : Nat.beq i d
    · rfl
    · exact absurd (Nat.eq_of_beq_eq_true hb) h
  simp [upd, hb]
theorem upd_comm (ρ : Regs) {d e : Nat} (v u : Value) (h : d ≠ e) : upd (upd ρ d v) e u = upd (upd ρ e u) d v := by
  funext i
  by_cases h1 : i = d
  · subst h1; rw [upd_ne _ _ h, upd_same, upd_same]
  · by_cases h2 : i = e
    · subst h2; rw [upd_same, upd_ne _ _ h1, upd_same]
    · rw [upd_ne _ _ h2, upd_ne _ _ h1, upd_ne _ _ h1, upd_ne _ _ h2]
def ev (ρ : Regs) : Operand → Value
  | .tmp t => ρ t
  | .const v => v
  | .global g => .pointer (some ⟨g, 0, none⟩)
  | .func f => .func (.func f) #[] #[]
structure St (n : Nat) (ρ : Regs) (a : Act) : Prop where
  size : a.tmps.size = n
  get : ∀ i, i < n → a.tmps.getD i undef = ρ i
  out : ∀ i, n ≤ i → ρ i = undef
theorem St.all {n : Nat} {ρ : Regs} {a : Act} (s : St n ρ a) (i : Nat) : a.tmps.getD i undef = ρ i := by
  by_cases h : i < n
  · exact s.get i h
  · rw [s.out i (by omega)]
    have : ¬ i < a.tmps.size := by rw [s.size]; exact h
    simp [Array.getD, this]
theorem St.eval {n : Nat} {ρ : Regs} {a : Act} (s : St n ρ a) : a.eval = ev ρ := by
  funext x
  cases x with
  | tmp t => exact s.all t
  | _ => rfl
theorem St.put {n : Nat} {ρ : Regs} {a : Act} (s : St n ρ a) {dst : Option Nat} (hd : ∀ d, dst = some d → d < n) (v : Value) : St n (updo ρ dst v) (a.put dst v) := by
  cases dst with
  | none => exact s
  | some d =>
    have hdn := hd d rfl
    refine ⟨by simp [Act.put, s.size], fun i hi => ?_, fun i hi => ?_⟩
    · by_cases h : i = d
      · subst h; rw [updo, upd_same]; simp [Act.put, Array.getD, s.size, hi]
      · rw [updo, upd_ne _ _ h, ← s.get i hi]
        simp [Act.put, Array.getElem?_setIfInBounds_ne (Ne.symm h)]
    · rw [updo, upd_ne _ _ (by omega)]; exact s.out i hi
def yl (ops : Array Oper) (ρ : Regs) (j : Nat) : Option Bool :=
  match (ops[j]?).bind (·.dst) with
  | some d => (match ρ d with | .bool b => some b | _ => none)
  | none => none
theorem St.yielded {n : Nat} {ρ : Regs} {a : Act} (s : St n ρ a) (ops : Array Oper) : yielded ops a.tmps = yl ops ρ := by
  funext j
  unfold Go.yielded yl
  cases h : (ops[j]?).bind (·.dst) with
  | none => simp
  | some d =>
    simp only [Option.bind_some]
    by_cases hd : d < n
    · have h1 := s.get d hd
      have h2 : a.tmps[d]? = some (ρ d) := by
        have : d < a.tmps.size := by rw [s.size]; exact hd
        rw [Array.getElem?_eq_getElem this]
        simp [Array.getD, this] at h1
        rw [h1]
      rw [h2]
      cases ρ d <;> rfl
    · have h1 := s.out d (Nat.le_of_not_lt hd)
      have h2 : a.tmps[d]? = none := by rw [Array.getElem?_eq_none]; rw [s.size]; exact Nat.le_of_not_lt hd
      rw [h2, h1]
      rfl
structure Mo where
  round : Option Nat
  marks : Bool
def Mo.fence (m : Mo) : Fence := { Fence.wide with round := m.round }
theorem Mo.fn (m : Mo) (f : FuncId) : m.fence.fn f := trivial
theorem Mo.room (m : Mo) (n : Nat) : m.fence.room n := fun _ h => by simp [Mo.fence, Fence.wide] at h
theorem Mo.depth (m : Mo) (n : Nat) : m.fence.depth.isSome = true → 1 ≤ n := fun h => by simp [Mo.fence, Fence.wide] at h
theorem Mo.callsIn {m : Mo} {n : Nat} {P : Program} {f : FuncId} {args : Array Value} {w : World} {R : Ending → World → Prop} (h : Calls P f args w R) : CallsIn m.fence n P f args w R :=
  have h' : CallsIn Fence.wide n P f args w R := callsIn_wide.2 h
  ⟨trivial, fun cs _ => h'.2 cs (room_wide _)⟩
structure Marks (m : Mo) (N : Nat) (ds : List Deferred) (h : Heap) : Prop where
  none : m.marks = false → ds = []
  le : N ≤ h.size
  apart : (ds.map (·.target)).Pairwise (· ≠ ·)
  all : ∀ d ∈ ds, ∃ b, d.target = .collected b ∧ N ≤ b ∧ h[b]? = some (.deferred (some []))
theorem Marks.sim {m : Mo} {N : Nat} {ds : List Deferred} {h h' : Heap} (k : Marks m N ds h) (g : HG h h') : Marks m N ds h' :=
  ⟨k.none, Nat.le_trans k.le g.1, k.apart, fun d hd => let ⟨b, h1, h2, h3⟩ := k.all d hd; ⟨b, h1, h2, g.2 b h3⟩⟩
theorem put_defers (a : Act) (d : Option Nat) (v : Value) : (a.put d v).defers = a.defers := by cases d <;> rfl
def HRound (P : Program) (l : Nat) (f : FuncId) (tmps : Array Value) (assign body : Code) (h : Heap) (K : Value → Heap → Prop) : Prop :=
  ∀ w : World, w.heap = h → RoundIn Fence.wide 0 P l f tmps assign body w fun e w' => ∃ v, e = .returned v ∧ Sim w w' ∧ K v w'.heap
theorem HRound.mono {P : Program} {l : Nat} {f : FuncId} {tmps : Array Value} {assign body : Code} {h : Heap} {K K' : Value → Heap → Prop} (hr : HRound P l f tmps assign body h K) (hk : ∀ v h', K v h' → K' v h') :
    HRound P l f tmps assign body h K' := fun w hw => (hr w hw).mono fun _ _ ⟨v, he, hs, hR⟩ => ⟨v, he, hs, hk _ _ hR⟩
def HStep (P : Program) (ρ : Regs) (o : Oper) (h : Heap) (K : Value → Heap → Prop) : Prop :=
  ∀ w : World, w.heap = h → match (execOp (ev ρ) o).run P w with
    | .ok (.value v) w' => Sim w w' ∧ K v w'.heap
    | .ok .skip w' => Sim w w' ∧ K undef w'.heap
    | .ok (.enter f args) w' => Sim w w' ∧ w'.heap = h ∧ HC P f args h K
    | .ok (.round l f tmps assign body) w' => Sim w w' ∧ w'.heap = h ∧ HRound P l f tmps assign body h K
    | _ => False
theorem HStep.mono {P : Program} {ρ : Regs} {o : Oper} {h : Heap} {K K' : Value → Heap → Prop} (hs : HStep P ρ o h K) (hk : ∀ v h', K v h' → K' v h') : HStep P ρ o h K' := by
  intro w hw
  have := hs w hw
  generalize (execOp (ev ρ) o).run P w = r at *
  cases r with
  | halt x w' => exact this
  | ok n w' =>
    cases n <;> try exact this.elim
    case value v => exact ⟨this.1, hk _ _ this.2⟩
    case skip => exact ⟨this.1, hk _ _ this.2⟩
    case enter f args => exact ⟨this.1, this.2.1, this.2.2.mono hk⟩
    case round l f tmps assign body => exact ⟨this.1, this.2.1, this.2.2.mono hk⟩
def HVal (P : Program) (ρ : Regs) (o : Oper) (h : Heap) (v : Value) : Prop := HStep P ρ o h fun v' h' => v' = v ∧ h' = h
theorem HStep.of_val {P : Program} {ρ : Regs} {o : Oper} {h : Heap} {v : Value} {K : Value → Heap → Prop} (hv : HVal P ρ o h v) (hk : K v h) : HStep P ρ o h K :=
  HStep.mono hv fun _ _ ⟨h1, h2⟩ => by rw [h1, h2]; exact hk
theorem semAt_of {P : Program} {ρ : Regs} {o : Oper} {h : Heap} {K : Value → Heap → Prop} (hs : HStep P ρ o h K) {w : World} (hw : w.heap = h) (r : Option Nat) :
    (o.semAt r (ev ρ)).run P w = (execOp (ev ρ) o).run P w := by
  have := hs w hw
  by_cases hd : ∃ c, o.op = .defer c
  · obtain ⟨c, hc⟩ := hd
    exfalso
    have e : execOp (ev ρ) o = (do pure (.defer (← resolve (ev ρ) c o.type))) := by unfold execOp; rw [hc]
    rw [e] at this
    simp only [Sem.run_bind] at this
    generalize (resolve (ev ρ) c o.type).run P w = r at this
    cases r <;> simp [Result.andThen, Sem.run_pure] at this
  · rw [Oper.semAt_eq _ _ _ fun c hc => hd ⟨c, hc⟩]
def RQ (m : Mo) (N n : Nat) (w0 : World) (Q : Regs → Heap → Prop) : Exit → Act → World → Prop :=
  fun e a w => e = .normal ∧ Sim w0 w ∧ ∃ ρ, St n ρ a ∧ Marks m N a.defers w.heap ∧ Q ρ w.heap
theorem wp_of_step {P : Program} {m : Mo} {N n : Nat} {ρ : Regs} {o : Oper} {h : Heap} {a : Act} {w w0 : World} {K : Value → Heap → Prop} {K' : Act → World → Prop} {Q' : Exit → Act → World → Prop}
    (hs : HStep P ρ o h K) (s : St n ρ a) (hw : w.heap = h) (h0 : Sim w0 w) (hm : Marks m N a.defers w.heap)
    (hk : ∀ v w', Sim w0 w' → Marks m N (a.put o.dst v).defers w'.heap → K v w'.heap → K' (a.put o.dst v) w') : o.wpIn m.fence 0 P a w K' Q' := by
  have := hs w hw
  have hsa := semAt_of hs hw m.round
  unfold Oper.wpIn
  refine ⟨fun _ _ => trivial, ?_⟩
  rw [s.eval]
  show o.uponIn m.fence 0 P a K' Q' ((o.semAt m.round (ev ρ)).run P w)
  rw [hsa]
  have hm' : ∀ {v w'}, Sim w w' → Marks m N (a.put o.dst v).defers w'.heap := fun hs => by rw [put_defers]; exact hm.sim hs.grow
  generalize (execOp (ev ρ) o).run P w = r at *
  cases r with
  | halt x w' => exact this.elim
  | ok nx w' =>
    cases nx <;> try exact this.elim
    case value v => exact hk _ _ (h0.trans this.1) (hm' this.1) this.2
    case skip => exact hk _ _ (h0.trans this.1) (hm' this.1) this.2
    case enter f args =>
      obtain ⟨h1, h2, h3⟩ := this
      simp only [Oper.uponIn]
      refine ⟨m.depth _, Mo.callsIn ((h3 w' h2).mono fun e w'' ⟨v, he, hs', hK⟩ => ?_)⟩
      subst he; exact hk _ _ ((h0.trans h1).trans hs') (hm' (h1.trans hs')) hK
    case round l f tmps assign body =>
      obtain ⟨h1, h2, h3⟩ := this
      simp only [Oper.uponIn]
      refine ⟨m.depth _, ?_⟩
      have h4 : RoundIn m.fence 0 P l f tmps assign body w' fun e w'' => ∃ v, e = .returned v ∧ Sim w' w'' ∧ K v w''.heap := ⟨trivial, fun c cs _ => (h3 w' h2).2 c cs (room_wide _)⟩
      refine h4.mono fun e w'' ⟨v, he, hs', hK⟩ => ?_
      subst he; exact hk _ _ ((h0.trans h1).trans hs') (hm' (h1.trans hs')) hK
def dstB (n : Nat) (o : Oper) : Bool := match o.dst with | some d => Nat.blt d n | none => true
theorem dstB_spec {n : Nat} {o : Oper} (h : dstB n o = true) : ∀ d, o.dst = some d → d < n := by
  intro d hd; simp [dstB, hd] at h; exact h
def HL (m : Mo) (P : Program) (n : Nat) (ops : Array Oper) (Q : Regs → Heap → Prop) (l : List Oper) (ρ : Regs) (h : Heap) : Prop :=
  ∀ N a w w0, St n ρ a → Marks m N a.defers w.heap → w.heap = h → Sim w0 w → wpListIn m.fence 0 P ops (RQ m N n w0 Q) l a w
theorem hl_nil {m : Mo} {P : Program} {n : Nat} {ops : Array Oper} {Q : Regs → Heap → Prop} {ρ : Regs} {h : Heap} (hq : Q ρ h) : HL m P n ops Q [] ρ h :=
  fun N a w w0 s hm hw h0 => wpListIn_nil ⟨rfl, h0, ρ, s, hm, by rw [hw]; exact hq⟩
theorem hl_step {m : Mo} {P : Program} {n : Nat} {ops : Array Oper} {Q : Regs → Heap → Prop} {o : Oper} {rest : List Oper} {ρ : Regs} {h : Heap}
    (hg : o.guard = none) (hd : dstB n o = true) (hs : HStep P ρ o h fun v h' => HL m P n ops Q rest (updo ρ o.dst v) h') : HL m P n ops Q (o :: rest) ρ h :=
  fun _ _ _ _ s hm hw h0 => wpListIn_plain hg fun _ hK => wp_of_step hs s hw h0 hm fun v _ h1 h2 hl => hK _ _ (hl _ _ _ _ (s.put (dstB_spec hd) v) h2 rfl h1)
theorem hl_val {m : Mo} {P : Program} {n : Nat} {ops : Array Oper} {Q : Regs → Heap → Prop} {o : Oper} {rest : List Oper} {ρ : Regs} {h : Heap} {v : Value}
    (hg : o.guard = none) (hd : dstB n o = true) (hs : HVal P ρ o h v) (hn : HL m P n ops Q rest (updo ρ o.dst v) h) : HL m P n ops Q (o :: rest) ρ h :=
  hl_step hg hd (HStep.of_val hs hn)
theorem hl_yes {m : Mo} {P : Program} {n : Nat} {ops : Array Oper} {Q : Regs → Heap → Prop} {o : Oper} {rest : List Oper} {ρ : Regs} {h : Heap}
    (hg : Region.wanted o (yl ops ρ) = true) (hd : dstB n o = true) (hs : HStep P ρ o h fun v h' => HL m P n ops Q rest (updo ρ o.dst v) h') : HL m P n ops Q (o :: rest) ρ h :=
  fun N a w w0 s hm hw h0 => wpListIn_step fun K hK => by
    rw [s.yielded, hg, if_pos rfl]
    exact wp_of_step hs s hw h0 hm fun v w' h1 h2 hl => hK _ _ (hl _ _ _ _ (s.put (dstB_spec hd) v) h2 rfl h1)
theorem hl_no {m : Mo} {P : Program} {n : Nat} {ops : Array Oper} {Q : Regs → Heap → Prop} {o : Oper} {rest : List Oper} {ρ : Regs} {h : Heap}
    (hg : Region.wanted o (yl ops ρ) = false) (hd : dstB n o = true) (hn : HL m P n ops Q rest (updo ρ o.dst undef) h) : HL m P n ops Q (o :: rest) ρ h :=
  fun N a w w0 s hm hw h0 => wpListIn_step fun K hK => by
    rw [s.yielded, hg, if_neg (by simp)]
    exact ⟨fun _ _ => trivial, hK _ _ (hn _ _ _ _ (s.put (dstB_spec hd) _) (by rw [put_defers]; exact hm) hw h0)⟩
def XQ (m : Mo) (N n : Nat) (w : World) (Q : Exit → Regs → Heap → Prop) : Exit → Act → World → Prop :=
  fun e a' w' => Sim w w' ∧ ∃ ρ', St n ρ' a' ∧ Marks m N a'.defers w'.heap ∧ Q e ρ' w'.heap
def HX (m : Mo) (P : Program) (n : Nat) (c : Code) (Q : Exit → Regs → Heap → Prop) (ρ : Regs) (h : Heap) : Prop :=
  ∀ N a w, St n ρ a → Marks m N a.defers w.heap → w.heap = h → c.wpIn m.fence 0 P (XQ m N n w Q) a w
section code
variable {m : Mo} {P : Program} {n : Nat} {Q : Exit → Regs → Heap → Prop} {ρ : Regs} {h : Heap}
theorem hx_mono {c : Code} {Q' : Exit → Regs → Heap → Prop} (hx : HX m P n c Q ρ h) (hq : ∀ e ρ h, Q e ρ h → Q' e ρ h) : HX m P n c Q' ρ h :=
  fun N a w s hm hw => wpIn_mono (hx N a w s hm hw) fun _ _ _ ⟨h1, ρ', h2, h3, h4⟩ => ⟨h1, ρ', h2, h3, hq _ _ _ h4⟩
theorem hx_region {id : Nat} {l : List Oper} (hl : HL m P n l.toArray (Q .normal) l ρ h) : HX m P n (.region id l.toArray false) Q ρ h :=
  fun N a w s hm hw => wpIn_mono (wpIn_region_lit (hl N a w w s hm hw (Sim.refl _))) fun _ _ _ ⟨he, h1, ρ', h2, h3, h4⟩ => ⟨h1, ρ', h2, h3, by rw [he]; exact h4⟩
theorem hx_skip (hq : Q .normal ρ h) : HX m P n .skip Q ρ h := fun N a w s hm hw => wpIn_skip ⟨Sim.refl _, ρ, s, hm, by rw [hw]; exact hq⟩
theorem hx_exit {id : Nat} (hq : Q (.exit id) ρ h) : HX m P n (.exit id) Q ρ h := fun N a w s hm hw => wpIn_exit ⟨Sim.refl _, ρ, s, hm, by rw [hw]; exact hq⟩
theorem hx_ret (hq : Q .ret ρ h) : HX m P n .ret Q ρ h := fun N a w s hm hw => wpIn_ret ⟨Sim.refl _, ρ, s, hm, by rw [hw]; exact hq⟩
def seqQ (K : Regs → Heap → Prop) (Q : Exit → Regs → Heap → Prop) : Exit → Regs → Heap → Prop
  | .normal, ρ, h => K ρ h
  | e, ρ, h => Q e ρ h
theorem seqQ_n {K : Regs → Heap → Prop} (hk : K ρ h) : seqQ K Q .normal ρ h := hk
theorem seqQ_ret {K : Regs → Heap → Prop} (hk : Q .ret ρ h) : seqQ K Q .ret ρ h := hk
theorem seqQ_exit {K : Regs → Heap → Prop} {i : Nat} (hk : Q (.exit i) ρ h) : seqQ K Q (.exit i) ρ h := hk
theorem hx_seq {x y : Code} (hx : HX m P n x (seqQ (HX m P n y Q) Q) ρ h) : HX m P n (.seq x y) Q ρ h := by
  intro N a w s hm hw
  refine wpIn_seq (wpIn_mono (hx N a w s hm hw) ?_)
  rintro e a1 w1 ⟨h1, ρ1, s1, m1, hq⟩
  cases e with
  | normal => exact wpIn_mono (hq N a1 w1 s1 m1 rfl) fun _ _ _ ⟨h2, ρ2, s2, m2, hq2⟩ => ⟨h1.trans h2, ρ2, s2, m2, hq2⟩
  | exit i => exact ⟨h1, ρ1, s1, m1, hq⟩
  | goto i => exact ⟨h1, ρ1, s1, m1, hq⟩
  | ret => exact ⟨h1, ρ1, s1, m1, hq⟩
  | panic c => exact ⟨h1, ρ1, s1, m1, hq⟩
  | outgrown => exact ⟨h1, ρ1, s1, m1, hq⟩
theorem hx_cut {x y : Code} (A : Regs → Heap → Prop) (hx : HX m P n x (seqQ A Q) ρ h) (hy : ∀ ρ h, A ρ h → HX m P n y Q ρ h) : HX m P n (.seq x y) Q ρ h :=
  hx_seq (hx_mono hx fun e ρ h hq => by cases e <;> first | exact hy _ _ hq | exact hq)
theorem hx_cond {c : Operand} {x y : Code} {b : Bool} (hc : ev ρ c = .bool b) (ht : b = true → HX m P n x Q ρ h) (hf : b = false → HX m P n y Q ρ h) : HX m P n (.cond c x y) Q ρ h :=
  fun N a w s hm hw => wpIn_cond_split (t := b) (by rw [s.eval]; exact hc) (fun e => ht e N a w s hm hw) (fun e => hf e N a w s hm hw)
def blockQ (id : Nat) (Q : Exit → Regs → Heap → Prop) : Exit → Regs → Heap → Prop
  | .exit id', ρ, h => if id' = id then Q .normal ρ h else Q (.exit id') ρ h
  | e, ρ, h => Q e ρ h
theorem blockQ_n {id : Nat} (hk : Q .normal ρ h) : blockQ id Q .normal ρ h := hk
theorem blockQ_ret {id : Nat} (hk : Q .ret ρ h) : blockQ id Q .ret ρ h := hk
theorem blockQ_here {id : Nat} (hk : Q .normal ρ h) : blockQ id Q (.exit id) ρ h := by simpa [blockQ] using hk
theorem blockQ_past {id i : Nat} (hi : Nat.beq i id = false) (hk : Q (.exit i) ρ h) : blockQ id Q (.exit i) ρ h := by
  have : i ≠ id := fun e => by simp [e] at hi
  simpa [blockQ, this] using hk
theorem hx_block {id : Nat} {c : Code} (hx : HX m P n c (blockQ id Q) ρ h) : HX m P n (.block id c) Q ρ h := by
  intro N a w s hm hw
  refine wpIn_block (wpIn_mono (hx N a w s hm hw) ?_)
  rintro e a1 w1 ⟨h1, ρ1, s1, m1, hq⟩
  cases e with
  | exit i =>
    simp only [Exit.inBlock]
    simp only [blockQ] at hq
    split <;> rename_i hi <;> simp only [hi, if_true, if_false] at hq <;> exact ⟨h1, ρ1, s1, m1, hq⟩
  | normal => exact ⟨h1, ρ1, s1, m1, hq⟩
  | goto i => exact ⟨h1, ρ1, s1, m1, hq⟩
  | ret => exact ⟨h1, ρ1, s1, m1, hq⟩
  | panic c => exact ⟨h1, ρ1, s1, m1, hq⟩
  | outgrown => exact ⟨h1, ρ1, s1, m1, hq⟩
theorem hx_loop {c : Code} (I : Regs → Heap → Prop) (μ : Regs → Heap → Nat) (h0 : I ρ h)
    (round : ∀ ρ h, I ρ h → HX m P n c (seqQ (fun ρ' h' => I ρ' h' ∧ μ ρ' h' < μ ρ h) Q) ρ h) : HX m P n (.loop c) Q ρ h := by
  intro N a w s hm hw
  -- the measure is of registers: it is read off the frame
  refine wpIn_loop (fun a' w' => Sim w w' ∧ ∃ ρ', St n ρ' a' ∧ Marks m N a'.defers w'.heap ∧ I ρ' w'.heap) (fun a' w' => μ (fun i => a'.tmps.getD i undef) w'.heap) ⟨Sim.refl _, ρ, s, hm, by rw [hw]; exact h0⟩ ?_
  rintro a1 w1 ⟨h1, ρ1, s1, m1, hI⟩
  refine wpIn_mono (round ρ1 _ hI N a1 w1 s1 m1 rfl) ?_
  rintro e a2 w2 ⟨h2, ρ2, s2, m2, hq⟩
  have e1 : (fun i => a1.tmps.getD i undef) = ρ1 := funext s1.all
  have e2 : (fun i => a2.tmps.getD i undef) = ρ2 := funext s2.all
  cases e with
  | normal => refine ⟨⟨h1.trans h2, ρ2, s2, m2, hq.1⟩, ?_⟩; rw [e1, e2]; exact hq.2
  | exit i => exact ⟨h1.trans h2, ρ2, s2, m2, hq⟩
  | goto i => exact ⟨h1.trans h2, ρ2, s2, m2, hq⟩
  | ret => exact ⟨h1.trans h2, ρ2, s2, m2, hq⟩
  | panic c => exact ⟨h1.trans h2, ρ2, s2, m2, hq⟩
  | outgrown => exact ⟨h1.trans h2, ρ2, s2, m2, hq⟩
end code
def Has (ρ : Regs) : List (Nat × Value) → Prop
  | [] => True
  | (i, v) :: l => ρ i = v ∧ Has ρ l
def updl (ρ : Regs) : List (Nat × Value) → Regs
  | [] => ρ
  | (i, v) :: l => upd (updl ρ l) i v
theorem updl_has {ρ : Regs} : ∀ (l : List (Nat × Value)), Has ρ l → updl ρ l = ρ
  | [], _ => rfl
  | (i, v) :: l, hh => by
    rw [updl, updl_has l hh.2]
    funext j
    by_cases e : j = i
    · subst e; rw [upd_same, hh.1]
    · rw [upd_ne _ _ e]
theorem hx_has {m : Mo} {P : Program} {n : Nat} {c : Code} {Q : Exit → Regs → Heap → Prop} {ρ : Regs} {h : Heap} (l : List (Nat × Value)) (hh : Has ρ l) (hx : HX m P n c Q (updl ρ l) h) : HX m P n c Q ρ h := by
  rw [updl_has l hh] at hx; exact hx
theorem least (p : Nat → Prop) (h : ∃ n, p n) : ∃ m, p m ∧ ∀ k, p k → m ≤ k := by
  obtain ⟨n, hn⟩ := h
  induction n using Nat.strongRecOn with
  | _ n ih =>
    by_cases hl : ∃ k, k < n ∧ p k
    · obtain ⟨k, hk, hp⟩ := hl; exact ih k hk hp
    · exact ⟨n, hn, fun k hk => Nat.le_of_not_lt fun hlt => hl ⟨k, hlt, hk⟩⟩
open Classical in
noncomputable def leastOf (p : Nat → Prop) : Nat := if h : ∃ n, p n then Classical.choose (least p h) else 0
theorem leastOf_spec {p : Nat → Prop} (h : ∃ n, p n) : p (leastOf p) ∧ ∀ k, p k → leastOf p ≤ k := by
  unfold leastOf; rw [dif_pos h]; exact Classical.choose_spec (least p h)
theorem hx_loopT {m : Mo} {P : Program} {n : Nat} {c : Code} {Q : Exit → Regs → Heap → Prop} {ρ : Regs} {h : Heap} {σ : Type} (regs : σ → List (Nat × Value)) (I : σ → Heap → Prop) (μ : σ → Heap → Nat) (s0 : σ)
    (h0 : I s0 h) (hH : Has ρ (regs s0)) (round : ∀ s ρ h, I s h → HX m P n c (seqQ (fun ρ' h' => ∃ s', (I s' h' ∧ μ s' h' < μ s h) ∧ Has ρ' (regs s')) Q) (updl ρ (regs s)) h) : HX m P n (.loop c) Q ρ h := by
  refine hx_loop (fun ρ h => ∃ s, I s h ∧ Has ρ (regs s)) (fun ρ h => leastOf fun m => ∃ s, I s h ∧ Has ρ (regs s) ∧ μ s h = m) ⟨s0, h0, hH⟩ ?_
  rintro ρ1 h1 ⟨s1, hI1, hH1⟩
  obtain ⟨⟨s, hI, hS, hm⟩, _⟩ := leastOf_spec (p := fun m => ∃ s, I s h1 ∧ Has ρ1 (regs s) ∧ μ s h1 = m) ⟨_, s1, hI1, hH1, rfl⟩
  have hr := round s ρ1 h1 hI
  rw [updl_has _ hS] at hr
  refine hx_mono hr fun e ρ2 h2 hq => ?_
  cases e with
  | normal =>
    obtain ⟨s', ⟨hI', hlt⟩, hH'⟩ := hq
    refine ⟨⟨s', hI', hH'⟩, ?_⟩
    have := (leastOf_spec (p := fun m => ∃ s, I s h2 ∧ Has ρ2 (regs s) ∧ μ s h2 = m) ⟨_, s', hI', hH', rfl⟩).2 _ ⟨s', hI', hH', rfl⟩
    show leastOf _ < leastOf _
    omega
  | _ => exact hq
def resB (P : Program) (fn : Func) (ρ : Regs) (h : Heap) (v : Value) : Prop :=
  ∀ (a : Act) (w : World) (n : Nat), St n ρ a → w.heap = h → (results fn a.tmps).run P w = .ok v w
def endQ (P : Program) (fn : Func) (R : Value → Heap → Prop) : Exit → Regs → Heap → Prop
  | .normal, ρ, h | .ret, ρ, h => ∃ v, resB P fn ρ h v ∧ R v h
  | _, _, _ => False
theorem endQ_n {P : Program} {fn : Func} {R : Value → Heap → Prop} {ρ : Regs} {h : Heap} (v : Value) (hr : resB P fn ρ h v) (hR : R v h) : endQ P fn R .normal ρ h := ⟨v, hr, hR⟩
theorem endQ_ret {P : Program} {fn : Func} {R : Value → Heap → Prop} {ρ : Regs} {h : Heap} (v : Value) (hr : resB P fn ρ h v) (hR : R v h) : endQ P fn R .ret ρ h := ⟨v, hr, hR⟩
def reg0 (args : List Value) : Regs := updl (fun _ => undef) (args.zipIdx.map fun (v, i) => (i, v))
def rvF (tmps : Array Value) : ResultVar → Sem Value
  | .tmp t => pure (tmps.getD t undef)
  | .cell x t => do loadVar t (← asAddr (tmps.getD x undef))
theorem results_eq (fn : Func) (tmps : Array Value) : results fn tmps = (fn.results.mapM (rvF tmps) >>= fun vs => pure (if h : vs.size = 1 then vs[0] else .tuple vs)) := by
  unfold results
  congr 1
def RV (P : Program) (r : ResultVar) (ρ : Regs) (h : Heap) (v : Value) : Prop :=
  ∀ (a : Act) (w : World) (n : Nat), St n ρ a → w.heap = h → (rvF a.tmps r).run P w = .ok v w
theorem rv_tmp {P : Program} {ρ : Regs} {h : Heap} {t : Nat} {v : Value} (hv : ρ t = v) : RV P (.tmp t) ρ h v :=
  fun a w n s hw => by simp only [rvF, s.all t, hv, Sem.run_pure]
theorem res_none {P : Program} {fn : Func} {ρ : Regs} {h : Heap} (hr : fn.results = #[]) : resB P fn ρ h (.tuple #[]) :=
  fun a w n s hw => by simp [results, hr]
theorem res_one {P : Program} {fn : Func} {ρ : Regs} {h : Heap} {r : ResultVar} {v : Value} (hr : fn.results = #[r]) (hv : RV P r ρ h v) : resB P fn ρ h v :=
  fun a w n s hw => by
    have h1 := hv a w n s hw
    rw [results_eq, hr]
    simp [h1]
theorem res_two {P : Program} {fn : Func} {ρ : Regs} {h : Heap} {r r' : ResultVar} {v v' : Value} (hr : fn.results = #[r, r']) (hv : RV P r ρ h v) (hv' : RV P r' ρ h v') : resB P fn ρ h (.tuple #[v, v']) :=
  fun a w n s hw => by
    have h1 := hv a w n s hw
    have h2 := hv' a w n s hw
    rw [results_eq, hr]
    simp [Sem.run_bind, h1, h2]
theorem res_three {P : Program} {fn : Func} {ρ : Regs} {h : Heap} {r r' r'' : ResultVar} {v v' v'' : Value} (hr : fn.results = #[r, r', r'']) (hv : RV P r ρ h v) (hv' : RV P r' ρ h v') (hv'' : RV P r'' ρ h v'') : resB P fn ρ h (.tuple #[v, v', v'']) :=
  fun a w n s hw => by
    have h1 := hv a w n s hw
    have h2 := hv' a w n s hw
    have h3 := hv'' a w n s hw
    rw [results_eq, hr]
    simp [Sem.run_bind, h1, h2, h3]
theorem zip_get (args : List Value) (k : Nat) (ρ : Regs) (i : Nat) : updl ρ ((args.zipIdx k).map fun (v, i) => (i, v)) i = if k ≤ i ∧ i < k + args.length then args.getD (i - k) undef else ρ i := by
  induction args generalizing k with
  | nil => simp [updl]; intro h1 h2; omega
  | cons v l ih =>
    simp only [List.zipIdx_cons, List.map_cons, updl]
    by_cases e : i = k
    · subst e; rw [upd_same]; simp
    · rw [upd_ne _ _ e, ih]
      simp only [List.length_cons]
      by_cases h1 : k + 1 ≤ i ∧ i < k + 1 + l.length
      · rw [if_pos h1, if_pos (by omega)]
        have : i - k = (i - (k + 1)) + 1 := by omega
        rw [this]; simp
      · rw [if_neg h1, if_neg (by omega)]
theorem st_enter {n : Nat} {fn : Func} {args : List Value} (hn : fn.ntmps = n) (hl : args.length ≤ n) :
    St n (reg0 args) { tmps := args.toArray ++ Array.replicate (fn.ntmps - args.toArray.size) undef, defers := [] } := by
  refine ⟨by simp [hn]; omega, fun i hi => ?_, fun i hi => ?_⟩
  · rw [reg0, zip_get]
    simp only [Nat.zero_le, true_and, Nat.zero_add, Nat.sub_zero]
    have hsz : i < (args.toArray ++ Array.replicate (fn.ntmps - args.toArray.size) undef).size := by simp [hn]; omega
    show (args.toArray ++ Array.replicate (fn.ntmps - args.toArray.size) undef).getD i undef = _
    rw [Array.getD, dif_pos hsz]
    show (args.toArray ++ Array.replicate (fn.ntmps - args.toArray.size) undef)[i] = _
    by_cases h1 : i < args.length
    · rw [if_pos h1, Array.getElem_append_left (by simpa using h1)]
      simp [h1]
    · rw [if_neg h1, Array.getElem_append_right (by simpa using Nat.le_of_not_lt h1)]
      simp
  · rw [reg0, zip_get]; simp; intro h1; omega
theorem hc_of {P : Program} {f : FuncId} {fn : Func} {c : Code} {args : List Value} {n : Nat} {h : Heap} {R : Value → Heap → Prop}
    (hf : P.funcs[f]? = some fn) (hb : fn.body = some c) (hn : fn.ntmps = n) (hl : args.length ≤ n)
    (hx : HX ⟨none, false⟩ P n c (endQ P fn R) (reg0 args) h) : HC P f args.toArray h R := by
  intro w hw
  refine (callsIn_wide (n := 0)).1 (callsIn_of_wp hf hb trivial (wpIn_mono (hx w.heap.size _ w (st_enter hn hl) ⟨fun _ => rfl, Nat.le_refl _, List.Pairwise.nil, fun d hd => by cases hd⟩ hw) ?_))
  rintro e a w' ⟨h1, ρ', s, hm, hq⟩
  cases e <;> try exact hq.elim
  · obtain ⟨v, hr, hR⟩ := hq; exact ⟨hm.none rfl, v, hr a w' _ s rfl, v, rfl, h1, hR⟩
  · obtain ⟨v, hr, hR⟩ := hq; exact ⟨hm.none rfl, v, hr a w' _ s rfl, v, rfl, h1, hR⟩
end Go.Proofs.YthjehlocmikchaaDoor
