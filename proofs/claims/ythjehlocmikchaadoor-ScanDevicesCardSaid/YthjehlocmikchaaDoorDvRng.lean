import Derived.RangeFuncLeaves
import Derived.Test.YthjehlocmikchaaDoorDvMem
namespace Go.Proofs.YthjehlocmikchaaDoor
open Go
def setp (ρ : Regs) : List (Nat × Value) → Regs
  | [] => ρ
  | (i, v) :: l => setp (upd ρ i v) l
theorem St.setp {n : Nat} : ∀ (l : List (Nat × Value)) {ρ : Regs} {T : Array Value}, St n ρ ⟨T, []⟩ → (∀ x ∈ l, x.1 < n) →
    St n (setp ρ l) ⟨l.foldl (fun tmps (t, a) => tmps.setIfInBounds t a) T, []⟩
  | [], _, _, s, _ => s
  | (i, v) :: l, ρ, T, s, h => by
    have s1 : St n (upd ρ i v) ⟨T.setIfInBounds i v, []⟩ := s.put (dst := some i) (fun d hd => by cases hd; exact h (i, v) (by simp)) v
    exact St.setp l s1 (fun x hx => h x (by simp [hx]))
structure LoopAt (h : Heap) (l n : Nat) (ρ : Regs) (ps : List Tmp) (assign body : Code) (st : LoopState) (pend : Option Code) : Prop where
  ex : ∃ fn T d, h[l]? = some (.loop { state := st, pending := pend, fn, tmps := T, params := ps.toArray, assign, body, defers := d }) ∧ St n ρ ⟨T, []⟩
theorem LoopAt.lt {h : Heap} {l n : Nat} {ρ : Regs} {ps : List Tmp} {assign body : Code} {st : LoopState} {pend : Option Code} (k : LoopAt h l n ρ ps assign body st pend) : l < h.size := by
  obtain ⟨fn, T, d, h1, _⟩ := k.ex; exact row_lt h1
theorem LoopAt.fr {h h' : Heap} {S : Nat → Prop} {l n : Nat} {ρ : Regs} {ps : List Tmp} {assign body : Code} {st : LoopState} {pend : Option Code} (k : LoopAt h l n ρ ps assign body st pend) (f : Fr S h h') (hl : ¬ S l) : LoopAt h' l n ρ ps assign body st pend :=
  let ⟨fn, T, d, h1, h2⟩ := k.ex; ⟨fn, T, d, f.row h1 hl, h2⟩
theorem LoopAt.ext {h h' : Heap} {l n : Nat} {ρ : Regs} {ps : List Tmp} {assign body : Code} {st : LoopState} {pend : Option Code} (k : LoopAt h l n ρ ps assign body st pend) (f : Ext h h') : LoopAt h' l n ρ ps assign body st pend :=
  let ⟨fn, T, d, h1, h2⟩ := k.ex; ⟨fn, T, d, f.row h1, h2⟩
theorem LoopAt.same {h h' : Heap} {l n : Nat} {ρ : Regs} {ps : List Tmp} {assign body : Code} {st : LoopState} {pend : Option Code} (k : LoopAt h l n ρ ps assign body st pend) (e : h'[l]? = h[l]?) : LoopAt h' l n ρ ps assign body st pend :=
  let ⟨fn, T, d, h1, h2⟩ := k.ex; ⟨fn, T, d, e.trans h1, h2⟩
structure Only (l : Nat) (h h' : Heap) : Prop where
  size : h'.size = h.size
  block : ∀ b, b ≠ l → h'[b]? = h[b]?
theorem Only.fr {l : Nat} {h h' : Heap} (o : Only l h h') : Fr (fun b => b = l) h h' := ⟨Nat.le_of_eq o.size.symm, fun b _ hn => o.block b hn⟩
theorem only_put {w : World} {l : Nat} {o : Obj} : Only l w.heap (w.putObj l o).heap := ⟨World.putObj_size, fun _ hb => World.putObj_heap_other hb⟩
theorem sim_put {w : World} {l : Nat} {o : Obj} {r : Loop} (hl : w.heap[l]? = some (.loop r)) : Sim w (w.putObj l o) :=
  ⟨rfl, rfl, rfl, Nat.le_refl _, Nat.le_of_eq World.putObj_size.symm, fun b hb => by
    by_cases e : b = l
    · subst e; rw [hl] at hb; cases hb
    · rw [World.putObj_heap_other e]; exact hb⟩
section
variable {P : Program} {n : Nat} {ρ : Regs} {h : Heap} {ps : List Tmp} {assign body : Code}
def roundQ (l n : Nat) (ρ : Regs) (ps : List Tmp) (assign body : Code) (K : Value → Heap → Prop) : Exit → Regs → Heap → Prop := fun e _ h =>
  LoopAt h l n ρ ps assign body .busy none ∧
  match e with
  | .normal => ∀ h', Only l h h' → LoopAt h' l n ρ ps assign body .ready none → K (.bool true) h'
  | .ret => ∀ h', Only l h h' → LoopAt h' l n ρ ps assign body .done (some .ret) → K (.bool false) h'
  | .exit id => ∀ h', Only l h h' → LoopAt h' l n ρ ps assign body .done (some (.exit id)) → K (.bool false) h'
  | _ => False
theorem hcv_yield {l : Nat} {vs : List Value} {K : Value → Heap → Prop} (hl : LoopAt h l n ρ ps assign body .ready none) (hs : vs.length = ps.length) (hp : ps.all (fun p => Nat.blt p n) = true)
    (hx : HX ⟨some l, false⟩ P n assign (fun e ρ1 h1 => e = .normal ∧ LoopAt h1 l n ρ ps assign body .ready none ∧ ∀ h2, Only l h1 h2 → LoopAt h2 l n ρ ps assign body .busy none → HX ⟨some l, false⟩ P n body (roundQ l n ρ ps assign body K) ρ1 h2)
      (setp ρ (ps.zip vs)) h) : HCV P (.func (.yield l) #[] #[]) vs h K := by
  obtain ⟨fn, T, d, hr, sT⟩ := hl.ex
  refine .inr ⟨l, _, rfl, hr, by simpa using hs, ?_⟩
  intro w hw
  have st : St n (setp ρ (ps.zip vs)) ⟨setT ps.toArray vs.toArray T, []⟩ := by
    have := St.setp (ps.zip vs) sT (fun x hx => by
      have h1 := List.all_eq_true.1 hp x.1 (List.of_mem_zip (a := x.1) (b := x.2) hx).1
      simpa [Nat.blt_eq] using h1)
    unfold setT
    rw [List.zip_toArray, List.foldl_toArray]
    exact this
  have mk0 : ∀ (w : World), Marks ⟨some l, false⟩ w.heap.size [] w.heap := fun w => ⟨fun _ => rfl, Nat.le_refl _, List.Pairwise.nil, fun d hd => by cases hd⟩
  refine roundIn_of_wpIn trivial (wpIn_mono (hx w.heap.size _ w st (mk0 w) hw) ?_)
  rintro e a1 w1 ⟨s1, ρ1, st1, m1, rfl, hl1, hb⟩
  obtain ⟨fn1, T1, d1, hr1, sT1⟩ := hl1.ex
  refine ⟨_, run_beginRound hr1 rfl, ?_⟩
  have hl2 : LoopAt (w1.putObj l (.loop { state := .busy, pending := none, fn := fn1, tmps := T1, params := ps.toArray, assign, body, defers := d1 })).heap l n ρ ps assign body .busy none :=
    ⟨fn1, T1, d1, World.putObj_heap_same (row_lt hr1), sT1⟩
  have s2 : Sim w1 (w1.putObj l (.loop { state := .busy, pending := none, fn := fn1, tmps := T1, params := ps.toArray, assign, body, defers := d1 })) := sim_put hr1
  refine wpIn_mono (hb _ only_put hl2 w.heap.size a1 _ st1 (m1.sim s2.grow) rfl) ?_
  rintro e2 a2 w3 ⟨s3, ρ2, st2, m2, hl3, hq⟩
  obtain ⟨fn3, T3, d3, hr3, sT3⟩ := hl3.ex
  have fin : ∀ (j : Option Code), Sim w (w3.putObj l (.loop { state := if j.isNone then .ready else .done, pending := j, fn := fn3, tmps := T3, params := ps.toArray, assign, body, defers := d3 })) := fun j => (s1.trans s2).trans (s3.trans (sim_put hr3))
  have la : ∀ (j : Option Code), LoopAt (w3.putObj l (.loop { state := if j.isNone then .ready else .done, pending := j, fn := fn3, tmps := T3, params := ps.toArray, assign, body, defers := d3 })).heap l n ρ ps assign body (if j.isNone then .ready else .done) j :=
    fun j => ⟨fn3, T3, d3, World.putObj_heap_same (row_lt hr3), sT3⟩
  cases e2 with
  | normal => exact ⟨_, _, run_endRound none hr3, _, rfl, fin none, hq _ only_put (la none)⟩
  | ret => exact ⟨_, _, run_endRound (some .ret) hr3, _, rfl, fin (some .ret), hq _ only_put (la (some .ret))⟩
  | exit id => exact ⟨_, _, run_endRound (some (.exit id)) hr3, _, rfl, fin (some (.exit id)), hq _ only_put (la (some (.exit id)))⟩
  | goto t => exact hq.elim
  | panic c => exact hq.elim
  | outgrown => exact hq.elim
theorem enter_world (w : World) (a : Act) (fn : FuncId) (ps : List Tmp) (assign body : Code) (s : St n ρ a) :
    ∃ w1, (Instr.enterLoop fn a.tmps ps.toArray assign body none).run P w = .ok (w.heap.size + 1, [{ target := .collected w.heap.size, args := #[] }]) w1 ∧ Sim w w1 ∧ Ext w.heap w1.heap ∧ w1.heap.size = w.heap.size + 2 ∧
      LoopAt w1.heap (w.heap.size + 1) n ρ ps assign body .ready none ∧ w1.heap[w.heap.size]? = some (.deferred (some [])) := by
  refine ⟨_, run_enterLoop_outer (P := P) (w := w) fn a.tmps ps.toArray assign body, ⟨rfl, rfl, rfl, Nat.le_refl _, (HG.push w.heap _).trans (HG.push _ _)⟩, (Ext.push w.heap (.deferred (some []))).trans (Ext.push _ _), by simp, ⟨fn, a.tmps, w.heap.size, ?_, s.size, s.get, s.out⟩,
    (Ext.push (w.alloc (.deferred (some []))).heap _).row (World.alloc_heap_new w _)⟩
  have := World.alloc_heap_new (w.alloc (.deferred (some []))) (.loop { state := .ready, pending := none, fn, tmps := a.tmps, params := ps.toArray, assign, body, defers := w.heap.size })
  rw [World.size_alloc] at this
  exact this
theorem end_world {w : World} {l : Nat} {st : LoopState} {pend : Option Code} (k : LoopAt w.heap l n ρ ps assign body st pend) (hst : st ≠ .busy) :
    ∃ w', (Instr.endLoop l).run P w = .ok pend w' ∧ Sim w w' ∧ Only l w.heap w'.heap ∧ LoopAt w'.heap l n ρ ps assign body .exhausted pend := by
  obtain ⟨fn, T, d, hr, sT⟩ := k.ex
  exact ⟨_, run_endLoop hr hst, sim_put hr, only_put, fn, T, d, World.putObj_heap_same (row_lt hr), sT⟩
def jumpQ (Q : Exit → Regs → Heap → Prop) (ρ : Regs) (h : Heap) : Option Code → Prop
  | none => Q .normal ρ h
  | some .ret => Q .ret ρ h
  | some (.exit id) => Q (.exit id) ρ h
  | _ => False
def rangeQ (l n : Nat) (ρ : Regs) (ps : List Tmp) (assign body : Code) (Q : Exit → Regs → Heap → Prop) : Value → Heap → Prop := fun _ h =>
  ∃ st pend, LoopAt h l n ρ ps assign body st pend ∧ st ≠ .busy ∧ ∀ h', Only l h h' → LoopAt h' l n ρ ps assign body .exhausted pend → jumpQ Q ρ h' pend
theorem jumpQ_n {Q : Exit → Regs → Heap → Prop} (hq : Q .normal ρ h) : jumpQ Q ρ h none := hq
theorem jumpQ_ret {Q : Exit → Regs → Heap → Prop} (hq : Q .ret ρ h) : jumpQ Q ρ h (some .ret) := hq
theorem jumpQ_exit {Q : Exit → Regs → Heap → Prop} {i : Nat} (hq : Q (.exit i) ρ h) : jumpQ Q ρ h (some (.exit i)) := hq
theorem jump_wp {m : Mo} {N : Nat} {Q : Exit → Regs → Heap → Prop} {a : Act} {w w' : World} {c : Code} (hs : Sim w w') (s : St n ρ a) (mk : Marks m N a.defers w'.heap) (hq : jumpQ Q ρ w'.heap (some c)) :
    c.wpIn m.fence 0 P (XQ m N n w Q) a w' := by
  unfold jumpQ at hq
  split at hq
  · rename_i h; cases h
  · rename_i h; cases h; exact wpIn_ret ⟨hs, ρ, s, mk, hq⟩
  · rename_i h; cases h; exact wpIn_exit ⟨hs, ρ, s, mk, hq⟩
  · exact hq.elim
theorem marks_new {m : Mo} {N : Nat} {ds : List Deferred} {h h1 h2 : Heap} (hm : m.marks = true) (mk : Marks m N ds h) (g1 : HG h h1) (hd : h1[h.size]? = some (.deferred (some []))) (g2 : HG h1 h2) :
    Marks m N (({ target := .collected h.size, args := #[] } : Deferred) :: ds) h2 := by
  refine Marks.sim (h := h1) ⟨fun h => (by rw [hm] at h; cases h), Nat.le_trans mk.le g1.1, ?_, fun d hd' => ?_⟩ g2
  · rw [List.map_cons, List.pairwise_cons]
    refine ⟨fun t ht heq => ?_, mk.apart⟩
    obtain ⟨d, hd, rfl⟩ := List.mem_map.1 ht
    obtain ⟨b, h1, _, h3⟩ := mk.all d hd
    have h4 : (Target.collected h.size) = .collected b := heq.trans h1
    injection h4 with h4
    have := row_lt h3
    omega
  · rcases List.mem_cons.1 hd' with rfl | hd'
    · exact ⟨_, rfl, mk.le, hd⟩
    · obtain ⟨b, h1, h2, h3⟩ := mk.all d hd'
      exact ⟨b, h1, h2, g1.2 b h3⟩
theorem hx_range {m : Mo} {g : Operand} {fv : Value} {Q : Exit → Regs → Heap → Prop} (hr : m.round = none) (hm : m.marks = true) (hg : ev ρ g = fv)
    (hc : ∀ h1 l, l = h.size + 1 → Ext h h1 → h1.size = h.size + 2 → LoopAt h1 l n ρ ps assign body .ready none → HCF P fv [.func (.yield l) #[] #[]] h1 (rangeQ l n ρ ps assign body Q)) :
    HX m P n (.rangeFunc g ps.toArray assign body) Q ρ h := by
  intro N a w s hmk hw
  refine wpIn_rangeFunc fun fn _ => ?_
  obtain ⟨w1, he, s1, e1, z1, l1, d1⟩ := enter_world (P := P) w a fn ps assign body s
  have hro : m.fence.round = none := hr
  obtain ⟨i, first, cap, hfv, hb, hcall⟩ := hc w1.heap (w.heap.size + 1) (by rw [hw]) (by rw [← hw]; exact e1) (by rw [z1, hw]) l1
  subst hfv
  have hcall' := hcall w1 rfl
  have hg' : a.eval g = .func (.func i) first.toArray cap.toArray := by rw [s.eval]; exact hg
  have hy : a.eval (.const (.func (.yield (w.heap.size + 1)) #[] #[])) = .func (.yield (w.heap.size + 1)) #[] #[] := rfl
  have hdep : m.fence.depth.isSome = true → 1 ≤ 0 := fun hd => by simp [Mo.fence, Fence.wide] at hd
  have hc2 : CallsIn m.fence (0 - 1) P i (first ++ [Value.func (.yield (w.heap.size + 1)) #[] #[]] ++ cap).toArray w1 (rangePost m.fence 0 P (w.heap.size + 1) (XQ m N n w Q) { a with defers := [{ target := .collected w.heap.size, args := #[] }] ++ a.defers }) := ?_
  · refine ⟨w.heap.size + 1, [{ target := .collected w.heap.size, args := #[] }], w1, ⟨.fn (.func i) cap.toArray, first.toArray ++ #[.func (.yield (w.heap.size + 1)) #[] #[]]⟩, w1, i, (first ++ [Value.func (.yield (w.heap.size + 1)) #[] #[]] ++ cap).toArray, w1, ?_, ?_, ?_, ?_, ?_, ?_⟩
    · rw [hro]; exact he
    · generalize a.eval = ee at hg' hy ⊢
      simp [resolve, hg', hy, Deferred.ofValue, go_sem]
    · intro _ _; exact m.fn _
    · have : (invoke (.fn (.func i) cap.toArray) (first.toArray ++ #[.func (.yield (w.heap.size + 1)) #[] #[]])).run P w1 = .ok (.enter i (first ++ [Value.func (.yield (w.heap.size + 1)) #[] #[]] ++ cap).toArray) w1 := by
        simp [invoke]; exact hb _ _
      exact this
    · exact hdep
    · exact hc2
  refine Mo.callsIn (hcall'.mono ?_)
  · rintro e w2 ⟨v, rfl, s2, st, pend, l2, hst, hq⟩
    obtain ⟨w3, hend, s3, o3, l3⟩ := end_world (P := P) l2 hst
    have hq' := hq _ o3 l3
    have sall := (s1.trans s2).trans s3
    have sa : St n ρ { a with defers := [{ target := .collected w.heap.size, args := #[] }] ++ a.defers } := ⟨s.size, s.get, s.out⟩
    have mk := marks_new hm hmk s1.grow d1 (s2.trans s3).grow
    refine ⟨pend, w3, hend, ?_⟩
    cases pend with
    | none => exact ⟨sall, ρ, sa, mk, hq'⟩
    | some c => exact jump_wp sall sa mk hq'
structure Shut' (N : Nat) (h h' : Heap) : Prop where
  size : h'.size = h.size
  block : ∀ b : Nat, h'[b]? = h[b]? ∨ (N ≤ b ∧ h[b]? = some (.deferred (some [])) ∧ h'[b]? = some (.deferred none))
theorem Shut'.row {N : Nat} {h h' : Heap} (s : Shut' N h h') {b : Nat} {o : Obj} (hb : h[b]? = some o) (hn : o ≠ .deferred (some [])) : h'[b]? = some o := by
  rcases s.block b with e | ⟨_, e, _⟩
  · rw [e]; exact hb
  · rw [hb] at e; cases e; exact absurd rfl hn
theorem Shut'.refl (N : Nat) (h : Heap) : Shut' N h h := ⟨rfl, fun _ => .inl rfl⟩
theorem Shut'.low {N : Nat} {h h' : Heap} (s : Shut' N h h') {b : Nat} (hb : b < N) : h'[b]? = h[b]? := by
  rcases s.block b with e | ⟨e, _⟩
  · exact e
  · omega
theorem Shut'.fr {N : Nat} {h h' : Heap} (s : Shut' N h h') : Fr (fun b => N ≤ b) h h' := ⟨Nat.le_of_eq s.size.symm, fun _ _ hn => s.low (Nat.lt_of_not_le hn)⟩
theorem shut_cell {N : Nat} {h h' : Heap} (s : Shut' N h h') {b o : Nat} {v : Value} (hc : hcell h b o = some v) : hcell h' b o = some v := by
  have hc0 := hc
  unfold hcell at hc
  split at hc
  · rename_i e
    unfold hcell
    rw [s.row e (by simp)]; exact hc
  · cases hc
def endQM (P : Program) (fn : Func) (N : Nat) (R : Value → Heap → Prop) : Exit → Regs → Heap → Prop
  | .normal, ρ, h | .ret, ρ, h => ∃ v, ∀ h', Shut' N h h' → resB P fn ρ h' v ∧ R v h'
  | _, _, _ => False
theorem leaves_marks {fn : Func} {tmps : Array Value} {R : Ending → World → Prop} {m : Mo} {N : Nat} : ∀ (ds : List Deferred) (w : World), Marks m N ds w.heap →
    (∀ w', w'.os = w.os → w'.tape = w.tape → w'.output = w.output → w.drawn ≤ w'.drawn → Shut' N w.heap w'.heap → ∃ v, (results fn tmps).run P w' = .ok v w' ∧ R (.returned v) w') →
    LeavesInM Fence.wide 0 P fn tmps R ds .returning w
  | [], w, _, hk => hk w rfl rfl rfl (Nat.le_refl _) (Shut'.refl _ _)
  | d :: ds, w, mk, hk => by
    obtain ⟨b, h1, h2, h3⟩ := mk.all d (by simp)
    refine ⟨by simp, .inl ⟨b, _, h1, run_takeDeferred h3, ?_⟩⟩
    have hlt := row_lt h3
    have ap := mk.apart
    rw [List.map_cons, List.pairwise_cons] at ap
    refine leaves_marks (m := m) (N := N) ds _ ⟨fun hmm => by have := mk.none hmm; simp at this, ?_, ap.2, fun d' hd' => ?_⟩ ?_
    · rw [World.putObj_size]; exact mk.le
    · obtain ⟨b', k1, k2, k3⟩ := mk.all d' (by simp [hd'])
      refine ⟨b', k1, k2, ?_⟩
      rw [World.putObj_heap_other (fun e => ?_)]
      · exact k3
      · exact ap.1 _ (List.mem_map.2 ⟨d', hd', rfl⟩) (by rw [h1, k1, e])
    · intro w' e1 e2 e3 e4 sh
      refine hk w' e1 e2 e3 e4 ⟨sh.size.trans World.putObj_size, fun i => ?_⟩
      by_cases hib : i = b
      · subst hib
        have hs := sh.block i
        rw [World.putObj_heap_same hlt] at hs
        rcases hs with hs | ⟨_, hs, _⟩
        · exact .inr ⟨h2, h3, hs⟩
        · cases hs
      · have hs := sh.block i
        rw [World.putObj_heap_other hib] at hs
        exact hs
theorem hc_ofM {f : FuncId} {fn : Func} {c : Code} {args : List Value} {R : Value → Heap → Prop}
    (hf : P.funcs[f]? = some fn) (hb : fn.body = some c) (hn : fn.ntmps = n) (hl : args.length ≤ n)
    (hx : HX ⟨none, true⟩ P n c (endQM P fn (Array.size h) R) (reg0 args) h) : HC P f args.toArray h R := by
  intro w hw
  rw [← hw] at hx
  refine (callsIn_wide (n := 0)).1 (callsIn_of_wp_marks hf hb trivial (wpIn_mono (hx w.heap.size _ w (st_enter hn hl) ⟨fun h => (by cases h), Nat.le_refl _, List.Pairwise.nil, fun d hd => by cases hd⟩ rfl) ?_))
  rintro e a w' ⟨h1, ρ', s, hm, hq⟩
  have fin : (∃ v, ∀ h', Shut' w.heap.size w'.heap h' → resB P fn ρ' h' v ∧ R v h') → LeavesInM Fence.wide 0 P fn a.tmps (fun e w' => ∃ v, e = .returned v ∧ Sim w w' ∧ R v w'.heap) a.defers .returning w' := by
    rintro ⟨v, hv⟩
    refine leaves_marks a.defers w' hm fun w2 e1 e2 e3 e4 sh => ?_
    obtain ⟨hr, hR⟩ := hv _ sh
    refine ⟨v, hr a w2 _ s rfl, v, rfl, ⟨e1.trans h1.os, e2.trans h1.tape, e3.trans h1.output, Nat.le_trans h1.drawn e4, by rw [sh.size]; exact h1.grow.1, fun b hb' => ?_⟩, hR⟩
    rw [sh.low (row_lt hb')]
    exact h1.grow.2 b hb'
  cases e <;> try exact hq.elim
  · exact fin hq
  · exact fin hq
theorem endQM_ret {fn : Func} {N : Nat} {R : Value → Heap → Prop} (v : Value) (hr : ∀ h', Shut' N h h' → resB P fn ρ h' v ∧ R v h') : endQM P fn N R .ret ρ h := ⟨v, hr⟩
end
end Go.Proofs.YthjehlocmikchaaDoor
