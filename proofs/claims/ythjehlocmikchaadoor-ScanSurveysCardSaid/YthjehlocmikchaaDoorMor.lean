/-
More operations: maps, clear, bytes of a text.
-/
import Derived.Test.YthjehlocmikchaaDoorRng
import Derived.MapKept
namespace Go.Proofs.YthjehlocmikchaaDoor
open Go

/-! ### maps as lists of keys and values -/
theorem ba_beq (a b : ByteArray) : (a == b) = decide (a = b) := by
  rcases a with ⟨a⟩; rcases b with ⟨b⟩
  have h : ((⟨a⟩ : ByteArray) == ⟨b⟩) = (a == b) := rfl
  rw [h, Bool.eq_iff_iff]
  simp
theorem set_same {h : Heap} {b : Nat} {o o' : Obj} (hb : h[b]? = some o) : (h.setIfInBounds b o')[b]? = some o' := by
  have := row_lt hb
  simp [this]

structure KeyT (d : TypeDesc) {κ : Type} [DecidableEq κ] (enc : κ → Value) : Prop where
  isKey : ∀ a, MapKept.IsKey d (enc a)
  same : ∀ a b, Instr.sameNow d (enc a) (enc b) = some (decide (a = b))
  bits : ∀ a, Instr.sameBits 10000 (enc a) (enc a) = true

theorem intK (k : IntKind) : KeyT (.int k) (Value.int k) where
  isKey a := by simp [MapKept.IsKey]
  same a b := by simp only [Instr.sameNow, if_true, Option.some.injEq]; rw [Bool.eq_iff_iff]; simp
  bits a := by simp [Instr.sameBits]
theorem strK : KeyT .string Value.string where
  isKey a := by simp [MapKept.IsKey]
  same a b := by simp only [Instr.sameNow, Option.some.injEq]; exact ba_beq a b
  bits a := by simp [Instr.sameBits, ba_beq]

section
variable {κ : Type}

/-- Block b is a map with these keys and values. -/
def MapL (h : Heap) (b : Nat) (enc : κ → Value) (l : List (κ × Value)) : Prop :=
  ∃ es clock, h[b]? = some (.map es clock) ∧ es.toList.map (fun e => (e.key, e.val)) = l.map (fun p => (enc p.1, p.2)) ∧ (l.map (·.1)).Nodup
theorem MapL.row {h h' : Heap} {b : Nat} {enc : κ → Value} {l : List (κ × Value)} (m : MapL h b enc l) (e : h'[b]? = h[b]?) : MapL h' b enc l :=
  let ⟨es, c, h1, h2⟩ := m; ⟨es, c, e.trans h1, h2⟩
theorem MapL.lt {h : Heap} {b : Nat} {enc : κ → Value} {l : List (κ × Value)} (m : MapL h b enc l) : b < h.size := let ⟨_, _, h1, _⟩ := m; row_lt h1
theorem MapL.nodup {h : Heap} {b : Nat} {enc : κ → Value} {l : List (κ × Value)} (m : MapL h b enc l) : (l.map (·.1)).Nodup := let ⟨_, _, _, _, h3⟩ := m; h3
theorem MapL.ext {h h' : Heap} (he : Ext h h') {b : Nat} {enc : κ → Value} {l : List (κ × Value)} (m : MapL h b enc l) : MapL h' b enc l := m.row (he.block b m.lt)
theorem MapL.fr {h h' : Heap} {S : Nat → Prop} (he : Fr S h h') {b : Nat} {enc : κ → Value} {l : List (κ × Value)} (m : MapL h b enc l) (hn : ¬ S b) : MapL h' b enc l := m.row (he.block b m.lt hn)

end

section
variable {κ : Type} [DecidableEq κ]

def lk : List (κ × Value) → κ → Option Value
  | [], _ => none
  | (b, v) :: t, a => if b = a then some v else lk t a
def fi : List (κ × Value) → κ → Option (Nat × Value)
  | [], _ => none
  | (b, v) :: t, a => if b = a then some (0, v) else (fi t a).map fun x => (x.1 + 1, x.2)
def kput : List (κ × Value) → κ → Value → List (κ × Value)
  | [], a, v => [(a, v)]
  | (b, u) :: t, a, v => if b = a then (a, v) :: t else (b, u) :: kput t a v
def kdel : List (κ × Value) → κ → List (κ × Value)
  | [], _ => []
  | (b, u) :: t, a => if b = a then t else (b, u) :: kdel t a

theorem fi_lk : ∀ (l : List (κ × Value)) (a : κ), (fi l a).map (·.2) = lk l a
  | [], _ => rfl
  | (b, v) :: t, a => by
    simp only [fi, lk]
    by_cases h : b = a
    · simp [h]
    · rw [if_neg h, if_neg h, ← fi_lk t a]; cases fi t a <;> rfl
theorem lk_kput : ∀ (l : List (κ × Value)) (a b : κ) (v : Value), lk (kput l a v) b = if b = a then some v else lk l b
  | [], a, b, v => by simp only [kput, lk, eq_comm]
  | (c, u) :: t, a, b, v => by
    simp only [kput]
    by_cases h : c = a
    · subst h
      simp only [if_true, lk]
      by_cases h2 : c = b
      · subst h2; simp
      · rw [if_neg h2, if_neg h2, if_neg (Ne.symm h2)]
    · rw [if_neg h]
      simp only [lk, lk_kput t a b v]
      by_cases h2 : c = b
      · subst h2; simp [h]
      · simp [h2]
theorem kput_keys : ∀ (l : List (κ × Value)) (a : κ) (v : Value) (x : κ), x ∈ (kput l a v).map (·.1) ↔ x = a ∨ x ∈ l.map (·.1)
  | [], a, v, x => by simp [kput]
  | (c, u) :: t, a, v, x => by
    simp only [kput]
    by_cases h : c = a
    · subst h; simp
    · rw [if_neg h]
      simp only [List.map_cons, List.mem_cons, kput_keys t a v x]
      constructor
      · rintro (h | h | h)
        · exact .inr (.inl h)
        · exact .inl h
        · exact .inr (.inr h)
      · rintro (h | h | h)
        · exact .inr (.inl h)
        · exact .inl h
        · exact .inr (.inr h)
theorem kput_nodup : ∀ (l : List (κ × Value)) (a : κ) (v : Value), (l.map (·.1)).Nodup → ((kput l a v).map (·.1)).Nodup
  | [], a, v, _ => by simp [kput]
  | (c, u) :: t, a, v, h => by
    simp only [List.map_cons, List.nodup_cons] at h
    simp only [kput]
    by_cases hc : c = a
    · subst hc; simp only [if_true, List.map_cons, List.nodup_cons]; exact h
    · rw [if_neg hc]
      simp only [List.map_cons, List.nodup_cons]
      exact ⟨fun hm => ((kput_keys t a v c).1 hm).elim hc h.1, kput_nodup t a v h.2⟩
theorem kdel_mem : ∀ (l : List (κ × Value)) (a : κ) (p : κ × Value), p ∈ kdel l a → p ∈ l
  | [], _, _, h => h
  | (c, u) :: t, a, p, h => by
    simp only [kdel] at h
    by_cases hc : c = a
    · rw [if_pos hc] at h; exact List.mem_cons_of_mem _ h
    · rw [if_neg hc] at h
      rcases List.mem_cons.1 h with h | h
      · exact h ▸ List.mem_cons_self
      · exact List.mem_cons_of_mem _ (kdel_mem t a p h)
theorem kput_mem : ∀ (l : List (κ × Value)) (a : κ) (v : Value) (p : κ × Value), p ∈ kput l a v → p = (a, v) ∨ p ∈ l
  | [], a, v, p, h => by simp [kput] at h; exact .inl h
  | (c, u) :: t, a, v, p, h => by
    simp only [kput] at h
    by_cases hc : c = a
    · rw [if_pos hc] at h
      rcases List.mem_cons.1 h with h | h
      · exact .inl h
      · exact .inr (List.mem_cons_of_mem _ h)
    · rw [if_neg hc] at h
      rcases List.mem_cons.1 h with h | h
      · exact .inr (h ▸ List.mem_cons_self)
      · exact (kput_mem t a v p h).imp id (List.mem_cons_of_mem _)
theorem kdel_nodup : ∀ (l : List (κ × Value)) (a : κ), (l.map (·.1)).Nodup → ((kdel l a).map (·.1)).Nodup
  | [], a, _ => by simp [kdel]
  | (c, u) :: t, a, h => by
    simp only [List.map_cons, List.nodup_cons] at h
    simp only [kdel]
    by_cases hc : c = a
    · rw [if_pos hc]; exact h.2
    · rw [if_neg hc]
      simp only [List.map_cons, List.nodup_cons]
      refine ⟨fun hm => ?_, kdel_nodup t a h.2⟩
      obtain ⟨p, hp, e⟩ := List.mem_map.1 hm
      exact h.1 (List.mem_map.2 ⟨p, kdel_mem t a p hp, e⟩)
theorem lk_none : ∀ (l : List (κ × Value)) (a : κ), a ∉ l.map (·.1) → lk l a = none
  | [], _, _ => rfl
  | (c, u) :: t, a, h => by
    simp only [List.map_cons, List.mem_cons, not_or] at h
    simp only [lk, if_neg (Ne.symm h.1), lk_none t a h.2]
theorem lk_mem : ∀ (l : List (κ × Value)) (a : κ) (v : Value), lk l a = some v → (a, v) ∈ l
  | [], _, _, h => by cases h
  | (c, u) :: t, a, v, h => by
    simp only [lk] at h
    by_cases hc : c = a
    · rw [if_pos hc] at h; cases h; subst hc; exact List.mem_cons_self
    · rw [if_neg hc] at h; exact List.mem_cons_of_mem _ (lk_mem t a v h)
theorem lk_kdel : ∀ (l : List (κ × Value)) (a b : κ), (l.map (·.1)).Nodup → lk (kdel l a) b = if b = a then none else lk l b
  | [], a, b, _ => by simp [kdel, lk]
  | (c, u) :: t, a, b, h => by
    simp only [List.map_cons, List.nodup_cons] at h
    simp only [kdel]
    by_cases hc : c = a
    · subst hc
      rw [if_pos rfl]
      by_cases hb : b = c
      · subst hb; rw [if_pos rfl]; exact lk_none t b h.1
      · rw [if_neg hb]; simp only [lk, if_neg (Ne.symm hb)]
    · rw [if_neg hc]
      simp only [lk, lk_kdel t a b h.2]
      by_cases hb : c = b
      · subst hb; simp [hc]
      · simp [hb]

variable {d : TypeDesc} {enc : κ → Value}

theorem find_now (k : KeyT d enc) (a : κ) : ∀ (es : List MapEntry) (l : List (κ × Value)) (i : Nat), es.map (fun e => (e.key, e.val)) = l.map (fun p => (enc p.1, p.2)) →
    Instr.findNow d (enc a) es i = some ((fi l a).map fun x => (x.1 + i, x.2))
  | [], [], _, _ => rfl
  | [], _ :: _, _, h => by simp at h
  | _ :: _, [], _, h => by simp at h
  | e :: es, (b, v) :: l, i, h => by
    simp only [List.map_cons, List.cons.injEq, Prod.mk.injEq] at h
    obtain ⟨⟨h1, h2⟩, h3⟩ := h
    simp only [Instr.findNow, h1, k.same, fi]
    by_cases hb : a = b
    · subst hb; simp [h2]
    · rw [if_neg (Ne.symm hb)]
      simp only [hb, decide_false]
      rw [find_now k a es l (i + 1) h3]
      cases fi l a with
      | none => rfl
      | some x => simp; omega

theorem fi_at (enc : κ → Value) (a : κ) : ∀ (es : List MapEntry) (l : List (κ × Value)) (j : Nat) (v : Value), es.map (fun e => (e.key, e.val)) = l.map (fun p => (enc p.1, p.2)) → fi l a = some (j, v) →
    ∃ e, es[j]? = some e ∧ e.key = enc a ∧ e.val = v ∧ (∀ u, (es.modify j fun e => { e with key := enc a, val := u }).map (fun e => (e.key, e.val)) = (kput l a u).map (fun p => (enc p.1, p.2))) ∧
      (es.eraseIdx j).map (fun e => (e.key, e.val)) = (kdel l a).map (fun p => (enc p.1, p.2))
  | [], [], _, _, _, hf => by cases hf
  | [], _ :: _, _, _, h, _ => by simp at h
  | _ :: _, [], _, _, h, _ => by simp at h
  | e :: es, (b, u) :: l, j, v, h, hf => by
    simp only [List.map_cons, List.cons.injEq, Prod.mk.injEq] at h
    obtain ⟨⟨h1, h2⟩, h3⟩ := h
    simp only [fi] at hf
    by_cases hb : b = a
    · subst hb
      rw [if_pos rfl] at hf
      cases hf
      exact ⟨e, rfl, h1, h2, fun w => by simp [kput, h3], by simp [kdel, h3]⟩
    · rw [if_neg hb] at hf
      cases hq : fi l a with
      | none => rw [hq] at hf; cases hf
      | some x =>
        obtain ⟨j', v'⟩ := x
        rw [hq] at hf
        cases hf
        obtain ⟨e', k1, k2, k3, k4, k5⟩ := fi_at enc a es l j' _ h3 hq
        refine ⟨e', by simpa using k1, k2, k3, fun w => ?_, ?_⟩
        · simp only [kput, if_neg hb, List.modify_succ_cons, List.map_cons, h1, h2, k4 w]
        · simp only [kdel, if_neg hb, List.eraseIdx_cons_succ, List.map_cons, h1, h2, k5]
theorem fi_none (a : κ) : ∀ (l : List (κ × Value)), fi l a = none → a ∉ l.map (·.1) ∧ (∀ v, kput l a v = l ++ [(a, v)]) ∧ kdel l a = l
  | [], _ => by simp [kput, kdel]
  | (b, u) :: l, h => by
    simp only [fi] at h
    by_cases hb : b = a
    · rw [if_pos hb] at h; cases h
    · rw [if_neg hb] at h
      have hn : fi l a = none := by cases hq : fi l a <;> rw [hq] at h <;> first | rfl | cases h
      obtain ⟨h1, h2, h3⟩ := fi_none a l hn
      exact ⟨by simp only [List.map_cons, List.mem_cons, not_or]; exact ⟨Ne.symm hb, h1⟩, fun v => by simp [kput, hb, h2], by simp [kdel, hb, h3]⟩

section ops
variable {P : Program} {ρ : Regs} {h : Heap} {dd : Option Nat} {ty : TypeId} {p : String} {af : Array Edge} {g : Option (Nat × Bool)}

theorem hg_set {b : Nat} {o o' : Obj} (hb : h[b]? = some o) (hn : o ≠ .deferred (some [])) : HG h (h.setIfInBounds b o') := by
  refine ⟨by simp, fun i hi => ?_⟩
  by_cases e : b = i
  · subst e; rw [hb] at hi; cases hi; exact absurd rfl hn
  · rw [Array.getElem?_setIfInBounds_ne e]; exact hi
theorem only_set {b : Nat} {o : Obj} : Only b h (h.setIfInBounds b o) := ⟨by simp, fun i hi => Array.getElem?_setIfInBounds_ne (Ne.symm hi)⟩

theorem run_look (k : KeyT d enc) {mt kt et : TypeId} {l : List (κ × Value)} {b : Nat} {z : Value} (hm : P.underlying mt = some (.map kt et)) (hd : P.underlying kt = some d) (hz : zeroB P et z) (ml : MapL h b enc l) (a : κ) (ok : Bool) (w : World) (hw : w.heap = h) :
    (Instr.lookup mt (.map (some b)) (enc a) ok).run P w = .ok (if ok then .tuple #[(lk l a).getD z, .bool (lk l a).isSome] else (lk l a).getD z) w := by
  subst hw
  obtain ⟨es, c, h1, h2, h3⟩ := ml
  have hf := find_now k a es.toList l 0 h2
  simp only [Instr.lookup, Sem.run_bind, run_underlying hm, Result.andThen_ok, MapKept.run_getObj_map h1, Sem.run_pure]
  rw [show (10000 : Nat) = 9999 + 1 from rfl, MapKept.run_checkKey hd (k.isKey a)]
  simp only [Result.andThen_ok, MapKept.run_findKey hd hf, ← fi_lk l a]
  cases hq : fi l a with
  | none => simp only [Option.map_none, Sem.run_bind, run_zero hz, Result.andThen_ok, Sem.run_pure]; cases ok <;> rfl
  | some x => simp only [Option.map_some]; cases ok <;> rfl

theorem run_look_nil (k : KeyT d enc) {mt kt et : TypeId} {z : Value} (hm : P.underlying mt = some (.map kt et)) (hd : P.underlying kt = some d) (hz : zeroB P et z) (a : κ) (ok : Bool) (w : World) :
    (Instr.lookup mt (.map none) (enc a) ok).run P w = .ok (if ok then .tuple #[z, .bool false] else z) w := by
  have hf : Instr.findNow d (enc a) [] 0 = some none := rfl
  simp only [Instr.lookup, Sem.run_bind, run_underlying hm, Result.andThen_ok, Sem.run_pure]
  rw [show (10000 : Nat) = 9999 + 1 from rfl, MapKept.run_checkKey hd (k.isKey a)]
  simp only [Result.andThen_ok]
  rw [MapKept.run_findKey hd hf]
  simp only [Result.andThen_ok, Sem.run_bind, run_zero hz, Sem.run_pure]

theorem hv_look (k : KeyT d enc) {mt kt et : TypeId} {l : List (κ × Value)} {b : Nat} {z v : Value} {x y : Operand} {a : κ} (hm : P.underlying mt = some (.map kt et)) (hd : P.underlying kt = some d) (hz : zeroB P et z) (hx : ev ρ x = .map (some b)) (hy : ev ρ y = enc a)
    (ml : MapL h b enc l) (hv : (lk l a).getD z = v) : HVal P ρ ⟨dd, .lookup mt x y false, ty, p, af, g⟩ h v :=
  hv_of fun w hw => by simp only [execOp, hx, hy, Sem.run_bind, run_look k hm hd hz ml a false w hw, Result.andThen_ok, Sem.run_pure, Bool.false_eq_true, if_false, hv]
theorem hv_look2 (k : KeyT d enc) {mt kt et : TypeId} {l : List (κ × Value)} {b : Nat} {z v : Value} {x y : Operand} {a : κ} (hm : P.underlying mt = some (.map kt et)) (hd : P.underlying kt = some d) (hz : zeroB P et z) (hx : ev ρ x = .map (some b)) (hy : ev ρ y = enc a)
    (ml : MapL h b enc l) (hv : (lk l a).getD z = v) : HVal P ρ ⟨dd, .lookup mt x y true, ty, p, af, g⟩ h (.tuple #[v, .bool (lk l a).isSome]) :=
  hv_of fun w hw => by simp only [execOp, hx, hy, Sem.run_bind, run_look k hm hd hz ml a true w hw, Result.andThen_ok, Sem.run_pure, if_true, hv]

theorem hn_mapPut (k : KeyT d enc) {mt kt et : TypeId} {l : List (κ × Value)} {b : Nat} {v : Value} {x y z : Operand} {a : κ} {K : Value → Heap → Prop} (hm : P.underlying mt = some (.map kt et)) (hd : P.underlying kt = some d) (hx : ev ρ x = .map (some b)) (hy : ev ρ y = enc a) (hz : ev ρ z = v)
    (ml : MapL h b enc l) (hk : ∀ h', Only b h h' → MapL h' b enc (kput l a v) → K undef h') : HStep P ρ ⟨dd, .mapUpdate mt x y z, ty, p, af, g⟩ h K := by
  obtain ⟨es, c, h1, h2, h3⟩ := ml
  have hf := find_now k a es.toList l 0 h2
  cases hq : fi l a with
  | none =>
    obtain ⟨g1, g2, g3⟩ := fi_none a l hq
    refine hs_skip_of (h' := h.setIfInBounds b (.map (es.push { key := enc a, val := v, born := c }) (c + 1))) (fun w hw => ?_) (hk _ only_set ⟨_, _, set_same h1, ?_, kput_nodup l a v h3⟩) (hg_set h1 (by simp))
    · subst hw
      rw [hq] at hf
      simp only [execOp, hx, hy, hz, Instr.mapUpdate, Sem.run_bind, run_underlying hm, Result.andThen_ok, MapKept.run_getObj_map h1]
      rw [show (10000 : Nat) = 9999 + 1 from rfl, MapKept.run_checkKey hd (k.isKey a)]
      simp only [Result.andThen_ok, MapKept.run_findKey hd hf, Option.map_none, MapKept.run_setObj_map _ h1, Sem.run_pure]
    · rw [g2]; simp [h2]
  | some q =>
    obtain ⟨j, u⟩ := q
    obtain ⟨e, e1, e2, e3, e4, e5⟩ := fi_at enc a es.toList l j u h2 hq
    refine hs_skip_of (h' := h.setIfInBounds b (.map (es.modify j fun e => { e with key := enc a, val := v }) c)) (fun w hw => ?_) (hk _ only_set ⟨_, _, set_same h1, ?_, kput_nodup l a v h3⟩) (hg_set h1 (by simp))
    · subst hw
      rw [hq] at hf
      have e1' : es[j]? = some e := by simpa using e1
      have hb : Instr.sameBits 10000 (enc a) (enc a) = true := k.bits a
      simp only [execOp, hx, hy, hz, Instr.mapUpdate, Sem.run_bind, run_underlying hm, Result.andThen_ok, MapKept.run_getObj_map h1]
      rw [MapKept.run_checkKey (n := 9999) hd (k.isKey a)]
      simp only [Result.andThen_ok, MapKept.run_findKey hd hf, Option.map_some, Nat.add_zero, e1', Option.getD_some, e2, Instr.keyThatStays, hb, if_true, Sem.run_pure, Sem.run_bind, MapKept.run_setObj_map _ h1]
    · rw [Array.toList_modify]; exact e4 v

theorem hn_mapIns (k : KeyT d enc) {mt kt et : TypeId} {l : List (κ × Value)} {b : Nat} {v : Value} {x y z : Operand} {a : κ} {K : Value → Heap → Prop} (hm : P.underlying mt = some (.map kt et)) (hd : P.underlying kt = some d) (hx : ev ρ x = .map (some b)) (hy : ev ρ y = enc a) (hz : ev ρ z = v)
    (ml : MapL h b enc l) (hk : ∀ h', Only b h h' → MapL h' b enc (kput l a v) → K undef h') : HStep P ρ ⟨dd, .insert mt x y z, ty, p, af, g⟩ h K :=
  show HStep P ρ ⟨dd, .mapUpdate mt x y z, ty, p, af, g⟩ h K from hn_mapPut k hm hd hx hy hz ml hk

theorem hn_mapDel (k : KeyT d enc) {mt kt et : TypeId} {l : List (κ × Value)} {b : Nat} {x y : Operand} {ts : Array TypeId} {a : κ} {K : Value → Heap → Prop} (hm : P.underlying mt = some (.map kt et)) (hd : P.underlying kt = some d) (ht : ts[0]? = some mt) (hx : ev ρ x = .map (some b)) (hy : ev ρ y = enc a)
    (ml : MapL h b enc l) (hk : ∀ h', Only b h h' → MapL h' b enc (kdel l a) → K (.tuple #[]) h') : HStep P ρ ⟨dd, .call ⟨.builtin .delete, #[x, y], ts⟩, ty, p, af, g⟩ h K := by
  obtain ⟨es, c, h1, h2, h3⟩ := ml
  have hf := find_now k a es.toList l 0 h2
  have ht' : ts[0]? = some mt := ht
  cases hq : fi l a with
  | none =>
    obtain ⟨g1, g2, g3⟩ := fi_none a l hq
    refine hs_of (h' := h.setIfInBounds b (.map es c)) (fun w hw => ?_) (hk _ only_set ⟨_, _, set_same h1, by rw [g3]; exact h2, kdel_nodup l a h3⟩) (hg_set h1 (by simp))
    subst hw
    rw [hq] at hf
    have e : (Builtin.delete_ ts ty #[.map (some b), enc a]).run P w = .ok (.tuple #[]) { w with heap := w.heap.setIfInBounds b (.map es c) } := by
      simp only [Builtin.delete_, ht', List.getElem?_toArray, List.getElem?_cons_zero, List.getElem?_cons_succ, Sem.run_bind, run_underlying hm, Result.andThen_ok, MapKept.run_getObj_map h1]
      rw [MapKept.run_checkKey (n := 9999) hd (k.isKey a)]
      simp only [Result.andThen_ok, MapKept.run_findKey hd hf, Option.map_none, Sem.run_bind, MapKept.run_setObj_map _ h1, Sem.run_pure]
    simp [hx, hy, go_sem, e]
  | some q =>
    obtain ⟨j, u⟩ := q
    obtain ⟨e, e1, e2, e3, e4, e5⟩ := fi_at enc a es.toList l j u h2 hq
    refine hs_of (h' := h.setIfInBounds b (.map (es.eraseIdxIfInBounds j) c)) (fun w hw => ?_) (hk _ only_set ⟨_, _, set_same h1, ?_, kdel_nodup l a h3⟩) (hg_set h1 (by simp))
    · subst hw
      rw [hq] at hf
      have e : (Builtin.delete_ ts ty #[.map (some b), enc a]).run P w = .ok (.tuple #[]) { w with heap := w.heap.setIfInBounds b (.map (es.eraseIdxIfInBounds j) c) } := by
        simp only [Builtin.delete_, ht', List.getElem?_toArray, List.getElem?_cons_zero, List.getElem?_cons_succ, Sem.run_bind, run_underlying hm, Result.andThen_ok, MapKept.run_getObj_map h1]
        rw [MapKept.run_checkKey (n := 9999) hd (k.isKey a)]
        simp only [Result.andThen_ok, MapKept.run_findKey hd hf, Option.map_some, Nat.add_zero, Sem.run_bind, MapKept.run_setObj_map _ h1, Sem.run_pure]
      simp [hx, hy, go_sem, e]
    · have : (es.eraseIdxIfInBounds j).toList = es.toList.eraseIdx j := by simp
      rw [this]; exact e5
end ops
end

theorem hn_makeMap {κ : Type} {enc : κ → Value} {P : Program} {ρ : Regs} {h : Heap} {dd : Option Nat} {ty : TypeId} {p : String} {af : Array Edge} {g : Option (Nat × Bool)} {t : TypeId} {K : Value → Heap → Prop} (hk : ∀ b h', b = h.size → Ext h h' → h'.size = h.size + 1 → MapL h' b enc [] → K (.map (some b)) h') : HStep P ρ ⟨dd, .makeMap t none, ty, p, af, g⟩ h K :=
  hs_of (v := .map (some h.size)) (h' := h.push (.map #[] 0)) (fun w hw => by subst hw; simp [execOp, Instr.makeMap, go_sem]) (hk _ _ rfl (Ext.push _ _) (by simp) ⟨#[], 0, push_new rfl, rfl, by simp⟩)

/-! ### clear, bytes of a text -/
section
variable {P : Program} {ρ : Regs} {h : Heap} {dd : Option Nat} {ty : TypeId} {p : String} {af : Array Edge} {g : Option (Nat × Bool)}

theorem hn_clear {t e : TypeId} {x : Operand} {ts : Array TypeId} {a : Option Addr} {n c : Nat} {z : Value} {zs : List Value} {K : Value → Heap → Prop} (hu : P.underlying t = some (.slice e)) (hz : zeroB P e z) (hzc : z.cells = zs.toArray) (hone : zs.all oneC = true) (ht : ts[0]? = some t) (hx : ev ρ x = .slice a n c)
    (h0 : n = 0 → K (.tuple #[]) h) (h1 : n ≠ 0 → ∃ b o, a = some ⟨b, o, none⟩ ∧ HWs h b o (n * zs.length) ∧ ∀ h', h' = hsets h b o (zcells zs n) → K (.tuple #[]) h') : HStep P ρ ⟨dd, .call ⟨.builtin .clear, #[x], ts⟩, ty, p, af, g⟩ h K := by
  by_cases hn : n = 0
  · subst hn
    intro w hw
    have e : (Builtin.clear_ ts ty #[.slice a 0 c]).run P w = .ok (.tuple #[]) w := by
      cases a <;> simp [Builtin.clear_, ht, run_underlying hu]
    have e2 : (execOp (ev ρ) ⟨dd, .call ⟨.builtin .clear, #[x], ts⟩, ty, p, af, g⟩).run P w = .ok (.value (.tuple #[])) w := by simp [hx, go_sem, e]
    rw [e2]
    exact ⟨Sim.refl _, by rw [hw]; exact h0 rfl⟩
  · obtain ⟨b, o, rfl, hW, hk⟩ := h1 hn
    refine hs_of (h' := hsets h b o (zcells zs n)) (fun w hw => ?_) (hk _ rfl) (HG.hsets _ _ _ _)
    subst hw
    have hone' : ∀ v ∈ zcells zs n, oneC v = true := by
      intro v hv
      unfold zcells at hv
      obtain ⟨l, hl, hv⟩ := List.mem_flatten.1 hv
      rw [(List.mem_replicate.1 hl).2] at hv
      exact List.all_eq_true.1 hone v hv
    have hst := run_storeCells (P := P) (b := b) (o := o) (zcells zs n) 0 w hone' (fun j hj => by rw [zcells_length] at hj; exact hW j hj)
    have hzz : (Builtin.zeroCells z.cells n).toList = zcells zs n := by
      unfold Builtin.zeroCells
      rw [hzc]
      have := zcells_range zs n
      simp only [List.size_toArray] at this ⊢
      rw [this]
    have e : (Builtin.clear_ ts ty #[.slice (some ⟨b, o, none⟩) n c]).run P w = .ok (.tuple #[]) { w with heap := hsets w.heap b o (zcells zs n) } := by
      obtain ⟨n', rfl⟩ : ∃ n', n = n' + 1 := ⟨n - 1, by omega⟩
      simp only [Builtin.clear_, ht, List.getElem?_toArray, List.getElem?_cons_zero, Sem.run_bind, run_underlying hu, Result.andThen_ok, run_zero hz, hzz, hst, Sem.run_pure, Nat.add_zero]
    simp [hx, go_sem, e]

theorem hn_clear2 {t e : TypeId} {x : Operand} {ts : Array TypeId} {a : Option Addr} {n c : Nat} {z : Value} {zs : List Value} {K : Value → Heap → Prop} (hu : P.underlying t = some (.slice e)) (hz : zeroB P e z) (hzc : z.cells = zs.toArray) (hone : zs.all oneC = true) (ht : ts[0]? = some t) (hx : ev ρ x = .slice a n c)
    (hw : n ≠ 0 → ∃ b o : Nat, a = some ⟨b, o, none⟩ ∧ HWs h b o (n * zs.length)) (hk : ∀ h2, (n = 0 → h2 = h) → (∀ b o : Nat, n ≠ 0 → a = some ⟨b, o, none⟩ → h2 = hsets h b o (zcells zs n)) → K (.tuple #[]) h2) : HStep P ρ ⟨dd, .call ⟨.builtin .clear, #[x], ts⟩, ty, p, af, g⟩ h K :=
  hn_clear hu hz hzc hone ht hx (fun e => hk h (fun _ => rfl) (fun _ _ n _ => absurd e n)) fun n => by
    obtain ⟨b, o, e1, e2⟩ := hw n
    exact ⟨b, o, e1, e2, fun h' e3 => hk h' (fun e => absurd e n) (fun b' o' _ e4 => by rw [e1] at e4; cases e4; exact e3)⟩

/-- A slice with three indexes. -/
theorem hv_slice3 {t e : TypeId} {x y z u : Operand} {size n c : Nat} {a q : Option Addr} {k1 k2 k3 : IntKind} {l r mx : Int} (hu : P.underlying t = some (.slice e)) (hz : szB P e = some size) (hx : ev ρ x = .slice a n c)
    (hl : ev ρ y = .int k1 l) (hr : ev ρ z = .int k2 r) (hm : ev ρ u = .int k3 mx) (h0 : 0 ≤ l) (h1 : l ≤ r) (h2 : r ≤ mx) (h3 : mx ≤ c) (hq : q = slA a l.toNat size mx.toNat) :
    HVal P ρ ⟨dd, .slice t x (some y) (some z) (some u), ty, p, af, g⟩ h (.slice q (r.toNat - l.toNat) (mx.toNat - l.toNat)) :=
  hv_of fun w _ => by
    have hm0 : 0 ≤ mx := by omega
    have hr0 : 0 ≤ r := by omega
    have g1 : (Instr.sliceBound (.int k3 mx) c .slice3Acap).run P w = .ok mx.toNat w := by
      simp [Instr.sliceBound, asIntOf, hm0, h3]
    have g2 : (Instr.sliceBound (.int k2 r) mx.toNat .slice3B).run P w = .ok r.toNat w := by
      have : r ≤ (mx.toNat : Int) := by omega
      simp only [Instr.sliceBound, asIntOf, Sem.run_bind, Sem.run_pure, Result.andThen_ok, hr0, this, and_self, if_true]
    have g3 : (Instr.sliceBound (.int k1 l) r.toNat .slice3C).run P w = .ok l.toNat w := by
      have : l ≤ (r.toNat : Int) := by omega
      simp only [Instr.sliceBound, asIntOf, Sem.run_bind, Sem.run_pure, Result.andThen_ok, h0, this, and_self, if_true]
    have hb : (Instr.sliceBounds true n c (some (.int k1 l)) (some (.int k2 r)) (some (.int k3 mx))).run P w = .ok (l.toNat, r.toNat, mx.toNat) w := by
      simp only [Instr.sliceBounds, Sem.run_bind, if_true, g1, Result.andThen_ok, g2, Option.isSome_some, g3, Sem.run_pure]
    subst hq
    simp only [execOp, Instr.sliceAt, Sem.run_bind, run_underlying hu, Result.andThen_ok, Instr.slice, hx, Option.map_some, hl, hr, hm, hb, run_sizeOf hz, slA]
    simp [go_sem]

theorem hv_indexStr {t : TypeId} {x y : Operand} {s : ByteArray} {k : IntKind} {i : Int} {u : UInt8} (hu : P.underlying t = some .string) (hx : ev ρ x = .string s) (hy : ev ρ y = .int k i) (h0 : 0 ≤ i) (hs : s[i.toNat]? = some u) :
    HVal P ρ ⟨dd, .index t x y, ty, p, af, g⟩ h (.int .u8 u.toNat) :=
  hv_of fun w _ => by
    simp [execOp, hx, hy, Instr.index, asIntOf, go_sem, run_underlying hu, h0, hs]
end
end Go.Proofs.YthjehlocmikchaaDoor
