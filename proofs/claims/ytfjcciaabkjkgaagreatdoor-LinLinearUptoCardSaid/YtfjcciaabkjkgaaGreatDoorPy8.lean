import Derived.Maps.RangeRun
import Derived.Test.YtfjcciaabkjkgaaGreatDoorProg
import Derived.Test.YtfjcciaabkjkgaaGreatDoorPy1
import Derived.Test.YtfjcciaabkjkgaaGreatDoorPy3
import Derived.Test.YtfjcciaabkjkgaaGreatDoorPy4
import Derived.Test.YtfjcciaabkjkgaaGreatDoorPy5
import Derived.Test.YtfjcciaabkjkgaaGreatDoorPy6
import Derived.Test.YtfjcciaabkjkgaaGreatDoorPy7
namespace Go.Proofs.YtfjcciaabkjkgaaGreatDoor
namespace Ml
open Go
def dfn (m : Mv) : Option Mt :=
  if m.kind = 1 then (if hits m = true then some ⟨true, m.val⟩ else none)
  else if m.kind = 2 then (if fate m = 1 then some ⟨true, m.val⟩ else if fate m = 2 then some nil else none)
  else if m.kind = 3 then (if fate m = 1 then some nil else none)
  else none
def ctr (m : Mv) (x : Mt) : Prop := (m.kind = 2 ∧ fate m = 3 ∧ (x = ⟨true, m.val⟩ ∨ x = nil)) ∨ (m.kind = 3 ∧ fate m = 3 ∧ x = nil)
theorem next_none_nil {m : Mv} : next [] m = [] := by
  cases h : next [] m with
  | nil => rfl
  | cons y t =>
    have : y ∈ next [] m := by rw [h]; exact List.mem_cons_self
    obtain ⟨w, hw, _⟩ := (next_mem _ _ _).1 this
    cases hw
theorem next_dfn {s : List Mt} {m : Mv} {y : Mt} (h : dfn m = some y) (hne : next s m ≠ []) (x : Mt) : x ∈ next s m ↔ x = y := by
  have hs : s ≠ [] := fun e => hne (by rw [e]; exact next_none_nil)
  have hone : (∀ w ∈ s, outs m w = [y]) → (x ∈ next s m ↔ x = y) := fun ho => by
    rw [next_mem]
    constructor
    · rintro ⟨w, hw, hx⟩
      rw [ho w hw] at hx; simpa using hx
    · rintro rfl
      obtain ⟨w, hw⟩ := List.exists_mem_of_ne_nil s hs
      exact ⟨w, hw, by rw [ho w hw]; simp⟩
  unfold dfn at h
  split at h
  · next k1 =>
    split at h
    · next hh =>
      cases h
      have ho : ∀ w, outs m w = if w.has = false ∨ w.val ≠ m.val then [] else [w] := fun w => by
        unfold outs; rw [if_pos k1]
        by_cases q : w.has = false ∨ w.val ≠ m.val
        · rw [if_pos ⟨hh, q⟩, if_pos q]
        · rw [if_neg (fun r => q r.2), if_neg q]
      have key : ∀ z, z ∈ next s m → z = ⟨true, m.val⟩ := fun z hz => by
        obtain ⟨w, hw, hx⟩ := (next_mem _ _ _).1 hz
        rw [ho w] at hx
        split at hx
        · cases hx
        · next q =>
          have : z = w := by simpa using hx
          subst this
          obtain ⟨a, b⟩ := z
          simp only [not_or, Bool.not_eq_false, Decidable.not_not] at q
          obtain ⟨q1, q2⟩ := q
          rw [q1, q2]
      refine ⟨key x, fun e => ?_⟩
      obtain ⟨z, hz⟩ := List.exists_mem_of_ne_nil _ hne
      rw [e, ← key z hz]; exact hz
    · cases h
  · next k1 =>
    split at h
    · next k2 =>
      split at h
      · next f1 =>
        cases h
        exact hone fun w _ => by unfold outs putF; rw [if_neg k1, if_pos k2, if_pos f1]
      · next f1 =>
        split at h
        · next f2 =>
          cases h
          exact hone fun w _ => by unfold outs putF; rw [if_neg k1, if_pos k2, if_neg f1, if_pos f2]
        · cases h
    · next k2 =>
      split at h
      · next k3 =>
        split at h
        · next f1 =>
          cases h
          exact hone fun w _ => by unfold outs delF; rw [if_neg k1, if_neg k2, if_pos k3, if_pos f1]
        · cases h
      · cases h
theorem next_ctr {s : List Mt} {m : Mv} (h : dfn m = none) (hs : s ≠ []) (x : Mt) : x ∈ next s m ↔ x ∈ s ∨ ctr m x := by
  have hsame : (∀ w ∈ s, outs m w = [w]) → ¬ ctr m x → (x ∈ next s m ↔ x ∈ s ∨ ctr m x) := fun ho hn => by
    rw [next_mem]
    constructor
    · rintro ⟨w, hw, hx⟩
      rw [ho w hw] at hx
      have : x = w := by simpa using hx
      rw [this]; exact .inl hw
    · rintro (q | q)
      · exact ⟨x, q, by rw [ho x q]; simp⟩
      · exact absurd q hn
  obtain ⟨w0, hw0⟩ := List.exists_mem_of_ne_nil s hs
  unfold dfn at h
  split at h
  · next k1 =>
    split at h
    · cases h
    · next hh =>
      refine hsame (fun w _ => ?_) fun q => ?_
      · unfold outs; rw [if_pos k1, if_neg (fun r => hh r.1)]
      · unfold ctr at q; omega
  · next k1 =>
    split at h
    · next k2 =>
      split at h
      · cases h
      · next f1 =>
        split at h
        · cases h
        · next f2 =>
          by_cases f3 : fate m = 3
          · have ho : ∀ w, outs m w = [⟨true, m.val⟩, nil, w] := fun w => by unfold outs putF; rw [if_neg k1, if_pos k2, if_neg f1, if_neg f2, if_pos f3]
            rw [next_mem]
            constructor
            · rintro ⟨w, hw, hx⟩
              rw [ho w] at hx
              simp only [List.mem_cons, List.not_mem_nil, or_false] at hx
              rcases hx with e | e | e
              · exact .inr (.inl ⟨k2, f3, .inl e⟩)
              · exact .inr (.inl ⟨k2, f3, .inr e⟩)
              · rw [e]; exact .inl hw
            · rintro (q | q)
              · exact ⟨x, q, by rw [ho x]; simp⟩
              · rcases q with ⟨_, _, q⟩ | ⟨q, _⟩
                · refine ⟨w0, hw0, ?_⟩
                  rw [ho w0]
                  rcases q with q | q <;> rw [q] <;> simp
                · omega
          · refine hsame (fun w _ => ?_) fun q => ?_
            · unfold outs putF; rw [if_neg k1, if_pos k2, if_neg f1, if_neg f2, if_neg f3]
            · unfold ctr at q; omega
    · next k2 =>
      split at h
      · next k3 =>
        split at h
        · cases h
        · next f1 =>
          by_cases f3 : fate m = 3
          · have ho : ∀ w, outs m w = [nil, w] := fun w => by unfold outs delF; rw [if_neg k1, if_neg k2, if_pos k3, if_neg f1, if_pos f3]
            rw [next_mem]
            constructor
            · rintro ⟨w, hw, hx⟩
              rw [ho w] at hx
              simp only [List.mem_cons, List.not_mem_nil, or_false] at hx
              rcases hx with e | e
              · exact .inr (.inr ⟨k3, f3, e⟩)
              · rw [e]; exact .inl hw
            · rintro (q | q)
              · exact ⟨x, q, by rw [ho x]; simp⟩
              · rcases q with ⟨q, _⟩ | ⟨_, _, q⟩
                · omega
                · exact ⟨w0, hw0, by rw [ho w0, q]; simp⟩
          · refine hsame (fun w _ => ?_) fun q => ?_
            · unfold outs delF; rw [if_neg k1, if_neg k2, if_pos k3, if_neg f1, if_neg f3]
            · unfold ctr at q; omega
      · next k3 =>
        refine hsame (fun w _ => ?_) fun q => ?_
        · unfold outs; rw [if_neg k1, if_neg k2, if_neg k3]
        · unfold ctr at q; omega
structure Lab (l : List Mv) (keys : List Str) (order : List Nat) (lam : Nat → Nat) (SS : List (List Mt)) : Prop where
  le : ∀ i, lam i ≤ 2
  dn : ∀ i, lam i ≠ 0 ↔ i ∈ order
  ne : ∀ k, famK keys SS k ≠ []
  mem : ∀ k x, x ∈ famK keys SS k ↔ (∃ i, lam i = 2 ∧ keyed (mv l i) = true ∧ (mv l i).key = k ∧ (dfn (mv l i) = some x ∨ (dfn (mv l i) = none ∧ ctr (mv l i) x))) ∨ (x = nil ∧ ∀ i, lam i = 2 → keyed (mv l i) = true → (mv l i).key = k → dfn (mv l i) = none)
section
variable {l : List Mv} {keys : List Str} {order : List Nat} {lam : Nat → Nat} {SS : List (List Mt)}
theorem Lab.start (h : famK keys SS = stX) : Lab l keys [] (fun _ => 0) SS := by
  refine ⟨fun _ => Nat.zero_le _, fun i => by simp, fun k => by rw [h]; exact stX_ne k, fun k x => ?_⟩
  rw [h]
  constructor
  · intro q
    exact .inr ⟨by simpa [stX, Ml.start] using q, fun i hi => by cases hi⟩
  · rintro (⟨i, hi, _⟩ | ⟨q, _⟩)
    · cases hi
    · rw [q]; simp [stX, Ml.start]
theorem Lab.step (L : Lab l keys order lam SS) {k : Nat} (hk : k ∉ order) (hl : SS.length = keys.length) (hin : keyed (mv l k) = true → (mv l k).key ∈ keys) (hv : Lv (famK keys SS) (mv l k)) : ∃ lam', Lab l keys (order ++ [k]) lam' (wth keys SS (mv l k)) := by
  have ef := famK_wth (SS := SS) hl hin
  have hk0 : lam k = 0 := Classical.byContradiction fun q => hk ((L.dn k).1 q)
  have dn' : ∀ (lam' : Nat → Nat), lam' k ≠ 0 → (∀ i, i ≠ k → (lam' i ≠ 0 ↔ lam i ≠ 0)) → ∀ i, lam' i ≠ 0 ↔ i ∈ order ++ [k] := fun lam' h1 h2 i => by
    rw [List.mem_append, List.mem_singleton]
    by_cases e : i = k
    · subst e; exact ⟨fun _ => .inr rfl, fun _ => h1⟩
    · rw [h2 i e, L.dn i]; simp [e]
  by_cases hkd : keyed (mv l k) = true
  · have hne := hv hkd
    have ne' : ∀ κ, famK keys (wth keys SS (mv l k)) κ ≠ [] := fun κ => by
      rw [ef]
      by_cases e : keyed (mv l k) = true ∧ (mv l k).key = κ
      · rw [← e.2, upd_own hkd]; exact hne
      · rw [upd_other e]; exact L.ne κ
    cases hd : dfn (mv l k) with
    | some y =>
      refine ⟨fun i => if i = k then 2 else if lam i = 2 ∧ keyed (mv l i) = true ∧ (mv l i).key = (mv l k).key then 1 else lam i, fun i => ?_, dn' _ (by simp) fun i hi => ?_, ne', fun κ x => ?_⟩
      · have := L.le i
        split
        · omega
        · split <;> omega
      · simp only [if_neg hi]
        split
        · next q => rw [q.1]; simp
        · exact Iff.rfl
      · rw [ef]
        by_cases e : (mv l k).key = κ
        · subst e
          rw [upd_own hkd, next_dfn hd hne]
          constructor
          · rintro rfl
            exact .inl ⟨k, by simp, hkd, rfl, .inl hd⟩
          · rintro (⟨i, h1, h2, h3, h4⟩ | ⟨_, h2⟩)
            · by_cases ei : i = k
              · subst ei
                rcases h4 with h4 | h4
                · rw [hd] at h4; exact (Option.some.inj h4).symm
                · rw [hd] at h4; cases h4.1
              · simp only [if_neg ei] at h1
                split at h1
                · cases h1
                · next q => exact absurd ⟨h1, h2, h3⟩ q
            · have := h2 k (by simp) hkd rfl
              rw [hd] at this; cases this
        · rw [upd_other (fun q => e q.2), L.mem κ x]
          have two : ∀ i, (mv l i).key = κ → ((if i = k then 2 else if lam i = 2 ∧ keyed (mv l i) = true ∧ (mv l i).key = (mv l k).key then 1 else lam i) = 2 ↔ lam i = 2) := fun i hi => by
            have hik : i ≠ k := fun q => e (by rw [← q]; exact hi)
            rw [if_neg hik, if_neg (fun q => e (by rw [← q.2.2]; exact hi))]
          constructor
          · rintro (⟨i, h1, h2, h3, h4⟩ | ⟨h1, h2⟩)
            · exact .inl ⟨i, (two i h3).2 h1, h2, h3, h4⟩
            · exact .inr ⟨h1, fun i a b c => h2 i ((two i c).1 a) b c⟩
          · rintro (⟨i, h1, h2, h3, h4⟩ | ⟨h1, h2⟩)
            · exact .inl ⟨i, (two i h3).1 h1, h2, h3, h4⟩
            · exact .inr ⟨h1, fun i a b c => h2 i ((two i c).2 a) b c⟩
    | none =>
      refine ⟨fun i => if i = k then 2 else lam i, fun i => ?_, dn' _ (by simp) fun i hi => by simp [hi], ne', fun κ x => ?_⟩
      · have := L.le i
        split <;> omega
      · rw [ef]
        by_cases e : (mv l k).key = κ
        · subst e
          rw [upd_own hkd, next_ctr hd (L.ne _), L.mem]
          constructor
          · rintro ((⟨i, h1, h2, h3, h4⟩ | ⟨h1, h2⟩) | h)
            · exact .inl ⟨i, by simp [h1], h2, h3, h4⟩
            · refine .inr ⟨h1, fun i a b c => ?_⟩
              by_cases ei : i = k
              · rw [ei]; exact hd
              · simp only [if_neg ei] at a; exact h2 i a b c
            · exact .inl ⟨k, by simp, hkd, rfl, .inr ⟨hd, h⟩⟩
          · rintro (⟨i, h1, h2, h3, h4⟩ | ⟨h1, h2⟩)
            · by_cases ei : i = k
              · subst ei
                rcases h4 with h4 | h4
                · rw [hd] at h4; cases h4
                · exact .inr h4.2
              · simp only [if_neg ei] at h1
                exact .inl (.inl ⟨i, h1, h2, h3, h4⟩)
            · refine .inl (.inr ⟨h1, fun i a b c => h2 i ?_ b c⟩)
              have : i ≠ k := fun q => by rw [q, hk0] at a; cases a
              simp [this, a]
        · rw [upd_other (fun q => e q.2), L.mem κ x]
          have two : ∀ i, (mv l i).key = κ → ((if i = k then 2 else lam i) = 2 ↔ lam i = 2) := fun i hi => by
            have hik : i ≠ k := fun q => e (by rw [← q]; exact hi)
            rw [if_neg hik]
          constructor
          · rintro (⟨i, h1, h2, h3, h4⟩ | ⟨h1, h2⟩)
            · exact .inl ⟨i, (two i h3).2 h1, h2, h3, h4⟩
            · exact .inr ⟨h1, fun i a b c => h2 i ((two i c).1 a) b c⟩
          · rintro (⟨i, h1, h2, h3, h4⟩ | ⟨h1, h2⟩)
            · exact .inl ⟨i, (two i h3).1 h1, h2, h3, h4⟩
            · exact .inr ⟨h1, fun i a b c => h2 i ((two i c).2 a) b c⟩
  · have ew : wth keys SS (mv l k) = SS := by unfold wth; rw [if_neg hkd]
    rw [ew]
    refine ⟨fun i => if i = k then 1 else lam i, fun i => ?_, dn' _ (by simp) fun i hi => by simp [hi], L.ne, fun κ x => ?_⟩
    · have := L.le i
      split <;> omega
    · rw [L.mem κ x]
      have two : ∀ i, keyed (mv l i) = true → ((if i = k then 1 else lam i) = 2 ↔ lam i = 2) := fun i hi => by
        have hik : i ≠ k := fun q => hkd (by rw [← q]; exact hi)
        rw [if_neg hik]
      constructor
      · rintro (⟨i, h1, h2, h3, h4⟩ | ⟨h1, h2⟩)
        · exact .inl ⟨i, (two i h2).2 h1, h2, h3, h4⟩
        · exact .inr ⟨h1, fun i a b c => h2 i ((two i b).1 a) b c⟩
      · rintro (⟨i, h1, h2, h3, h4⟩ | ⟨h1, h2⟩)
        · exact .inl ⟨i, (two i h2).1 h1, h2, h3, h4⟩
        · exact .inr ⟨h1, fun i a b c => h2 i ((two i b).2 a) b c⟩
end
def cod (t : Nat → Nat) : Nat → Nat
  | 0 => 0
  | n + 1 => 3 * cod (fun i => t (i + 1)) n + t 0
theorem cod_lt : ∀ (n : Nat) (t : Nat → Nat), (∀ i, t i ≤ 2) → cod t n < 3 ^ n
  | 0, _, _ => by simp [cod]
  | n + 1, t, h => by
    have h1 := cod_lt n (fun i => t (i + 1)) fun i => h _
    have h0 := h 0
    unfold cod
    rw [Nat.pow_succ]
    generalize (3 : Nat) ^ n = z at *
    omega
theorem cod_inj : ∀ (n : Nat) (t s : Nat → Nat), (∀ i, t i ≤ 2) → (∀ i, s i ≤ 2) → cod t n = cod s n → ∀ i, i < n → t i = s i
  | 0, _, _, _, _, _, i, hi => by omega
  | n + 1, t, s, ht, hs, e, i, hi => by
    unfold cod at e
    have h1 := ht 0; have h2 := hs 0
    have e1 : cod (fun i => t (i + 1)) n = cod (fun i => s (i + 1)) n := by omega
    have e0 : t 0 = s 0 := by omega
    match i with
    | 0 => exact e0
    | i + 1 => exact cod_inj n _ _ (fun i => ht _) (fun i => hs _) e1 i (by omega)
def VE (l : List Mv) (keys : List Str) (p : Nat × List (List Mt)) : Prop := ∃ order lam, Dn order p.1 ∧ order.Nodup ∧ (∀ i ∈ order, i < l.length) ∧ Lab l keys order lam p.2
theorem famK_at {keys : List Str} {SS : List (List Mt)} (hk : keys.Nodup) (hl : SS.length = keys.length) {j : Nat} (hj : j < keys.length) : famK keys SS keys[j] = SS[j]'(by omega) := by
  have hm : keys[j] ∈ keys := List.getElem_mem hj
  have hx := idxK_lt hm
  have ha := idxK_at hm
  rw [List.getElem?_eq_getElem hx] at ha
  have ha := Option.some.inj ha
  have : idxK keys keys[j] = j := by
    have hp := List.pairwise_iff_getElem.1 hk
    rcases Nat.lt_trichotomy (idxK keys keys[j]) j with q | q | q
    · exact absurd ha (hp _ _ hx hj q)
    · exact q
    · exact absurd ha.symm (hp _ _ hj hx q)
  unfold famK
  rw [if_pos hx, List.getD_eq_getElem?_getD, List.getElem?_eq_getElem (by omega), Option.getD_some]
  simp only [this]
theorem lab_unique {l : List Mv} {keys : List Str} {order order' : List Nat} {lam lam' : Nat → Nat} {SS SS' : List (List Mt)} {d d' : Nat} (hk : keys.Nodup) (hl : SS.length = keys.length) (hl' : SS'.length = keys.length) (hs : ∀ S ∈ SS, Srt S) (hs' : ∀ S ∈ SS', Srt S)
    (dn : Dn order d) (dn' : Dn order' d') (ho : ∀ i ∈ order, i < l.length) (ho' : ∀ i ∈ order', i < l.length) (L : Lab l keys order lam SS) (L' : Lab l keys order' lam' SS') (e : cod lam l.length = cod lam' l.length) : (d, SS) = (d', SS') := by
  have e1 := cod_inj l.length lam lam' L.le L'.le e
  have e2 : lam = lam' := by
    funext i
    rcases Nat.lt_or_ge i l.length with q | q
    · exact e1 i q
    · have h1 : lam i = 0 := Classical.byContradiction fun r => by have := ho i ((L.dn i).1 r); omega
      have h2 : lam' i = 0 := Classical.byContradiction fun r => by have := ho' i ((L'.dn i).1 r); omega
      rw [h1, h2]
  subst e2
  have ed : d = d' := Nat.eq_of_testBit_eq fun i => by
    rw [Bool.eq_iff_iff, dn i, dn' i, ← L.dn i, ← L'.dn i]
  have es : SS = SS' := by
    apply List.ext_getElem (by omega)
    intro j h1 h2
    have hj : j < keys.length := by omega
    refine srt_unique (hs _ (List.getElem_mem h1)) (hs' _ (List.getElem_mem h2)) fun x => ?_
    rw [← famK_at hk hl hj, ← famK_at hk hl' hj, L.mem, L'.mem]
  rw [ed, es]
theorem ve_bound {l : List Mv} {keys : List Str} {V : List (Nat × List (List Mt))} (hk : keys.Nodup) (hn : V.Nodup) (hl24 : l.length ≤ 24) (h : ∀ p ∈ V, p.2.length = keys.length ∧ (∀ S ∈ p.2, Srt S) ∧ VE l keys p) : V.length ≤ 282429536481 := by
  have hc : ∀ p, ∃ n, p ∈ V → n < 3 ^ l.length ∧ ∃ order lam, Dn order p.1 ∧ (∀ i ∈ order, i < l.length) ∧ Lab l keys order lam p.2 ∧ n = cod lam l.length := fun p => by
    by_cases q : p ∈ V
    · obtain ⟨_, _, order, lam, d, _, o, L⟩ := h p q
      exact ⟨cod lam l.length, fun _ => ⟨cod_lt _ _ L.le, order, lam, d, o, L, rfl⟩⟩
    · exact ⟨0, fun r => absurd r q⟩
  obtain ⟨f, hf⟩ := Classical.axiomOfChoice hc
  have hnd : (V.map f).Nodup := by
    unfold List.Nodup
    rw [List.pairwise_map]
    refine List.Pairwise.imp_of_mem ?_ hn
    intro p q hp hq hne e
    obtain ⟨_, o1, lam1, d1, b1, L1, e1⟩ := hf p hp
    obtain ⟨_, o2, lam2, d2, b2, L2, e2⟩ := hf q hq
    obtain ⟨h1, s1, _⟩ := h p hp
    obtain ⟨h2, s2, _⟩ := h q hq
    exact hne (lab_unique hk h1 h2 s1 s2 d1 d2 b1 b2 L1 L2 (by rw [← e1, ← e2]; exact e))
  have hle := nodup_le hnd fun x hx => by
    obtain ⟨p, hp, rfl⟩ := List.mem_map.1 hx
    exact (hf p hp).1
  rw [List.length_map] at hle
  have : 3 ^ l.length ≤ 3 ^ 24 := Nat.pow_le_pow_right (by decide) hl24
  have : (3 : Nat) ^ 24 = 282429536481 := by decide
  omega
end Ml
end Go.Proofs.YtfjcciaabkjkgaaGreatDoor
namespace Go.Proofs.YtfjcciaabkjkgaaGreatDoor
open Go Ml
theorem aSt : AppT Tryz.prog 76 tSta eSt.k 32 := ⟨by kernel_rfl, by kernel_rfl, by kernel_rfl, ⟨.agg #[.int .i64 0, .slice none 0 0], [.int .i64 0, .slice none 0 0], by unfold zeroB; kernel_rfl, rfl, rfl⟩, by decide⟩
def Tk (T : TypeId) (a b : Heap) : Prop := a.size ≤ b.size ∧ ∀ (i : Nat) cs fr, a[i]? = some (.cells cs T fr) → b[i]? = a[i]?
theorem fit_tk (T : TypeId) : Fit (Tk T) := ⟨fun _ _ x => ⟨x.size, fun i _ _ r => x.block i (row_lt r)⟩, fun _ _ _ x y => ⟨Nat.le_trans x.1 y.1, fun i cs fr r => by
  have h1 := x.2 i cs fr r
  exact (y.2 i cs fr (h1.trans r)).trans h1⟩⟩
theorem sl_frx {α : Type} {E : Elt α} {h h' : Heap} {a : Option Addr} {c : Nat} {L : List α} {X : Nat → Prop} (s : Sl E h a c L) (f : Fr X h h') (hn : 0 < L.length → ∀ b, blkA a b → ¬ X b) : Sl E h' a c L := by
  by_cases hL : 0 < L.length
  · exact s.fr f (hn hL)
  · have : L = [] := List.length_eq_zero_iff.1 (by omega)
    subst this
    exact ⟨s.le, s.ex.imp id fun ⟨b, o, e, _⟩ => ⟨b, o, e, fun i x hx => by simp at hx⟩⟩
structure Fnd (h : Heap) (sb : Nat) (l : List Mv) (la : Option Addr) (lc : Nat) (keys : List Str) (ka : Option Addr) (kc N : Nat) (V : List (Nat × List (List Mt))) (va : Option Addr) (vc : Nat) : Prop where
  row : FndRow h sb l la lc keys ka kc va V.length vc
  sl : Sl eMv h la lc l
  sk : Sl eStr h ka kc keys
  bla : 0 < l.length → ∀ b, blkA la b → b < sb
  bka : 0 < keys.length → ∀ b, blkA ka b → b < sb
  ex : ∃ VL : List (Int × Sv), VL.length = V.length ∧ Sl eSt h va vc VL ∧ ∀ (i : Nat) q p, VL[i]? = some q → V[i]? = some p → q.1 = ((p.1 : Nat) : Int) ∧ Ste h q.2.1 q.2.2.1 q.2.2.2 p.2
  wv : Own eSt.k tSta N h va vc
  sbN : sb < N
  nsz : N ≤ h.size
def VOk (l : List Mv) (keys : List Str) (V : List (Nat × List (List Mt))) : Prop := V.Nodup ∧ ∀ p ∈ V, p.2.length = keys.length ∧ (∀ S ∈ p.2, PmL l S) ∧ VE l keys p ∧ ∀ order, Dn order p.1 → ¬ Cmp l (Ml.Rest l.length order) (famK keys p.2)
theorem VOk.len {l : List Mv} {keys : List Str} {V : List (Nat × List (List Mt))} (v : VOk l keys V) (hk : keys.Nodup) (hl : l.length ≤ 24) : V.length ≤ 282429536481 := ve_bound hk v.1 hl fun p hp => ⟨(v.2 p hp).1, fun S hS => ((v.2 p hp).2.1 S hS).1, (v.2 p hp).2.2.1⟩
theorem pmL_nm {l : List Mv} {S : List Mt} (h : PmL l S) : Nm S := fun x hx q => by
  rcases List.mem_cons.1 (h.2 x hx) with rfl | h1
  · rfl
  · obtain ⟨m, _, rfl⟩ := List.mem_map.1 h1
    cases q
section
variable {h h' : Heap} {sb N lc kc : Nat} {l : List Mv} {keys : List Str} {la ka : Option Addr} {V : List (Nat × List (List Mt))} {va : Option Addr} {vc : Nat}
theorem Fnd.qt (F : Fnd h sb l la lc keys ka kc N V va vc) : Qt tFnd (fun b => b = sb ∨ blkA va b) h := fun b hb cs T fr r => by
  rcases hb with rfl | hb
  · rw [F.row] at r; cases r; exact List.mem_cons_self
  · obtain ⟨cs', fr', r'⟩ := Typ.of_own F.wv b hb
    rw [r'] at r; cases r; exact List.mem_cons_of_mem _ List.mem_cons_self
theorem Fnd.ext (F : Fnd h sb l la lc keys ka kc N V va vc) (x : Ext h h') : Fnd h' sb l la lc keys ka kc N V va vc := by
  obtain ⟨VL, h1, h2, h3⟩ := F.ex
  exact ⟨x.row F.row, F.sl.ext x, F.sk.ext x, F.bla, F.bka, ⟨VL, h1, h2.ext x, fun i q p e1 e2 => ⟨(h3 i q p e1 e2).1, (h3 i q p e1 e2).2.ext x⟩⟩, F.wv.ext x, F.sbN, Nat.le_trans F.nsz x.size⟩
theorem Fnd.at (F : Fnd h sb l la lc keys ka kc N V va vc) {j : Nat} (hj : j < V.length) : ∃ (b o : Nat) (q : Sv), va = some ⟨b, o, none⟩ ∧ hcell h b (o + j * 2) = some (.int .i64 (V[j].1 : Nat)) ∧ hcell h b (o + j * 2 + 1) = some (.slice q.1 q.2.1 q.2.2) ∧ Ste h q.1 q.2.1 q.2.2 V[j].2 := by
  obtain ⟨VL, h1, h2, h3⟩ := F.ex
  have hj' : j < VL.length := by omega
  obtain ⟨b, o, e, d⟩ := h2.at (List.getElem?_eq_getElem hj')
  obtain ⟨e1, s⟩ := h3 j VL[j] V[j] (List.getElem?_eq_getElem hj') (List.getElem?_eq_getElem hj)
  exact ⟨b, o, VL[j].2, e, by rw [← e1]; exact d.1, d.2.1, s⟩
def MemF (h h1 : Heap) (sb : Nat) (l : List Mv) (la : Option Addr) (lc : Nat) (keys : List Str) (ka : Option Addr) (kc N : Nat) (V : List (Nat × List (List Mt))) (q : Nat) (va : Option Addr) (hh : Heap) : Prop :=
  ∃ V' va' vc', Fr (fun b => b = sb ∨ blkA va b) h hh ∧ h1.size ≤ hh.size ∧ Fnd hh sb l la lc keys ka kc N V' va' vc' ∧ VOk l keys V' ∧ (∀ b, blkA va' b → blkA va b ∨ h1.size ≤ b) ∧ ∀ p ∈ V', p ∈ V ∨ ∃ order', Dn order' p.1 ∧ order'.Nodup ∧ q ≤ order'.length
theorem MemF.ext {h1 hh hx : Heap} {q : Nat} (m : MemF h h1 sb l la lc keys ka kc N V q va hh) (x : Ext hh hx) : MemF h h1 sb l la lc keys ka kc N V q va hx := by
  obtain ⟨V', va', vc', f, z, F, vo, bl, hq⟩ := m
  exact ⟨V', va', vc', f.trans (x.fr fun _ => False) fun _ _ q => q.elim, Nat.le_trans z x.size, F.ext x, vo, bl, hq⟩
theorem MemF.less {h0 h1 hh : Heap} {q q' : Nat} (m : MemF h h1 sb l la lc keys ka kc N V q va hh) (z : h0.size ≤ h1.size) (hq : q' ≤ q) : MemF h h0 sb l la lc keys ka kc N V q' va hh := by
  obtain ⟨V', va', vc', f, z', F, vo, bl, h2⟩ := m
  exact ⟨V', va', vc', f, Nat.le_trans z z', F, vo, fun b hb => (bl b hb).imp id fun r => Nat.le_trans z r, fun p hp => (h2 p hp).imp id fun ⟨o, a, b, c⟩ => ⟨o, a, b, Nat.le_trans hq c⟩⟩
theorem app_onb {α : Type} {E : Elt α} {T : TypeId} {P : Program} {t : TypeId} {by_ : Nat} (A : AppT P t T E.k by_) {M : Nat} {h1 : Heap} {nb n c : Nat} {a : Option Addr} {L : List α} {cs : Array Value} {x : α} (eb : nb = h.size) (eh : h1 = h.push (.cells cs T)) (ec : (E.enc x).toArray = cs)
    (s : Sl E h a c L) (w : Own E.k T M h a c) (hN : M ≤ h.size) (hn : n = L.length) (hsz : (n + 1) * by_ ≤ 140737488355328) {K : Value → Heap → Prop}
    (hk : ∀ a' c' h', Fr (blkA a) h h' → Sl E h' a' c' (L ++ [x]) → Own E.k T M h' a' c' → (∀ b, blkA a' b → blkA a b ∨ h.size ≤ b) → K (.slice a' (n + 1) c') h') :
    HAppend P t t (.slice a n c) (.slice (some ⟨nb, 0, none⟩) 1 1) h1 K := by
  have xe : Ext h h1 := by rw [eh]; exact Ext.push _ _
  have hrow : h1[nb]? = some (.cells ([x].flatMap E.enc).toArray T (0, 0)) := by rw [eh, ← ec]; simp only [List.flatMap_cons, List.flatMap_nil, List.append_nil]; exact push_new eb
  subst hn
  exact app_sl A (s.ext xe) (w.ext xe) (Sl.lit (L := [x]) hrow) (Nat.le_trans hN xe.size) hsz fun a' c' h' f s' w' bl => hk a' c' h' ((xe.fr (blkA a)).trans f (fun _ _ q => q)) s' w' fun b hb => (bl b hb).imp id fun r => Nat.le_trans xe.size r
def FndR (l : List Mv) (keys : List Str) (order : List Nat) (SS : List (List Mt)) (A : List Nat) (r : Bool) : Prop :=
  (r = true ∧ ∃ t, A = order ++ t ∧ Gr l (Ml.Rest l.length order) (famK keys SS) t) ∨ (r = false ∧ A = [] ∧ ¬ Cmp l (Ml.Rest l.length order) (famK keys SS))
set_option maxHeartbeats 16000000 in
theorem find_r (hl24 : l.length ≤ 24) (ht : ∀ i, i < l.length → okT (mv l i)) (hkeys : ∀ i, i < l.length → keyed (mv l i) = true → (mv l i).key ∈ keys) (hkl : keys.length ≤ 24) (hkn : keys.Nodup) :
    ∀ (n : Nat) {h : Heap} {V : List (Nat × List (List Mt))} {va : Option Addr} {vc : Nat} {order : List Nat} {oa : Option Addr} {oc d : Nat} {a : Option Addr} {m c : Nat} {SS : List (List Mt)}, l.length - order.length ≤ n → Fnd h sb l la lc keys ka kc N V va vc → VOk l keys V → Sl eN h oa oc order → Typ 3 h oa →
      Ste h a m c SS → SS.length = keys.length → (∀ S ∈ SS, PmL l S) → Dn order d → order.Nodup → (∀ i ∈ order, i < l.length) → (∃ lam, Lab l keys order lam SS) →
      HC Tryz.prog 52 #[ptr sb 0, .agg #[.int .i64 (d : Nat), .slice a m c], .slice oa order.length oc] h fun v h' => MemF h h sb l la lc keys ka kc N V order.length va h' ∧
        ∃ A r aa ac, v = .tuple #[.slice aa (List.length A) ac, .bool r] ∧ Sl eN h' aa ac A ∧ Typ 3 h' aa ∧ FndR l keys order SS A r := by
  intro n
  induction n with
  | zero =>
    intro h V va vc order oa oc d a m c SS hn F vo so to s hSl hPm dn hd ho hlab
    have hle := nodup_le hd ho
    have he : order.length = l.length := by omega
    refine f52_sh _ _ _ _ _ _ _ _ _ _ _ ⟨la, _, lc, by rw [hcell_row F.row]; rfl, fun _ h1 x1 => ?_, fun g => by simp [he] at g⟩
    exact ⟨⟨V, va, vc, x1.fr _, x1.size, F.ext x1, vo, fun b hb => .inl hb, fun p hp => .inl hp⟩, order, true, oa, oc, rfl, so.ext x1, to.ext x1, .inl ⟨rfl, [], by simp, .nil ((rest_none hd ho).1 he)⟩⟩
  | succ n ih =>
    intro h V va vc order oa oc d a m c SS hn F vo so to s hSl hPm dn hd ho hlab
    have hle := nodup_le hd ho
    refine f52_sh _ _ _ _ _ _ _ _ _ _ _ ⟨la, _, lc, by rw [hcell_row F.row]; rfl, fun g h1 x1 => ?_, fun g x h1 lox ltx x1 => ?_⟩
    · have he : order.length = l.length := by
        have : (order.length : Int) = l.length := by simpa using g
        omega
      exact ⟨⟨V, va, vc, x1.fr _, x1.size, F.ext x1, vo, fun b hb => .inl hb, fun p hp => .inl hp⟩, order, true, oa, oc, rfl, so.ext x1, to.ext x1, .inl ⟨rfl, [], by simp, .nil ((rest_none hd ho).1 he)⟩⟩
    have hne : order.length ≠ l.length := fun q => by rw [q] at g; simp at g
    have hsb := row_lt F.row
    have hvlow : ∀ b, blkA va b → b < h.size := fun b hb => (F.wv.low hb).2
    have hd24 : d < 16777216 := by
      have h1 := dn_lt dn ho
      have : 2 ^ l.length ≤ 2 ^ 24 := Nat.pow_le_pow_right (by decide) hl24
      omega
    have hSb : ∀ S ∈ SS, S.length ≤ 68719476736 ∧ Nm S := fun S hS => ⟨by have := pmL_len (hPm S hS); omega, pmL_nm (hPm S hS)⟩
    have z1 := x1.size
    refine ⟨fun i h2 => ∃ j : Nat, i = j ∧ j ≤ V.length ∧ Ext h1 h2 ∧ ∀ (t : Nat) (ht : t < V.length), t < j → V[t] ≠ (d, SS), fun i _ => V.length - i.toNat, ⟨0, rfl, Nat.zero_le _, Ext.refl _, fun t _ q => by omega⟩, ?_⟩
    rintro _ h2 ⟨j, rfl, hj, x2, hjn⟩
    have x02 := x1.trans x2
    have F2 := F.ext x02
    refine ⟨va, _, vc, by rw [hcell_row F2.row]; rfl, fun hlt => ?_, fun hge => ?_⟩
    · have hjl := lt_of_dec hlt
      obtain ⟨b, o, q, ea, c1, c2, sj⟩ := F2.at hjl
      obtain ⟨v1, v2, _, v3⟩ := vo.2 V[j] (List.getElem_mem hjl)
      obtain ⟨q1, q2, q3⟩ := q
      have hVl := vo.len hkn hl24
      refine ⟨b, o, ea, by omega, by omega, _, q1, q2, q3, c1, c2, (same_r sj (s.ext x02) (by omega) (by omega) fun S hS => by have := pmL_len (v2 S hS); omega).mono ?_⟩
      rintro _ h3 ⟨rfl, x3⟩
      refine ⟨x3.kp _, _, rfl, fun e => ?_, fun e => ?_⟩
      · have e := of_decide_eq_true e
        have x03 := x02.trans x3
        refine ⟨⟨V, va, vc, x03.fr _, x03.size, F.ext x03, vo, fun b hb => .inl hb, fun p hp => .inl hp⟩, [], false, none, 0, rfl, Sl.nil _ _, Typ.none, .inr ⟨rfl, rfl, ?_⟩⟩
        rw [← e.2]
        exact v3 order (by rw [e.1]; exact dn)
      · have e := of_decide_eq_false e
        rw [wadd j (by omega)]
        refine ⟨⟨j + 1, rfl, hjl, x2.trans x3, fun t ht2 htj => ?_⟩, by simp only [Int.toNat_natCast]; omega⟩
        rcases Nat.lt_or_ge t j with r | r
        · exact hjn t ht2 r
        · have : t = j := by omega
          subst this
          exact fun q => e ⟨by rw [q], by rw [q]⟩
    have z2 := x2.size
    have hjV : j = V.length := by have := ge_of_dec hge; omega
    refine ⟨fun i hh => ∃ k : Nat, i = k ∧ k ≤ l.length ∧ MemF h h1 sb l la lc keys ka kc N V (order.length + 1) va hh ∧ ∀ t, t < k → ¬ Ok l (Ml.Rest l.length order) (famK keys SS) t, fun i _ => l.length - i.toNat,
      ⟨0, rfl, Nat.zero_le _, ⟨V, va, vc, x02.fr _, by omega, F2, vo, fun b hb => .inl hb, fun p hp => .inl hp⟩, fun t q => by omega⟩, ?_⟩
    rintro _ h4 ⟨k, rfl, hk, ⟨V4, va4, vc4, f4, z4, F4, vo4, bl4, hq4⟩, hno⟩
    refine ⟨la, _, lc, by rw [hcell_row F4.row]; rfl, fun hlt => ?_, fun hge => ?_⟩
    · have hkl := lt_of_dec hlt
      have s4 := s.fr f4 F.qt (by decide)
      have stay : ∀ hh, MemF h h1 sb l la lc keys ka kc N V (order.length + 1) va hh ∧ ¬ Ok l (Ml.Rest l.length order) (famK keys SS) k → (∃ k' : Nat, IntKind.i64.wrap ((k : Int) + 1) = k' ∧ k' ≤ l.length ∧ MemF h h1 sb l la lc keys ka kc N V (order.length + 1) va hh ∧ ∀ t, t < k' → ¬ Ok l (Ml.Rest l.length order) (famK keys SS) t) ∧ l.length - (IntKind.i64.wrap ((k : Int) + 1)).toNat < l.length - (k : Int).toNat := by
        rintro hh ⟨mm, hn1⟩
        rw [wadd k (by omega)]
        refine ⟨⟨k + 1, rfl, hkl, mm, fun t ht1 => ?_⟩, by simp only [Int.toNat_natCast]; omega⟩
        rcases Nat.lt_or_ge t k with r | r
        · exact hno t r
        · have : t = k := by omega
          subst this; exact hn1
      have M4 : MemF h h1 sb l la lc keys ka kc N V (order.length + 1) va h4 := ⟨V4, va4, vc4, f4, z4, F4, vo4, bl4, hq4⟩
      refine ⟨fun hh => MemF h h1 sb l la lc keys ka kc N V (order.length + 1) va hh ∧ ¬ Ok l (Ml.Rest l.length order) (famK keys SS) k, (next_r F4.row F4.sl hl24 dn hkl (ht k hkl)).mono ?_, stay⟩
      rintro _ h6 ⟨⟨r, rfl, hr⟩, x6⟩
      refine ⟨x6.kp _, r, rfl, fun e => ⟨M4.ext x6, fun ok => ?_⟩, fun e => ?_⟩
      · rw [hr.2 ok.1] at e; cases e
      have hmini := hr.1 (by simpa using e)
      have F6 := F4.ext x6
      refine (with_r F6.row F6.sl F6.sk (s4.ext x6) hSl hl24 (by omega) (by omega) hkl (hkeys k hkl) hSb).mono ?_
      rintro _ h7 ⟨x7, a7, n7, c7, r1, rfl, s7, hr1⟩
      refine ⟨x7.kp _, _, a7, n7, c7, r1, rfl, fun e1 h9 x9 => ⟨((M4.ext x6).ext x7).ext x9, fun ok => ?_⟩, fun e1 => ?_⟩
      · rw [hr1.2 ok.2.1] at e1; cases e1
      have hlv := hr1.1 (by simpa using e1)
      have efam := famK_wth (SS := SS) hSl (hkeys k hkl)
      have hkn2 : k ∉ order := hmini.1.2
      have erest : Ml.Rest l.length (order ++ [k]) = del (Ml.Rest l.length order) k := rest_del
      have F7 := F6.ext x7
      have so7 := ((so.fr f4 (to.off F.qt (by decide))).ext x6).ext x7
      have hPm7 : ∀ S ∈ wth keys SS (mv l k), PmL l S := fun S hS => by
        unfold wth at hS
        split at hS
        · next q =>
          rcases List.mem_or_eq_of_mem_set hS with q2 | rfl
          · exact hPm S q2
          · have hx := idxK_lt (hkeys k hkl q)
            rw [List.getD_eq_getElem?_getD, List.getElem?_eq_getElem (by omega)]
            exact pmL_next (hPm _ (List.getElem_mem (by omega))) (by rw [mv_at hkl]; exact List.getElem_mem hkl)
        · exact hPm S hS
      -- the call behind it, from wherever the copies were made
      have rc : ∀ {hk : Heap} {a2 : Option Addr} {c2 nb M : Nat}, Ext h7 hk → Sl eN hk a2 c2 order → Own eN.k 3 M hk a2 c2 → h7.size ≤ M → M ≤ hk.size → Sl eN hk (some ⟨nb, 0, none⟩) 1 [k] →
          HAppend Tryz.prog 26 26 (.slice a2 order.length c2) (.slice (some ⟨nb, 0, none⟩) 1 1) hk fun vv h28 => Tk tSta hk h28 ∧ Kp [x] hk h28 ∧ ∃ ap_3 : Option Addr, ∃ ap_n_3 ap_c_3 : Nat, vv = (.slice ap_3 ap_n_3 ap_c_3) ∧
            HC Tryz.prog 52 #[ptr sb 0, .agg #[.int .i64 ((d + 2 ^ k : Nat) : Int), .slice a7 n7 c7], .slice ap_3 ap_n_3 ap_c_3] h28 fun vv h29 => Kp [x] h28 h29 ∧ ∃ r0_1 : Option Addr, ∃ r0_n_1 r0_c_1 : Nat, ∃ r1_2 : Bool, vv = .tuple #[.slice r0_1 r0_n_1 r0_c_1, .bool r1_2] ∧
              ∃ A, r0_n_1 = List.length A ∧ Sl eN h29 r0_1 r0_c_1 A ∧ Typ 3 h29 r0_1 ∧ MemF h h1 sb l la lc keys ka kc N V (order.length + 1) va h29 ∧ FndR l keys (order ++ [k]) (wth keys SS (mv l k)) A r1_2 := by
        intro hk a2 c2 nb M xk s2 w2 hM hM2 s1
        have zk := xk.size; have z6 := x6.size; have z7 := x7.size
        refine app_sl aN s2 w2 s1 hM2 (by show (order.length + 1) * 8 ≤ _; omega) fun a' c' h28 f28 s28 w28 bl => ?_
        have low : ∀ b, blkA a2 b → h7.size ≤ b := fun b hb => Nat.le_trans hM (w2.low hb).1
        have x28 : Ext h7 h28 := ext_fr xk f28 low
        have h2 : (order ++ [k]).length = order.length + 1 := by simp
        refine ⟨⟨f28.size, fun i cs fr r => f28.block i (row_lt r) fun hb => own_ne w2 r (by decide) hb⟩, f28.kp fun b hb hb2 => by (simp at hb; subst hb; have := low b hb2; omega), a', _, c', rfl, ?_⟩
        have key := ih (order := order ++ [k]) (d := d + 2 ^ k) (SS := wth keys SS (mv l k)) (by rw [h2]; omega) (F7.ext x28) vo4 s28 (Typ.of_own w28) (s7.ext x28) (by rw [wth_len]; exact hSl) hPm7 (dn_snoc dn (by omega) (by omega) hkn2) (by
          rw [List.nodup_append]
          exact ⟨hd, by simp, fun u hu w hw => by simp at hw; subst hw; exact fun q => hkn2 (q ▸ hu)⟩) (fun i hi => by
          rcases List.mem_append.1 hi with hi | hi
          · exact ho i hi
          · have : i = k := by simpa using hi
            omega) (by obtain ⟨lam, L⟩ := hlab; exact L.step hkn2 hSl (hkeys k hkl) hlv)
        rw [h2] at key
        refine key.mono ?_
        rintro _ h29 ⟨⟨V9, va9, vc9, f9, z9, F9, vo9, bl9, hq9⟩, A, r9, aa, ac, rfl, sA, tA, hA⟩
        have hx4 : ∀ b, b = sb ∨ blkA va4 b → b < h1.size → b = sb ∨ blkA va b := fun b hb hlt => by
          rcases hb with q | q
          · exact .inl q
          · rcases bl4 b q with q | q
            · exact .inr q
            · omega
        have xall := x6.trans (x7.trans x28)
        have zall := xall.size
        refine ⟨f9.kp fun b hb hb2 => ?_, aa, _, ac, r9, rfl, A, rfl, sA, tA, ⟨V9, va9, vc9, (f4.trans (xall.fr fun _ => False) fun _ _ q => q.elim).trans f9 fun i hi q => hx4 i q (by omega), by omega, F9, vo9, fun b hb => ?_, fun p hp => ?_⟩, hA⟩
        · simp at hb; subst hb
          rcases hx4 b hb2 ltx with q | q
          · omega
          · have := hvlow b q; omega
        · rcases bl9 b hb with q | q
          · exact bl4 b q
          · exact .inr (by omega)
        · rcases hq9 p hp with q | q
          · exact hq4 p q
          · exact .inr q
      refine ⟨fun la' ln' lc' is hh => ∃ A, ln' = List.length A ∧ Sl eN hh la' lc' A ∧ Typ 3 hh la' ∧ MemF h h1 sb l la lc keys ka kc N V (order.length + 1) va hh ∧ FndR l keys (order ++ [k]) (wth keys SS (mv l k)) A is,
        ⟨Tk tSta, fit_tk _, fun y h9 loy lty x9 => ⟨fun ys ry hx tx b hb _ => by (simp at hb; subst hb; exact tx.2 _ _ _ ry), ⟨fun nb2 h25 e25 eh25 => ⟨?_, fun nb3 h30 e30 eh30 => ?_⟩, fun nb2 h34 e34 eh34 nb3 h35 e35 eh35 => ?_⟩⟩⟩, ?_⟩
      · have r25 : h25[nb2]? = some (.cells #[] 3 (0, 0)) := by rw [eh25]; exact push_new e25
        have x25 : Ext h9 h25 := by rw [eh25]; exact Ext.push _ _
        clear eh25
        have z9 := x9.size
        refine app_zero aN r25 (N := h9.size) (by omega) rfl (so7.ext (x9.trans x25)) (by omega) fun a2 c2 h26 x26 s26 w26 => ⟨(fit_tk _).ext _ _ x26, x26.kp _, a2, _, c2, rfl, fun nb3 h27 e27 eh27 => ?_⟩
        have r27 : h27[nb3]? = some (.cells (([k] : List Nat).flatMap eN.enc).toArray 3 (0, 0)) := by rw [eh27]; exact push_new e27
        have x27 : Ext h26 h27 := by rw [eh27]; exact Ext.push _ _
        clear eh27
        have z25 := x25.size; have z26 := x26.size; have z27 := x27.size
        exact rc (x9.trans (x25.trans (x26.trans x27))) (s26.ext x27) (w26.ext x27) z9 (by omega) (Sl.lit r27)
      · have r25 : h25[nb2]? = some (.cells #[] 3 (0, 0)) := by rw [eh25]; exact push_new e25
        have x25 : Ext h9 h25 := by rw [eh25]; exact Ext.push _ _
        clear eh25
        have r30 : h30[nb3]? = some (.cells (([k] : List Nat).flatMap eN.enc).toArray 3 (0, 0)) := by rw [eh30]; exact push_new e30
        have x30 : Ext h25 h30 := by rw [eh30]; exact Ext.push _ _
        clear eh30
        have z9 := x9.size; have z25 := x25.size; have z30 := x30.size
        refine app_zero aN (x30.row r25) (N := h9.size) (by omega) rfl (so7.ext (x9.trans (x25.trans x30))) (by omega) fun a2 c2 h31 x31 s31 w31 => ⟨(fit_tk _).ext _ _ x31, x31.kp _, a2, _, c2, rfl, ?_⟩
        have z31 := x31.size
        exact rc (x9.trans (x25.trans (x30.trans x31))) s31 w31 z9 (by omega) ((Sl.lit r30).ext x31)
      · have r34 : h34[nb2]? = some (.cells (([k] : List Nat).flatMap eN.enc).toArray 3 (0, 0)) := by rw [eh34]; exact push_new e34
        have x34 : Ext h9 h34 := by rw [eh34]; exact Ext.push _ _
        clear eh34
        have r35 : h35[nb3]? = some (.cells #[] 3 (0, 0)) := by rw [eh35]; exact push_new e35
        have x35 : Ext h34 h35 := by rw [eh35]; exact Ext.push _ _
        clear eh35
        have z9 := x9.size; have z34 := x34.size; have z35 := x35.size
        refine app_zero aN r35 (N := h9.size) (by omega) rfl (so7.ext (x9.trans (x34.trans x35))) (by omega) fun a2 c2 h36 x36 s36 w36 => ⟨(fit_tk _).ext _ _ x36, x36.kp _, a2, _, c2, rfl, ?_⟩
        have z36 := x36.size
        exact rc (x9.trans (x34.trans (x35.trans x36))) s36 w36 z9 (by omega) ((Sl.lit r34).ext (x35.trans x36))
      · rintro la' _ lc' is h10 ⟨A, rfl, sA, tA, mem, hA⟩
        refine ⟨fun e => ?_, fun e => ?_⟩
        · rcases hA with ⟨_, t, eA, gr⟩ | ⟨q, _⟩
          · rw [erest, efam] at gr
            refine ⟨mem.less z1 (by omega), A, true, la', lc', rfl, sA, tA, .inl ⟨rfl, k :: t, by rw [eA, List.append_assoc]; rfl, .cons ⟨hmini, hlv, gr.cmp⟩ hno gr⟩⟩
          · rw [q] at e; cases e
        · rcases hA with ⟨q, _⟩ | ⟨_, _, hn1⟩
          · rw [q] at e; cases e
          · rw [erest, efam] at hn1
            exact ⟨mem, fun ok => hn1 ok.2.2⟩
    · have hkl : k = l.length := by have := ge_of_dec hge; omega
      subst hkl
      have hnoc : ¬ Cmp l (Ml.Rest l.length order) (famK keys SS) := none_ok (Classical.byContradiction fun q => hne ((rest_none hd ho).2 fun i hi => q ⟨i, hi⟩)) fun i hi => hno i hi.1
      obtain ⟨VL, e1, sv, hV⟩ := F4.ex
      have hVl := vo4.len hkn hl24
      have s4 := s.fr f4 F.qt (by decide)
      have hvl4 : ∀ b, blkA va4 b → N ≤ b := fun b hb => (F4.wv.low hb).1
      have sbN := F4.sbN
      refine ⟨va4, _, vc4, by rw [hcell_row F4.row]; rfl, fun nb h39 e39 eh39 => ?_⟩
      refine app_onb (x := ((d : Int), (a, m, c))) aSt e39 eh39 rfl sv F4.wv F4.nsz e1.symm (by omega) fun a' c' h40 f40 s40 w40 bl40 => ⟨a', _, c', rfl, ?_⟩
      have r40 := f40.row F4.row fun hb => by have := hvl4 _ hb; omega
      refine ⟨HW_row r40 (by simp), fun h41 e41 => ?_⟩
      have f41 : Fr (fun b => b = sb) h40 h41 := fr_hset_of e41
      have r41 : FndRow h41 sb l la lc keys ka kc a' (V4.length + 1) c' := by unfold FndRow; rw [e41, hset_row r40]; rfl
      have q40 : Qt [tSta] (blkA va4) h4 := fun b hb cs T fr r => by
        obtain ⟨cs', fr', r'⟩ := Typ.of_own F4.wv b hb
        rw [r'] at r; cases r; exact List.mem_cons_self
      have low' : ∀ b, blkA a' b → b ≠ sb := fun b hb q => by have := (w40.low hb).1; omega
      have F41 : Fnd h41 sb l la lc keys ka kc N (V4 ++ [(d, SS)]) a' c' := by
        refine ⟨by rw [List.length_append]; exact r41, sl_frx (sl_frx F4.sl f40 fun h0 b hb q => ?_) f41 fun h0 b hb q => ?_, sl_frx (sl_frx F4.sk f40 fun h0 b hb q => ?_) f41 fun h0 b hb q => ?_, F4.bla, F4.bka, ⟨VL ++ [((d : Int), (a, m, c))], by simp [e1], s40.fr f41 low', fun i q p h1 h2 => ?_⟩, w40.fr f41 low', sbN, Nat.le_trans F4.nsz (Nat.le_trans f40.size f41.size)⟩
        · have := F4.bla h0 b hb; have := hvl4 b q; omega
        · have := F4.bla h0 b hb; omega
        · have := F4.bka h0 b hb; have := hvl4 b q; omega
        · have := F4.bka h0 b hb; omega
        · rcases Nat.lt_or_ge i VL.length with r | r
          · rw [List.getElem?_append_left r] at h1
            rw [List.getElem?_append_left (by omega)] at h2
            obtain ⟨k1, k2⟩ := hV i q p h1 h2
            exact ⟨k1, (k2.fr f40 q40 (by decide)).fr f41 (Qt.one r40) (by decide)⟩
          · rw [List.getElem?_append_right r] at h1
            rw [List.getElem?_append_right (by omega)] at h2
            have hi0 : i - VL.length = 0 := by
              have := (List.getElem?_eq_some_iff.1 h1).1
              simp at this; omega
            have hi1 : i - V4.length = 0 := by omega
            rw [hi0] at h1
            rw [hi1] at h2
            simp only [List.getElem?_cons_zero, Option.some.injEq] at h1 h2
            subst h1; subst h2
            exact ⟨rfl, (s4.fr f40 q40 (by decide)).fr f41 (Qt.one r40) (by decide)⟩
      have hnew : (d, SS) ∉ V4 := fun q => by
        rcases hq4 _ q with q | ⟨o', d1, n1, l1⟩
        · obtain ⟨t, ht1, e⟩ := List.getElem_of_mem q
          have hjV : j = V.length := by assumption
          exact hjn t ht1 (by omega) e
        · have h1 := nodup_sub n1 (S := order) fun i hi => (dn i).1 ((d1 i).2 hi)
          omega
      have vo41 : VOk l keys (V4 ++ [(d, SS)]) := by
        refine ⟨?_, fun p hp => ?_⟩
        · rw [List.nodup_append]
          exact ⟨vo4.1, by simp, fun u hu w hw => by simp at hw; subst hw; exact fun q => hnew (q ▸ hu)⟩
        · rcases List.mem_append.1 hp with q | q
          · exact vo4.2 p q
          · have : p = (d, SS) := by simpa using q
            subst this
            obtain ⟨lam, L⟩ := hlab
            refine ⟨hSl, hPm, ⟨order, lam, dn, hd, ho, L⟩, fun o' d1 => ?_⟩
            have : Ml.Rest l.length o' = Ml.Rest l.length order := by
              funext i
              unfold Ml.Rest
              have : i ∈ o' ↔ i ∈ order := by rw [← d1 i, ← dn i]
              rw [this]
            rw [this]; exact hnoc
      have hx4 : ∀ b, blkA va4 b → b < h.size → blkA va b := fun b hb hlt => by
        rcases bl4 b hb with q | q
        · exact q
        · omega
      refine ⟨⟨V4 ++ [(d, SS)], a', c', (f4.trans f40 fun i hi q => .inr (hx4 i q hi)).trans f41 fun i hi q => .inl q, by have := f40.size; have := f41.size; omega, F41, vo41, fun b hb => ?_, fun p hp => ?_⟩, [], false, none, 0, rfl, Sl.nil _ _, Typ.none, .inr ⟨rfl, rfl, hnoc⟩⟩
      · rcases bl40 b hb with q | q
        · rcases bl4 b q with q | q
          · exact .inl q
          · exact .inr (by omega)
        · exact .inr (by omega)
      · rcases List.mem_append.1 hp with q | q
        · rcases hq4 p q with q | ⟨o', d1, n1, l1⟩
          · exact .inl q
          · exact .inr ⟨o', d1, n1, by omega⟩
        · have : p = (d, SS) := by simpa using q
          subst this
          exact .inr ⟨order, dn, hd, Nat.le_refl _⟩
end
end Go.Proofs.YtfjcciaabkjkgaaGreatDoor
namespace Go.Proofs.YtfjcciaabkjkgaaGreatDoor
open Go Ml
abbrev tS : TypeId := 9
theorem aS : AppT Tryz.prog 24 tS eStr.k 16 := ⟨by kernel_rfl, by kernel_rfl, by kernel_rfl, ⟨.string ByteArray.empty, [.string ByteArray.empty], by unfold zeroB; kernel_rfl, rfl, rfl⟩, by decide⟩
namespace Ml
structure KeysP (l : List Mv) (K : List Str) : Prop where
  srt : K.Pairwise fun a b => slt a b = true
  mem : ∀ k, k ∈ K ↔ ∃ m ∈ l, keyed m = true ∧ m.key = k
theorem KeysP.nodup {l : List Mv} {K : List Str} (p : KeysP l K) : K.Nodup := p.srt.imp fun {a b} h e => by subst e; rw [slt_irrefl] at h; cases h
theorem srt_eq : ∀ {K K' : List Str}, K.Pairwise (fun a b => slt a b = true) → K'.Pairwise (fun a b => slt a b = true) → (∀ k, k ∈ K ↔ k ∈ K') → K = K'
  | [], [], _, _, _ => rfl
  | [], x :: _, _, _, h => by have := (h x).2 List.mem_cons_self; cases this
  | x :: _, [], _, _, h => by have := (h x).1 List.mem_cons_self; cases this
  | x :: K, y :: K', p, q, h => by
    obtain ⟨p1, p2⟩ := List.pairwise_cons.1 p
    obtain ⟨q1, q2⟩ := List.pairwise_cons.1 q
    have e : x = y := by
      rcases List.mem_cons.1 ((h x).1 List.mem_cons_self) with e | h1
      · exact e
      · rcases List.mem_cons.1 ((h y).2 List.mem_cons_self) with e | h2
        · exact e.symm
        · have := slt_trans (p1 y h2) (q1 x h1)
          rw [slt_irrefl] at this; cases this
    subst e
    rw [srt_eq p2 q2 fun k => ?_]
    constructor
    · intro hk
      rcases List.mem_cons.1 ((h k).1 (List.mem_cons_of_mem _ hk)) with e | r
      · subst e
        have := p1 k hk
        rw [slt_irrefl] at this; cases this
      · exact r
    · intro hk
      rcases List.mem_cons.1 ((h k).2 (List.mem_cons_of_mem _ hk)) with e | r
      · subst e
        have := q1 k hk
        rw [slt_irrefl] at this; cases this
      · exact r
theorem KeysP.unique {l : List Mv} {K K' : List Str} (p : KeysP l K) (q : KeysP l K') : K = K' := srt_eq p.srt q.srt fun k => (p.mem k).trans (q.mem k).symm
theorem ins_srt {K : List Str} {u : Nat} {key : Str} (hu : u ≤ K.length) (h : K.Pairwise fun a b => slt a b = true) (h1 : ∀ t (ht : t < K.length), t < u → slt K[t] key = true) (h2 : ∀ (hu : u < K.length), slt key K[u] = true) : (K.take u ++ key :: K.drop u).Pairwise fun a b => slt a b = true := by
  have hs : (K.take u ++ K.drop u).Pairwise fun a b => slt a b = true := by rw [List.take_append_drop]; exact h
  obtain ⟨a1, a2, a3⟩ := List.pairwise_append.1 hs
  have lt1 : ∀ x ∈ K.take u, slt x key = true := fun x hx => by
    obtain ⟨t, ht, rfl⟩ := List.getElem_of_mem hx
    rw [List.length_take] at ht
    rw [List.getElem_take]
    exact h1 t (by omega) (by omega)
  have lt2 : ∀ x ∈ K.drop u, slt key x = true := fun x hx => by
    obtain ⟨t, ht, rfl⟩ := List.getElem_of_mem hx
    rw [List.length_drop] at ht
    rw [List.getElem_drop]
    have hul : u < K.length := by omega
    have h0 := h2 hul
    by_cases e : t = 0
    · subst e; exact h0
    · exact slt_trans h0 (List.pairwise_iff_getElem.1 h u (u + t) hul (by omega) (by omega))
  refine List.pairwise_append.2 ⟨a1, List.pairwise_cons.2 ⟨lt2, a2⟩, fun x hx y hy => ?_⟩
  rcases List.mem_cons.1 hy with rfl | hy
  · exact lt1 x hx
  · exact a3 x hx y hy
theorem ins_mem {K : List Str} {u : Nat} {key k : Str} : k ∈ K.take u ++ key :: K.drop u ↔ k ∈ K ∨ k = key := by
  rw [List.mem_append, List.mem_cons]
  have : k ∈ K ↔ k ∈ K.take u ∨ k ∈ K.drop u := by
    conv => lhs; rw [← List.take_append_drop u K]
    exact List.mem_append
  rw [this]
  constructor
  · rintro (h | h | h)
    · exact .inl (.inl h)
    · exact .inr h
    · exact .inl (.inr h)
  · rintro ((h | h) | h)
    · exact .inl h
    · exact .inr (.inr h)
    · exact .inr (.inl h)
end Ml
section
variable {h : Heap} {la : Option Addr} {lc : Nat} {l : List Mv}
set_option maxHeartbeats 8000000 in
theorem rkeys_c (sl : Sl eMv h la lc l) (hl : l.length ≤ 1048576) :
    HC Tryz.prog 9 #[.slice la l.length lc] h fun v h' => Ext h h' ∧ ∃ K a c, v = .slice a (List.length K) c ∧ Sl eStr h' a c K ∧ Own eStr.k tS h.size h' a c ∧ KeysP l K ∧ K.length ≤ l.length := by
  refine f9_sh _ _ _ _ _ ⟨fun out out_n cc i hh => ∃ (j : Nat) (K : List Str), i = j ∧ j ≤ l.length ∧ out_n = K.length ∧ Ext h hh ∧ Sl eStr hh out cc K ∧ Own eStr.k tS h.size hh out cc ∧ K.length ≤ j ∧ KeysP (l.take j) K,
    fun _ _ _ i _ => l.length - i.toNat, ⟨0, [], rfl, Nat.zero_le _, rfl, Ext.refl _, Sl.nil _ _, Own.nil _ _ _ _, Nat.le_refl _, List.Pairwise.nil, fun k => by simp⟩, ?_⟩
  rintro out _ cc _ h1 ⟨j, K, rfl, hj, rfl, x1, sK, wK, hKj, pK⟩
  refine ⟨fun hlt => ?_, fun hge => ?_⟩
  · have hjl := lt_of_dec hlt
    obtain ⟨lb, lo, ela, dl⟩ := (sl.ext x1).at (List.getElem?_eq_getElem hjl)
    have etk : l.take (j + 1) = l.take j ++ [l[j]] := by rw [List.take_add_one, List.getElem?_eq_getElem hjl]; rfl
    have mem1 : ∀ k, (∃ m ∈ l.take (j + 1), keyed m = true ∧ m.key = k) ↔ (∃ m ∈ l.take j, keyed m = true ∧ m.key = k) ∨ (keyed l[j] = true ∧ l[j].key = k) := fun k => by
      rw [etk]
      constructor
      · rintro ⟨m, hm, q⟩
        rcases List.mem_append.1 hm with r | r
        · exact .inl ⟨m, r, q⟩
        · have : m = l[j] := by simpa using r
          subst this; exact .inr q
      · rintro (⟨m, hm, q⟩ | q)
        · exact ⟨m, List.mem_append_left _ hm, q⟩
        · exact ⟨l[j], List.mem_append_right _ (by simp), q⟩
    refine ⟨fun out' n' c' hh => ∃ K' : List Str, n' = K'.length ∧ Ext h hh ∧ Sl eStr hh out' c' K' ∧ Own eStr.k tS h.size hh out' c' ∧ K'.length ≤ j + 1 ∧ KeysP (l.take (j + 1)) K', ⟨lb, lo, ela, by omega, by omega, _, _, _, _, _, _, _, _, dl.1, dl.2.1, dl.2.2.1, dl.2.2.2.1, dl.2.2.2.2.1, dl.2.2.2.2.2.1, dl.2.2.2.2.2.2.1, dl.2.2.2.2.2.2.2.1, fun g h3 x3 => ?_, fun g => ?_⟩, ?_⟩
    · have g : keyed l[j] = false := by simpa using g
      refine ⟨K, rfl, x1.trans x3, sK.ext x3, wK.ext x3, by omega, pK.srt, fun k => ?_⟩
      rw [mem1, pK.mem]
      exact ⟨.inl, fun q => q.elim id fun q => by rw [g] at q; cases q.1⟩
    · have g : keyed l[j] = true := by simpa using g
      refine ⟨fun i => ∃ u : Nat, i = u ∧ u ≤ K.length ∧ ∀ t (ht : t < K.length), t < u → slt K[t] l[j].key = true, fun i => K.length - i.toNat, ⟨0, rfl, Nat.zero_le _, fun t _ q => by omega⟩, ?_⟩
      rintro _ ⟨u, rfl, hu, hlo⟩
      -- what is found stands there already
      have there : ∀ (huK : u < K.length), K[u] = l[j].key → ∀ h3, Ext h1 h3 → ∃ K' : List Str, K.length = K'.length ∧ Ext h h3 ∧ Sl eStr h3 out cc K' ∧ Own eStr.k tS h.size h3 out cc ∧ K'.length ≤ j + 1 ∧ KeysP (l.take (j + 1)) K' := fun huK e h3 x3 => by
        refine ⟨K, rfl, x1.trans x3, sK.ext x3, wK.ext x3, by omega, pK.srt, fun k => ?_⟩
        rw [mem1, pK.mem]
        refine ⟨.inl, fun q => q.elim id fun q => ?_⟩
        rw [← pK.mem, ← q.2, ← e]; exact List.getElem_mem huK
      have put : (∀ (huK : u < K.length), slt l[j].key K[u] = true) → ∀ (h3 : Heap), Ext h1 h3 → ∀ nb h4, nb = Array.size h3 → h4 = Array.push h3 (.cells #[] tS) →
          (0 ≤ (u : Int) ∧ (u : Int) ≤ (K.length : Int) ∧ (K.length : Int) ≤ (cc : Int) ∧ ∀ sl : Option Addr, sl = slA out (Int.toNat (u : Int)) 1 cc →
            HAppend Tryz.prog 24 24 (.slice (some ⟨nb, 0, none⟩) 0 0) (.slice sl (Int.toNat (K.length : Int) - Int.toNat (u : Int)) (cc - Int.toNat (u : Int))) h4 (fun vv h5 => ∃ ap : Option Addr, ∃ ap_n ap_c : Nat, vv = (.slice ap ap_n ap_c) ∧
              (0 ≤ ((0 : Int) : Int) ∧ (0 : Int) ≤ (u : Int) ∧ (u : Int) ≤ (cc : Int) ∧ ∀ sl_1 : Option Addr, sl_1 = slA out (Int.toNat 0) 1 cc →
                ((0 : Int) ≤ (j : Int) ∧ (j : Int) < (l.length : Int) ∧ (∃ x_2 : ByteArray, hcell h5 lb ((lo + (Int.toNat (j : Int)) * 8) + 1) = some (.string x_2) ∧
                  (∀ nb_1 h6, nb_1 = Array.size h5 → h6 = Array.push h5 (.cells #[(.string x_2)] tS) →
                    HAppend Tryz.prog 24 24 (.slice sl_1 (Int.toNat (u : Int) - Int.toNat 0) (cc - Int.toNat 0)) (.slice (some ⟨nb_1, 0, none⟩) 1 1) h6 (fun vv h7 => ∃ ap_1 : Option Addr, ∃ ap_n_1 ap_c_1 : Nat, vv = (.slice ap_1 ap_n_1 ap_c_1) ∧
                      HAppend Tryz.prog 24 24 (.slice ap_1 ap_n_1 ap_c_1) (.slice ap ap_n ap_c) h7 (fun vv h8 => ∃ ap_2 : Option Addr, ∃ ap_n_2 ap_c_2 : Nat, vv = (.slice ap_2 ap_n_2 ap_c_2) ∧
                        (∃ K' : List Str, ap_n_2 = K'.length ∧ Ext h h8 ∧ Sl eStr h8 ap_2 ap_c_2 K' ∧ Own eStr.k tS h.size h8 ap_2 ap_c_2 ∧ K'.length ≤ j + 1 ∧ KeysP (l.take (j + 1)) K'))))))))) := by
        intro hhi h3 x3 nb h4 e4 eh4
        have hle := sK.le
        have r4 : h4[nb]? = some (.cells #[] tS (0, 0)) := by rw [eh4]; exact push_new e4
        have x4 : Ext h3 h4 := by rw [eh4]; exact Ext.push _ _
        clear eh4
        have x14 := x3.trans x4
        refine ⟨by omega, by omega, by omega, fun sl1 es1 => ?_⟩
        subst es1
        have cut1 := (sK.ext x14).cut (l := u) (r := K.length) hu (Nat.le_refl _)
        rw [List.take_length] at cut1
        have n1 : Int.toNat (K.length : Int) - Int.toNat (u : Int) = (K.drop u).length := by simp
        rw [n1]
        have hlow : ∀ b, blkA out b → h.size ≤ b ∧ b < h1.size := fun b hb => ⟨(wK.low hb).1, (wK.low hb).2⟩
        have z1 := x1.size; have z3 := x3.size
        refine app_zero aS r4 (N := h3.size) (by omega) rfl cut1 (by rw [List.length_drop]; omega) fun ap apc h5 x5 s5 w5 => ⟨ap, _, apc, rfl, by omega, by omega, by omega, fun sl2 es2 => ?_⟩
        subst es2
        have x15 := x14.trans x5
        have cut2 := (sK.ext x15).cut (l := 0) (r := u) (Nat.zero_le _) hu
        have wc2 := (wK.ext x15).cut (l := 0) (Nat.zero_le _)
        rw [List.drop_zero] at cut2
        have hd : hcell h5 lb (lo + j * 8 + 1) = some (.string l[j].key) := x15.cell dl.2.1
        refine ⟨by omega, by omega, _, hd, fun nb1 h6 e6 eh6 => ?_⟩
        have r6 : h6[nb1]? = some (.cells (([l[j].key] : List Str).flatMap eStr.enc).toArray tS (0, 0)) := by rw [eh6]; exact push_new e6
        have x6 : Ext h5 h6 := by rw [eh6]; exact Ext.push _ _
        clear eh6
        have n2 : Int.toNat (u : Int) - Int.toNat 0 = (K.take u).length := by rw [List.length_take, Int.toNat_natCast, Int.toNat_zero]; omega
        rw [n2]
        have hsl0 : ∀ b, blkA (slA out 0 eStr.k cc) b → blkA out b := fun b hb => by
          unfold slA at hb
          split at hb
          · exact hb
          · obtain ⟨y, ey, eb⟩ := hb
            cases out with
            | none => cases ey
            | some o => simp only [Option.map_some, Option.some.injEq] at ey; exact ⟨o, rfl, by rw [← eb, ← ey]; unfold Addr.add; split <;> rfl⟩
        refine app_sl aS (cut2.ext x6) (wc2.ext x6) (Sl.lit (L := [l[j].key]) r6) (by have := x15.size; have := x6.size; omega) (by rw [List.length_take]; show (min u K.length + 1) * 16 ≤ _; omega) fun a1 c1 h7 f7 s7 w7 bl7 => ⟨a1, _, c1, rfl, ?_⟩
        have z15 := x15.size; have z6 := x6.size
        have s5' : Sl eStr h7 ap apc (K.drop u) := (s5.ext x6).fr f7 fun b hb q => by
          have := (w5.low hb).1; have := hlow b (hsl0 b q); omega
        have e7 : (K.take u).length + ([l[j].key] : List Str).length = (K.take u ++ [l[j].key]).length := by rw [List.length_append]
        have e7' : (K.take u).length + 1 = (K.take u ++ [l[j].key]).length := by rw [List.length_append]; rfl
        have x7 : Ext h h7 := ext_fr (x1.trans (x15.trans x6)) f7 fun b hb => (hlow b (hsl0 b hb)).1
        have hgo := app_sl (K := fun vv h8 => ∃ ap_2 : Option Addr, ∃ ap_n_2 ap_c_2 : Nat, vv = (.slice ap_2 ap_n_2 ap_c_2) ∧ (∃ K' : List Str, ap_n_2 = K'.length ∧ Ext h h8 ∧ Sl eStr h8 ap_2 ap_c_2 K' ∧ Own eStr.k tS h.size h8 ap_2 ap_c_2 ∧ K'.length ≤ j + 1 ∧ KeysP (l.take (j + 1)) K')) aS s7 w7 s5' (by have := x7.size; omega) (by rw [List.length_append, List.length_take, List.length_drop]; show (min u K.length + 1 + (K.length - u)) * 16 ≤ _; omega) fun a2 c2 h8 f8 s8 w8 bl8 => by
          rw [List.append_assoc] at s8
          have el : (K.take u ++ [l[j].key]).length + (K.drop u).length = (K.take u ++ l[j].key :: K.drop u).length := by rw [← List.length_append, List.append_assoc]; rfl
          refine ⟨a2, _, c2, by rw [el], K.take u ++ l[j].key :: K.drop u, rfl, ext_fr x7 f8 fun b hb => (w7.low hb).1, s8, w8, ?_, ins_srt hu pK.srt hlo hhi, fun k => ?_⟩
          · rw [List.length_append, List.length_cons, List.length_take, List.length_drop]; omega
          · rw [ins_mem, mem1, pK.mem]
            exact or_congr Iff.rfl ⟨fun e => ⟨g, e.symm⟩, fun e => e.2.symm⟩
        rw [← e7'] at hgo
        exact hgo
      by_cases huK : u < K.length
      · obtain ⟨b, o, eo, d⟩ := sK.at (List.getElem?_eq_getElem huK)
        refine ⟨slt K[u] l[j].key, ⟨fun _ => ⟨b, o, eo, by omega, by omega, _, d.1, by omega, by omega, rfl⟩, fun q => absurd (ge_of_dec q) (by omega)⟩, fun q => ?_, fun q => ?_⟩
        · rw [wadd u (by omega)]
          refine ⟨⟨u + 1, rfl, huK, fun t ht ht2 => ?_⟩, by simp only [Int.toNat_natCast]; omega⟩
          rcases Nat.lt_or_ge t u with r | r
          · exact hlo t ht r
          · have : t = u := by omega
            subst this; exact q
        · refine ⟨decide (K[u] = l[j].key), ⟨fun _ => ⟨b, o, eo, by omega, by omega, _, d.1, by omega, by omega, rfl⟩, fun q => absurd (ge_of_dec q) (by omega)⟩, fun q2 h3 x3 => there huK (of_decide_eq_true q2) h3 x3, fun q2 => put fun _ => ?_⟩
          rcases slt_or (a := K[u]) (b := l[j].key) q with r | r
          · exact absurd r (of_decide_eq_false q2)
          · exact r
      · refine ⟨false, ⟨fun q => absurd (lt_of_dec q) huK, fun _ => rfl⟩, fun q => (by cases q), fun _ => ⟨false, ⟨fun q => absurd (lt_of_dec q) huK, fun _ => rfl⟩, fun q => (by cases q), fun _ => put fun q => absurd q huK⟩⟩
    · rintro out' _ c' h2 ⟨K', rfl, x2, s2, w2, b2, p2⟩
      rw [wadd j (by omega)]
      exact ⟨⟨j + 1, K', rfl, hjl, rfl, x2, s2, w2, b2, p2⟩, by simp only [Int.toNat_natCast]; omega⟩
  · have hjl : j = l.length := by have := ge_of_dec hge; omega
    subst hjl
    rw [List.take_length] at pK
    exact ⟨x1, K, out, cc, rfl, sK, wK, pK, hKj⟩
end
end Go.Proofs.YtfjcciaabkjkgaaGreatDoor
namespace Go.Proofs.YtfjcciaabkjkgaaGreatDoor
open Go Ml
namespace Ml
theorem famK_start {keys : List Str} : famK keys (List.replicate keys.length start) = stX := by
  funext k
  unfold famK
  split
  · next h => rw [List.getD_eq_getElem?_getD, List.getElem?_replicate, if_pos h]; rfl
  · rfl
theorem rest_nil {n : Nat} : Ml.Rest n [] = fun i => i ∈ List.range n := by
  funext i
  unfold Ml.Rest
  simp
theorem all_range {l : List Mv} : All l = fun i => i ∈ List.range l.length := by
  funext i
  unfold All
  simp
end Ml
section
variable {h : Heap} {la : Option Addr} {lc : Nat} {l : List Mv}
set_option maxHeartbeats 8000000 in
theorem rleast_c (sl : Sl eMv h la lc l) (hl24 : l.length ≤ 24) (ht : ∀ i, i < l.length → okT (mv l i)) :
    HC Tryz.prog 28 #[.slice la l.length lc] h fun v h' => Ext h h' ∧ ∃ A r aa ac, v = .tuple #[.slice aa (List.length A) ac, .bool r] ∧ Sl eN h' aa ac A ∧ ((r = true ∧ Gr l (fun i => i ∈ List.range l.length) stX A) ∨ (r = false ∧ A = [] ∧ ¬ Cmp l (fun i => i ∈ List.range l.length) stX)) := by
  refine f28_sh _ _ _ _ _ ((rkeys_c sl (by omega)).mono ?_)
  rintro _ h1 ⟨x1, K, ka, kc, rfl, sK, wK, pK, hKl⟩
  refine ⟨ka, _, kc, rfl, fun nb h2 e2 eh2 x h3 lox ltx x3 => ?_⟩
  have r2 : h2[nb]? = some (.cells #[.slice la l.length lc, .slice ka K.length kc, .slice none 0 0] 78 (0, 0)) := by rw [eh2]; exact push_new e2
  have x2 : Ext h1 h2 := by rw [eh2]; exact Ext.push _ _
  have z2 : h2.size = h1.size + 1 := by rw [eh2]; simp
  clear eh2
  have z1 := x1.size; have z3 := x3.size
  refine ⟨fun i xc a n c hh => ∃ (j : Nat) (L : List Sv), i = j ∧ j ≤ K.length ∧ xc = 0 ∧ n = L.length ∧ L.length = j ∧ Ext h2 hh ∧ h3.size ≤ hh.size ∧ Sl eSv hh a c L ∧ Own eSv.k tMts h3.size hh a c ∧ ∀ (t : Nat) q, L[t]? = some q → InM hh q Ml.start,
    fun i _ _ _ _ _ => K.length - i.toNat, ⟨0, [], rfl, Nat.zero_le _, rfl, rfl, rfl, x3, Nat.le_refl _, Sl.nil _ _, Own.nil _ _ _ _, fun t q e => by simp at e⟩, ?_⟩
  rintro _ _ a _ c h4 ⟨j, L, rfl, hj, rfl, rfl, hLj, x4, z4, sL, wL, hL⟩
  have r4 := x4.row r2
  refine ⟨ka, _, kc, by rw [hcell_row r4]; rfl, fun hlt => ?_, fun hge => ?_⟩
  · have hjl := lt_of_dec hlt
    refine ⟨Ext, fit_ext, fun ys _ hx xx => xx.kp _, (rstart_c h4).mono ?_⟩
    rintro _ h5 ⟨a5, c5, rfl, x5, s5, w5⟩
    refine ⟨x5, x5.kp _, a5, _, c5, rfl, fun nb1 h6 e6 eh6 => ?_⟩
    have x6 : Ext h5 h6 := by rw [eh6]; exact Ext.push _ _
    have z5 := x5.size
    refine app_onb (x := (a5, Ml.start.length, c5)) aSv e6 eh6 rfl (sL.ext x5) (wL.ext x5) (by omega) rfl (by omega) fun a' c' h7 f7 s7 w7 bl7 => ⟨fun b hb hlt6 => ?_, a', _, c', rfl, fun h8 f8 hp => ?_⟩
    · simp at hb; subst hb
      have hx5 : b < h5.size := by omega
      rw [x6.block b hx5]
      exact f7.block b hx5 fun q => by have := (wL.low q).1; omega
    · obtain ⟨ys, rp⟩ := hp
      have low7 : ∀ b, blkA a b → h3.size ≤ b := fun b hb => (wL.low hb).1
      have q7 : Qt [tMts] (blkA a) h5 := fun b hb cs T fr r => by
        obtain ⟨cs', fr', r'⟩ := Typ.of_own (wL.ext x5) b hb
        rw [r'] at r; cases r; exact List.mem_cons_self
      have nx : ∀ b, blkA a' b → ¬ b = x := fun b hb q => by have := (w7.low hb).1; omega
      rw [wadd j (by omega)]
      refine ⟨⟨j + 1, L ++ [(a5, Ml.start.length, c5)], rfl, hjl, rfl, by simp, by simp [hLj], ext_of_fr f8 (ext_fr (x4.trans x5) f7 fun b hb => by have := low7 b hb; omega) lox, by have := f7.size; have := f8.size; omega, s7.fr f8 nx, w7.fr f8 nx, fun t q e => ?_⟩, by simp only [Int.toNat_natCast]; omega⟩
      refine InM.fr (InM.fr ?_ f7 q7 (by decide)) f8 (Qt.one rp) (by decide)
      rcases Nat.lt_or_ge t L.length with r | r
      · rw [List.getElem?_append_left r] at e
        exact (hL t q e).ext x5
      · rw [List.getElem?_append_right r] at e
        have h0 : t - L.length = 0 := by
          have := (List.getElem?_eq_some_iff.1 e).1
          simp at this; omega
        rw [h0] at e
        simp only [List.getElem?_cons_zero, Option.some.injEq] at e
        subst e
        exact ⟨rfl, s5, Typ.of_own w5⟩
  · have hjl : j = K.length := by have := ge_of_dec hge; omega
    have x04 := x1.trans (x2.trans x4)
    have F4 : Fnd h4 nb l la lc K ka kc (nb + 1) [] none 0 := by
      refine ⟨r4, sl.ext x04, (sK.ext x2).ext x4, fun h0 b hb => ?_, fun h0 b hb => ?_, ⟨[], rfl, Sl.nil _ _, fun i q p e => by simp at e⟩, Own.nil _ _ _ _, Nat.lt_succ_self _, row_lt r4⟩
      · have := sl_lt (by decide) sl h0 hb; omega
      · have := (wK.low hb).2; omega
    have ste : Ste h4 a L.length c (List.replicate K.length Ml.start) := by
      refine ⟨⟨L, by rw [List.length_replicate]; omega, rfl, sL, fun i q S e1 e2 => ?_⟩, Typ.of_own wL⟩
      rw [List.getElem?_replicate] at e2
      split at e2
      · cases e2; exact hL i q e1
      · cases e2
    refine (find_r (N := nb + 1) hl24 ht (fun i hi hk => (pK.mem _).2 ⟨l[i], List.getElem_mem hi, by rw [← mv_at hi]; exact hk, by rw [← mv_at hi]⟩) (by omega) pK.nodup l.length (order := []) (d := 0) (oa := none) (oc := 0) (by simp) F4 ⟨List.nodup_nil, fun p hp => by cases hp⟩ (Sl.nil _ _) Typ.none ste (by simp) (fun S hS => by
      have := List.eq_of_mem_replicate hS
      rw [this]; exact pmL_start) dn_nil List.nodup_nil (fun i hi => by cases hi) ⟨_, Lab.start famK_start⟩).mono ?_
    rintro _ h9 ⟨⟨V', va', vc', f9, _⟩, A, r, aa, ac, rfl, sA, tA, hA⟩
    refine ⟨aa, _, ac, r, rfl, ext_fr x04 f9 fun b hb => ?_, A, r, aa, ac, rfl, sA, ?_⟩
    · rcases hb with q | q
      · omega
      · exact (blkA_none q).elim
    · unfold FndR at hA
      rw [famK_start, rest_nil] at hA
      rcases hA with ⟨q, t, eA, gr⟩ | q
      · have : A = t := eA
        subst this
        exact .inl ⟨q, gr⟩
      · exact .inr q
theorem of_c (sl : Sl eMv h la lc l) (hl : l.length ≤ 1048576) (key : Str) :
    HC Tryz.prog 27 #[.slice la l.length lc, .string key] h fun v h' => Ext h h' ∧ ∃ a c, v = .slice a (ofN l key).length c ∧ Sl eN h' a c (ofN l key) ∧ Own eN.k 3 h.size h' a c := by
  refine f27_sh _ _ _ _ _ _ ⟨fun out n c i hh => ∃ j : Nat, i = j ∧ j ≤ l.length ∧ n = ((List.range j).filter fun i => keyed (mv l i) && decide ((mv l i).key = key)).length ∧ Ext h hh ∧ Sl eN hh out c ((List.range j).filter fun i => keyed (mv l i) && decide ((mv l i).key = key)) ∧ Own eN.k 3 h.size hh out c,
    fun _ _ _ i _ => l.length - i.toNat, ⟨0, rfl, Nat.zero_le _, rfl, Ext.refl _, Sl.nil _ _, Own.nil _ _ _ _⟩, ?_⟩
  rintro out _ c _ h1 ⟨j, rfl, hj, rfl, x1, s1, w1⟩
  refine ⟨fun hlt => ?_, fun hge => ?_⟩
  · have hjl := lt_of_dec hlt
    have emv : mv l j = l[j] := mv_at hjl
    obtain ⟨lb, lo, ela, dl⟩ := (sl.ext x1).at (List.getElem?_eq_getElem hjl)
    have hfl : ((List.range j).filter fun i => keyed (mv l i) && decide ((mv l i).key = key)).length ≤ j := Nat.le_trans (List.length_filter_le ..) (by simp)
    have step : (List.range (j + 1)).filter (fun i => keyed (mv l i) && decide ((mv l i).key = key)) = (List.range j).filter (fun i => keyed (mv l i) && decide ((mv l i).key = key)) ++ if (keyed l[j] && decide (l[j].key = key)) = true then [j] else [] := by
      rw [List.range_succ, List.filter_append, ← emv]
      congr 1
      by_cases q : (keyed (mv l j) && decide ((mv l j).key = key)) = true
      · rw [if_pos q, List.filter_cons, if_pos q]; rfl
      · rw [if_neg q, List.filter_cons, if_neg q]; rfl
    refine ⟨fun out' n' c' hh => n' = ((List.range (j + 1)).filter fun i => keyed (mv l i) && decide ((mv l i).key = key)).length ∧ Ext h hh ∧ Sl eN hh out' c' ((List.range (j + 1)).filter fun i => keyed (mv l i) && decide ((mv l i).key = key)) ∧ Own eN.k 3 h.size hh out' c',
      ⟨keyed l[j] && decide (l[j].key = key), ⟨lb, lo, ela, by omega, by omega, _, _, _, _, _, _, _, _, dl.1, dl.2.1, dl.2.2.1, dl.2.2.2.1, dl.2.2.2.2.1, dl.2.2.2.2.2.1, dl.2.2.2.2.2.2.1, dl.2.2.2.2.2.2.2.1, fun g => ?_, fun g => ?_⟩, fun q h3 x3 nb h5 e5 eh5 => ?_, fun q h3 x3 => ?_⟩, ?_⟩
    · have g : keyed l[j] = true := g
      rw [g]; rfl
    · have g : keyed l[j] = false := g
      rw [g]; rfl
    · rw [step, if_pos q]
      refine app_one (x := j) aN e5 eh5 rfl (x1.trans x3) (s1.ext x3) (w1.ext x3) rfl (by omega) fun a' c' h6 x6 f6 s6 w6 _ => ⟨a', _, c', rfl, by simp, x6, s6, w6⟩
    · rw [step, if_neg (by rw [q]; simp), List.append_nil]
      exact ⟨rfl, x1.trans x3, s1.ext x3, w1.ext x3⟩
    · rintro out' _ c' h2 ⟨rfl, x2, s2, w2⟩
      rw [wadd j (by omega)]
      exact ⟨⟨j + 1, rfl, hjl, rfl, x2, s2, w2⟩, by simp only [Int.toNat_natCast]; omega⟩
  · have hjl : j = l.length := by have := ge_of_dec hge; omega
    subst hjl
    exact ⟨x1, out, c, rfl, s1, w1⟩
end
def Ml.KeyR (l : List Mv) (key : Str) (A : List Nat) (r : Int) : Prop :=
  (chkL l ≠ 0 ∧ A = [] ∧ r = 230) ∨ (chkL l = 0 ∧ 24 < (ofN l key).length ∧ A = [] ∧ r = 250) ∨ (chkL l = 0 ∧ (ofN l key).length ≤ 24 ∧ LeastR l (ofN l key) A r)
theorem Ml.LeastR.unique {l : List Mv} {N A B : List Nat} {r q : Int} (a : LeastR l N A r) (b : LeastR l N B q) : A = B ∧ r = q := by
  rcases a with ⟨rfl, a⟩ | ⟨rfl, rfl, a⟩ <;> rcases b with ⟨rfl, b⟩ | ⟨rfl, rfl, b⟩
  · exact ⟨a.unique b, rfl⟩
  · exact absurd a.cmp b
  · exact absurd b.cmp a
  · exact ⟨rfl, rfl⟩
theorem Ml.FindR.unique {l : List Mv} {A B : List Nat} {r q : Int} (a : FindR l A r) (b : FindR l B q) : A = B ∧ r = q := by
  rcases a with ⟨a1, rfl, rfl⟩ | ⟨a1, a2, rfl, rfl⟩ | ⟨a1, a2, a3⟩ <;> rcases b with ⟨b1, rfl, rfl⟩ | ⟨b1, b2, rfl, rfl⟩ | ⟨b1, b2, b3⟩ <;> first | exact ⟨rfl, rfl⟩ | exact absurd b1 a1 | exact absurd a1 b1 | omega | exact a3.unique b3
theorem Ml.KeyR.unique {l : List Mv} {key : Str} {A B : List Nat} {r q : Int} (a : KeyR l key A r) (b : KeyR l key B q) : A = B ∧ r = q := by
  rcases a with ⟨a1, rfl, rfl⟩ | ⟨a1, a2, rfl, rfl⟩ | ⟨a1, a2, a3⟩ <;> rcases b with ⟨b1, rfl, rfl⟩ | ⟨b1, b2, rfl, rfl⟩ | ⟨b1, b2, b3⟩ <;> first | exact ⟨rfl, rfl⟩ | exact absurd b1 a1 | exact absurd a1 b1 | omega | exact a3.unique b3
section
variable {h : Heap} {la : Option Addr} {lc : Nat} {l : List Mv}
set_option maxHeartbeats 8000000 in
theorem rkey_c (sl : Sl eMv h la lc l) (hl : l.length ≤ 1048576) (key : Str) :
    HC Tryz.prog 11 #[.slice la l.length lc, .string key] h fun v h' => Ext h h' ∧ ∃ A r aa ac, v = .tuple #[.slice aa (List.length A) ac, .int .i64 r] ∧ Sl eN h' aa ac A ∧ KeyR l key A r := by
  refine f11_sh _ _ _ _ _ _ ((rcheck_l sl (by omega)).mono ?_)
  rintro _ h1 ⟨rfl, x1⟩
  refine ⟨_, rfl, fun g => ?_, fun g => ?_⟩
  · have g : chkL l ≠ 0 := by simpa using g
    exact ⟨x1, [], _, none, 0, rfl, Sl.nil _ _, .inl ⟨g, rfl, chk_val g⟩⟩
  have h0 : chkL l = 0 := by simpa using g
  have hc : ∀ x ∈ l, check x = 0 := by
    unfold chkL at h0
    split at h0
    · assumption
    · exact absurd h0 (by decide)
  have ht : ∀ i, i < l.length → okT (mv l i) := fun i hi => (check_okT (hc _ (by rw [mv_at hi]; exact List.getElem_mem hi))).1
  refine (of_c (sl.ext x1) hl key).mono ?_
  rintro _ h2 ⟨x2, oa, oc, rfl, so, wo⟩
  have hin : ∀ i ∈ ofN l key, i < l.length := fun i hi => by
    unfold ofN at hi
    rw [List.mem_filter] at hi
    exact List.mem_range.1 hi.1
  generalize hown : ofN l key = own at so wo hin
  have hsrt : own.Pairwise (· < ·) := by rw [← hown]; exact ofN_lt key
  refine ⟨oa, _, oc, rfl, fun g2 => ⟨x1.trans x2, [], _, none, 0, rfl, Sl.nil _ _, .inr (.inl ⟨h0, by rw [hown]; have := of_decide_eq_true g2; omega, rfl, rfl⟩)⟩, fun g2 => ?_⟩
  have h24 : own.length ≤ 24 := by have := of_decide_eq_false g2; omega
  refine ⟨fun m n c i hh => ∃ j : Nat, i = j ∧ j ≤ own.length ∧ n = (pickL l (own.take j)).length ∧ Ext h2 hh ∧ Sl eMv hh m c (pickL l (own.take j)) ∧ Own eMv.k tMv h2.size hh m c, fun _ _ _ i _ => own.length - i.toNat, ⟨0, rfl, Nat.zero_le _, rfl, Ext.refl _, Sl.nil _ _, Own.nil _ _ _ _⟩, ?_⟩
  rintro m _ c _ h3 ⟨j, rfl, hj, rfl, x3, sm, wm⟩
  have x03 := x1.trans (x2.trans x3)
  refine ⟨fun hlt => ?_, fun hge => ?_⟩
  · have hjl := lt_of_dec hlt
    obtain ⟨ob, oo, eo, d⟩ := (so.ext x3).at (List.getElem?_eq_getElem hjl)
    have hil := hin _ (List.getElem_mem hjl)
    obtain ⟨lb, lo, ela, dl⟩ := (sl.ext x03).at (List.getElem?_eq_getElem hil)
    refine ⟨ob, oo, eo, by omega, by omega, ((own[j] : Nat) : Int), d.1, lb, lo, ela, by omega, by omega, _, _, _, _, _, _, _, _, dl.1, dl.2.1, dl.2.2.1, dl.2.2.2.1, dl.2.2.2.2.1, dl.2.2.2.2.2.1, dl.2.2.2.2.2.2.1, dl.2.2.2.2.2.2.2.1, fun nb h4 e4 eh4 => ?_⟩
    have ep : pickL l (own.take (j + 1)) = pickL l (own.take j) ++ [mv l own[j]] := by unfold pickL; rw [List.take_add_one, List.getElem?_eq_getElem hjl, List.map_append]; rfl
    have lp : (pickL l (own.take j)).length = j := by unfold pickL; rw [List.length_map, List.length_take]; omega
    refine app_one (x := mv l own[j]) aMv e4 eh4 (by rw [mv_at hil]; rfl) x3 sm wm rfl (by rw [lp]; omega) fun a' c' h5 x5 f5 s5 w5 _ => ⟨a', _, c', rfl, ?_⟩
    rw [← ep] at s5
    rw [wadd j (by omega)]
    exact ⟨⟨j + 1, rfl, hjl, by rw [ep]; simp, x5, s5, w5⟩, by simp only [Int.toNat_natCast]; omega⟩
  · have hjl : j = own.length := by have := ge_of_dec hge; omega
    subst hjl
    rw [List.take_length] at sm ⊢
    have lp : (pickL l own).length = own.length := by unfold pickL; simp
    refine (rleast_c sm (by omega) fun i hi => by rw [mv_pick (by omega)]; exact ht _ (hin _ (by rw [atO_at (by omega)]; exact List.getElem_mem _))).mono ?_
    rintro _ h6 ⟨x6, A, r, aa, ac, rfl, sA, hA⟩
    refine ⟨aa, _, ac, r, rfl, fun e => ?_, fun e => ?_⟩
    · rcases hA with ⟨q, _⟩ | ⟨q, _, hn⟩
      · rw [q] at e; cases e
      · refine ⟨x03.trans x6, [], _, none, 0, rfl, Sl.nil _ _, .inr (.inr ⟨h0, by rw [hown]; exact h24, .inr ⟨rfl, rfl, fun cc => hn ?_⟩⟩)⟩
        rw [← all_range]
        rw [hown] at cc
        exact (pick_cmp hsrt stX_srt).2 cc
    · rcases hA with ⟨q, gr⟩ | ⟨q, _⟩
      · rw [← all_range] at gr
        have gr2 := pick_gr hsrt stX_srt gr
        have hAl : ∀ x ∈ A, x < own.length := fun x hx => by
          have := (gr.mem.1 x).2 hx
          exact all_pick.1 this
        have hAn : A.length ≤ 24 := by have := nodup_le gr.mem.2 hAl; omega
        refine ⟨fun o n c i hh => ∃ j : Nat, i = j ∧ j ≤ A.length ∧ n = ((A.take j).map (atO own)).length ∧ Ext h6 hh ∧ Sl eN hh o c ((A.take j).map (atO own)) ∧ Own eN.k 3 h6.size hh o c, fun _ _ _ i _ => A.length - i.toNat, ⟨0, rfl, Nat.zero_le _, rfl, Ext.refl _, Sl.nil _ _, Own.nil _ _ _ _⟩, ?_⟩
        rintro o _ c7 _ h7 ⟨j, rfl, hj, rfl, x7, s7, w7⟩
        refine ⟨fun hlt => ?_, fun hge => ?_⟩
        · have hjl := lt_of_dec hlt
          obtain ⟨ab, ao, ea, d⟩ := (sA.ext x7).at (List.getElem?_eq_getElem hjl)
          have hAj := hAl _ (List.getElem_mem hjl)
          obtain ⟨ob, oo, eo, d2⟩ := ((so.ext x3).ext (x6.trans x7)).at (List.getElem?_eq_getElem hAj)
          refine ⟨ab, ao, ea, by omega, by omega, ((A[j] : Nat) : Int), d.1, ob, oo, eo, by omega, by omega, ((own[A[j]] : Nat) : Int), d2.1, fun nb h8 e8 eh8 => ?_⟩
          have ep : (A.take (j + 1)).map (atO own) = (A.take j).map (atO own) ++ [own[A[j]]] := by
            rw [List.take_add_one, List.getElem?_eq_getElem hjl, List.map_append]
            congr 1
            show [atO own A[j]] = _
            rw [atO_at hAj]
          have lp2 : ((A.take j).map (atO own)).length = j := by rw [List.length_map, List.length_take]; omega
          refine app_one (x := own[A[j]]) aN e8 eh8 rfl x7 s7 w7 rfl (by rw [lp2]; omega) fun a' c' h9 x9 f9 s9 w9 _ => ⟨a', _, c', rfl, ?_⟩
          rw [← ep] at s9
          rw [wadd j (by omega)]
          exact ⟨⟨j + 1, rfl, hjl, by rw [ep]; simp, x9, s9, w9⟩, by simp only [Int.toNat_natCast]; omega⟩
        · have hjl : j = A.length := by have := ge_of_dec hge; omega
          subst hjl
          rw [List.take_length] at s7 ⊢
          exact ⟨x03.trans (x6.trans x7), A.map (atO own), _, o, c7, rfl, s7, .inr (.inr ⟨h0, by rw [hown]; exact h24, .inl ⟨rfl, by rw [hown]; exact gr2⟩⟩)⟩
      · rw [q] at e; cases e
end
end Go.Proofs.YtfjcciaabkjkgaaGreatDoor
namespace Go.Proofs.YtfjcciaabkjkgaaGreatDoor
open Go
section
variable {κ : Type}
def Itr (h : Heap) (r b : Nat) (enc : κ → Value) (l todo : List (κ × Value)) (cur : Option (κ × Value)) : Prop :=
  ∃ es clock seen c0, h[b]? = some (.map es clock) ∧ es.toList.map (fun e => (e.key, e.val)) = l.map (fun p => (enc p.1, p.2)) ∧ (l.map (·.1)).Nodup ∧ Brn es.toList clock ∧
    h[r]? = some (.mapIter (some b) clock seen c0) ∧ clock ≤ c0 ∧ (leftOf es seen).toList.map (fun e => (e.key, e.val)) = todo.map (fun p => (enc p.1, p.2)) ∧
    ∀ p, cur = some p → ∃ e ∈ es.toList, ∃ s' : Array Nat, seen = s'.push e.born ∧ c0 = clock ∧ e.key = enc p.1 ∧ e.val = p.2
section
variable {h h' : Heap} {r b : Nat} {enc : κ → Value} {l todo : List (κ × Value)} {cur : Option (κ × Value)}
theorem Itr.map (i : Itr h r b enc l todo cur) : MapL h b enc l := let ⟨es, c, _, _, h1, h2, h3, h4, _⟩ := i; ⟨es, c, h1, h2, h3, h4⟩
theorem Itr.rows (i : Itr h r b enc l todo cur) (e1 : h'[b]? = h[b]?) (e2 : h'[r]? = h[r]?) : Itr h' r b enc l todo cur :=
  let ⟨es, c, s, c0, h1, h2, h3, h4, h5, h6⟩ := i; ⟨es, c, s, c0, e1.trans h1, h2, h3, h4, e2.trans h5, h6⟩
theorem Itr.lt (i : Itr h r b enc l todo cur) : r < h.size := let ⟨_, _, _, _, _, _, _, _, h5, _⟩ := i; row_lt h5
theorem Itr.ext (i : Itr h r b enc l todo cur) (x : Ext h h') : Itr h' r b enc l todo cur := i.rows (x.block b i.map.lt) (x.block r i.lt)
theorem Itr.fr {S : Nat → Prop} (i : Itr h r b enc l todo cur) (f : Fr S h h') (nb : ¬ S b) (nr : ¬ S r) : Itr h' r b enc l todo cur := i.rows (f.block b i.map.lt nb) (f.block r i.lt nr)
theorem Itr.ne {p : Nat} {c : Array Value} {T : TypeId} {fr : Nat × Nat} (i : Itr h r b enc l todo cur) (q : h[p]? = some (.cells c T fr)) : p ≠ r := fun e => by
  obtain ⟨_, _, _, _, _, _, _, _, h5, _⟩ := i
  subst e; rw [q] at h5; cases h5
end
theorem map_split {α β : Type} (f : α → β) : ∀ {L : List α} {a b : List α} {x : α}, L = a ++ x :: b → L.map f = a.map f ++ f x :: b.map f := fun e => by rw [e]; simp
variable {P : Program} {ρ : Regs} {h : Heap} {dd : Option Nat} {ty : TypeId} {p : String} {af : Array Edge} {g : Option (Nat × Bool)} {enc : κ → Value} {b : Nat} {l todo : List (κ × Value)} {cur : Option (κ × Value)}
theorem hn_rangeMap {t kt et : TypeId} {x : Operand} {K : Value → Heap → Prop} (hm : P.underlying t = some (.map kt et)) (hx : ev ρ x = .map (some b)) (ml : MapL h b enc l)
    (hk : ∀ r h', r = h.size → Ext h h' → h'.size = h.size + 1 → Itr h' r b enc l l none → K (ptr r 0) h') : HStep P ρ ⟨dd, .range t x, ty, p, af, g⟩ h K := by
  obtain ⟨es, c, h1, h2, h3, h4⟩ := ml
  refine hs_of (v := ptr h.size 0) (h' := h.push (.mapIter (some b) c #[] c)) (fun w hw => ?_) (hk _ _ rfl (Ext.push _ _) (by simp) ⟨es, c, #[], c, (Ext.push h (.mapIter (some b) c #[] c)).block b (row_lt h1) |>.trans h1, h2, h3, h4, push_new rfl, Nat.le_refl _, ?_, fun _ e => by cases e⟩)
  · subst hw
    simp only [execOp, hx, Instr.range, Sem.run_bind, run_underlying hm, Result.andThen_ok, MapKept.run_getObj_map h1, Sem.run_pure, rnew]
    rfl
  · have : leftOf es #[] = es := by simp [leftOf]
    rw [this]; exact h2
theorem left_push {es : Array MapEntry} {seen : Array Nat} {e : MapEntry} {s1 s2 : List MapEntry} (hn : (es.toList.map (·.born)).Nodup) (hs : (leftOf es seen).toList = s1 ++ e :: s2) : (leftOf es (seen.push e.born)).toList = s1 ++ s2 := by
  have e1 : (leftOf es (seen.push e.born)).toList = ((leftOf es seen).toList).filter fun x => x.born ≠ e.born := by
    simp only [leftOf, Array.toList_filter, List.filter_filter]
    refine List.filter_congr fun x _ => ?_
    rw [Bool.eq_iff_iff]
    simp [not_or, and_comm]
  have hnd : ((s1 ++ e :: s2).map (·.born)).Nodup := by
    rw [← hs]
    have : ((leftOf es seen).toList).Sublist es.toList := by
      simp only [leftOf, Array.toList_filter]; exact List.filter_sublist
    exact hn.sublist (this.map _)
  rw [e1, hs, List.filter_append, List.filter_cons]
  rw [List.map_append, List.map_cons, List.nodup_append, List.nodup_cons] at hnd
  obtain ⟨_, ⟨k2, _⟩, k3⟩ := hnd
  rw [if_neg (by simp)]
  congr 1
  · exact List.filter_eq_self.2 fun x hx => by
      have := k3 x.born (List.mem_map_of_mem hx) e.born (by simp)
      simpa using this
  · exact List.filter_eq_self.2 fun x hx => by
      have : x.born ≠ e.born := fun q => k2 (q ▸ List.mem_map_of_mem hx)
      simpa using this
def Nx (todo : List (κ × Value)) (j : Bool) (todo' : List (κ × Value)) (cur' : Option (κ × Value)) : Prop :=
  (j = false → todo = []) ∧ (j = true → ∃ s1 q s2, todo = s1 ++ q :: s2 ∧ todo' = s1 ++ s2 ∧ cur' = some q)
theorem hn_nextMap {x : Operand} {r : Nat} {K : Value → Heap → Prop} (hx : ev ρ x = ptr r 0) (it : Itr h r b enc l todo cur)
    (hk : ∀ j v h' todo' cur', (∃ cs, v = .tuple cs ∧ cs[0]? = some (.bool j)) → Only r h h' → Itr h' r b enc l todo' cur' → Nx todo j todo' cur' → K v h') : HStep P ρ ⟨dd, .next x false, ty, p, af, g⟩ h K := by
  have h0 : todo = [] → ∀ v, (∃ cs, v = .tuple cs ∧ cs[0]? = some (.bool false)) → K v h := fun e v hv => hk false v h todo cur hv ⟨rfl, fun _ _ => rfl⟩ it ⟨fun _ => e, fun q => by cases q⟩
  have h1 : ∀ s1 s2 q h', todo = s1 ++ q :: s2 → Only r h h' → Itr h' r b enc l (s1 ++ s2) (some q) → ∀ v, (∃ cs, v = .tuple cs ∧ cs[0]? = some (.bool true)) → K v h' := fun s1 s2 q h' e o i v hv => hk true v h' _ _ hv o i ⟨fun q => (by cases q), fun _ => ⟨s1, q, s2, e, rfl, rfl⟩⟩
  obtain ⟨es, c, seen, c0, q1, q2, q3, q4, q5, q6, q7, q8⟩ := it
  intro w hw
  subst hw
  rcases run_next_at (P := P) w ty r b c c0 seen es c q5 q1 q4.1 q6 with ⟨z, e⟩ | ⟨e, he, w1, hw1, hr⟩
  · have hl : leftOf es seen = #[] := Array.eq_empty_of_size_eq_zero z
    have ht : todo = [] := by rw [hl] at q7; simpa using q7.symm
    simp only [execOp, hx, Sem.run_bind]
    rw [show (ptr r 0 : Value) = .pointer (some ⟨r, 0, none⟩) from rfl, e]
    exact ⟨Sim.refl _, h0 ht _ ⟨_, rfl, rfl⟩⟩
  · obtain ⟨a, d, hs⟩ := List.append_of_mem he
    have hT := map_split (fun e : MapEntry => (e.key, e.val)) hs
    rw [q7] at hT
    obtain ⟨s1, s', e1, e2, e3⟩ := List.map_eq_append_iff.1 hT
    obtain ⟨q, s2, e4, e5, e6⟩ := List.map_eq_cons_iff.1 e3
    have hl1 := left_push q4.2 hs
    simp only [execOp, hx, Sem.run_bind]
    rw [show (ptr r 0 : Value) = .pointer (some ⟨r, 0, none⟩) from rfl, hr]
    have hw1h : w1.heap = w.heap := by rcases hw1 with rfl | rfl <;> rfl
    have hO : Only r w.heap (ChangeMaps.setBlock w1 r (.mapIter (some b) c (seen.push e.born) c)).heap := by
      rw [← hw1h]; exact only_set
    refine ⟨?_, h1 s1 s2 q _ (by rw [e1, e4]) hO ⟨es, c, seen.push e.born, c, ?_, q2, q3, q4, ?_, Nat.le_refl _, ?_, ?_⟩ _ ⟨_, rfl, rfl⟩⟩
    · have hg : HG w.heap (ChangeMaps.setBlock w1 r (.mapIter (some b) c (seen.push e.born) c)).heap := by
        show HG w.heap (w1.heap.setIfInBounds r _)
        rw [hw1h]; exact hg_set q5 (by simp)
      rcases hw1 with rfl | rfl
      · exact ⟨rfl, rfl, rfl, hg⟩
      · exact ⟨rfl, rfl, rfl, hg⟩
    · rw [hO.block b (fun q => by subst q; rw [q1] at q5; cases q5)]; exact q1
    · show (w1.heap.setIfInBounds r _)[r]? = _
      rw [hw1h]; exact set_same q5
    · rw [hl1, List.map_append, List.map_append, e2, e6]
    · intro p2 ep
      cases ep
      refine ⟨e, ?_, seen, rfl, rfl, ?_⟩
      · have : e ∈ es.toList.filter fun x => !seen.contains x.born := by simpa [leftOf] using he
        exact (List.mem_filter.1 this).1
      · simp only [Prod.mk.injEq] at e5
        exact ⟨e5.1.symm, e5.2.symm⟩
theorem hv_entryMap {x : Operand} {r : Nat} {q : κ × Value} {k' v' : Value} (hx : ev ρ x = ptr r 0) (it : Itr h r b enc l todo (some q)) (hk : enc q.1 = k') (hv : q.2 = v') : HVal P ρ ⟨dd, .entry x, ty, p, af, g⟩ h (.tuple #[k', v']) := by
  subst hk; subst hv
  obtain ⟨es, c, seen, c0, q1, q2, q3, q4, q5, q6, q7, q8⟩ := it
  obtain ⟨e, he, s', rfl, rfl, k1, k2⟩ := q8 q rfl
  refine hv_of fun w hw => ?_
  subst hw
  have := run_entry_at (P := P) w r b c0 s' es c0 e q5 q1 he q4.2
  simp only [execOp, hx, Sem.run_bind]
  rw [show (ptr r 0 : Value) = .pointer (some ⟨r, 0, none⟩) from rfl, this, k1, k2]
  rfl
theorem hv_extOf {x : Operand} {i : Nat} {v y : Value} (hx : ev ρ x = v) (hi : ∃ cs, v = .tuple cs ∧ cs[i]? = some y) : HVal P ρ ⟨dd, .extract x i, ty, p, af, g⟩ h y := by
  obtain ⟨cs, rfl, hi⟩ := hi
  exact hv_extract hx hi
end
end Go.Proofs.YtfjcciaabkjkgaaGreatDoor
namespace Go.Proofs.YtfjcciaabkjkgaaGreatDoor
open Go
open Go.Proofs.YtfjcciaabkjkgaaGreatDoor renaming hl_val → lv, hl_step → lp, hl_nil → ln, hl_yes → ly, hl_no → lo, hx_seq → xs, hx_region → xr, hx_cond → xc, hx_block → xb, hx_loopT → xl, hx_cut → xk, hx_has → xh, hx_skip → xi, hx_ret → xt, hx_exit → xe, seqQ_n → qn, seqQ_ret → qr, seqQ_exit → qe, blockQ_n → bn, blockQ_ret → br, blockQ_here → bh, hv_move → vm, hv_assign → va, hv_arith → vr, hv_load → vl, hv_loads → vL, hv_extract → vx, hv_field → vf, hv_index → vi, hp_pure → pp, hp_read → pr, has_cons → hc, has_nil → hn, hcells_cons → cc, hcells_nil → cn, rowcell → rc, hs_call → sc
set_option maxRecDepth 100000
set_option maxHeartbeats 4000000
theorem TyTF.agg40 : aggB Tryz.prog 40 = some true := by kernel_rfl
theorem TyTF.agg9 : aggB Tryz.prog 9 = some false := by kernel_rfl
theorem TyTF.cb25 : CallB Tryz.prog 25 := fun _ _ => Tryz.call25 _ _
theorem TyTF.cb39 : CallB Tryz.prog 39 := fun _ _ => Tryz.call39 _ _
theorem TyTF.el22 : elB Tryz.prog 22 = some 8 := by kernel_rfl
theorem TyTF.fld40_1 : fldB Tryz.prog 40 1 = some 1 := by kernel_rfl
theorem TyTF.mixed : Tryz.prog.follows .mixedOrders = true := by kernel_rfl
theorem TyTF.sz3 : szB Tryz.prog 3 = some 1 := by kernel_rfl
theorem TyTF.sz40 : szB Tryz.prog 40 = some 8 := by kernel_rfl
theorem TyTF.u22 : Tryz.prog.underlying 22 = some (.slice 40) := by kernel_rfl
theorem TyTF.u26 : Tryz.prog.underlying 26 = some (.slice 3) := by kernel_rfl
theorem TyTF.u45 : Tryz.prog.underlying 45 = some (.map 9 26) := by kernel_rfl
theorem TyTF.u9 : Tryz.prog.underlying 9 = some (.string) := by kernel_rfl
theorem TyTF.z26 : zeroB Tryz.prog 26 (.slice none 0 0) := by unfold zeroB; kernel_rfl
theorem TyTF.z3 : zeroB Tryz.prog 3 (.int .i64 0) := by unfold zeroB; kernel_rfl
theorem TyTF.z40 : zeroB Tryz.prog 40 (.agg #[(.int .i64 0), (.string ByteArray.empty), (.string ByteArray.empty), (.int .i64 0), (.bool false), (.int .i64 0), (.int .i64 0), (.int .i64 0)]) := by unfold zeroB; kernel_rfl
theorem ext_pushed_f4_sh {h h1 : Heap} {o : Obj} (e : h1 = Array.push h o) : Ext h h1 := by rw [e]; exact Ext.push _ _
theorem f25_sh (l : Option Addr) (a9 : Nat) (c0 : Nat) (h : Heap) (R : Value → Heap → Prop)
  (H : (∀ mb h1, mb = Array.size h → Ext h h1 → Array.size h1 = Array.size h + 1 → MapL h1 mb Value.string [] → (∃ (I5 : Int → Heap → Prop) (c9 : Int → Heap → Nat), I5 0 h1 ∧ (∀ (v : Int) (h2 : Heap), I5 v h2 → (((decide (v < (a9 : Int))) = true → (∃ c1 : Heap → Prop, (∃ b0 b1 : Nat, l = some ⟨b0, b1, none⟩ ∧ (0 : Int) ≤ v ∧ v < (a9 : Int) ∧ (∃ a3 : Int, ∃ a0 a1 : ByteArray, ∃ a6 : Int, ∃ a7 : Bool, ∃ a4 a5 a8 : Int, hcell h2 b0 (b1 + (Int.toNat v) * 8) = some (.int .i64 a3) ∧ hcell h2 b0 ((b1 + (Int.toNat v) * 8) + 1) = some (.string a0) ∧ hcell h2 b0 ((b1 + (Int.toNat v) * 8) + 2) = some (.string a1) ∧ hcell h2 b0 ((b1 + (Int.toNat v) * 8) + 3) = some (.int .i64 a6) ∧ hcell h2 b0 ((b1 + (Int.toNat v) * 8) + 4) = some (.bool a7) ∧ hcell h2 b0 ((b1 + (Int.toNat v) * 8) + 5) = some (.int .i64 a4) ∧ hcell h2 b0 ((b1 + (Int.toNat v) * 8) + 6) = some (.int .i64 a5) ∧ hcell h2 b0 ((b1 + (Int.toNat v) * 8) + 7) = some (.int .i64 a8) ∧ (((Ml.keyed ⟨a3, a0, a1, a6, a7, a4, a5, a8⟩) = true → (∃ c3 : Heap → Heap → Prop, Fit c3 ∧ (∀ (m : Nat) (h6 : Heap), Array.size h2 ≤ m → m < Array.size h6 → Ext h2 h6 → ((∀ ys, h6[m]? = some (.cells ys 40 (0, 0)) → ∀ hx, c3 h6 hx → Kp [m] h6 hx) ∧ (∃ b8 : List (ByteArray × Value), MapL h6 mb Value.string b8 ∧ ∃ d0 : Option Addr, ∃ b2 b3 : Nat, (lk b8 a0).getD (.slice none 0 0) = (.slice d0 b2 b3) ∧ (∀ b7 b6, b7 = Array.size h6 → b6 = Array.push h6 (.cells #[(.int .i64 v)] 3) → HAppend Tryz.prog 26 26 (.slice d0 b2 b3) (.slice (some ⟨b7, 0, none⟩) 1 1) b6 (fun vv d1 => c3 b6 d1 ∧ ∃ c8 : Option Addr, ∃ b5 b4 : Nat, vv = (.slice c8 b5 b4) ∧ (∃ b9 : List (ByteArray × Value), MapL d1 mb Value.string b9 ∧ ∀ c2, Only mb d1 c2 → MapL c2 mb Value.string (kput b9 a0 (.slice c8 b5 b4)) → (c1 c2))))))))) ∧ ((Ml.keyed ⟨a3, a0, a1, a6, a7, a4, a5, a8⟩) = false → (∀ (h6 : Heap), Ext h2 h6 → (c1 h6)))))) ∧ (∀ (h3 : Heap), c1 h3 → (I5 (IntKind.i64.wrap (v + 1)) h3 ∧ c9 (IntKind.i64.wrap (v + 1)) h3 < c9 v h2)))) ∧ ((decide (v < (a9 : Int))) = false → R (.map (some mb)) h2)))))) :
  HC Tryz.prog 25 #[(.slice l a9 c0)] h R := by
 refine hc_of (args := [(.slice l a9 c0)]) Tryz.func25 rfl Tryz.ntmps25 (Nat.le_of_ble_eq_true rfl) ?_
 refine xs (xr ?_)
 refine lv rfl rfl (va rfl) ?_
 refine ln (qn (xs (xr ?_)))
 refine lp rfl rfl (hn_makeMap (enc := Value.string) ?_)
 intro mb h1 i0 g8 g9 g5
 replace H := H mb h1 i0 g8 g9 g5
 refine lv rfl rfl (va rfl) ?_
 refine ln (qn (xs (xs (xr ?_))))
 refine lv rfl rfl (vm rfl) (lv rfl rfl (v := (.int .i64 (a9 : Int))) (hv_len (n := a9) TyTF.u22 rfl) (lv rfl rfl (vm rfl) ?_))
 refine ln (qn (xb ?_))
 obtain ⟨I5, c9, g4, g6⟩ := H
 refine xl (σ := Int) (fun s => [(3, (.map (some mb))), (7, (.slice l a9 c0)), (8, (.int .i64 (a9 : Int))), (9, (.int .i64 s))]) (fun s h' => I5 s h' ∧ True) (fun s h' => c9 s h') 0 ⟨g4, trivial⟩ (hc rfl (hc rfl (hc rfl (hc rfl hn)))) ?_
 rintro v ρ h2 ⟨g7, -⟩
 have H := g6 v h2 g7
 refine xs (xr ?_)
 refine lv rfl rfl (vr rfl rfl rfl) ?_
 refine ln (qn (xs ?_))
 refine xc (b := decide (v < (a9 : Int))) rfl (fun c6 => ?_) (fun c6 => ?_)
 ·replace H := H.1 c6
  refine xi (qn ?_)
  obtain ⟨c1, c7, c5⟩ := H
  refine xk (fun ρ h' => (c1 h' ∧ True) ∧ Has ρ [(3, (.map (some mb))), (7, (.slice l a9 c0)), (8, (.int .i64 (a9 : Int))), (9, (.int .i64 v))]) ?_ ?_
  ·have H := c7; clear c7 c5
   refine xb (xs (xr ?_))
   refine lv rfl rfl (vm rfl) ?_
   obtain ⟨b0, b1, g3, e2, e9, Hq⟩ := H
   subst g3
   have H := Hq; clear Hq
   refine lv rfl rfl (v := (ptr b0 (b1 + (Int.toNat v) * 8))) (vi TyTF.el22 rfl rfl e2 e9) ?_
   obtain ⟨a3, a0, a1, a6, a7, a4, a5, a8, f6, f7, e8, e5, e6, f0, g1, f3, H⟩ := H
   refine lv rfl rfl (vL (vs := [(.int .i64 a3), (.string a0), (.string a1), (.int .i64 a6), (.bool a7), (.int .i64 a4), (.int .i64 a5), (.int .i64 a8)]) TyTF.agg40 TyTF.sz40 rfl (cc f6 (cc f7 (cc e8 (cc e5 (cc e6 (cc f0 (cc g1 (cc f3 cn))))))))) ?_
   refine lp rfl rfl (hn_alloc TyTF.z40 ?_)
   intro m h4 d8 d5
   have f9 := ext_pushed_f4_sh d5
   have d4 : Array.size h2 ≤ m := Nat.le_of_eq (Eq.symm d8)
   have d7 : h4[m]? = some (.cells #[(.int .i64 0), (.string ByteArray.empty), (.string ByteArray.empty), (.int .i64 0), (.bool false), (.int .i64 0), (.int .i64 0), (.int .i64 0)] 40 (0, 0)) := by rw [d5]; exact push_new d8
   refine lv rfl rfl (va rfl) ?_
   refine lp rfl rfl (hn_stores (vs := [(.int .i64 a3), (.string a0), (.string a1), (.int .i64 a6), (.bool a7), (.int .i64 a4), (.int .i64 a5), (.int .i64 a8)]) rfl rfl TyTF.sz40 rfl (HWs_row d7 (by simp)) ?_)
   intro h5 d9
   have a2 : h5[m]? = some (.cells #[(.int .i64 a3), (.string a0), (.string a1), (.int .i64 a6), (.bool a7), (.int .i64 a4), (.int .i64 a5), (.int .i64 a8)] 40 (0, 0)) := row_hsets_eq d9 d7 (by simp [sets])
   have f4 := ext_hsets d9 f9 d4
   refine ln (qn (xs (xr ?_)))
   refine lv rfl rfl (vL (vs := [(.int .i64 a3), (.string a0), (.string a1), (.int .i64 a6), (.bool a7), (.int .i64 a4), (.int .i64 a5), (.int .i64 a8)]) TyTF.agg40 TyTF.sz40 rfl (cc (rc a2 rfl) (cc (rc a2 rfl) (cc (rc a2 rfl) (cc (rc a2 rfl) (cc (rc a2 rfl) (cc (rc a2 rfl) (cc (rc a2 rfl) (cc (rc a2 rfl) cn))))))))) ?_
   refine lp rfl rfl (sc TyTF.cb39 rfl (HC.mono (lkeyed_c (⟨a3, a0, a1, a6, a7, a4, a5, a8⟩) _) ?_))
   rintro _ h6 ⟨rfl, e0⟩
   replace a2 := Ext.row e0 a2
   have d6 := Ext.trans f4 e0
   refine ln (qn ?_)
   refine xc (b := Ml.keyed ⟨a3, a0, a1, a6, a7, a4, a5, a8⟩) rfl (fun c4 => ?_) (fun c4 => ?_)
   ·replace H := H.1 c4
    obtain ⟨c3, f5, H⟩ := H
    refine hx_drawT TyTF.mixed c3 f5 [.pure, .pure, .stay, .pure, .pure, .read, .read, .pure, .ext, .tame, .wild] [0, 1, 2, 3, 4, 5, 6, 7, 8, 9, 10] (by kernel_rfl) ?_
    refine pp (i := 0) rfl (wanted_0 rfl) rfl (.map (some mb)) (fun _ => vm rfl) ?_
    refine pp (i := 1) rfl (wanted_0 rfl) rfl (ptr m 1) (fun _ => vf TyTF.fld40_1 (b := m) (o := 0) rfl) ?_
    replace H := H m h6 d4 (row_lt a2) d6
    obtain ⟨e3, H⟩ := H
    refine hp_stay (i := 2) rfl (wanted_0 rfl) rfl (.string a0) (fun _ he => vl TyTF.agg9 rfl ((fun hx he => rc (Kp.row (e3 _ a2 hx he) (by simp) a2) rfl) _ he)) ?_
    refine pp (i := 3) rfl (wanted_0 rfl) rfl (.map (some mb)) (fun _ => vm rfl) ?_
    refine pp (i := 4) rfl (wanted_0 rfl) rfl (ptr m 1) (fun _ => vf TyTF.fld40_1 (b := m) (o := 0) rfl) ?_
    refine pr (i := 5) rfl (wanted_0 rfl) rfl (.string a0) (fun _ he => vl TyTF.agg9 rfl (Ext.cell he (rc a2 rfl))) ?_
    obtain ⟨b8, e7, d0, b2, b3, e1, H⟩ := H
    refine pr (i := 6) rfl (wanted_0 rfl) rfl (.slice d0 b2 b3) (fun _ he => hv_look (l := b8) (a := a0) strK TyTF.u45 TyTF.u9 TyTF.z26 rfl rfl (MapL.ext he e7) e1) ?_
    refine pp (i := 7) rfl (wanted_0 rfl) rfl (.int .i64 v) (fun _ => vm rfl) ?_
    refine hp_ext (i := 8) rfl (wanted_0 rfl) rfl (hn_buildSlice (n := 1) (vs := [(0, (.int .i64 v))]) (cs := #[(.int .i64 v)]) TyTF.u26 TyTF.sz3 TyTF.z3 rfl rfl (by kernel_rfl) ?_)
    intro b7 b6 f8 d3
    replace H := H b7 b6 f8 d3
    have d2 := ext_pushed_f4_sh d3
    replace a2 := Ext.row d2 a2
    refine ⟨d2, ?_⟩
    refine hp_tame (i := 9) rfl (wanted_0 rfl) rfl (hs_append rfl rfl (HAppend.mono H ?_))
    rintro _ d1 ⟨f2, c8, b5, b4, rfl, H⟩
    refine ⟨f2, ?_⟩
    obtain ⟨b9, e4, H⟩ := H
    refine hp_wild (i := 10) rfl (wanted_0 rfl) rfl (hn_mapPut (l := b9) (a := a0) strK TyTF.u45 TyTF.u9 rfl rfl rfl e4 ?_)
    intro c2 g2 f1
    replace H := H c2 g2 f1
    refine hp_nil ?_
    refine bn (qn ?_)
    exact ⟨⟨H, trivial⟩, (hc rfl (hc rfl (hc rfl (hc rfl hn))))⟩
   ·replace H := H.2 c4
    refine xi (bn ?_)
    replace H := H h6 d6
    refine qn ?_
    exact ⟨⟨H, trivial⟩, (hc rfl (hc rfl (hc rfl (hc rfl hn))))⟩
  ·rintro ρ h3 ⟨⟨g0, -⟩, hH⟩
   have H := c5 h3 g0; clear c7 c5
   refine xh _ hH ?_
   refine xr ?_
   refine lv rfl rfl (vr rfl rfl rfl) (lv rfl rfl (vm rfl) ?_)
   refine ln (qn ?_)
   exact ⟨IntKind.i64.wrap (v + 1), ⟨⟨H.1, trivial⟩, H.2⟩, (hc rfl (hc rfl (hc rfl (hc rfl hn))))⟩
 ·replace H := H.2 c6
  refine xe (qe (qe (bh (qn (xs (xr ?_))))))
  refine lv rfl rfl (vm rfl) (lv rfl rfl (va rfl) ?_)
  refine ln (qn (xt ?_))
  exact endQ_ret _ (res_one Tryz.results25 (rv_tmp rfl)) H
theorem f31_sh (l : Option Addr) (a5 : Nat) (a6 : Nat) (h : Heap) (R : Value → Heap → Prop)
  (H : HC Tryz.prog 25 #[(.slice l a5 a6)] h (fun vv h1 => ∃ r : Option Nat, vv = (.map r) ∧ (∃ b1 : Nat, r = some b1 ∧ ∃ kv : List (ByteArray × Value), MapL h1 b1 Value.string kv ∧ ∀ it h2, it = Array.size h1 → Ext h1 h2 → Array.size h2 = Array.size h1 + 1 → Itr h2 it b1 Value.string kv kv none → (∃ (I6 : Heap → Prop) (b0 : Heap → Nat), I6 h2 ∧ (∀ (h3 : Heap), I6 h3 → (∃ (mb : Nat) (b2 td : List (ByteArray × Value)) (cu : Option (ByteArray × Value)), Itr h3 it mb Value.string b2 td cu ∧ ∀ (a1 : Bool) h4 a3 a4, Only it h3 h4 → Itr h4 it mb Value.string b2 a3 a4 → Nx td a1 a3 a4 → ((a1 = true → (∃ (b4 : Nat) (a9 b3 : List (ByteArray × Value)) (q : ByteArray × Value), Itr h4 it b4 Value.string a9 b3 (some q) ∧ ∃ x : Option Addr, ∃ a0 a2 : Nat, (Prod.snd q) = (.slice x a0 a2) ∧ (((decide ((a0 : Int) > 24)) = true → R (.bool true) h4) ∧ ((decide ((a0 : Int) > 24)) = false → (I6 h4 ∧ b0 h4 < b0 h3))))) ∧ (a1 = false → R (.bool false) h4)))))))) :
  HC Tryz.prog 31 #[(.slice l a5 a6)] h R := by
 refine hc_of (args := [(.slice l a5 a6)]) Tryz.func31 rfl Tryz.ntmps31 (Nat.le_of_ble_eq_true rfl) ?_
 refine xs (xr ?_)
 refine lv rfl rfl (va rfl) ?_
 refine ln (qn (xs (xs (xr ?_))))
 refine lv rfl rfl (vm rfl) ?_
 refine lp rfl rfl (sc TyTF.cb25 rfl (HC.mono H ?_))
 rintro _ h1 ⟨r, rfl, H⟩
 obtain ⟨b1, c6, Hq⟩ := H
 subst c6
 have H := Hq; clear Hq
 obtain ⟨kv, c4, H⟩ := H
 refine lp rfl rfl (hn_rangeMap TyTF.u45 rfl c4 ?_)
 intro it h2 c5 c8 c3 c7
 replace H := H it h2 c5 c8 c3 c7
 refine ln (qn (xb ?_))
 obtain ⟨I6, b0, d0, c9⟩ := H
 refine xl (σ := Unit) (fun s => [(7, (ptr it 0))]) (fun s h' => I6 h' ∧ True) (fun s h' => b0 h') () ⟨d0, trivial⟩ (hc rfl hn) ?_
 rintro _ ρ h3 ⟨c1, -⟩
 have H := c9 h3 c1
 refine xs (xr ?_)
 obtain ⟨mb, b2, td, cu, c2, H⟩ := H
 refine lp rfl rfl (hn_nextMap rfl c2 ?_)
 intro a1 d1 h4 a3 a4 b8 c0 b7 b9
 replace H := H a1 h4 a3 a4 c0 b7 b9
 refine lv rfl rfl (v := (.bool a1)) (hv_extOf rfl b8) ?_
 refine ln (qn (xs ?_))
 refine xc (b := a1) rfl (fun a8 => ?_) (fun a8 => ?_)
 ·replace H := H.1 a8
  refine xi (qn (xb (xs (xr ?_))))
  obtain ⟨b4, a9, b3, q, b6, x, a0, a2, b5, H⟩ := H
  refine lv rfl rfl (v := (.tuple #[(.string (Prod.fst q)), (.slice x a0 a2)])) (hv_entryMap rfl b6 rfl b5) (lv rfl rfl (vx rfl rfl) (lv rfl rfl (va rfl) ?_))
  refine ln (qn (xs (xr ?_)))
  refine lv rfl rfl (vm rfl) (lv rfl rfl (v := (.int .i64 (a0 : Int))) (hv_len (n := a0) TyTF.u26 rfl) (lv rfl rfl (vr rfl rfl rfl) ?_))
  refine ln (qn ?_)
  refine xc (b := decide ((a0 : Int) > 24)) rfl (fun a7 => ?_) (fun a7 => ?_)
  ·replace H := H.1 a7
   refine xs (xr ?_)
   refine lv rfl rfl (va rfl) ?_
   refine ln (qn (xt (br (qr (br (qr ?_))))))
   exact endQ_ret _ (res_one Tryz.results31 (rv_tmp rfl)) H
  ·replace H := H.2 a7
   refine xi (bn (qn ?_))
   exact ⟨(), ⟨⟨H.1, trivial⟩, H.2⟩, (hc rfl hn)⟩
 ·replace H := H.2 a8
  refine xe (qe (qe (bh (qn (xs (xr ?_))))))
  refine lv rfl rfl (va rfl) ?_
  refine ln (qn (xt ?_))
  exact endQ_ret _ (res_one Tryz.results31 (rv_tmp rfl)) H
end Go.Proofs.YtfjcciaabkjkgaaGreatDoor
namespace Go.Proofs.YtfjcciaabkjkgaaGreatDoor
open Go Ml
namespace Ml
def ofJ (l : List Mv) (j : Nat) (key : Str) : List Nat := (List.range j).filter fun i => keyed (mv l i) && decide ((mv l i).key = key)
theorem ofJ_succ {l : List Mv} {j : Nat} {key : Str} : ofJ l (j + 1) key = ofJ l j key ++ if (keyed (mv l j) && decide ((mv l j).key = key)) = true then [j] else [] := by
  unfold ofJ
  rw [List.range_succ, List.filter_append]
  congr 1
  by_cases q : (keyed (mv l j) && decide ((mv l j).key = key)) = true
  · rw [if_pos q, List.filter_cons, if_pos q]; rfl
  · rw [if_neg q, List.filter_cons, if_neg q]; rfl
theorem ofJ_len {l : List Mv} {j : Nat} {key : Str} : (ofJ l j key).length ≤ j := Nat.le_trans (List.length_filter_le ..) (by simp)
end Ml
structure ByK (N : Nat) (h : Heap) (mb : Nat) (own : Str → List Nat) (σ : Str → Option Addr × Nat) : Prop where
  map : ∃ kv, MapL h mb Value.string kv ∧ (∀ key, own key = [] → lk kv key = none) ∧ ∀ key, own key ≠ [] → lk kv key = some (.slice (σ key).1 (own key).length (σ key).2)
  sl : ∀ key, own key ≠ [] → Sl eN h (σ key).1 (σ key).2 (own key) ∧ Own eN.k 3 N h (σ key).1 (σ key).2
  dis : ∀ k k', k ≠ k' → own k ≠ [] → own k' ≠ [] → ∀ b, blkA (σ k).1 b → ¬ blkA (σ k').1 b
  mbN : mb < N
section
variable {h : Heap} {la : Option Addr} {lc : Nat} {l : List Mv}
theorem ByK.ext {N : Nat} {h' : Heap} {mb : Nat} {own : Str → List Nat} {σ : Str → Option Addr × Nat} (B : ByK N h mb own σ) (x : Ext h h') : ByK N h' mb own σ := by
  obtain ⟨kv, m, e⟩ := B.map
  exact ⟨⟨kv, m.ext x, e⟩, fun k hk => ⟨(B.sl k hk).1.ext x, (B.sl k hk).2.ext x⟩, B.dis, B.mbN⟩
set_option maxHeartbeats 4000000 in
theorem byKey_c (sl : Sl eMv h la lc l) (hl : l.length ≤ 1048576) :
    HC Tryz.prog 25 #[.slice la l.length lc] h fun v h' => Ext h h' ∧ ∃ mb σ, v = .map (some mb) ∧ h.size ≤ mb ∧ ByK (mb + 1) h' mb (fun key => ofN l key) σ := by
  refine f25_sh _ _ _ _ _ fun mb h1 e1 x1 z1 m1 => ?_
  refine ⟨fun v hh => ∃ (j : Nat) (σ : Str → Option Addr × Nat), v = j ∧ j ≤ l.length ∧ Ext h hh ∧ h1.size ≤ hh.size ∧ ByK (mb + 1) hh mb (fun key => ofJ l j key) σ, fun v _ => l.length - v.toNat,
    ⟨0, fun _ => (none, 0), rfl, Nat.zero_le _, x1, Nat.le_refl _, ⟨[], m1, fun _ _ => rfl, fun key q => absurd rfl q⟩, fun key q => absurd rfl q, fun k k' _ q => absurd rfl q, by omega⟩, ?_⟩
  rintro _ h2 ⟨j, σ, rfl, hj, x2, z2, B⟩
  refine ⟨fun hlt => ?_, fun hge => ?_⟩
  · have hjl := lt_of_dec hlt
    have emv : mv l j = l[j] := mv_at hjl
    obtain ⟨lb, lo, ela, dl⟩ := (sl.ext x2).at (List.getElem?_eq_getElem hjl)
    refine ⟨fun hh => ∃ σ', Ext h hh ∧ h1.size ≤ hh.size ∧ ByK (mb + 1) hh mb (fun key => ofJ l (j + 1) key) σ', ⟨lb, lo, ela, by omega, by omega, _, _, _, _, _, _, _, _, dl.1, dl.2.1, dl.2.2.1, dl.2.2.2.1, dl.2.2.2.2.1, dl.2.2.2.2.2.1, dl.2.2.2.2.2.2.1, dl.2.2.2.2.2.2.2.1, fun g => ?_, fun g h6 x6 => ?_⟩, ?_⟩
    · have g : keyed l[j] = true := g
      refine ⟨Tk 40, fit_tk _, fun m h6 lom ltm x6 => ⟨fun ys r hx tx b hb _ => by (simp at hb; subst hb; exact tx.2 _ _ _ r), ?_⟩⟩
      obtain ⟨kv, mk, hn, hs⟩ := B.map
      have B6 := B.ext x6
      generalize hkey : l[j].key = key
      have hx : ∃ x : Option Addr × Nat, (lk kv key).getD (.slice none 0 0) = .slice x.1 (ofJ l j key).length x.2 ∧ Sl eN h6 x.1 x.2 (ofJ l j key) ∧ Own eN.k 3 (mb + 1) h6 x.1 x.2 ∧ ∀ k', k' ≠ key → ofJ l j k' ≠ [] → ∀ b, blkA (σ k').1 b → ¬ blkA x.1 b := by
        by_cases q : ofJ l j key = []
        · refine ⟨(none, 0), ?_, ?_, Own.nil _ _ _ _, fun k' _ _ b _ hb => blkA_none hb⟩
          · rw [hn key q, q]; rfl
          · rw [q]; exact Sl.nil _ _
        · exact ⟨σ key, by rw [hs key q]; rfl, (B6.sl key q).1, (B6.sl key q).2, fun k' hk' hq b hb => B.dis k' key hk' hq q b hb⟩
      obtain ⟨x, ex, sx, wx, dx⟩ := hx
      refine ⟨kv, mk.ext x6, x.1, _, x.2, ex, fun nb h10 e10 eh10 => ?_⟩
      have x10 : Ext h6 h10 := by rw [eh10]; exact Ext.push _ _
      have z6 := x6.size
      have hlen := ofJ_len (l := l) (j := j) (key := key)
      have r10 : h10[nb]? = some (.cells (([j] : List Nat).flatMap eN.enc).toArray 3 (0, 0)) := by rw [eh10]; exact push_new e10
      clear eh10
      have z10 := x10.size
      refine app_sl aN (sx.ext x10) (wx.ext x10) (Sl.lit (L := [j]) r10) (by omega) (by show (_ + 1) * 8 ≤ _; omega) fun a' c' h11 f11 s11 w11 bl11 => ?_
      have lowx : ∀ b, blkA x.1 b → mb + 1 ≤ b := fun b hb => (wx.low hb).1
      have m11 := (mk.ext (x6.trans x10)).fr f11 fun hb => by have := lowx mb hb; omega
      refine ⟨⟨f11.size, fun i cs fr r => f11.block i (row_lt r) fun hb => own_ne (wx.ext x10) r (by decide) hb⟩, a', _, c', rfl, kv, m11, fun h12 o12 m12 => ?_⟩
      have B10 := B6.ext x10
      have low' : ∀ b, blkA a' b → mb + 1 ≤ b := fun b hb => (w11.low hb).1
      have nm' : ∀ b, blkA a' b → ¬ b = mb := fun b hb q => by have := low' b hb; omega
      have e1 : ofJ l (j + 1) key = ofJ l j key ++ [j] := by
        rw [ofJ_succ, if_pos (by rw [emv, g, hkey]; simp)]
      have e2 : ∀ k', k' ≠ key → ofJ l (j + 1) k' = ofJ l j k' := fun k' hk' => by
        rw [ofJ_succ, if_neg, List.append_nil]
        rw [emv, hkey]
        simp only [Bool.and_eq_true, decide_eq_true_eq, not_and]
        exact fun _ q => hk' q.symm
      have x12 : Ext h h12 := ext_fr (ext_fr (x2.trans (x6.trans x10)) f11 fun b hb => by have := lowx b hb; omega) o12.fr fun b hb => by omega
      have hne : ofJ l j key ++ [j] ≠ [] := by simp
      have hmbl : h.size ≤ mb := by omega
      refine ⟨fun k' => if k' = key then (a', c') else σ k', x12, by have := f11.size; have := o12.size; omega, ⟨_, m12, fun k' q => ?_, fun k' q => ?_⟩, fun k' q => ?_, fun k1 k2 h12' q1 q2 b hb1 hb2 => ?_, B.mbN⟩
      · rw [lk_kput]
        by_cases e : k' = key
        · subst e; rw [e1] at q; exact absurd q hne
        · rw [if_neg e]; rw [e2 k' e] at q; exact hn k' q
      · rw [lk_kput]
        by_cases e : k' = key
        · subst e
          simp only [if_pos]
          first | rw [e1, List.length_append] | (rw [e1, List.length_append]; rfl)
        · simp only [if_neg e]
          rw [e2 k' e] at q ⊢
          exact hs k' q
      · by_cases e : k' = key
        · subst e
          simp only [if_pos]
          rw [e1]
          exact ⟨s11.fr o12.fr nm', w11.fr o12.fr nm'⟩
        · simp only [if_neg e]
          rw [e2 k' e] at q ⊢
          obtain ⟨t1, t2⟩ := B10.sl k' q
          have nn := dx k' e q
          have nm : ∀ b, blkA (σ k').1 b → ¬ b = mb := fun b hb r => by have := (t2.low hb).1; omega
          exact ⟨(t1.fr f11 nn).fr o12.fr nm, (t2.fr f11 nn).fr o12.fr nm⟩
      · by_cases ea : k1 = key <;> by_cases eb : k2 = key
        · exact h12' (ea.trans eb.symm)
        · simp only [if_pos ea, if_neg eb] at hb1 hb2
          rw [e2 k2 eb] at q2
          rcases bl11 b hb1 with r | r
          · exact dx k2 eb q2 b hb2 r
          · have := ((B10.sl k2 q2).2.low hb2).2; omega
        · simp only [if_neg ea, if_pos eb] at hb1 hb2
          rw [e2 k1 ea] at q1
          rcases bl11 b hb2 with r | r
          · exact dx k1 ea q1 b hb1 r
          · have := ((B10.sl k1 q1).2.low hb1).2; omega
        · simp only [if_neg ea, if_neg eb] at hb1 hb2
          rw [e2 k1 ea] at q1
          rw [e2 k2 eb] at q2
          exact B.dis k1 k2 h12' q1 q2 b hb1 hb2
    · have g : keyed l[j] = false := g
      have e2 : (fun key => ofJ l (j + 1) key) = fun key => ofJ l j key := by
        funext key
        rw [ofJ_succ, if_neg, List.append_nil]
        rw [emv, g]; simp
      rw [e2]
      exact ⟨σ, x2.trans x6, Nat.le_trans z2 x6.size, B.ext x6⟩
    · rintro h3 ⟨σ', x3, z3, B3⟩
      rw [wadd j (by omega)]
      exact ⟨⟨j + 1, σ', rfl, hjl, x3, z3, B3⟩, by simp only [Int.toNat_natCast]; omega⟩
  · have hjl : j = l.length := by have := ge_of_dec hge; omega
    subst hjl
    exact ⟨x2, mb, σ, rfl, by omega, B⟩
theorem ofN_in {key : Str} : ∀ i ∈ ofN l key, i < l.length := fun i hi => by
  unfold ofN at hi
  rw [List.mem_filter] at hi
  exact List.mem_range.1 hi.1
theorem chk_all (h0 : chkL l = 0) : ∀ x ∈ l, check x = 0 := by
  unfold chkL at h0
  split at h0
  · assumption
  · exact absurd h0 (by decide)
end
end Go.Proofs.YtfjcciaabkjkgaaGreatDoor
