/-
The laws of the lossy map, in plain Lean.
-/
import Derived.Test.YtmdgfbhmogjklaaMH
namespace Go.Proofs.Ytmdgfbhmogjklaa
namespace Ml

def stepK (key : Str) (s : List Mt) (m : Mv) : List Mt := if keyed m = true ∧ m.key = key then next s m else s
def run (key : Str) (s : List Mt) (l : List Mv) : List Mt := l.foldl (stepK key) s
theorem ends_run (l : List Mv) (key : Str) : ends l key = run key start l := rfl
theorem run_app (key : Str) (s : List Mt) (a b : List Mv) : run key s (a ++ b) = run key (run key s a) b := by simp [run]
theorem next_nil (m : Mv) : next [] m = [] := rfl
theorem stepK_nil (key : Str) (m : Mv) : stepK key [] m = [] := by unfold stepK; split <;> rfl
theorem run_nil (key : Str) : ∀ l : List Mv, run key [] l = []
  | [] => rfl
  | m :: l => by rw [run, List.foldl_cons, stepK_nil]; exact run_nil key l
theorem stepK_srt {key : Str} {s : List Mt} (h : Srt s) (m : Mv) : Srt (stepK key s m) := by unfold stepK; split; exact next_srt _ _; exact h
theorem run_srt (key : Str) : ∀ (l : List Mv) (s : List Mt), Srt s → Srt (run key s l)
  | [], _, h => h
  | m :: l, s, h => by rw [run, List.foldl_cons]; exact run_srt key l _ (stepK_srt h m)
def Sub (s t : List Mt) : Prop := ∀ x ∈ s, x ∈ t
theorem next_sub {s t : List Mt} (h : Sub s t) (m : Mv) : Sub (next s m) (next t m) := fun x hx => by
  rw [next_mem] at *; obtain ⟨w, hw, hx⟩ := hx; exact ⟨w, h w hw, hx⟩
theorem stepK_sub {key : Str} {s t : List Mt} (h : Sub s t) (m : Mv) : Sub (stepK key s m) (stepK key t m) := by
  unfold stepK; split
  · exact next_sub h m
  · exact h
theorem run_sub (key : Str) : ∀ (l : List Mv) {s t : List Mt}, Sub s t → Sub (run key s l) (run key t l)
  | [], _, _, h => h
  | m :: l, s, t, h => by rw [run, run, List.foldl_cons, List.foldl_cons]; exact run_sub key l (stepK_sub h m)
theorem Sub.ne {s t : List Mt} (h : Sub s t) (hs : s ≠ []) : t ≠ [] := fun e => by
  cases s with
  | nil => exact hs rfl
  | cons x l => have := h x (by simp); rw [e] at this; cases this

theorem take_cons (L : List Mv) (i : Nat) (h : i < L.length) : L.take (i + 1) = L.take i ++ [L[i]] := by rw [List.take_add_one, List.getElem?_eq_getElem h]; rfl
theorem ends_dead (L : List Mv) (n : Nat) (key : Str) (h : ends (L.take n) key = []) : ends L key = [] := by
  rw [ends_run, ← List.take_append_drop n L, run_app, ← ends_run, h, run_nil]
/-- A list may be told just if no key is left without anything that it may be. -/
theorem acc_iff (L : List Mv) : Acc L ↔ ∀ key, ends L key ≠ [] := by
  constructor
  · intro h key e
    have : ∀ n, n ≤ L.length → ends (L.take n) key ≠ [] := by
      intro n
      induction n with
      | zero => intro _ e; rw [List.take_zero] at e; cases e
      | succ i ih =>
        intro hi e
        rw [take_cons L i hi, ends_snoc] at e
        split at e
        · rename_i hk
          have hb := h i
          rw [bad_at L i hi, hk.1, hk.2, take_cons L i hi, ends_snoc, if_pos ⟨hk.1, hk.2⟩, e] at hb
          cases hb
        · exact ih (by omega) e
    exact this L.length (Nat.le_refl _) (by rw [List.take_length]; exact e)
  · intro h i
    by_cases hi : i < L.length
    · rw [bad_at L i hi]
      cases hk : keyed L[i] with
      | false => rfl
      | true =>
        cases he : ends (L.take (i + 1)) L[i].key with
        | cons x l => rfl
        | nil =>
          exact absurd (ends_dead L (i + 1) _ he) (h _)
    · exact bad_over L i (by omega)

/-! ### drops -/
theorem next_same {s : List Mt} (hs : Srt s) {m : Mv} (h : ∀ w, outs m w = [w]) : next s m = s :=
  srt_unique (next_srt s m) hs fun x => by rw [next_mem]; simp [h]
theorem miss_outs {m : Mv} (hk : m.kind = 1) (hh : m.hit = false) (w : Mt) : outs m w = [w] := by
  unfold outs; rw [if_pos hk, if_neg]; rintro ⟨h1, _⟩; simp [hits, hh] at h1
theorem ends_miss (a b : List Mv) (g : Mv) (hk : g.kind = 1) (hh : g.hit = false) (key : Str) : ends (a ++ [g] ++ b) key = ends (a ++ b) key := by
  rw [ends_run, ends_run, run_app, run_app, run_app]
  congr 1
  show stepK key (run key start a) g = _
  unfold stepK
  split
  · exact next_same (run_srt _ _ _ start_srt) (miss_outs hk hh)
  · rfl
theorem get_sub {s : List Mt} {m : Mv} (hk : m.kind = 1) : Sub (next s m) s := fun x hx => by
  obtain ⟨w, hw, hx⟩ := (next_mem s m x).1 hx
  unfold outs at hx
  rw [if_pos hk] at hx
  split at hx
  · cases hx
  · simp at hx; subst hx; exact hw
theorem acc_without {L : List Mv} {i : Nat} (hi : i < L.length) (hk : L[i].kind = 1) (h : Acc L) : Acc (L.take i ++ L.drop (i + 1)) := by
  rw [acc_iff] at *
  intro key
  have h1 := h key
  have e : L = L.take i ++ [L[i]] ++ L.drop (i + 1) := by rw [← take_cons L i hi, List.take_append_drop]
  rw [e, ends_run, run_app, run_app] at h1
  rw [ends_run, run_app]
  refine Sub.ne (run_sub key _ ?_) h1
  show Sub (stepK key (run key start (L.take i)) L[i]) _
  unfold stepK
  split
  · exact get_sub hk
  · exact fun x hx => hx

/-! ### key by key -/
theorem ends_of (key key' : Str) : ∀ (L : List Mv) (s : List Mt), run key' s (ofKey L key) = if key' = key then run key s L else s
  | [], s => by simp [ofKey, run]
  | m :: L, s => by
    have hc : ofKey (m :: L) key = (if (keyed m && decide (m.key = key)) = true then [m] else []) ++ ofKey L key := by
      unfold ofKey
      cases h : (keyed m && decide (m.key = key)) <;> simp only [List.filter_cons, h, if_true, if_false, Bool.false_eq_true] <;> rfl
    rw [hc, run_app]
    have e1 : run key s (m :: L) = run key (stepK key s m) L := rfl
    rw [e1]
    by_cases h : keyed m = true ∧ m.key = key
    · have h' : (keyed m && decide (m.key = key)) = true := by simp [h.1, h.2]
      rw [if_pos h']
      show run key' (stepK key' s m) (ofKey L key) = _
      rw [ends_of key key' L]
      by_cases hk : key' = key
      · subst hk; rw [if_pos rfl, if_pos rfl]
      · rw [if_neg hk, if_neg hk]; unfold stepK; rw [if_neg (fun e => hk (e.2.symm.trans h.2))]
    · have h' : ¬ (keyed m && decide (m.key = key)) = true := by simpa using h
      rw [if_neg h']
      show run key' s (ofKey L key) = _
      rw [ends_of key key' L]
      have : stepK key s m = s := by unfold stepK; rw [if_neg h]
      rw [this]
theorem acc_of (L : List Mv) (key : Str) : Acc (ofKey L key) ↔ ends L key ≠ [] := by
  rw [acc_iff]
  constructor
  · intro h; have := h key; rw [ends_run, ends_of, if_pos rfl] at this; exact this
  · intro h key'
    rw [ends_run, ends_of]
    split
    · exact h
    · simp [start]
theorem ends_none (L : List Mv) (key : Str) (h : ∀ m ∈ L, m.key ≠ key) : ends L key = start := by
  rw [ends_run]
  induction L with
  | nil => rfl
  | cons m L ih =>
    show run key (stepK key start m) L = start
    unfold stepK; rw [if_neg (fun e => h m (by simp) e.2)]
    exact ih fun m hm => h m (by simp [hm])
theorem acc_local (L : List Mv) : Acc L ↔ ∀ m ∈ L, Acc (ofKey L m.key) := by
  rw [acc_iff]
  constructor
  · intro h m _; rw [acc_of]; exact h _
  · intro h key
    by_cases hk : ∃ m ∈ L, m.key = key
    · obtain ⟨m, hm, rfl⟩ := hk; exact (acc_of L m.key).1 (h m hm)
    · rw [ends_none L key fun m hm e => hk ⟨m, hm, e⟩]; simp [start]

/-! ### nothing is invented -/
theorem invents (L : List Mv) (key : Str) : ∀ n, n ≤ L.length → ∀ x ∈ ends (L.take n) key, x.has = true → ∃ (k : Nat) (m : Mv), k < n ∧ L[k]? = some m ∧ m.kind = 2 ∧ m.key = key ∧ m.val = x.val := by
  intro n
  induction n with
  | zero => intro _ x hx hh; rw [List.take_zero, ends_nil] at hx; simp [start] at hx; subst hx; cases hh
  | succ i ih =>
    intro hi x hx hh
    have up : (∃ (k : Nat) (m : Mv), k < i ∧ L[k]? = some m ∧ m.kind = 2 ∧ m.key = key ∧ m.val = x.val) → ∃ (k : Nat) (m : Mv), k < i + 1 ∧ L[k]? = some m ∧ m.kind = 2 ∧ m.key = key ∧ m.val = x.val :=
      fun ⟨k, m, h0, h1⟩ => ⟨k, m, by omega, h1⟩
    rw [take_cons L i hi, ends_snoc] at hx
    split at hx
    · rename_i hk
      obtain ⟨w, hw, hx⟩ := (next_mem _ _ _).1 hx
      rcases outs_mem hx with ⟨h2, e⟩ | e | e
      · exact ⟨i, L[i], by omega, List.getElem?_eq_getElem hi, h2, hk.2, by rw [e]⟩
      · rw [e] at hh; cases hh
      · subst e; exact up (ih (by omega) x hw hh)
    · exact up (ih (by omega) x hx hh)
theorem hit_was {L : List Mv} {i : Nat} (hi : i < L.length) (h : hits L[i] = true) (hb : bad L i = false) : ∃ (k : Nat) (m : Mv), k < i ∧ L[k]? = some m ∧ m.kind = 2 ∧ m.key = L[i].key ∧ m.val = L[i].val := by
  have hk1 := hits_kind h
  have hkey : keyed L[i] = true := by simp [keyed, hk1]
  rw [bad_at L i hi, hkey, take_cons L i hi, ends_snoc, if_pos ⟨hkey, rfl⟩] at hb
  cases hn : next (ends (L.take i) L[i].key) L[i] with
  | nil => rw [hn] at hb; cases hb
  | cons y l =>
    obtain ⟨w, hw, hy⟩ := (next_mem _ _ y).1 (by rw [hn]; simp)
    unfold outs at hy
    rw [if_pos hk1] at hy
    split at hy
    · cases hy
    · rename_i hno
      have h1 : w.has = true := by
        cases e : w.has with
        | true => rfl
        | false => exact absurd ⟨h, .inl e⟩ hno
      have h2 : w.val = L[i].val := Classical.byContradiction fun e => hno ⟨h, .inr e⟩
      obtain ⟨k, m, g0, g1, g2, g3, g4⟩ := invents L L[i].key i (by omega) w hw h1
      exact ⟨k, m, g0, g1, g2, g3, g4.trans h2⟩

/-! ### what is refused or pending may have been done -/
theorem unsure_outs {m m' : Mv} (hk : m'.kind = m.kind) (hv : m'.val = m.val) (hh : m.hit = false) (hh' : m'.hit = false) (he : m.err = 0) (ho : m'.to < 0 ∨ m'.err = 5) (w x : Mt) (hx : x ∈ outs m w) : x ∈ outs m' w := by
  have hf : fate m' = 3 := by unfold fate; rw [if_pos]; rcases ho with h | h; exact .inl h; exact .inr (.inr h)
  have hd : fate m = 1 ∨ fate m = 3 := by
    unfold fate
    by_cases ht : m.to < 0 ∨ m.err = 2 ∨ m.err = 5
    · rw [if_pos ht]; exact .inr rfl
    · rw [if_neg ht, if_pos he]; exact .inl rfl
  by_cases h1 : m.kind = 1
  · rw [miss_outs h1 hh] at hx; rw [miss_outs (hk.trans h1) hh']; exact hx
  · unfold outs at *
    rw [hk, if_neg h1]; rw [if_neg h1] at hx
    by_cases h2 : m.kind = 2
    · rw [if_pos h2] at *
      rw [hf, hv]
      rcases hd with hd | hd <;> rw [hd] at hx
      · simp [putF] at hx ⊢; exact .inl hx
      · exact hx
    · rw [if_neg h2] at *
      by_cases h3 : m.kind = 3
      · rw [if_pos h3] at *
        rw [hf]
        rcases hd with hd | hd <;> rw [hd] at hx
        · simp [delF] at hx ⊢; exact .inl hx
        · exact hx
      · rw [if_neg h3] at *; exact hx
theorem acc_unsure {L : List Mv} {k : Nat} (hk : k < L.length) {m' : Mv} (e1 : m'.kind = L[k].kind) (e2 : m'.key = L[k].key) (e3 : m'.val = L[k].val) (hh : L[k].hit = false) (hh' : m'.hit = false) (he : L[k].err = 0) (ho : m'.to < 0 ∨ m'.err = 5) (h : Acc L) : Acc (L.set k m') := by
  rw [acc_iff] at *
  intro key
  have h1 := h key
  have eL : L = L.take k ++ [L[k]] ++ L.drop (k + 1) := by rw [← take_cons L k hk, List.take_append_drop]
  have eS : L.set k m' = L.take k ++ [m'] ++ L.drop (k + 1) := by rw [List.set_eq_take_append_cons_drop, if_pos hk]; simp
  rw [eL, ends_run, run_app, run_app] at h1
  rw [eS, ends_run, run_app, run_app]
  refine Sub.ne (run_sub key _ ?_) h1
  show Sub (stepK key (run key start (L.take k)) L[k]) (stepK key (run key start (L.take k)) m')
  have hkk : keyed m' = keyed L[k] := by unfold keyed; rw [e1]
  unfold stepK
  rw [hkk, e2]
  split
  · intro x hx
    rw [next_mem] at *
    obtain ⟨w, hw, hx⟩ := hx
    exact ⟨w, hw, unsure_outs e1 e3 hh hh' he ho w x hx⟩
  · exact fun x hx => hx

/-! ### unions -/
theorem next_union {s t u : List Mt} (h : ∀ x, x ∈ u ↔ x ∈ s ∨ x ∈ t) (m : Mv) : next u m = insAll [] (next s m ++ next t m) :=
  srt_unique (next_srt _ _) (insAll_srt _ _ List.Pairwise.nil) fun x => by
    rw [next_mem, insAll_mem, List.mem_append, next_mem, next_mem]
    constructor
    · rintro ⟨w, hw, hx⟩
      rcases (h w).1 hw with hw | hw
      · exact .inr (.inl ⟨w, hw, hx⟩)
      · exact .inr (.inr ⟨w, hw, hx⟩)
    · rintro (hx | ⟨w, hw, hx⟩ | ⟨w, hw, hx⟩)
      · cases hx
      · exact ⟨w, (h w).2 (.inl hw), hx⟩
      · exact ⟨w, (h w).2 (.inr hw), hx⟩
end Ml
end Go.Proofs.Ytmdgfbhmogjklaa
