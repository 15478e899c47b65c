/-
The lossy map, in plain Lean: what a key may be, behind a move, behind moves. No program in sight.
-/
import Derived.Test.YtmdgfbhmogjklaaStr
namespace Go.Proofs.Ytmdgfbhmogjklaa
namespace Ml

structure Mt where
  has : Bool
  val : Str
  deriving DecidableEq
structure Mv where
  kind : Int
  key : Str
  val : Str
  err : Int
  hit : Bool
  life : Int
  fr : Int
  to : Int
  deriving DecidableEq

def nil : Mt := ⟨false, ByteArray.empty⟩
def mlt (a b : Mt) : Bool := if a.has = b.has then slt a.val b.val else b.has
theorem mlt_irrefl (a : Mt) : mlt a a = false := by simp [mlt, slt_irrefl]
theorem mlt_trans {a b c : Mt} (h1 : mlt a b = true) (h2 : mlt b c = true) : mlt a c = true := by
  unfold mlt at *
  obtain ⟨a1, a2⟩ := a; obtain ⟨b1, b2⟩ := b; obtain ⟨c1, c2⟩ := c
  simp only at *
  cases a1 <;> cases b1 <;> cases c1 <;> simp at h1 h2 ⊢ <;> first | exact slt_trans h1 h2 | exact h1 | exact h2
theorem mlt_total {a b : Mt} (h1 : mlt a b = false) (h2 : mlt b a = false) : a = b := by
  unfold mlt at *
  obtain ⟨a1, a2⟩ := a; obtain ⟨b1, b2⟩ := b
  simp only at *
  cases a1 <;> cases b1 <;> simp at h1 h2 ⊢ <;> exact slt_total h1 h2

/-- Rising, none twice. -/
def Srt (l : List Mt) : Prop := l.Pairwise fun a b => mlt a b = true
theorem srt_unique : ∀ {l l' : List Mt}, Srt l → Srt l' → (∀ x, x ∈ l ↔ x ∈ l') → l = l'
  | [], [], _, _, _ => rfl
  | [], y :: _, _, _, h => by have := (h y).2 (by simp); cases this
  | x :: _, [], _, _, h => by have := (h x).1 (by simp); cases this
  | x :: l, y :: l', s, s', h => by
    obtain ⟨h1, s1⟩ := List.pairwise_cons.1 s
    obtain ⟨h2, s2⟩ := List.pairwise_cons.1 s'
    have exy : x = y := by
      rcases List.mem_cons.1 ((h x).1 (by simp)) with e | hx
      · exact e
      · rcases List.mem_cons.1 ((h y).2 (by simp)) with e | hy
        · exact e.symm
        · have := mlt_trans (h1 y hy) (h2 x hx); rw [mlt_irrefl] at this; cases this
    subst exy
    congr 1
    refine srt_unique s1 s2 fun z => ⟨fun hz => ?_, fun hz => ?_⟩
    · rcases List.mem_cons.1 ((h z).1 (by simp [hz])) with e | hz'
      · subst e; have := h1 z hz; rw [mlt_irrefl] at this; cases this
      · exact hz'
    · rcases List.mem_cons.1 ((h z).2 (by simp [hz])) with e | hz'
      · subst e; have := h2 z hz; rw [mlt_irrefl] at this; cases this
      · exact hz'
theorem Srt.nodup {l : List Mt} (s : Srt l) : l.Nodup := s.imp fun {a b} h e => by subst e; rw [mlt_irrefl] at h; cases h

def insW : List Mt → Mt → List Mt
  | [], m => [m]
  | x :: l, m => if mlt x m then x :: insW l m else if x = m then x :: l else m :: x :: l
theorem insW_mem : ∀ (l : List Mt) (m x : Mt), x ∈ insW l m ↔ x = m ∨ x ∈ l
  | [], m, x => by simp [insW]
  | y :: l, m, x => by
    unfold insW
    split
    · rw [List.mem_cons, insW_mem l m x, List.mem_cons]
      constructor
      · rintro (h | h | h)
        · exact .inr (.inl h)
        · exact .inl h
        · exact .inr (.inr h)
      · rintro (h | h | h)
        · exact .inr (.inl h)
        · exact .inl h
        · exact .inr (.inr h)
    · split
      · rename_i e; subst e; simp
      · simp
theorem insW_srt : ∀ (l : List Mt) (m : Mt), Srt l → Srt (insW l m)
  | [], m, _ => by simp [insW, Srt]
  | y :: l, m, s => by
    obtain ⟨h1, s1⟩ := List.pairwise_cons.1 s
    unfold insW
    split
    · rename_i hy
      refine List.pairwise_cons.2 ⟨fun x hx => ?_, insW_srt l m s1⟩
      rcases (insW_mem l m x).1 hx with e | hx
      · subst e; exact hy
      · exact h1 x hx
    · rename_i hy
      split
      · exact s
      · rename_i hne
        have hy' : mlt y m = false := by simpa using hy
        have hmy : mlt m y = true := by
          cases e : mlt m y with
          | true => rfl
          | false => exact absurd (mlt_total hy' e) hne
        refine List.pairwise_cons.2 ⟨fun x hx => ?_, s⟩
        rcases List.mem_cons.1 hx with e | hx
        · subst e; exact hmy
        · exact mlt_trans hmy (h1 x hx)
theorem insW_len : ∀ (l : List Mt) (m : Mt), (insW l m).length ≤ l.length + 1
  | [], m => by simp [insW]
  | y :: l, m => by
    unfold insW
    split
    · have := insW_len l m; simp; omega
    · split <;> simp
theorem insW_has : ∀ (l : List Mt) (m : Mt), Srt l → m ∈ l → insW l m = l
  | [], m, _, h => by cases h
  | y :: l, m, s, h => by
    refine srt_unique (insW_srt _ _ s) s fun x => ?_
    rw [insW_mem]
    exact ⟨fun hx => hx.elim (fun e => by rw [e]; exact h) id, .inr⟩

def norm (m : Mt) : Mt := ⟨m.has, bif !m.has then ByteArray.empty else m.val⟩
theorem norm_id {m : Mt} (h : m.has = false → m.val = ByteArray.empty) : norm m = m := by
  obtain ⟨b, v⟩ := m
  cases b
  · simp only [norm, Bool.not_false, cond_true] at *; rw [h trivial]
  · rfl
theorem norm_nm (m : Mt) : (norm m).has = false → (norm m).val = ByteArray.empty := by
  obtain ⟨b, v⟩ := m; cases b <;> simp [norm]
/-- Where it goes in. -/
theorem insW_at : ∀ (L : List Mt) (m : Mt) (j : Nat), j ≤ L.length → (∀ i x, i < j → L[i]? = some x → mlt x m = true) → (∀ y, L[j]? = some y → mlt y m = false) → insW L m = if L[j]? = some m then L else L.take j ++ m :: L.drop j
  | [], m, j, hj, _, _ => by have : j = 0 := by simpa using hj
                             subst this; simp [insW]
  | x :: L, m, 0, _, _, h2 => by
    have hx := h2 x rfl
    unfold insW
    rw [hx]
    by_cases e : x = m
    · subst e; simp
    · simp [e]
  | x :: L, m, j + 1, hj, h1, h2 => by
    have hx := h1 0 x (by omega) rfl
    have ih := insW_at L m j (by simpa using hj) (fun i y hi hy => h1 (i + 1) y (by omega) (by simpa using hy)) (fun y hy => h2 y (by simpa using hy))
    unfold insW
    rw [hx, if_pos rfl, ih]
    simp only [List.getElem?_cons_succ]
    split <;> simp

def insAll (l : List Mt) (ms : List Mt) : List Mt := ms.foldl insW l
theorem insAll_srt : ∀ (ms l : List Mt), Srt l → Srt (insAll l ms)
  | [], _, s => s
  | m :: ms, l, s => insAll_srt ms _ (insW_srt l m s)
theorem insAll_mem : ∀ (ms l : List Mt) (x : Mt), x ∈ insAll l ms ↔ x ∈ l ∨ x ∈ ms
  | [], l, x => by simp [insAll]
  | m :: ms, l, x => by
    show x ∈ insAll (insW l m) ms ↔ _
    rw [insAll_mem ms, insW_mem, List.mem_cons]
    constructor
    · rintro ((h | h) | h)
      · exact .inr (.inl h)
      · exact .inl h
      · exact .inr (.inr h)
    · rintro (h | h | h)
      · exact .inl (.inr h)
      · exact .inl (.inl h)
      · exact .inr h
theorem insAll_len : ∀ (ms l : List Mt), (insAll l ms).length ≤ l.length + ms.length
  | [], l => by simp [insAll]
  | m :: ms, l => by
    show (insAll (insW l m) ms).length ≤ _
    have h1 := insAll_len ms (insW l m); have h2 := insW_len l m; simp; omega
theorem insAll_app (l a b : List Mt) : insAll l (a ++ b) = insAll (insAll l a) b := by simp [insAll]

/-- Neighbours that are one. -/
def comp : List Mt → List Mt
  | [] => []
  | [x] => [x]
  | x :: y :: l => if x = y then comp (y :: l) else x :: comp (y :: l)
theorem comp_mem : ∀ (l : List Mt) (x : Mt), x ∈ comp l ↔ x ∈ l
  | [], _ => by simp [comp]
  | [_], _ => by simp [comp]
  | a :: b :: l, x => by
    unfold comp
    split
    · rename_i e; subst e; rw [comp_mem (a :: l) x]; simp
    · rw [List.mem_cons, comp_mem (b :: l) x, List.mem_cons (a := x) (b := a)]
theorem comp_srt : ∀ (l : List Mt), l.Pairwise (fun x y => mlt y x = false) → Srt (comp l)
  | [], _ => by simp [comp, Srt]
  | [_], _ => by simp [comp, Srt]
  | a :: b :: l, s => by
    obtain ⟨h1, s1⟩ := List.pairwise_cons.1 s
    unfold comp
    split
    · exact comp_srt (b :: l) s1
    · rename_i hne
      refine List.pairwise_cons.2 ⟨fun x hx => ?_, comp_srt (b :: l) s1⟩
      rw [comp_mem] at hx
      have hab : mlt a b = true := by
        cases e : mlt a b with
        | true => rfl
        | false => exact absurd (mlt_total e (h1 b (by simp))) hne
      cases e : mlt a x with
      | true => rfl
      | false =>
        have := mlt_total e (h1 x hx)
        subst this
        rcases List.mem_cons.1 hx with e2 | hx2
        · exact absurd e2 hne
        · have h3 := (List.pairwise_cons.1 s1).1 a hx2
          rw [hab] at h3; cases h3

theorem comp_snoc : ∀ (l : List Mt) (x y : Mt), comp (l ++ [x, y]) = comp (l ++ [x]) ++ (if x = y then [] else [y])
  | [], x, y => by
    by_cases e : x = y
    · simp [comp, e]
    · simp [comp, e]
  | [a], x, y => by
    have ih := comp_snoc [] x y
    simp only [List.nil_append, List.cons_append] at ih ⊢
    unfold comp
    by_cases e : a = x
    · rw [if_pos e, if_pos e, ih]
    · rw [if_neg e, if_neg e, ih]; rfl
  | a :: b :: l, x, y => by
    have ih := comp_snoc (b :: l) x y
    simp only [List.cons_append] at ih ⊢
    unfold comp
    by_cases e : a = b
    · rw [if_pos e, if_pos e, ih]
    · rw [if_neg e, if_neg e, ih]; rfl
theorem take_two (L : List Mt) (r : Nat) (hr : 1 ≤ r) (h : r < L.length) : ∃ l, L.take (r + 1) = l ++ [L[r - 1], L[r]] ∧ L.take r = l ++ [L[r - 1]] := by
  obtain ⟨q, rfl⟩ : ∃ q, r = q + 1 := ⟨r - 1, by omega⟩
  refine ⟨L.take q, ?_, ?_⟩
  · rw [List.take_add_one, List.take_add_one, List.getElem?_eq_getElem h, List.getElem?_eq_getElem (by omega : q < L.length), List.append_assoc]
    rfl
  · rw [List.take_add_one, List.getElem?_eq_getElem (by omega : q < L.length)]
    rfl
theorem comp_take (L : List Mt) (r : Nat) (hr : 1 ≤ r) (h : r < L.length) : comp (L.take (r + 1)) = comp (L.take r) ++ (if L[r - 1] = L[r] then [] else [L[r]]) := by
  obtain ⟨l, e1, e2⟩ := take_two L r hr h
  rw [e1, e2, comp_snoc]

/-! ### moves -/
def check (m : Mv) : Int :=
  if (m.kind < 1 ∨ m.kind > 5 ∨ m.fr < 0 ∨ (m.to ≥ 0 ∧ m.to < m.fr)) ∨ (m.hit = true ∧ ¬ (m.kind = 1 ∧ m.err = 0 ∧ m.to ≥ 0)) ∨ (m.kind = 1 ∧ m.hit = false ∧ m.val ≠ ByteArray.empty) ∨ (m.kind > 2 ∧ m.val ≠ ByteArray.empty) ∨ (m.kind > 3 ∧ m.key ≠ ByteArray.empty) then 230 else 0
def doesR (m : Mv) : Bool × Bool × Bool :=
  if m.kind ≠ 2 ∧ m.kind ≠ 3 then (true, false, false)
  else if m.to < 0 ∨ m.err = 2 ∨ m.err = 5 then (true, m.kind == 2, true)
  else if m.err = 0 then (false, m.kind == 2, m.kind == 3)
  else if m.kind = 2 ∧ m.err = 191 then (false, false, true)
  else (true, false, false)
def mcmp (a b : Mt) : Int := if a = b then 0 else if mlt a b then -1 else 1

def keyed (m : Mv) : Bool := m.kind == 1 || m.kind == 2 || m.kind == 3
def hits (m : Mv) : Bool := m.kind == 1 && (m.hit && (m.err == 0 && decide (m.to ≥ 0)))
/-- nothing 0, done 1, turned 2, open 3 -/
def fate (m : Mv) : Nat := if m.to < 0 ∨ m.err = 2 ∨ m.err = 5 then 3 else if m.err = 0 then 1 else if m.err = 191 then 2 else 0
def putF (f : Nat) (now was : Mt) : List Mt := if f = 1 then [now] else if f = 2 then [nil] else if f = 3 then [now, nil, was] else [was]
def delF (f : Nat) (was : Mt) : List Mt := if f = 1 then [nil] else if f = 3 then [nil, was] else [was]
def outs (m : Mv) (was : Mt) : List Mt :=
  if m.kind = 1 then (if hits m = true ∧ (was.has = false ∨ was.val ≠ m.val) then [] else [was])
  else if m.kind = 2 then putF (fate m) ⟨true, m.val⟩ was
  else if m.kind = 3 then delF (fate m) was
  else [was]
/-- The same, as the document goes about it. -/
def rOuts (m : Mv) (w : Mt) : List Mt :=
  if hits m = true ∧ (w.has = false ∨ w.val ≠ m.val) then [] else
  (if (doesR m).1 then [w] else []) ++ (if (doesR m).2.1 then [⟨true, m.val⟩] else []) ++ (if (doesR m).2.2 then [nil] else [])
theorem hits_kind {m : Mv} (h : hits m = true) : m.kind = 1 := by simp [hits] at h; exact h.1
theorem rOuts_iff (m : Mv) (w x : Mt) : x ∈ rOuts m w ↔ x ∈ outs m w := by
  unfold rOuts outs
  by_cases h1 : m.kind = 1
  · rw [if_pos h1]
    have : doesR m = (true, false, false) := by unfold doesR; rw [if_pos (by omega)]
    rw [this]
    split <;> simp
  · rw [if_neg h1]
    have hn : ¬ (hits m = true ∧ (w.has = false ∨ w.val ≠ m.val)) := fun h => h1 (hits_kind h.1)
    rw [if_neg hn]
    by_cases h2 : m.kind = 2
    · rw [if_pos h2]
      by_cases h3 : m.to < 0 ∨ m.err = 2 ∨ m.err = 5
      · have hd : doesR m = (true, true, true) := by unfold doesR; rw [if_neg (by omega), if_pos h3]; simp [h2]
        have hf : fate m = 3 := by unfold fate; rw [if_pos h3]
        rw [hd, hf, show putF 3 ⟨true, m.val⟩ w = [⟨true, m.val⟩, nil, w] from rfl]
        simp only [if_true, List.mem_append, List.mem_cons, List.not_mem_nil, or_false]
        constructor
        · rintro ((h | h) | h)
          · exact .inr (.inr h)
          · exact .inl h
          · exact .inr (.inl h)
        · rintro (h | h | h)
          · exact .inl (.inr h)
          · exact .inr h
          · exact .inl (.inl h)
      · by_cases h4 : m.err = 0
        · have hd : doesR m = (false, true, false) := by unfold doesR; rw [if_neg (by omega), if_neg h3, if_pos h4]; simp [h2]
          have hf : fate m = 1 := by unfold fate; rw [if_neg h3, if_pos h4]
          rw [hd, hf]; simp [putF]
        · by_cases h5 : m.err = 191
          · have hd : doesR m = (false, false, true) := by unfold doesR; rw [if_neg (by omega), if_neg h3, if_neg h4, if_pos ⟨h2, h5⟩]
            have hf : fate m = 2 := by unfold fate; rw [if_neg h3, if_neg h4, if_pos h5]
            rw [hd, hf]; simp [putF]
          · have hd : doesR m = (true, false, false) := by unfold doesR; rw [if_neg (by omega), if_neg h3, if_neg h4, if_neg (fun h => h5 h.2)]
            have hf : fate m = 0 := by unfold fate; rw [if_neg h3, if_neg h4, if_neg h5]
            rw [hd, hf]; simp [putF]
    · rw [if_neg h2]
      by_cases h6 : m.kind = 3
      · rw [if_pos h6]
        by_cases h3 : m.to < 0 ∨ m.err = 2 ∨ m.err = 5
        · have hd : doesR m = (true, false, true) := by unfold doesR; rw [if_neg (by omega), if_pos h3]; simp [h6]
          have hf : fate m = 3 := by unfold fate; rw [if_pos h3]
          rw [hd, hf, show delF 3 w = [nil, w] from rfl]
          simp only [if_true, List.mem_append, List.mem_cons, List.not_mem_nil, or_false, Bool.false_eq_true, if_false]
          constructor
          · rintro (h | h)
            · exact .inr h
            · exact .inl h
          · rintro (h | h)
            · exact .inr h
            · exact .inl h
        · by_cases h4 : m.err = 0
          · have hd : doesR m = (false, false, true) := by unfold doesR; rw [if_neg (by omega), if_neg h3, if_pos h4]; simp [h6]
            have hf : fate m = 1 := by unfold fate; rw [if_neg h3, if_pos h4]
            rw [hd, hf]; simp [delF]
          · have hd : doesR m = (true, false, false) := by unfold doesR; rw [if_neg (by omega), if_neg h3, if_neg h4, if_neg (fun h => h2 h.1)]
            have hf : fate m = 0 ∨ fate m = 2 := by unfold fate; rw [if_neg h3, if_neg h4]; split <;> simp
            rw [hd]
            rcases hf with hf | hf <;> rw [hf] <;> simp [delF]
      · rw [if_neg h6]
        have : doesR m = (true, false, false) := by unfold doesR; rw [if_pos ⟨h2, h6⟩]
        rw [this]; simp
theorem insAll_outs {T : List Mt} (s : Srt T) (m : Mv) (w : Mt) : insAll T (rOuts m w) = insAll T (outs m w) :=
  srt_unique (insAll_srt _ _ s) (insAll_srt _ _ s) fun x => by rw [insAll_mem, insAll_mem, rOuts_iff]
def next (l : List Mt) (m : Mv) : List Mt := insAll [] (l.flatMap (outs m))
theorem flat_take {β : Type} (L : List β) (f : β → List Mt) (j : Nat) (h : j < L.length) : (L.take (j + 1)).flatMap f = (L.take j).flatMap f ++ f L[j] := by
  rw [List.take_add_one, List.getElem?_eq_getElem h, List.flatMap_append]; simp
theorem next_srt (l : List Mt) (m : Mv) : Srt (next l m) := insAll_srt _ _ List.Pairwise.nil
theorem next_mem (l : List Mt) (m : Mv) (x : Mt) : x ∈ next l m ↔ ∃ w ∈ l, x ∈ outs m w := by
  unfold next; rw [insAll_mem]; simp
theorem putF_len (f : Nat) (n w : Mt) : (putF f n w).length ≤ 3 := by unfold putF; split <;> (try split) <;> (try split) <;> simp
theorem delF_len (f : Nat) (w : Mt) : (delF f w).length ≤ 3 := by unfold delF; split <;> (try split) <;> simp
theorem outs_len (m : Mv) (w : Mt) : (outs m w).length ≤ 3 := by
  unfold outs
  split
  · split <;> simp
  · split
    · exact putF_len _ _ _
    · split
      · exact delF_len _ _
      · simp
theorem putF_mem {f : Nat} {n w x : Mt} (h : x ∈ putF f n w) : x = n ∨ x = nil ∨ x = w := by
  unfold putF at h
  split at h
  · simp at h; exact .inl h
  · split at h
    · simp at h; exact .inr (.inl h)
    · split at h
      · simpa using h
      · simp at h; exact .inr (.inr h)
theorem delF_mem {f : Nat} {w x : Mt} (h : x ∈ delF f w) : x = nil ∨ x = w := by
  unfold delF at h
  split at h
  · simp at h; exact .inl h
  · split at h
    · simpa using h
    · simp at h; exact .inr h
/-- What a move leads to: what it puts, nothing, or what was. -/
theorem outs_mem {m : Mv} {w x : Mt} (h : x ∈ outs m w) : (m.kind = 2 ∧ x = ⟨true, m.val⟩) ∨ x = nil ∨ x = w := by
  unfold outs at h
  split at h
  · split at h
    · cases h
    · simp at h; exact .inr (.inr h)
  · split at h
    · rename_i hk
      rcases putF_mem h with h | h | h
      · exact .inl ⟨hk, h⟩
      · exact .inr (.inl h)
      · exact .inr (.inr h)
    · split at h
      · rcases delF_mem h with h | h
        · exact .inr (.inl h)
        · exact .inr (.inr h)
      · simp at h; exact .inr (.inr h)
theorem flat_outs_len (m : Mv) : ∀ l : List Mt, (l.flatMap (outs m)).length ≤ 3 * l.length
  | [] => by simp
  | x :: l => by
    have := flat_outs_len m l; have := outs_len m x
    rw [List.flatMap_cons, List.length_append, List.length_cons]; omega
theorem next_len (l : List Mt) (m : Mv) : (next l m).length ≤ 3 * l.length := by
  have h1 := insAll_len (l.flatMap (outs m)) []; have h2 := flat_outs_len m l
  unfold next; rw [List.length_nil] at h1; omega
/-- The program's way: sorted, then neighbours that are one struck. -/
theorem next_of_sort {l : List Mt} {m : Mv} {s : List Mt} (hp : s.Perm (l.flatMap (outs m))) (hs : s.Pairwise (fun x y => mlt y x = false)) : comp s = next l m :=
  srt_unique (comp_srt s hs) (next_srt l m) fun x => by rw [comp_mem, hp.mem_iff, next_mem, List.mem_flatMap]

/-- Nothing is said of a value that is not there. -/
def Nm (l : List Mt) : Prop := ∀ x ∈ l, x.has = false → x.val = ByteArray.empty
theorem outs_nm {m : Mv} {w : Mt} (hw : w.has = false → w.val = ByteArray.empty) : Nm (outs m w) := by
  intro x hx hh
  rcases outs_mem hx with ⟨_, e⟩ | e | e
  · rw [e] at hh; cases hh
  · rw [e]; rfl
  · rw [e] at hh ⊢; exact hw hh
theorem next_nm {l : List Mt} {m : Mv} (h : Nm l) : Nm (next l m) := fun x hx => by
  obtain ⟨w, hw, hx⟩ := (next_mem l m x).1 hx
  exact outs_nm (h w hw) x hx

theorem nodup_len : ∀ {l s : List Mt}, l.Nodup → (∀ x ∈ l, x ∈ s) → l.length ≤ s.length
  | [], _, _, _ => Nat.zero_le _
  | x :: l, s, hn, hs => by
    obtain ⟨h1, h2⟩ := List.nodup_cons.1 hn
    have hx : x ∈ s := hs x (by simp)
    have := nodup_len (l := l) (s := s.erase x) h2 fun y hy => by
      have hne : y ≠ x := fun e => h1 (by rw [← e]; exact hy)
      exact (List.mem_erase_of_ne hne).2 (hs y (by simp [hy]))
    rw [List.length_erase_of_mem hx] at this
    have hp : 0 < s.length := List.length_pos_of_mem hx
    simp only [List.length_cons]; omega
theorem next_len2 (l : List Mt) (m : Mv) : (next l m).length ≤ l.length + 2 := by
  have := nodup_len (l := next l m) (s := ⟨true, m.val⟩ :: nil :: l) (next_srt l m).nodup fun x hx => by
    obtain ⟨w, hw, hx⟩ := (next_mem l m x).1 hx
    rcases outs_mem hx with ⟨_, e⟩ | e | e
    · simp [e]
    · simp [e]
    · simp [e, hw]
  simpa using this
def start : List Mt := [nil]
theorem start_srt : Srt start := by simp [start, Srt]
theorem start_nm : Nm start := fun x hx _ => by simp [start] at hx; subst hx; rfl
def ends (l : List Mv) (key : Str) : List Mt := l.foldl (fun s m => if keyed m = true ∧ m.key = key then next s m else s) start

theorem ends_snoc (l : List Mv) (m : Mv) (key : Str) : ends (l ++ [m]) key = if keyed m = true ∧ m.key = key then next (ends l key) m else ends l key := by
  simp [ends]
theorem ends_nil (key : Str) : ends [] key = start := rfl
theorem fold_ok {key : Str} (P : List Mt → Prop) (hn : ∀ s m, P s → P (next s m)) : ∀ (l : List Mv) (s : List Mt), P s → P (l.foldl (fun s m => if keyed m = true ∧ m.key = key then next s m else s) s)
  | [], _, h => h
  | m :: l, s, h => by
    rw [List.foldl_cons]
    refine fold_ok P hn l _ ?_
    split
    · exact hn _ _ h
    · exact h
theorem ends_srt (l : List Mv) (key : Str) : Srt (ends l key) := fold_ok Srt (fun s m _ => next_srt s m) l _ start_srt
theorem ends_len (l : List Mv) (key : Str) : (ends l key).length ≤ 1 + 2 * l.length := by
  have : ∀ (l : List Mv) (s : List Mt), (l.foldl (fun s m => if keyed m = true ∧ m.key = key then next s m else s) s).length ≤ s.length + 2 * l.length := by
    intro l
    induction l with
    | nil => intro s; simp
    | cons m l ih =>
      intro s
      rw [List.foldl_cons]
      refine Nat.le_trans (ih _) ?_
      have := next_len2 s m
      split <;> simp only [List.length_cons] <;> omega
  exact this l start
theorem ends_nm (l : List Mv) (key : Str) : Nm (ends l key) := fold_ok Nm (fun _ _ h => next_nm h) l _ start_nm

/-- The first move that can't be told. -/
def bad (l : List Mv) (i : Nat) : Bool := match l[i]? with | some m => keyed m && (ends (l.take (i + 1)) m.key).isEmpty | none => false
def Acc (l : List Mv) : Prop := ∀ i, bad l i = false
/-- What Accepts says. -/
def AccR (l : List Mv) (ok : Bool) (n : Int) : Prop := (ok = true ∧ n = 0 ∧ Acc l) ∨ (ok = false ∧ ∃ i : Nat, n = i ∧ i < l.length ∧ bad l i = true ∧ ∀ j, j < i → bad l j = false)
theorem AccR.ok_iff {l : List Mv} {ok : Bool} {n : Int} (h : AccR l ok n) : ok = true ↔ Acc l := by
  rcases h with ⟨h1, _, h2⟩ | ⟨h1, i, _, _, h2, _⟩
  · exact ⟨fun _ => h2, fun _ => h1⟩
  · exact ⟨fun h => (by rw [h1] at h; cases h), fun h => (by rw [h i] at h2; cases h2)⟩
theorem AccR.unique {l : List Mv} {ok ok' : Bool} {n n' : Int} (h : AccR l ok n) (h' : AccR l ok' n') : ok = ok' ∧ n = n' := by
  rcases h with ⟨h1, h2, h3⟩ | ⟨h1, i, h2, h3, h4, h5⟩ <;> rcases h' with ⟨k1, k2, k3⟩ | ⟨k1, j, k2, k3, k4, k5⟩
  · exact ⟨h1.trans k1.symm, h2.trans k2.symm⟩
  · rw [h3 j] at k4; cases k4
  · rw [k3 i] at h4; cases h4
  · refine ⟨h1.trans k1.symm, ?_⟩
    have : i = j := by
      rcases Nat.lt_trichotomy i j with h | h | h
      · have := k5 i h; rw [this] at h4; cases h4
      · exact h
      · have := h5 j h; rw [this] at k4; cases k4
    rw [h2, k2, this]

end Ml
end Go.Proofs.Ytmdgfbhmogjklaa
