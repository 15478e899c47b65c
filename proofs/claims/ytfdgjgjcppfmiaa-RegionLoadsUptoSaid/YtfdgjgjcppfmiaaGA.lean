/-
The manager of regions in plain Lean.
-/
import Derived.Test.YtfdgjgjcppfmiaaCel
namespace Go.Proofs.Ytfdgjgjcppfmiaa
namespace Mg
open Go

structure Inf where
  st : Int
  sq : Int
  pins : Int
  er : Int
def z0 : Inf := ⟨0, 0, 0, 0⟩
instance : Inhabited Inf := ⟨z0⟩
def eInf : Elt Inf := ⟨4, fun i => [.int .i64 i.st, .int .u64 i.sq, .int .i64 i.pins, .int .i64 i.er], fun _ => rfl, fun x v hv => by simp at hv; rcases hv with rfl | rfl | rfl | rfl <;> rfl⟩
abbrev eI : Elt Int := eInt .i64

structure Rg where
  I : List Inf
  Q : List Int
  last : Int
  cur : Int
  D : List (List Int)
def Rg.at (S : Rg) (r : Int) : Inf := S.I.getD r.toNat z0
def Rg.dr (S : Rg) (r : Int) : List Int := S.D.getD r.toNat []
def Rg.inn (S : Rg) (r : Int) : Prop := 0 ≤ r ∧ r < S.I.length
instance (S : Rg) (r : Int) : Decidable (S.inn r) := by unfold Rg.inn; infer_instance
def Rg.set (S : Rg) (r : Int) (x : Inf) : Rg := { S with I := S.I.set r.toNat x }
def Rg.setD (S : Rg) (r : Int) (x : List Int) : Rg := { S with D := S.D.set r.toNat x }

def mOpen (S : Rg) : (Int × Int × Int) × Rg :=
  if S.cur ≠ -1 then ((0, 0, 91), S) else match S.Q with
  | [] => ((0, 0, 2), S)
  | c :: Q' => if S.last = 9223372036854775807 then ((0, 0, 3), S) else ((c, S.last + 1, 0), { (S.set c ⟨2, S.last + 1, (S.at c).pins, (S.at c).er⟩) with Q := Q', last := S.last + 1, cur := c })
def mSeal (S : Rg) : Int × Rg := if S.cur = -1 then (91, S) else (0, { (S.set S.cur ⟨3, (S.at S.cur).sq, (S.at S.cur).pins, (S.at S.cur).er⟩) with cur := -1 })
def mMark (S : Rg) (r : Int) : Int × Rg := if ¬ S.inn r then (90, S) else if (S.at r).st ≠ 3 then (91, S) else (0, S.set r ⟨4, (S.at r).sq, (S.at r).pins, (S.at r).er⟩)
def mDrain (S : Rg) (t r : Int) : (Bool × Int) × Rg :=
  if ¬ S.inn r then ((false, 90), S) else if (S.at r).st ≠ 4 then ((false, 91), S) else if (S.at r).pins = 0 then ((true, 0), S) else if t ∈ S.dr r then ((false, 0), S) else ((false, 0), S.setD r (S.dr r ++ [t]))
def erUp (n : Int) : Int := if n < 2147483647 then n + 1 else n
def mFree (S : Rg) (r : Int) : Int × Rg :=
  if ¬ S.inn r then (90, S) else if (S.at r).st ≠ 4 then (91, S) else if (S.at r).pins ≠ 0 then (92, S) else (0, { ((S.set r ⟨1, 0, 0, erUp (S.at r).er⟩).setD r []) with Q := S.Q ++ [r] })
def mPin (S : Rg) (r : Int) : Bool × Rg :=
  if S.inn r ∧ ((S.at r).st = 2 ∨ (S.at r).st = 3) ∧ (S.at r).pins ≠ 2147483647 then (true, S.set r ⟨(S.at r).st, (S.at r).sq, (S.at r).pins + 1, (S.at r).er⟩) else (false, S)
def mUnpin (S : Rg) (r : Int) : (List Int × Int) × Rg :=
  if ¬ S.inn r then (([], 90), S) else if (S.at r).pins = 0 then (([], 92), S) else
    if (S.at r).st = 4 ∧ (S.at r).pins = 1 then ((S.dr r, 0), (S.set r ⟨(S.at r).st, (S.at r).sq, (S.at r).pins - 1, (S.at r).er⟩).setD r [])
    else (([], 0), S.set r ⟨(S.at r).st, (S.at r).sq, (S.at r).pins - 1, (S.at r).er⟩)

theorem at_set {S : Rg} {r s : Int} {x : Inf} (hr : S.inn r) (hs : S.inn s) : (S.set r x).at s = if s = r then x else S.at s := by
  unfold Rg.at Rg.set
  simp only [List.getD_eq_getElem?_getD, List.getElem?_set]
  have h1 := hr.1; have h2 := hr.2; have h3 := hs.1
  by_cases e : s = r
  · subst e; rw [if_pos rfl, if_pos (by omega), if_pos rfl]; rfl
  · rw [if_neg (by omega), if_neg e]
theorem inn_set {S : Rg} {r s : Int} {x : Inf} : (S.set r x).inn s ↔ S.inn s := by unfold Rg.inn Rg.set; simp
theorem at_get {S : Rg} {r : Int} (hr : S.inn r) : ∃ hi : r.toNat < S.I.length, S.at r = S.I[r.toNat] := by
  have h1 := hr.1; have h2 := hr.2
  refine ⟨by omega, ?_⟩
  unfold Rg.at
  rw [List.getD_eq_getElem?_getD, List.getElem?_eq_getElem (by omega)]; rfl
theorem dr_setD {S : Rg} {r s : Int} {x : List Int} (hr : 0 ≤ r ∧ r.toNat < S.D.length) (hs : 0 ≤ s) : (S.setD r x).dr s = if s = r then x else S.dr s := by
  unfold Rg.dr Rg.setD
  simp only [List.getD_eq_getElem?_getD, List.getElem?_set]
  by_cases e : s = r
  · subst e; rw [if_pos rfl, if_pos (by omega), if_pos rfl]; rfl
  · rw [if_neg (by omega), if_neg e]

/-- One region's numbers. -/
structure Fit1 (last : Int) (x : Inf) : Prop where
  st : 1 ≤ x.st ∧ x.st ≤ 4
  pins : 0 ≤ x.pins ∧ x.pins ≤ 2147483647
  er : 0 ≤ x.er ∧ x.er ≤ 2147483647
  one : x.st = 1 → x.sq = 0 ∧ x.pins = 0
  sq : x.st ≠ 1 → 1 ≤ x.sq ∧ x.sq ≤ last
structure WF (K : Nat) (S : Rg) : Prop where
  n : 2 ≤ S.I.length ∧ S.I.length ≤ 256
  d : S.D.length = S.I.length
  k : ∀ x ∈ S.D, x.length ≤ K
  kk : K ≤ 2097152
  each : ∀ r, S.inn r → Fit1 S.last (S.at r)
  uq : ∀ r s, S.inn r → S.inn s → r ≠ s → (S.at r).st ≠ 1 → (S.at s).st ≠ 1 → (S.at r).sq ≠ (S.at s).sq
  nd : S.Q.Nodup
  q : ∀ x ∈ S.Q, S.inn x ∧ (S.at x).st = 1
  cur : S.cur = -1 ∨ (S.inn S.cur ∧ (S.at S.cur).st = 2)
  last : 0 ≤ S.last ∧ S.last ≤ 9223372036854775807

theorem WF.up {K K' : Nat} {S : Rg} (w : WF K S) (h : K ≤ K') (hk : K' ≤ 2097152) : WF K' S := { w with k := fun x hx => Nat.le_trans (w.k x hx) h, kk := hk }
/-- One region's numbers are turned, its state stays in keeping. -/
theorem WF.set {K : Nat} {S : Rg} (w : WF K S) {r : Int} (hr : S.inn r) {x : Inf} (f : Fit1 S.last x) (hq : r ∈ S.Q → x.st = 1) (hc : S.cur = r → x.st = 2) (hs : x.st ≠ 1 → (S.at r).st ≠ 1 ∧ x.sq = (S.at r).sq) : WF K (S.set r x) := by
  refine ⟨by simpa [Rg.set] using w.n, by simpa [Rg.set] using w.d, w.k, w.kk, fun s is => ?_, fun s t is it hst h1 h2 => ?_, w.nd, fun y hy => ⟨inn_set.2 (w.q y hy).1, ?_⟩, w.cur.imp id fun ⟨h1, h2⟩ => ⟨inn_set.2 h1, ?_⟩, w.last⟩
  · rw [inn_set] at is
    rw [at_set hr is]
    split
    · exact f
    · exact w.each s is
  · rw [inn_set] at is it
    rw [at_set hr is] at h1 ⊢
    rw [at_set hr it] at h2 ⊢
    by_cases e1 : s = r <;> by_cases e2 : t = r
    · omega
    · rw [if_pos e1] at h1 ⊢
      rw [if_neg e2] at h2 ⊢
      rw [(hs h1).2]
      exact w.uq r t hr it (by omega) (hs h1).1 h2
    · rw [if_neg e1] at h1 ⊢
      rw [if_pos e2] at h2 ⊢
      rw [(hs h2).2]
      exact w.uq s r is hr (by omega) h1 (hs h2).1
    · rw [if_neg e1] at h1 ⊢
      rw [if_neg e2] at h2 ⊢
      exact w.uq s t is it hst h1 h2
  · rw [at_set hr (w.q y hy).1]
    split
    · rename_i e; exact hq (e ▸ hy)
    · exact (w.q y hy).2
  · show ((S.set r x).at S.cur).st = 2
    rw [at_set hr h1]
    split
    · rename_i e; exact hc e
    · exact h2
theorem WF.setD {K : Nat} {S : Rg} (w : WF K S) {r : Int} {x : List Int} (hx : x.length ≤ K) : WF K (S.setD r x) :=
  { w with d := by simpa [Rg.setD] using w.d, k := fun y hy => (List.mem_or_eq_of_mem_set hy).elim (w.k y) fun h => h ▸ hx }
theorem WF.drk {K : Nat} {S : Rg} (w : WF K S) {r : Int} (hr : S.inn r) : (S.dr r).length ≤ K := by
  have h1 := hr.1; have h2 := hr.2; have h3 := w.d
  unfold Rg.dr
  rw [List.getD_eq_getElem?_getD, List.getElem?_eq_getElem (by omega)]
  exact w.k _ (List.getElem_mem _)
theorem nodup_len : ∀ (n : Nat) (L : List Int), L.Nodup → (∀ x ∈ L, 0 ≤ x ∧ x < n) → L.length ≤ n
  | 0, L, _, h => by
    cases L with
    | nil => simp
    | cons x L => have := h x (by simp); omega
  | n + 1, L, hn, h => by
    by_cases hm : (n : Int) ∈ L
    · have h1 := nodup_len n (L.erase (n : Int)) (hn.erase _) fun x hx => by
        have h2 := hn.mem_erase_iff.1 hx
        have := h x h2.2
        have h3 := h2.1
        omega
      have h4 := List.length_erase_of_mem hm
      omega
    · have h1 := nodup_len n L hn fun x hx => by
        have := h x hx
        have h3 : x ≠ n := fun e => hm (e ▸ hx)
        omega
      omega
theorem WF.qlen {K : Nat} {S : Rg} (w : WF K S) : S.Q.length ≤ 256 :=
  Nat.le_trans (nodup_len S.I.length S.Q w.nd fun x hx => (w.q x hx).1) w.n.2

theorem wf_open {K : Nat} {S : Rg} (w : WF K S) : WF K (mOpen S).2 := by
  unfold mOpen
  split
  · exact w
  rename_i hc
  cases hQ : S.Q with
  | nil => exact w
  | cons c Q' =>
    simp only
    split
    · exact w
    rename_i hl
    have hcq := w.q c (by rw [hQ]; simp)
    have hw := w.last
    have nd := w.nd
    rw [hQ] at nd
    obtain ⟨hn1, hn2⟩ := List.nodup_cons.1 nd
    have f := w.each c hcq.1
    refine ⟨by simpa [Rg.set] using w.n, by simpa [Rg.set] using w.d, w.k, w.kk, fun s is => ?_, fun s t is it hst h1 h2 => ?_, hn2, fun y hy => ?_, .inr ⟨inn_set.2 hcq.1, ?_⟩, ⟨by show 0 ≤ S.last + 1; omega, by show S.last + 1 ≤ _; omega⟩⟩
    · have is' : S.inn s := inn_set.1 is
      show Fit1 (S.last + 1) ((S.set c _).at s)
      rw [at_set hcq.1 is']
      split
      · exact ⟨(show (1 : Int) ≤ 2 ∧ (2 : Int) ≤ 4 by decide), f.pins, f.er, fun h => by simp at h, fun _ => ⟨by show 1 ≤ S.last + 1; omega, Int.le_refl _⟩⟩
      · have g := w.each s is'
        exact ⟨g.st, g.pins, g.er, g.one, fun h => ⟨(g.sq h).1, by have := (g.sq h).2; omega⟩⟩
    · have is' : S.inn s := inn_set.1 is
      have it' : S.inn t := inn_set.1 it
      have h1' : ((S.set c ⟨2, S.last + 1, (S.at c).pins, (S.at c).er⟩).at s).st ≠ 1 := h1
      have h2' : ((S.set c ⟨2, S.last + 1, (S.at c).pins, (S.at c).er⟩).at t).st ≠ 1 := h2
      show ((S.set c ⟨2, S.last + 1, (S.at c).pins, (S.at c).er⟩).at s).sq ≠ ((S.set c ⟨2, S.last + 1, (S.at c).pins, (S.at c).er⟩).at t).sq
      rw [at_set hcq.1 is'] at h1' ⊢
      rw [at_set hcq.1 it'] at h2' ⊢
      by_cases e1 : s = c <;> by_cases e2 : t = c
      · omega
      · rw [if_neg e2] at h2' ⊢
        rw [if_pos e1]
        have := ((w.each t it').sq h2').2
        show S.last + 1 ≠ _; omega
      · rw [if_neg e1] at h1' ⊢
        rw [if_pos e2]
        have := ((w.each s is').sq h1').2
        show _ ≠ S.last + 1; omega
      · rw [if_neg e1] at h1' ⊢
        rw [if_neg e2] at h2' ⊢
        exact w.uq s t is' it' hst h1' h2'
    · have hy' := w.q y (by rw [hQ]; simp [show y ∈ Q' from hy])
      refine ⟨inn_set.2 hy'.1, ?_⟩
      show ((S.set c _).at y).st = 1
      rw [at_set hcq.1 hy'.1, if_neg (fun e => hn1 (by rw [← e]; exact hy))]
      exact hy'.2
    · show ((S.set c _).at c).st = 2
      rw [at_set hcq.1 hcq.1, if_pos rfl]
theorem wf_seal {K : Nat} {S : Rg} (w : WF K S) : WF K (mSeal S).2 := by
  unfold mSeal
  split
  · exact w
  rename_i hc
  have hcu := w.cur.resolve_left hc
  have f := w.each _ hcu.1
  have w0 : WF K { S with cur := -1 } := { w with cur := .inl rfl }
  have hne : (S.at S.cur).st ≠ 1 := by rw [hcu.2]; decide
  exact WF.set (S := { S with cur := -1 }) w0 (r := S.cur) hcu.1 (x := ⟨3, (S.at S.cur).sq, (S.at S.cur).pins, (S.at S.cur).er⟩) ⟨(show (1 : Int) ≤ 3 ∧ (3 : Int) ≤ 4 by decide), f.pins, f.er, fun h => by simp at h, fun _ => f.sq hne⟩
    (fun h => by have := (w.q _ h).2; omega) (fun h => by have h' : (-1 : Int) = S.cur := h; exact absurd h'.symm hc) fun _ => ⟨hne, rfl⟩
theorem wf_mark {K : Nat} {S : Rg} (w : WF K S) (r : Int) : WF K (mMark S r).2 := by
  unfold mMark
  split
  · exact w
  rename_i hi
  simp only [Decidable.not_not] at hi
  split
  · exact w
  rename_i hs
  simp only [ne_eq, Decidable.not_not] at hs
  have f := w.each _ hi
  have hne : (S.at r).st ≠ 1 := by rw [hs]; decide
  exact w.set hi ⟨(show (1 : Int) ≤ 4 ∧ (4 : Int) ≤ 4 by decide), f.pins, f.er, fun h => by simp at h, fun _ => f.sq hne⟩ (fun h => by have := (w.q _ h).2; omega)
    (fun h => by rcases w.cur with k | k; · (have := hi.1; omega)
                 · have := k.2; rw [h] at this; omega) fun _ => ⟨hne, rfl⟩
theorem wf_drain {K : Nat} {S : Rg} (w : WF K S) (hk : K + 1 ≤ 2097152) (t r : Int) : WF (K + 1) (mDrain S t r).2 := by
  have w1 := w.up (Nat.le_succ K) hk
  unfold mDrain
  split
  · exact w1
  rename_i hi
  simp only [Decidable.not_not] at hi
  split
  · exact w1
  split
  · exact w1
  split
  · exact w1
  exact w1.setD (by have := w.drk hi; simp; omega)
theorem erUp_le {n : Int} (h : 0 ≤ n ∧ n ≤ 2147483647) : 0 ≤ erUp n ∧ erUp n ≤ 2147483647 := by unfold erUp; split <;> omega
theorem wf_free {K : Nat} {S : Rg} (w : WF K S) (r : Int) : WF K (mFree S r).2 := by
  unfold mFree
  split
  · exact w
  rename_i hi
  simp only [Decidable.not_not] at hi
  split
  · exact w
  rename_i hs
  simp only [ne_eq, Decidable.not_not] at hs
  split
  · exact w
  have f := w.each _ hi
  have w1 : WF K (S.set r ⟨1, 0, 0, erUp (S.at r).er⟩) := w.set hi ⟨(show (1 : Int) ≤ 1 ∧ (1 : Int) ≤ 4 by decide), ⟨by show (0:Int) ≤ 0; decide, by show (0:Int) ≤ _; decide⟩, erUp_le f.er, fun _ => ⟨rfl, rfl⟩, fun h => absurd rfl h⟩ (fun _ => rfl)
    (fun h => by rcases w.cur with k | k; · (have := hi.1; omega)
                 · have := k.2; rw [h] at this; omega) fun h => absurd rfl h
  have w2 := w1.setD (r := r) (x := []) (by simp)
  have hnq : r ∉ S.Q := fun h => by have := (w.q _ h).2; omega
  refine { w2 with nd := ?_, q := fun x hx => ?_ }
  · exact List.nodup_append.2 ⟨w.nd, by simp, fun a ha b hb e => hnq (by simp at hb; rw [← hb, ← e]; exact ha)⟩
  · rcases List.mem_append.1 hx with h | h
    · exact w2.q x h
    · simp at h; subst h
      refine ⟨inn_set.2 hi, ?_⟩
      show ((S.set x _).at x).st = 1
      rw [at_set hi hi, if_pos rfl]
theorem wf_pin {K : Nat} {S : Rg} (w : WF K S) (r : Int) : WF K (mPin S r).2 := by
  unfold mPin
  split
  · rename_i h
    obtain ⟨hi, hs, hp⟩ := h
    have f := w.each _ hi
    have hne : (S.at r).st ≠ 1 := by omega
    have := f.pins
    exact w.set hi ⟨f.st, ⟨by show 0 ≤ (S.at r).pins + 1; omega, by show (S.at r).pins + 1 ≤ _; omega⟩, f.er, fun h => absurd h hne, fun _ => f.sq hne⟩ (fun h => absurd (w.q _ h).2 hne)
      (fun h => by rcases w.cur with k | k; · (have := hi.1; omega)
                   · have := k.2; rw [h] at this; exact this) fun _ => ⟨hne, rfl⟩
  · exact w
theorem wf_unpin {K : Nat} {S : Rg} (w : WF K S) (r : Int) : WF K (mUnpin S r).2 := by
  unfold mUnpin
  split
  · exact w
  rename_i hi
  simp only [Decidable.not_not] at hi
  split
  · exact w
  rename_i hp
  have f := w.each _ hi
  have hne : (S.at r).st ≠ 1 := fun h => hp (f.one h).2
  have := f.pins
  have w1 : WF K (S.set r ⟨(S.at r).st, (S.at r).sq, (S.at r).pins - 1, (S.at r).er⟩) := w.set hi ⟨f.st, ⟨by show 0 ≤ (S.at r).pins - 1; omega, by show (S.at r).pins - 1 ≤ _; omega⟩, f.er, fun h => absurd h hne, fun _ => f.sq hne⟩ (fun h => absurd (w.q _ h).2 hne)
      (fun h => by rcases w.cur with k | k; · (have := hi.1; omega)
                   · have := k.2; rw [h] at this; exact this) fun _ => ⟨hne, rfl⟩
  split
  · exact w1.setD (by simp)
  · exact w1
end Mg
end Go.Proofs.Ytfdgjgjcppfmiaa
