/-
The index, in plain Lean: a rising list of entries for each stripe.
-/
import Derived.Test.YtkecmljalcfhoaaTD
namespace Go.Proofs.Ytkecmljalcfhoaa
namespace Ix
open Go RH

def look (L : List Ent) (v : Nat) : Option Ent := L.find? fun e => e.h == v
theorem look_some {L : List Ent} (hL : Srt L) {v : Nat} {e : Ent} : look L v = some e ↔ e ∈ L ∧ e.h = v := by
  unfold look
  constructor
  · intro h
    exact ⟨List.mem_of_find?_eq_some h, by simpa using List.find?_some h⟩
  · rintro ⟨h1, h2⟩
    cases hf : L.find? fun e => e.h == v with
    | none => have := List.find?_eq_none.1 hf e h1; simp [h2] at this
    | some y =>
      have y1 := List.mem_of_find?_eq_some hf
      have y2 : y.h = v := by simpa using List.find?_some hf
      rw [hL.eq y1 h1 (y2.trans h2.symm)]
theorem look_none {L : List Ent} {v : Nat} : look L v = none ↔ ∀ e ∈ L, e.h ≠ v := by
  unfold look
  rw [List.find?_eq_none]
  simp

def putS (L : List Ent) (e : Ent) : List Ent := (L.filter fun y => decide (y.h < e.h)) ++ e :: (L.filter fun y => decide (e.h < y.h))
def delS (L : List Ent) (v : Nat) : List Ent := L.filter fun y => decide (y.h ≠ v)
theorem putS_mem {L : List Ent} {e y : Ent} : y ∈ putS L e ↔ (y ∈ L ∧ y.h ≠ e.h) ∨ y = e := by
  unfold putS
  simp only [List.mem_append, List.mem_cons, List.mem_filter, decide_eq_true_eq]
  constructor
  · rintro (⟨h1, h2⟩ | h | ⟨h1, h2⟩)
    · exact .inl ⟨h1, by omega⟩
    · exact .inr h
    · exact .inl ⟨h1, by omega⟩
  · rintro (⟨h1, h2⟩ | h)
    · rcases Nat.lt_or_gt_of_ne h2 with g | g
      · exact .inl ⟨h1, g⟩
      · exact .inr (.inr ⟨h1, g⟩)
    · exact .inr (.inl h)
theorem putS_srt {L : List Ent} (hL : Srt L) (e : Ent) : Srt (putS L e) := by
  unfold putS
  refine List.pairwise_append.2 ⟨hL.filter _, List.pairwise_cons.2 ⟨fun y hy => ?_, hL.filter _⟩, fun y hy z hz => ?_⟩
  · simpa using (List.mem_filter.1 hy).2
  · have h1 : y.h < e.h := by simpa using (List.mem_filter.1 hy).2
    rcases List.mem_cons.1 hz with g | g
    · rw [g]; exact h1
    · have h2 : e.h < z.h := by simpa using (List.mem_filter.1 g).2
      omega
theorem delS_mem {L : List Ent} {v : Nat} {y : Ent} : y ∈ delS L v ↔ y ∈ L ∧ y.h ≠ v := by
  unfold delS; simp [List.mem_filter]
theorem delS_srt {L : List Ent} (hL : Srt L) (v : Nat) : Srt (delS L v) := hL.filter _
/-- A list that rises, and has these. -/
theorem is_put {L L' : List Ent} (hL : Srt L) (hL' : Srt L') {e : Ent} (h : ∀ y, y ∈ L' ↔ (y ∈ L ∧ y.h ≠ e.h) ∨ y = e) : L' = putS L e :=
  srt_ext hL' (putS_srt hL e) fun y => (h y).trans putS_mem.symm
theorem is_del {L L' : List Ent} (hL : Srt L) (hL' : Srt L') {v : Nat} (h : ∀ y, y ∈ L' ↔ y ∈ L ∧ y.h ≠ v) : L' = delS L v :=
  srt_ext hL' (delS_srt hL v) fun y => (h y).trans delS_mem.symm

abbrev R3 := Ent × Bool × Int
abbrev R2 := Ent × Bool
def v3 (r : R3) : Value := .tuple #[.agg #[.int .u64 r.1.h, .int .u64 r.1.a, .int .u64 r.1.v, .int .u8 r.1.k], .bool r.2.1, .int .i64 r.2.2]
def v2 (r : R2) : Value := .tuple #[.agg #[.int .u64 r.1.h, .int .u64 r.1.a, .int .u64 r.1.v, .int .u8 r.1.k], .bool r.2]

def mGet (L : List Ent) (v : Nat) : R2 := match look L v with | some e => (e, true) | none => (z0, false)
def tPut (m : Nat) (L : List Ent) (e : Ent) : R3 × List Ent :=
  if e.a = 0 then ((z0, false, 1), L) else match look L e.h with
    | some o => ((o, true, 0), putS L e)
    | none => if 7 * 2 ^ m < 8 * (L.length + 1) then ((z0, false, 2), L) else ((z0, false, 0), putS L e)
def mPut (m : Nat) (L : List Ent) (e : Ent) : R3 × List Ent :=
  if e.a = 0 then ((z0, false, 1), L) else match look L e.h with
    | some o => if e.v < o.v then ((z0, false, 120), L) else ((o, true, 0), putS L e)
    | none => if 7 * 2 ^ m < 8 * (L.length + 1) then ((z0, false, 2), L) else ((z0, false, 0), putS L e)
def mDel (L : List Ent) (v : Nat) : R2 × List Ent := match look L v with | some e => ((e, true), delS L v) | none => ((z0, false), L)
def up (e : Ent) : Ent := ⟨e.h, e.a, e.v, if e.k < 255 then e.k + 1 else e.k⟩
def mHit (L : List Ent) (v : Nat) : Bool × List Ent := match look L v with | some e => (true, putS L (up e)) | none => (false, L)
def mDelIf (L : List Ent) (v at_ : Nat) : Bool × List Ent := match look L v with | some e => if e.a = at_ then (true, delS L v) else (false, L) | none => (false, L)
def mMove (L : List Ent) (v fr to : Nat) : Bool × List Ent := match look L v with | some e => if e.a = fr ∧ to ≠ 0 then (true, putS L ⟨e.h, to, e.v, e.k⟩) else (false, L) | none => (false, L)

section
variable {B m : Nat} {s s' : RH.Sl} {L : List Ent}
theorem rel_same {L' : List Ent} (hL : Srt L') (h : ∀ e, InT (2 ^ B) s' e ↔ e ∈ L') : Rel B s' L' := ⟨hL, h⟩
theorem put_plain {e : Ent} {B' : Nat} {v : Value} (rel : Rel B s L) (g : RGood (2 ^ B) B s) (hb : 2 ≤ B) (hm : B ≤ m) (room : 8 * cntO s (2 ^ B) ≤ 7 * 2 ^ B) (pr : PutR B m s e B' s' v) : v = v3 (tPut m L e).1 ∧ Rel B' s' (tPut m L e).2 := by
  have hlen := rel.len g
  unfold tPut
  have h4 := pow4 hb
  cases pr with
  | arg ha hB hs => subst hB; subst hs; rw [if_pos ha]; exact ⟨rfl, rel⟩
  | had o ha ho hoh hB hmm =>
    have hl : look L e.h = some o := (look_some rel.srt).2 ⟨(rel.mem o).1 ho, hoh⟩
    subst hB
    rw [if_neg ha, hl]
    refine ⟨rfl, putS_srt rel.srt e, fun y => ?_⟩
    rw [hmm y, putS_mem, rel.mem y]
    constructor
    · rintro (⟨h1, h2⟩ | h1)
      · exact .inl ⟨h1, fun q => h2 (rel.srt.eq h1 ((rel.mem o).1 ho) (q.trans hoh.symm))⟩
      · exact .inr h1
    · rintro (⟨h1, h2⟩ | h1)
      · exact .inl ⟨h1, fun q => h2 (by rw [q]; exact hoh)⟩
      · exact .inr h1
  | full ha hno hBm hf hB hs =>
    have hl : look L e.h = none := look_none.2 fun y hy => hno y ((rel.mem y).2 hy)
    subst hB; subst hs; subst hBm
    rw [if_neg ha, hl]
    simp only
    rw [if_pos (by omega)]
    exact ⟨rfl, rel⟩
  | new ha hno hc hmm hcnt =>
    have hl : look L e.h = none := look_none.2 fun y hy => hno y ((rel.mem y).2 hy)
    rw [if_neg ha, hl]
    simp only
    have hpow : 2 ^ B ≤ 2 ^ m := Nat.pow_le_pow_right (by omega) hm
    rw [if_neg ?_]
    · refine ⟨rfl, putS_srt rel.srt e, fun y => ?_⟩
      rw [hmm y, putS_mem, rel.mem y]
      constructor
      · rintro (h1 | h1)
        · exact .inl ⟨h1, fun q => hno y ((rel.mem y).2 h1) q⟩
        · exact .inr h1
      · rintro (⟨h1, _⟩ | h1)
        · exact .inl h1
        · exact .inr h1
    · split at hc
      · have : 2 ^ (B + 1) ≤ 2 ^ m := Nat.pow_le_pow_right (by omega) hc.1
        rw [Nat.pow_succ] at this
        omega
      · omega
theorem rem_plain {v : Nat} {r : Value} (rel : Rel B s L) (rr : RemR B s v s' r) : r = v2 (mDel L v).1 ∧ Rel B s' (mDel L v).2 := by
  unfold mDel
  rcases rr with ⟨y, hy, hyh, rfl, hmm⟩ | ⟨hno, rfl, rfl⟩
  · have hl : look L v = some y := (look_some rel.srt).2 ⟨(rel.mem y).1 hy, hyh⟩
    rw [hl]
    refine ⟨rfl, delS_srt rel.srt v, fun z => ?_⟩
    rw [hmm z, delS_mem, rel.mem z]
    constructor
    · rintro ⟨h1, h2⟩; exact ⟨h1, fun q => h2 (rel.srt.eq h1 ((rel.mem y).1 hy) (q.trans hyh.symm))⟩
    · rintro ⟨h1, h2⟩; exact ⟨h1, fun q => h2 (by rw [q]; exact hyh)⟩
  · have hl : look L v = none := look_none.2 fun y hy => hno y ((rel.mem y).2 hy)
    rw [hl]
    exact ⟨rfl, rel⟩
end
end Ix
end Go.Proofs.Ytkecmljalcfhoaa
