import Derived.Laws.BytesString
import Derived.Test.YtfjcciaabkjkgaaGreatDoorProg
import Derived.Test.YtfjcciaabkjkgaaGreatDoorPy1
import Derived.Test.YtfjcciaabkjkgaaGreatDoorPy2
import Derived.Test.YtfjcciaabkjkgaaGreatDoorPy3
namespace Go.Proofs.YtfjcciaabkjkgaaGreatDoor
namespace Ml
section
variable {l m : List Mv}
def img (f : Nat → Nat) (R : Nat → Prop) : Nat → Prop := fun j => ∃ i, R i ∧ f i = j
theorem img_del {f : Nat → Nat} {R : Nat → Prop} (hf : ∀ i j, R i → R j → f i = f j → i = j) {i : Nat} (hi : R i) : img f (del R i) = del (img f R) (f i) := by
  funext j
  apply propext
  constructor
  · rintro ⟨q, ⟨h1, h2⟩, rfl⟩
    exact ⟨⟨q, h1, rfl⟩, fun e => h2 (hf q i h1 hi e)⟩
  · rintro ⟨⟨q, h1, rfl⟩, h2⟩
    exact ⟨q, ⟨h1, fun e => h2 (by rw [e])⟩, rfl⟩
theorem mini_img {f : Nat → Nat} {R : Nat → Prop} (he : ∀ i, R i → mv l (f i) = mv m i) {i : Nat} (hi : R i) : mini l (img f R) (f i) ↔ mini m R i := by
  constructor
  · rintro ⟨_, h⟩
    refine ⟨hi, fun j hj a => h (f j) ⟨j, hj, rfl⟩ ?_⟩
    rw [he i hi, he j hj]; exact a
  · rintro ⟨_, h⟩
    refine ⟨⟨i, hi, rfl⟩, ?_⟩
    rintro _ ⟨j, hj, rfl⟩ a
    rw [he i hi, he j hj] at a
    exact h j hj a
theorem Cmp.map (f : Nat → Nat) {R : Nat → Prop} {st : Fam} (c : Cmp m R st) : (∀ i j, R i → R j → f i = f j → i = j) → (∀ i, R i → mv l (f i) = mv m i) → Cmp l (img f R) st := by
  induction c with
  | done h => exact fun _ _ => .done fun j ⟨i, hi, _⟩ => h i hi
  | @step R st i h g _ ih =>
    intro hf he
    have ei := he i h.1
    refine .step (f i) ((mini_img he h.1).2 h) (by rw [ei]; exact g) ?_
    rw [← img_del hf h.1, ei]
    exact ih (fun a b p q => hf a b p.1 q.1) fun a p => he a p.1
theorem Cmp.unmap (f : Nat → Nat) {R : Nat → Prop} {st : Fam} (hs : ∀ k, Srt (st k)) (hf : ∀ i j, R i → R j → f i = f j → i = j) (he : ∀ i, R i → mv l (f i) = mv m i) (c : Cmp l (img f R) st) : Cmp m R st :=
  c.mono f (fun i h => ⟨i, h, rfl⟩) hf (fun i j hi hj a => by rw [he i hi, he j hj]; exact a) (fun i hi => by rw [he i hi]; exact ⟨rfl, rfl⟩)
    (fun i hi s s' _ h => by rw [he i hi]; exact next_sub h _) (fun _ ⟨i, hi, e⟩ => .inl ⟨i, hi, e⟩) fun k => ⟨fun _ h => h, hs k⟩
theorem upd_srt {st : Fam} (hs : ∀ k, Srt (st k)) (x : Mv) : ∀ k, Srt (upd st x k) := fun k => by
  unfold upd stepK
  split
  · exact next_srt _ _
  · exact hs k
theorem ok_img {f : Nat → Nat} {R : Nat → Prop} {st : Fam} (hs : ∀ k, Srt (st k)) (hf : ∀ i j, R i → R j → f i = f j → i = j) (he : ∀ i, R i → mv l (f i) = mv m i) {i : Nat} (hi : R i) : Ok l (img f R) st (f i) ↔ Ok m R st i := by
  unfold Ok
  rw [mini_img he hi, he i hi, ← img_del hf hi]
  refine and_congr_right fun _ => and_congr_right fun _ => ⟨fun c => ?_, fun c => ?_⟩
  · exact c.unmap f (upd_srt hs _) (fun a b p q => hf a b p.1 q.1) fun a p => he a p.1
  · exact c.map f (fun a b p q => hf a b p.1 q.1) fun a p => he a p.1
theorem Gr.map (f : Nat → Nat) {R : Nat → Prop} {st : Fam} {o : List Nat} (p : Gr m R st o) : (∀ k, Srt (st k)) → (∀ i j, R i → R j → i < j → f i < f j) → (∀ i, R i → mv l (f i) = mv m i) → Gr l (img f R) st (o.map f) := by
  induction p with
  | nil h => exact fun _ _ _ => .nil fun j ⟨i, hi, _⟩ => h i hi
  | @cons R st i t h g k ih =>
    intro hs hm he
    have hf : ∀ i j, R i → R j → f i = f j → i = j := fun a b p q e => by
      rcases Nat.lt_trichotomy a b with c | c | c
      · have := hm a b p q c; omega
      · exact c
      · have := hm b a q p c; omega
    have hi := h.1.1
    refine .cons ((ok_img hs hf he hi).2 h) (fun j hj q => ?_) ?_
    · obtain ⟨a, ha, rfl⟩ := q.1.1
      refine g a ?_ ((ok_img hs hf he ha).1 q)
      rcases Nat.lt_trichotomy a i with c | c | c
      · exact c
      · subst c; omega
      · have := hm i a hi ha c; omega
    · rw [← img_del hf hi, he i hi]
      exact ih (upd_srt hs _) (fun a b p q => hm a b p.1 q.1) fun a p => he a p.1
def cutM (n : Int) (x : Mv) : Mv := if x.to > n then ⟨x.kind, x.key, if x.kind = 2 then x.val else ByteArray.empty, 0, false, x.life, x.fr, -1⟩ else x
def cutL (l : List Mv) (n : Int) : List Mv := (l.filter fun x => decide (x.fr ≤ n)).map (cutM n)
def keepI (l : List Mv) (n : Int) : List Nat := (List.range l.length).filter fun i => decide ((mv l i).fr ≤ n)
end
end Ml
end Go.Proofs.YtfjcciaabkjkgaaGreatDoor
namespace Go.Proofs.YtfjcciaabkjkgaaGreatDoor
namespace Ml
section
variable {l : List Mv} {n : Int}
theorem filter_eq_map {p : Mv → Bool} : ∀ (l : List Mv) (a : List Mv), ((List.range l.length).filter fun i => p (mv (a ++ l) (a.length + i))).map (fun i => mv (a ++ l) (a.length + i)) = l.filter p
  | [], _ => rfl
  | x :: l, a => by
    have ih := filter_eq_map (p := p) l (a ++ [x])
    have h0 : mv (a ++ x :: l) a.length = x := by rw [mv_at (by simp)]; simp
    have hs : ∀ i, mv (a ++ [x] ++ l) ((a ++ [x]).length + i) = mv (a ++ x :: l) (a.length + (i + 1)) := fun i => by
      rw [List.append_assoc, List.singleton_append, List.length_append, List.length_singleton]
      congr 1; omega
    simp only [hs] at ih
    rw [List.length_cons, List.range_succ_eq_map, List.filter_cons, List.filter_cons, Nat.add_zero, h0]
    have hm : ((List.map Nat.succ (List.range l.length)).filter fun i => p (mv (a ++ x :: l) (a.length + i))).map (fun i => mv (a ++ x :: l) (a.length + i)) = l.filter p := by
      rw [List.filter_map, List.map_map]; exact ih
    cases h : p x with
    | true => rw [if_pos rfl, if_pos rfl, List.map_cons, Nat.add_zero, h0, hm]
    | false => rw [if_neg (by simp), if_neg (by simp), hm]
theorem cutL_eq : cutL l n = (keepI l n).map fun i => cutM n (mv l i) := by
  unfold cutL keepI
  have := filter_eq_map (p := fun x => decide (x.fr ≤ n)) l []
  simp only [List.nil_append, List.length_nil, Nat.zero_add] at this
  rw [← this, List.map_map]; rfl
theorem keep_mem {i : Nat} : i ∈ keepI l n ↔ i < l.length ∧ (mv l i).fr ≤ n := by unfold keepI; simp
theorem keep_lt : (keepI l n).Pairwise (· < ·) := List.Pairwise.filter _ List.pairwise_lt_range
theorem cut_len : (cutL l n).length = (keepI l n).length := by rw [cutL_eq, List.length_map]
def was (l : List Mv) (n : Int) (j : Nat) : Nat := (keepI l n).getD j 0
theorem was_at {j : Nat} (h : j < (keepI l n).length) : was l n j = (keepI l n)[j] := by unfold was; rw [List.getD_eq_getElem?_getD, List.getElem?_eq_getElem h]; rfl
theorem mv_cut {j : Nat} (h : j < (cutL l n).length) : mv (cutL l n) j = cutM n (mv l (was l n j)) := by
  have hk : j < (keepI l n).length := by rw [← cut_len]; exact h
  rw [mv_at h, was_at hk]
  simp only [cutL_eq, List.getElem_map]
theorem was_mem {j : Nat} (h : j < (cutL l n).length) : was l n j < l.length ∧ (mv l (was l n j)).fr ≤ n := by
  have hk : j < (keepI l n).length := by rw [← cut_len]; exact h
  rw [was_at hk]
  exact keep_mem.1 (List.getElem_mem hk)
theorem was_inj {i j : Nat} (hi : i < (cutL l n).length) (hj : j < (cutL l n).length) (e : was l n i = was l n j) : i = j := by
  rw [cut_len] at hi hj
  rw [was_at hi, was_at hj] at e
  have h := List.pairwise_iff_getElem.1 (keep_lt (l := l) (n := n))
  rcases Nat.lt_trichotomy i j with q | q | q
  · have := h i j hi hj q; omega
  · exact q
  · have := h j i hj hi q; omega
def All (l : List Mv) : Nat → Prop := fun i => i < l.length
end
end Ml
end Go.Proofs.YtfjcciaabkjkgaaGreatDoor
namespace Go.Proofs.YtfjcciaabkjkgaaGreatDoor
namespace Ml
def kX : Str := ByteArray.mk #[107]
def aX : Str := ByteArray.mk #[97]
def hitX : Mv := ⟨1, kX, aX, 0, true, 0, 1, 2⟩
def putX (f : Int) : Mv := ⟨2, kX, aX, 0, false, 0, f, 5⟩
def stX : Fam := fun _ => start
theorem nx1 : next start hitX = [] := by decide +kernel
theorem nx2 (f : Int) : next start (putX f) = [⟨true, aX⟩] := by
  have : outs (putX f) = outs (putX 0) := rfl
  unfold next; rw [this]; decide +kernel
theorem nx3 : next [⟨true, aX⟩] hitX = [⟨true, aX⟩] := by decide +kernel
theorem two {i : Nat} (h : i < 2) : i = 0 ∨ i = 1 := by omega
theorem lives_yes : Gr [hitX, putX 0] (fun i => i < 2) stX [1, 0] := by
  have e0 : mv [hitX, putX 0] 0 = hitX := rfl
  have e1 : mv [hitX, putX 0] 1 = putX 0 := rfl
  have hs : upd stX (putX 0) kX = [⟨true, aX⟩] := by
    have : upd stX (putX 0) (putX 0).key = next (stX (putX 0).key) (putX 0) := upd_own rfl
    exact this.trans (nx2 0)
  have no0 : ¬ Lv stX (mv [hitX, putX 0] 0) := fun g => g rfl nx1
  have lv0 : Lv (upd stX (putX 0)) hitX := fun _ e => by
    have e : next (upd stX (putX 0) kX) hitX = [] := e
    rw [hs, nx3] at e; cases e
  have m1 : mini [hitX, putX 0] (fun i => i < 2) 1 := ⟨by decide, fun j hj => by
    rcases two hj with rfl | rfl
    · rw [e0, e1]; decide
    · rw [e1]; decide⟩
  have m0 : mini [hitX, putX 0] (del (fun i => i < 2) 1) 0 := ⟨⟨by decide, by decide⟩, fun j hj => by
    rcases two hj.1 with rfl | rfl
    · rw [e0]; decide
    · exact absurd rfl hj.2⟩
  have em : ∀ i, ¬ del (del (fun i => i < 2) 1) 0 i := fun i h => by
    rcases two h.1.1 with rfl | rfl
    · exact h.2 rfl
    · exact h.1.2 rfl
  have ok0 : Ok [hitX, putX 0] (del (fun i => i < 2) 1) (upd stX (putX 0)) 0 := ⟨m0, lv0, .done em⟩
  refine .cons ⟨m1, fun _ e => ?_, ok0.cmp⟩ (fun j hj q => ?_) (.cons ok0 (fun j hj => by omega) (.nil em))
  · have e : next start (putX 0) = [] := e
    rw [nx2] at e; cases e
  · have : j = 0 := by omega
    subst this
    exact no0 q.2.1
theorem lives_no : ¬ Cmp [hitX, putX 3] (fun i => i < 2) stX := by
  intro c
  cases c with
  | done h => exact h 0 (by decide)
  | step i h g k =>
    rcases two h.1 with rfl | rfl
    · exact g rfl nx1
    · exact h.2 0 (by decide) (by decide)
end Ml
end Go.Proofs.YtfjcciaabkjkgaaGreatDoor
namespace Go.Proofs.YtfjcciaabkjkgaaGreatDoor
namespace Ml
theorem stX_srt : ∀ k, Srt (stX k) := fun _ => start_srt
theorem stX_ne : ∀ k, stX k ≠ [] := fun _ => by simp [stX, start]
def LinP (l : List Mv) : Prop := ∀ k, Cmp l (ofK l (All l) k) stX
def over (k i : Nat) : Nat := if i < k then i else i + 1
theorem check_zero {m : Mv} : check m = 0 ↔ ¬ ((m.kind < 1 ∨ m.kind > 5 ∨ m.fr < 0 ∨ (m.to ≥ 0 ∧ m.to < m.fr)) ∨ (m.hit = true ∧ ¬ (m.kind = 1 ∧ m.err = 0 ∧ m.to ≥ 0)) ∨ (m.kind = 1 ∧ m.hit = false ∧ m.val ≠ ByteArray.empty) ∨ (m.kind > 2 ∧ m.val ≠ ByteArray.empty) ∨ (m.kind > 3 ∧ m.key ≠ ByteArray.empty)) := by
  unfold check
  constructor
  · intro h q; rw [if_pos q] at h; exact absurd h (by decide)
  · intro h; rw [if_neg h]
theorem check_okT {m : Mv} (h : check m = 0) : okT m ∧ 0 ≤ m.fr := by
  have := check_zero.1 h
  unfold okT
  constructor
  · intro q; omega
  · omega
theorem check_cut {n : Int} {m : Mv} (h : check m = 0) : check (cutM n m) = 0 := by
  unfold cutM
  split
  · have := check_zero.1 h
    refine check_zero.2 fun q => this ?_
    simp only at q
    rcases q with q | q | q | q | q
    · exact .inl (by omega)
    · simp at q
    · obtain ⟨q1, _, q3⟩ := q
      rw [if_neg (by omega)] at q3
      exact absurd rfl q3
    · obtain ⟨q1, q3⟩ := q
      rw [if_neg (by omega)] at q3
      exact absurd rfl q3
    · exact .inr (.inr (.inr (.inr q)))
  · exact h
end Ml
end Go.Proofs.YtfjcciaabkjkgaaGreatDoor
namespace Go.Proofs.YtfjcciaabkjkgaaGreatDoor
namespace Ml
section
variable {l : List Mv} {own : List Nat}
def pickL (l : List Mv) (own : List Nat) : List Mv := own.map (mv l)
def atO (own : List Nat) (i : Nat) : Nat := own.getD i 0
theorem atO_at {i : Nat} (h : i < own.length) : atO own i = own[i] := by unfold atO; rw [List.getD_eq_getElem?_getD, List.getElem?_eq_getElem h]; rfl
theorem mv_pick {i : Nat} (h : i < own.length) : mv (pickL l own) i = mv l (atO own i) := by
  rw [mv_at (by unfold pickL; simpa using h), atO_at h]
  simp [pickL]
theorem all_pick {i : Nat} : All (pickL l own) i ↔ i < own.length := by unfold All pickL; rw [List.length_map]
theorem img_pick : img (atO own) (All (pickL l own)) = fun i => i ∈ own := by
  funext j
  apply propext
  constructor
  · rintro ⟨i, hi, rfl⟩
    have hi := all_pick.1 hi
    rw [atO_at hi]; exact List.getElem_mem hi
  · intro h
    obtain ⟨i, hi, e⟩ := List.getElem_of_mem h
    exact ⟨i, all_pick.2 hi, by rw [atO_at hi, e]⟩
theorem atO_lt (hs : own.Pairwise (· < ·)) : ∀ i j, All (pickL l own) i → All (pickL l own) j → i < j → atO own i < atO own j := fun i j hi hj q => by
  have hi := all_pick.1 hi
  have hj := all_pick.1 hj
  rw [atO_at hi, atO_at hj]
  exact List.pairwise_iff_getElem.1 hs i j hi hj q
theorem atO_inj (hs : own.Pairwise (· < ·)) : ∀ i j, All (pickL l own) i → All (pickL l own) j → atO own i = atO own j → i = j := fun i j hi hj e => by
  rcases Nat.lt_trichotomy i j with q | q | q
  · have := atO_lt hs i j hi hj q; omega
  · exact q
  · have := atO_lt hs j i hj hi q; omega
theorem pick_gr (hs : own.Pairwise (· < ·)) {st : Fam} (hst : ∀ k, Srt (st k)) {o : List Nat} (p : Gr (pickL l own) (All (pickL l own)) st o) : Gr l (fun i => i ∈ own) st (o.map (atO own)) := by
  have := p.map (l := l) (atO own) hst (atO_lt hs) fun i hi => (mv_pick (all_pick.1 hi)).symm
  rw [img_pick] at this; exact this
theorem pick_cmp (hs : own.Pairwise (· < ·)) {st : Fam} (hst : ∀ k, Srt (st k)) : Cmp (pickL l own) (All (pickL l own)) st ↔ Cmp l (fun i => i ∈ own) st := by
  rw [← img_pick (l := l) (own := own)]
  exact ⟨fun c => c.map (atO own) (atO_inj hs) fun i hi => (mv_pick (all_pick.1 hi)).symm, fun c => c.unmap (atO own) hst (atO_inj hs) fun i hi => (mv_pick (all_pick.1 hi)).symm⟩
def ofN (l : List Mv) (k : Str) : List Nat := (List.range l.length).filter fun i => keyed (mv l i) && decide ((mv l i).key = k)
theorem ofN_lt (k : Str) : (ofN l k).Pairwise (· < ·) := List.Pairwise.filter _ List.pairwise_lt_range
theorem ofN_mem {k : Str} : (fun i => i ∈ ofN l k) = ofK l (All l) k := by
  funext i
  unfold ofN ofK All
  simp
theorem no_key {k : Str} (h : ∀ i, i < l.length → ¬ (keyed (mv l i) = true ∧ (mv l i).key = k)) : Cmp l (ofK l (All l) k) stX := .done fun i q => h i q.1 q.2
end
end Ml
end Go.Proofs.YtfjcciaabkjkgaaGreatDoor
namespace Go.Proofs.YtfjcciaabkjkgaaGreatDoor
open Go
def toL (s : ByteArray) : List Int := s.data.toList.map fun b => (b.toNat : Int)
def ofL (L : List Int) : ByteArray := ⟨(L.map fun n => UInt8.ofNat n.toNat).toArray⟩
def isB (L : List Int) : Prop := ∀ x ∈ L, 0 ≤ x ∧ x < 256
theorem toL_ofL {L : List Int} (h : isB L) : toL (ofL L) = L := by
  simp only [ofL, toL, List.map_map]
  conv => rhs; rw [← List.map_id L]
  apply List.map_congr_left
  intro x hx
  have := h x hx
  simp only [Function.comp_apply, UInt8.toNat_ofNat', id_eq]
  omega
theorem ofL_size (L : List Int) : (ofL L).size = L.length := by simp [ofL, ByteArray.size]
section
variable {P : Program} {ρ : Regs} {h : Heap} {d : Option Nat} {ty : TypeId} {p : String} {af : Array Edge} {g : Option (Nat × Bool)}
def ibV (op : BinOp) (k : IntKind) (x y : Int) : Option Int :=
  match op with
  | .and => some (k.wrap (BitVec.ofInt k.bits x &&& BitVec.ofInt k.bits y).toNat)
  | .or => some (k.wrap (BitVec.ofInt k.bits x ||| BitVec.ofInt k.bits y).toNat)
  | .xor => some (k.wrap (BitVec.ofInt k.bits x ^^^ BitVec.ofInt k.bits y).toNat)
  | .andNot => some (k.wrap (BitVec.ofInt k.bits x &&& ~~~ BitVec.ofInt k.bits y).toNat)
  | _ => none
def iband (k : IntKind) (x y : Int) : Int := k.wrap (BitVec.ofInt k.bits x &&& BitVec.ofInt k.bits y).toNat
def ibor (k : IntKind) (x y : Int) : Int := k.wrap (BitVec.ofInt k.bits x ||| BitVec.ofInt k.bits y).toNat
def ibandNot (k : IntKind) (x y : Int) : Int := k.wrap (BitVec.ofInt k.bits x &&& ~~~ BitVec.ofInt k.bits y).toNat
theorem hv_bits {op : BinOp} {t t' : TypeId} {x y : Operand} {k : IntKind} {a b v : Int} (hx : ev ρ x = .int k a) (hy : ev ρ y = .int k b) (hv : ibV op k a b = some v) : HVal P ρ ⟨d, .binOp op t x y t', ty, p, af, g⟩ h (.int k v) :=
  hv_of fun w _ => by
    cases op <;> simp only [ibV, Option.some.injEq, reduceCtorEq] at hv <;> subst hv <;> simp [execOp, hx, hy, go_sem, eqGuard, binOp, Op.intBits]
def elA (P : Program) (t : TypeId) : Option (Nat × Nat) := match P.underlying t with | some (.array n e) => (szB P e).map fun z => (n, z) | _ => none
theorem hv_indexA {t : TypeId} {x y : Operand} {b o n sz : Nat} {k : IntKind} {i : Int} (he : elA P t = some (n, sz)) (hx : ev ρ x = ptr b o) (hy : ev ρ y = .int k i) (h0 : 0 ≤ i) (h1 : i < n) : HVal P ρ ⟨d, .indexAddr t x y, ty, p, af, g⟩ h (ptr b (o + i.toNat * sz)) :=
  hv_of fun w _ => by
    unfold elA at he
    split at he <;> try cases he
    rename_i n' e hu
    cases hz : szB P e with
    | none => rw [hz] at he; cases he
    | some z =>
      rw [hz] at he
      simp only [Option.map_some, Option.some.injEq, Prod.mk.injEq] at he
      obtain ⟨rfl, rfl⟩ := he
      simp [execOp, hx, hy, ptr, go_sem, Instr.indexAt, Instr.sureAddr, asIntOf, run_underlying hu, h0, h1, run_sizeOf hz, add_lit]
theorem foldl_push (ns : List Int) : ∀ r : ByteArray, ns.foldl (fun r n => r.push (UInt8.ofNat n.toNat)) r = ⟨r.data ++ (ns.map fun n => UInt8.ofNat n.toNat).toArray⟩ := by
  induction ns with
  | nil => intro r; simp
  | cons n ns ih => intro r; simp only [List.foldl_cons]; rw [ih]; simp [ByteArray.push]
def Byt (h : Heap) (a : Option Addr) (n : Nat) (L : List Int) : Prop := L.length = n ∧ (n = 0 ∨ ∃ b o, a = some ⟨b, o, none⟩ ∧ HCells h b o (L.map (Value.int .u8)))
theorem Byt.ext {h h' : Heap} (he : Ext h h') {a : Option Addr} {n : Nat} {L : List Int} (b : Byt h a n L) : Byt h' a n L :=
  ⟨b.1, b.2.imp id fun ⟨q, o, e, hc⟩ => ⟨q, o, e, HCells.mk fun _ _ hj => he.cell (hc.get hj)⟩⟩
theorem hv_b2s {src dst e : TypeId} {x : Operand} {a : Option Addr} {n c : Nat} {L : List Int} (hs : P.underlying src = some (.slice e)) (he : P.underlying e = some (.int .u8)) (hd : P.underlying dst = some .string)
    (hx : ev ρ x = .slice a n c) (hb : Byt h a n L) : HVal P ρ ⟨d, .convert src dst x, ty, p, af, g⟩ h (.string (ofL L)) :=
  hv_of fun w hw => by
    obtain ⟨hl, hn⟩ := hb
    have key : (convert src dst (.slice a n c)).run P w = .ok (.string (ofL L)) w := by
      rw [run_convert_bytes_string w src dst e a n c hs he hd]
      cases a with
      | none =>
        have : L = [] := by
          rcases hn with h0 | ⟨b, o, e, _⟩
          · exact List.eq_nil_of_length_eq_zero (by omega)
          · cases e
        subst this
        simp [Conv.bytesToString, go_sem, ofL]; rfl
      | some ad =>
        have hload : (loadCells ad n).run P w = .ok (L.map (Value.int .u8)).toArray w := by
          rcases hn with h0 | ⟨b, o, e, hc⟩
          · have : L = [] := List.eq_nil_of_length_eq_zero (by omega)
            subst this; subst h0
            simp [loadCells, loadCellsFrom, go_sem]
          · cases e
            have := run_loadFrom (P := P) w b o (L.map (Value.int .u8)) 0 #[] (by rw [hw]; exact hc)
            simp only [Array.empty_append, List.length_map, hl] at this
            exact this
        rw [run_bytesToString w ad n c L hload, foldl_push]
        congr 1
        simp [ofL]
    simp only [execOp, hx, Sem.run_bind, key, Result.andThen_ok, Sem.run_pure]
end
end Go.Proofs.YtfjcciaabkjkgaaGreatDoor
namespace Go.Proofs.YtfjcciaabkjkgaaGreatDoor
namespace Ml
open Go
def U32 (x : Int) : Prop := 0 ≤ x ∧ x < 4294967296
theorem w32 {x : Int} (h : U32 x) : IntKind.u32.wrap x = x := by
  obtain ⟨h0, h1⟩ := h
  simp only [IntKind.wrap, IntKind.signed, IntKind.bits]
  exact Int.emod_eq_of_lt h0 (by simpa using h1)
theorem bv32 {a : Int} (h : U32 a) : (BitVec.ofInt 32 a).toNat = a.toNat := by
  obtain ⟨h0, h1⟩ := h
  rw [BitVec.toNat_ofInt]
  have : a % (2 ^ 32 : Nat) = a := Int.emod_eq_of_lt h0 (by simpa using h1)
  rw [this]
theorem and32 {a b : Int} (ha : U32 a) (hb : U32 b) : iband .u32 a b = ((a.toNat &&& b.toNat : Nat) : Int) := by
  unfold iband
  show IntKind.u32.wrap ((BitVec.ofInt 32 a &&& BitVec.ofInt 32 b).toNat : Int) = _
  rw [BitVec.toNat_and, bv32 ha, bv32 hb, w32]
  have := Nat.and_le_left (n := a.toNat) (m := b.toNat)
  have := ha.1; have := ha.2
  exact ⟨by omega, by omega⟩
theorem or32 {a b : Int} (ha : U32 a) (hb : U32 b) : ibor .u32 a b = ((a.toNat ||| b.toNat : Nat) : Int) := by
  unfold ibor
  show IntKind.u32.wrap ((BitVec.ofInt 32 a ||| BitVec.ofInt 32 b).toNat : Int) = _
  rw [BitVec.toNat_or, bv32 ha, bv32 hb, w32]
  have h1 := ha.1; have h2 := ha.2; have h3 := hb.1; have h4 := hb.2
  have : a.toNat ||| b.toNat < 2 ^ 32 := Nat.or_lt_two_pow (by omega) (by omega)
  exact ⟨by omega, by omega⟩
def clr (a k : Nat) : Nat := (BitVec.ofNat 32 a &&& ~~~ BitVec.ofNat 32 (2 ^ k)).toNat
theorem clr_bit {a k : Nat} (ha : a < 4294967296) (j : Nat) : (clr a k).testBit j = (a.testBit j && !decide (j = k)) := by
  unfold clr
  rw [BitVec.testBit_toNat]
  simp only [BitVec.getLsbD_and, BitVec.getLsbD_not, BitVec.getLsbD_ofNat]
  by_cases hj : j < 32
  · simp only [hj, decide_true, Bool.true_and]
    rw [Nat.testBit_two_pow]
    congr 2
    exact decide_eq_decide.2 eq_comm
  · have : a.testBit j = false := Nat.testBit_lt_two_pow (Nat.lt_of_lt_of_le ha (by
      have : (2:Nat) ^ 32 ≤ 2 ^ j := Nat.pow_le_pow_right (by decide) (by omega)
      simpa using this))
    simp [hj, this]
theorem clr_lt (a k : Nat) : clr a k < 4294967296 := by unfold clr; exact BitVec.isLt _
theorem clr_le {a k : Nat} (ha : a < 4294967296) {n : Nat} (h : a < 2 ^ n) : clr a k < 2 ^ n := by
  refine Nat.lt_pow_two_of_testBit _ fun i hi => ?_
  rw [clr_bit ha, Nat.testBit_lt_two_pow (Nat.lt_of_lt_of_le h (Nat.pow_le_pow_right (by decide) hi))]
  rfl
theorem clr_less {a k : Nat} (ha : a < 4294967296) (h : a.testBit k = true) : clr a k < a := by
  have h1 : clr a k ≤ a := by
    unfold clr
    rw [BitVec.toNat_and, BitVec.toNat_ofNat, Nat.mod_eq_of_lt (by simpa using ha)]
    exact Nat.and_le_left
  refine Nat.lt_of_le_of_ne h1 fun e => ?_
  have h2 := clr_bit (k := k) ha k
  rw [e, h] at h2
  simp at h2
theorem andn32 {a : Int} (ha : U32 a) {k : Nat} (hk : k < 32) : ibandNot .u32 a (IntKind.u32.wrap (1 * 2 ^ k)) = ((clr a.toNat k : Nat) : Int) := by
  have hp : (2 : Nat) ^ k < 2 ^ 32 := Nat.pow_lt_pow_right (by decide) hk
  have h2 : ((1 : Int) * 2 ^ k) = ((2 ^ k : Nat) : Int) := by simp
  have hu : U32 (((2 ^ k : Nat) : Int)) := ⟨Int.natCast_nonneg _, by generalize (2 : Nat) ^ k = z at hp; omega⟩
  rw [h2, w32 hu]
  unfold ibandNot
  show IntKind.u32.wrap ((BitVec.ofInt 32 a &&& ~~~ BitVec.ofInt 32 ((2 ^ k : Nat) : Int)).toNat : Int) = _
  have e1 : BitVec.ofInt 32 a = BitVec.ofNat 32 a.toNat := BitVec.eq_of_toNat_eq (by rw [bv32 ha, BitVec.toNat_ofNat, Nat.mod_eq_of_lt]; have := ha.2; have := ha.1; omega)
  have e2 : BitVec.ofInt 32 ((2 ^ k : Nat) : Int) = BitVec.ofNat 32 (2 ^ k) := BitVec.eq_of_toNat_eq (by rw [bv32 hu, BitVec.toNat_ofNat, Int.toNat_natCast, Nat.mod_eq_of_lt hp])
  rw [e1, e2]
  have := clr_lt a.toNat k
  unfold clr at *
  rw [w32 ⟨by omega, by omega⟩]
theorem shr_bit {x : Int} (h : U32 x) (j : Nat) : (iband .u32 (Int.fdiv x (2 ^ j)) 1 == 0) = !(x.toNat.testBit j) := by
  obtain ⟨n, rfl⟩ : ∃ n : Nat, x = n := ⟨x.toNat, by have := h.1; omega⟩
  have e : Int.fdiv (n : Int) (2 ^ j) = ((n / 2 ^ j : Nat) : Int) := by
    rw [Int.fdiv_eq_ediv_of_nonneg _ (Int.pow_nonneg (by decide))]
    simp
  have hle : n / 2 ^ j ≤ n := Nat.div_le_self _ _
  have h2 := h.2
  have hu : U32 (((n / 2 ^ j : Nat)) : Int) := ⟨Int.natCast_nonneg _, by generalize n / 2 ^ j = z at hle; omega⟩
  rw [e, and32 hu ⟨by decide, by decide⟩, Int.toNat_natCast, Int.toNat_natCast, show Int.toNat 1 = 1 from rfl, Nat.and_one_is_mod, Nat.testBit_eq_decide_div_mod_eq]
  have hm := Nat.mod_two_eq_zero_or_one (n / 2 ^ j)
  rcases hm with q | q <;> rw [q] <;> rfl
def Rm (own : List Nat) (left : Nat) : Nat → Prop := fun i => ∃ k, left.testBit k = true ∧ own[k]? = some i
section
variable {l : List Mv} {own : List Nat} {left : Nat}
theorem nodup_at {i j x : Nat} (hd : own.Nodup) (hi : own[i]? = some x) (hj : own[j]? = some x) : i = j := by
  have h := List.pairwise_iff_getElem.1 hd
  obtain ⟨hil, e1⟩ := List.getElem?_eq_some_iff.1 hi
  obtain ⟨hjl, e2⟩ := List.getElem?_eq_some_iff.1 hj
  rcases Nat.lt_trichotomy i j with q | q | q
  · exact absurd (e1.trans e2.symm) (h i j hil hjl q)
  · exact q
  · exact absurd (e2.trans e1.symm) (h j i hjl hil q)
theorem rm_zero (i : Nat) : ¬ Rm own 0 i := fun ⟨k, h, _⟩ => by rw [Nat.zero_testBit] at h; cases h
theorem rm_empty (hl : left < 2 ^ own.length) (h : ∀ i, ¬ Rm own left i) : left = 0 := by
  refine Nat.eq_of_testBit_eq fun k => ?_
  rw [Nat.zero_testBit]
  rcases Nat.lt_or_ge k own.length with q | q
  · cases hb : left.testBit k with
    | false => rfl
    | true => exact absurd ⟨k, hb, List.getElem?_eq_getElem q⟩ (h own[k])
  · exact Nat.testBit_lt_two_pow (Nat.lt_of_lt_of_le hl (Nat.pow_le_pow_right (by decide) q))
theorem rm_all : Rm own (2 ^ own.length - 1) = fun i => i ∈ own := by
  funext i
  apply propext
  constructor
  · rintro ⟨k, _, h⟩; exact List.mem_of_getElem? h
  · intro h
    obtain ⟨k, hk, e⟩ := List.getElem_of_mem h
    exact ⟨k, by rw [Nat.testBit_two_pow_sub_one]; exact decide_eq_true hk, by rw [List.getElem?_eq_getElem hk, e]⟩
theorem rm_clr (hd : own.Nodup) (hl : left < 4294967296) {k i : Nat} (hk : own[k]? = some i) : Rm own (clr left k) = del (Rm own left) i := by
  funext j
  apply propext
  constructor
  · rintro ⟨q, hq, e⟩
    rw [clr_bit hl] at hq
    simp only [Bool.and_eq_true, Bool.not_eq_true', decide_eq_false_iff_not] at hq
    refine ⟨⟨q, hq.1, e⟩, fun r => hq.2 ?_⟩
    subst r
    exact nodup_at hd e hk
  · rintro ⟨⟨q, hq, e⟩, r⟩
    refine ⟨q, ?_, e⟩
    rw [clr_bit hl, hq]
    have : q ≠ k := fun s => r (by subst s; rw [e] at hk; cases hk; rfl)
    simp [this]
def Wt (l : List Mv) (own : List Nat) (i : Nat) (w : Nat) : Prop := ∀ k, w.testBit k = true ↔ ∃ j, own[k]? = some j ∧ ah (mv l j) (mv l i)
theorem wt_none {i w : Nat} (hw : Wt l own i w) : w &&& left = 0 ↔ ∀ j, Rm own left j → ¬ ah (mv l j) (mv l i) := by
  constructor
  · rintro h j ⟨k, hk, e⟩ a
    have h1 := (hw k).2 ⟨j, e, a⟩
    have : (w &&& left).testBit k = true := by rw [Nat.testBit_and, h1, hk]; rfl
    rw [h, Nat.zero_testBit] at this; cases this
  · intro h
    refine Nat.eq_of_testBit_eq fun k => ?_
    rw [Nat.zero_testBit, Nat.testBit_and]
    cases h1 : w.testBit k with
    | false => rfl
    | true =>
      cases h2 : left.testBit k with
      | false => rfl
      | true =>
        obtain ⟨j, e, a⟩ := (hw k).1 h1
        exact absurd a (h j ⟨k, h2, e⟩)
end
end Ml
end Go.Proofs.YtfjcciaabkjkgaaGreatDoor
namespace Go.Proofs.YtfjcciaabkjkgaaGreatDoor
namespace Ml
section
variable {l : List Mv} {own : List Nat} {left : Nat} {key : Str} {s : List Mt}
def OfOne (l : List Mv) (own : List Nat) (key : Str) : Prop := ∀ i ∈ own, keyed (mv l i) = true ∧ (mv l i).key = key
theorem rm_mem {i : Nat} (h : Rm own left i) : i ∈ own := let ⟨_, _, e⟩ := h; List.mem_of_getElem? e
theorem one_congr (hk : OfOne l own key) {R : Nat → Prop} (hR : ∀ i, R i → i ∈ own) {st st' : Fam} (e : st' key = st key) : Cmp l R st → Cmp l R st' := fun c =>
  c.congr fun i hi _ => by rw [(hk i (hR i hi)).2]; exact e
theorem can_iff (hd : own.Nodup) (hk : OfOne l own key) (hl : left < 2 ^ own.length) (h32 : left < 4294967296) (h0 : left ≠ 0) :
    Cmp l (Rm own left) (fun _ => s) ↔ ∃ k i, own[k]? = some i ∧ left.testBit k = true ∧ (∀ j, Rm own left j → ¬ ah (mv l j) (mv l i)) ∧ next s (mv l i) ≠ [] ∧ Cmp l (Rm own (clr left k)) (fun _ => next s (mv l i)) := by
  constructor
  · intro c
    cases c with
    | done h => exact absurd (rm_empty hl h) h0
    | step i h g c =>
      obtain ⟨k, hb, e⟩ := h.1
      have hi := hk i (List.mem_of_getElem? e)
      refine ⟨k, i, e, hb, h.2, g hi.1, ?_⟩
      rw [rm_clr hd h32 e]
      refine one_congr hk (fun j q => rm_mem q.1) ?_ c
      unfold upd stepK
      rw [if_pos hi]
  · rintro ⟨k, i, e, hb, hm, hne, c⟩
    have hi := hk i (List.mem_of_getElem? e)
    refine .step i ⟨⟨k, hb, e⟩, hm⟩ (fun _ => hne) ?_
    rw [rm_clr hd h32 e] at c
    refine one_congr hk (fun j q => rm_mem q.1) ?_ c
    unfold upd stepK
    rw [if_pos hi]
theorem can_zero : Cmp l (Rm own 0) (fun _ => s) := .done rm_zero
theorem ofK_mem {Lt : List Nat} {k : Str} : ofK l (fun i => i ∈ Lt) k = fun i => i ∈ Lt.filter fun i => keyed (mv l i) && decide ((mv l i).key = k) := by
  funext i
  unfold ofK
  simp
theorem gr_step {R R0 : Nat → Prop} {st s0 : Fam} {out : List Nat} {i : Nat} (g : ∀ t, Gr l R st t → Gr l R0 s0 (out ++ t)) (h : Ok l R st i) (hn : ∀ j, j < i → ¬ Ok l R st j) : ∀ t, Gr l (del R i) (upd st (mv l i)) t → Gr l R0 s0 ((out ++ [i]) ++ t) := fun t p => by
  rw [List.append_assoc, List.singleton_append]
  exact g _ (.cons h hn p)
theorem gr_end {R R0 : Nat → Prop} {st s0 : Fam} {out : List Nat} (g : ∀ t, Gr l R st t → Gr l R0 s0 (out ++ t)) (h : ∀ i, ¬ R i) : Gr l R0 s0 out := by
  have := g [] (.nil h)
  rw [List.append_nil] at this; exact this
end
end Ml
end Go.Proofs.YtfjcciaabkjkgaaGreatDoor
namespace Go.Proofs.YtfjcciaabkjkgaaGreatDoor
open Go
open Go.Proofs.YtfjcciaabkjkgaaGreatDoor renaming hl_val → lv, hl_step → lp, hl_nil → ln, hl_yes → ly, hl_no → lo, hx_seq → xs, hx_region → xr, hx_cond → xc, hx_cut → xk, hx_has → xh, hx_skip → xi, hx_ret → xt, seqQ_n → qn, seqQ_ret → qr, hv_move → vm, hv_assign → va, hv_arith → vr, hv_load → vl, hv_field → vf, has_cons → hc, has_nil → hn, rowcell → rc
set_option maxRecDepth 100000
set_option maxHeartbeats 4000000
theorem TyTA.agg3 : aggB Tryz.prog 3 = some false := by kernel_rfl
theorem TyTA.fld40_0 : fldB Tryz.prog 40 0 = some 0 := by kernel_rfl
theorem TyTA.fld40_5 : fldB Tryz.prog 40 5 = some 5 := by kernel_rfl
theorem TyTA.fld40_6 : fldB Tryz.prog 40 6 = some 6 := by kernel_rfl
theorem TyTA.fld40_7 : fldB Tryz.prog 40 7 = some 7 := by kernel_rfl
theorem ext_pushed_f85_sh {h h1 : Heap} {o : Obj} (e : h1 = Array.push h o) : Ext h h1 := by rw [e]; exact Ext.push _ _
theorem f39_sh (a0 : Int) (a8 : ByteArray) (a3 : ByteArray) (a7 : Int) (a6 : Bool) (a5 : Int) (a4 : Int) (a9 : Int) (h : Heap) (R : Value → Heap → Prop)
  (H : (∀ (h1 : Heap), Ext h h1 → R (.bool ((a0 == 1) || ((a0 == 2) || (a0 == 3)))) h1)) :
  HC Tryz.prog 39 #[(.agg #[(.int .i64 a0), (.string a8), (.string a3), (.int .i64 a7), (.bool a6), (.int .i64 a5), (.int .i64 a4), (.int .i64 a9)])] h R := by
 refine hc_of (args := [(.agg #[(.int .i64 a0), (.string a8), (.string a3), (.int .i64 a7), (.bool a6), (.int .i64 a5), (.int .i64 a4), (.int .i64 a9)])]) Tryz.func39 rfl Tryz.ntmps39 (Nat.le_of_ble_eq_true rfl) ?_
 refine xs (xr ?_)
 refine lp rfl rfl (hn_box (v := (.agg #[(.int .i64 a0), (.string a8), (.string a3), (.int .i64 a7), (.bool a6), (.int .i64 a5), (.int .i64 a4), (.int .i64 a9)])) rfl ?_)
 intro m h1 b1 b2
 have b3 := ext_pushed_f85_sh b2
 have b4 : Array.size h ≤ m := Nat.le_of_eq (Eq.symm b1)
 have b0 : h1[m]? = some (.cells #[(.int .i64 a0), (.string a8), (.string a3), (.int .i64 a7), (.bool a6), (.int .i64 a5), (.int .i64 a4), (.int .i64 a9)] 40 (0, 0)) := by rw [b2]; exact push_new b1
 refine lv rfl rfl (va rfl) ?_
 refine ln (qn ?_)
 refine xk (fun ρ h' => h1 = h' ∧ Has ρ [(2, (.bool ((a0 == 1) || ((a0 == 2) || (a0 == 3)))))]) ?_ ?_
 ·refine xr ?_
  refine lv rfl rfl (v := (ptr m 0)) (vf TyTA.fld40_0 (b := m) (o := 0) rfl) (lv rfl rfl (vl TyTA.agg3 rfl (rc b0 rfl)) (lv rfl rfl (vr rfl rfl rfl) (lv rfl rfl (vm rfl) ?_)))
  rcases bool_or (a0 == 1) with a1 | a1
  ·refine lo (wanted_n rfl rfl rfl a1) rfl ?_
   refine lo (wanted_n rfl rfl rfl a1) rfl ?_
   refine lo (wanted_n rfl rfl rfl a1) rfl ?_
   refine lv rfl rfl (v := (.bool true)) (hv_pick_t rfl a1 rfl) (lv rfl rfl (vm rfl) ?_)
   refine lo (wanted_n rfl rfl (c := true) rfl rfl) rfl ?_
   refine lo (wanted_n rfl rfl (c := true) rfl rfl) rfl ?_
   refine lo (wanted_n rfl rfl (c := true) rfl rfl) rfl ?_
   refine lv rfl rfl (v := (.bool true)) (hv_pick (t := true) rfl rfl) (lv rfl rfl (va rfl) ?_)
   refine ln (qn ?_)
   exact ⟨rfl, (hc (show ((.bool true) : Value) = (.bool ((a0 == 1) || ((a0 == 2) || (a0 == 3)))) from (by first | rfl | ((try rw [a1]); all_goals first | rfl | (simp only [Bool.true_or, Bool.or_true, Bool.false_or, Bool.or_false, Bool.true_and, Bool.and_true, Bool.false_and, Bool.and_false, Bool.not_true, Bool.not_false, Bool.cond_true, Bool.cond_false]; done)) | simp [a1])) hn)⟩
  ·refine ly (wanted_y rfl rfl rfl a1) rfl (HStep.of_val (v := (ptr m 0)) (vf TyTA.fld40_0 (b := m) (o := 0) rfl) ?_)
   refine ly (wanted_y rfl rfl rfl a1) rfl (HStep.of_val (v := (.int .i64 a0)) (vl TyTA.agg3 rfl (rc b0 rfl)) ?_)
   refine ly (wanted_y rfl rfl rfl a1) rfl (HStep.of_val (v := (.bool (a0 == 2))) (vr rfl rfl rfl) ?_)
   refine lv rfl rfl (v := (.bool (a0 == 2))) (hv_pick_f rfl a1 rfl) (lv rfl rfl (vm rfl) ?_)
   rcases bool_or (a0 == 2) with a2 | a2
   ·refine lo (wanted_n rfl rfl rfl a2) rfl ?_
    refine lo (wanted_n rfl rfl rfl a2) rfl ?_
    refine lo (wanted_n rfl rfl rfl a2) rfl ?_
    refine lv rfl rfl (v := (.bool true)) (hv_pick_t rfl a2 rfl) (lv rfl rfl (va rfl) ?_)
    refine ln (qn ?_)
    exact ⟨rfl, (hc (show ((.bool true) : Value) = (.bool ((a0 == 1) || ((a0 == 2) || (a0 == 3)))) from (by first | rfl | ((try rw [a1]); (try rw [a2]); all_goals first | rfl | (simp only [Bool.true_or, Bool.or_true, Bool.false_or, Bool.or_false, Bool.true_and, Bool.and_true, Bool.false_and, Bool.and_false, Bool.not_true, Bool.not_false, Bool.cond_true, Bool.cond_false]; done)) | simp [a1, a2])) hn)⟩
   ·refine ly (wanted_y rfl rfl rfl a2) rfl (HStep.of_val (v := (ptr m 0)) (vf TyTA.fld40_0 (b := m) (o := 0) rfl) ?_)
    refine ly (wanted_y rfl rfl rfl a2) rfl (HStep.of_val (v := (.int .i64 a0)) (vl TyTA.agg3 rfl (rc b0 rfl)) ?_)
    refine ly (wanted_y rfl rfl rfl a2) rfl (HStep.of_val (v := (.bool (a0 == 3))) (vr rfl rfl rfl) ?_)
    refine lv rfl rfl (v := (.bool (a0 == 3))) (hv_pick_f rfl a2 rfl) (lv rfl rfl (va rfl) ?_)
    refine ln (qn ?_)
    exact ⟨rfl, (hc (show ((.bool (a0 == 3)) : Value) = (.bool ((a0 == 1) || ((a0 == 2) || (a0 == 3)))) from (by first | rfl | ((try rw [a1]); (try rw [a2]); all_goals first | rfl | (simp only [Bool.true_or, Bool.or_true, Bool.false_or, Bool.or_false, Bool.true_and, Bool.and_true, Bool.false_and, Bool.and_false, Bool.not_true, Bool.not_false, Bool.cond_true, Bool.cond_false]; done)) | simp [a1, a2])) hn)⟩
 ·rintro ρ _ ⟨rfl, hH⟩
  refine xh _ hH ?_
  refine xt ?_
  replace H := H h1 b3
  exact endQ_ret _ (res_one Tryz.results39 (rv_tmp rfl)) H
theorem f29_sh (a9 : Int) (b2 : ByteArray) (a5 : ByteArray) (b3 : Int) (b4 : Bool) (a3 : Int) (a8 : Int) (a0 : Int) (a7 : Int) (b0 : ByteArray) (a6 : ByteArray) (b5 : Int) (b1 : Bool) (a1 : Int) (a2 : Int) (b7 : Int) (h : Heap) (R : Value → Heap → Prop)
  (H : (((a3 != a1) = true → (∀ (h2 : Heap), Ext h h2 → R (.bool (decide (a3 < a1))) h2)) ∧ ((a3 != a1) = false → (∀ (h2 : Heap), Ext h h2 → R (.bool ((decide (a0 ≥ 0)) && (decide (a0 < a2)))) h2)))) :
  HC Tryz.prog 29 #[(.agg #[(.int .i64 a9), (.string b2), (.string a5), (.int .i64 b3), (.bool b4), (.int .i64 a3), (.int .i64 a8), (.int .i64 a0)]), (.agg #[(.int .i64 a7), (.string b0), (.string a6), (.int .i64 b5), (.bool b1), (.int .i64 a1), (.int .i64 a2), (.int .i64 b7)])] h R := by
 refine hc_of (args := [(.agg #[(.int .i64 a9), (.string b2), (.string a5), (.int .i64 b3), (.bool b4), (.int .i64 a3), (.int .i64 a8), (.int .i64 a0)]), (.agg #[(.int .i64 a7), (.string b0), (.string a6), (.int .i64 b5), (.bool b1), (.int .i64 a1), (.int .i64 a2), (.int .i64 b7)])]) Tryz.func29 rfl Tryz.ntmps29 (Nat.le_of_ble_eq_true rfl) ?_
 refine xs (xr ?_)
 refine lp rfl rfl (hn_box (v := (.agg #[(.int .i64 a9), (.string b2), (.string a5), (.int .i64 b3), (.bool b4), (.int .i64 a3), (.int .i64 a8), (.int .i64 a0)])) rfl ?_)
 intro a h1 c3 c5
 have c6 := ext_pushed_f85_sh c5
 have c9 : Array.size h ≤ a := Nat.le_of_eq (Eq.symm c3)
 have b6 : h1[a]? = some (.cells #[(.int .i64 a9), (.string b2), (.string a5), (.int .i64 b3), (.bool b4), (.int .i64 a3), (.int .i64 a8), (.int .i64 a0)] 40 (0, 0)) := by rw [c5]; exact push_new c3
 refine lp rfl rfl (hn_box (v := (.agg #[(.int .i64 a7), (.string b0), (.string a6), (.int .i64 b5), (.bool b1), (.int .i64 a1), (.int .i64 a2), (.int .i64 b7)])) rfl ?_)
 intro b h2 b9 c2
 have c4 := ext_pushed_f85_sh c2
 have c7 := Nat.ne_of_lt (Nat.lt_of_lt_of_eq (row_lt b6) (Eq.symm b9))
 have c8 : Array.size h ≤ b := Nat.le_trans (Ext.size c6) (Nat.le_of_eq (Eq.symm b9))
 have c0 : h2[b]? = some (.cells #[(.int .i64 a7), (.string b0), (.string a6), (.int .i64 b5), (.bool b1), (.int .i64 a1), (.int .i64 a2), (.int .i64 b7)] 40 (0, 0)) := by rw [c2]; exact push_new b9
 replace b6 := Ext.row c4 b6
 have c1 := Ext.trans c6 c4
 refine lv rfl rfl (va rfl) ?_
 refine ln (qn (xs (xs (xr ?_))))
 refine lv rfl rfl (v := (ptr a 5)) (vf TyTA.fld40_5 (b := a) (o := 0) rfl) (lv rfl rfl (vl TyTA.agg3 rfl (rc b6 rfl)) (lv rfl rfl (v := (ptr b 5)) (vf TyTA.fld40_5 (b := b) (o := 0) rfl) (lv rfl rfl (vl TyTA.agg3 rfl (rc c0 rfl)) (lv rfl rfl (vr rfl rfl rfl) ?_))))
 refine ln (qn ?_)
 refine xc (b := a3 != a1) rfl (fun b8 => ?_) (fun b8 => ?_)
 ·replace H := H.1 b8
  refine xs (xr ?_)
  refine lv rfl rfl (v := (ptr a 5)) (vf TyTA.fld40_5 (b := a) (o := 0) rfl) (lv rfl rfl (vl TyTA.agg3 rfl (rc b6 rfl)) (lv rfl rfl (v := (ptr b 5)) (vf TyTA.fld40_5 (b := b) (o := 0) rfl) (lv rfl rfl (vl TyTA.agg3 rfl (rc c0 rfl)) (lv rfl rfl (vr rfl rfl rfl) (lv rfl rfl (va rfl) ?_)))))
  refine ln (qn (xt (qr ?_)))
  replace H := H h2 c1
  exact endQ_ret _ (res_one Tryz.results29 (rv_tmp rfl)) H
 ·replace H := H.2 b8
  refine xi (qn ?_)
  refine xk (fun ρ h' => h2 = h' ∧ Has ρ [(4, (.bool ((decide (a0 ≥ 0)) && (decide (a0 < a2)))))]) ?_ ?_
  ·refine xr ?_
   refine lv rfl rfl (v := (ptr a 7)) (vf TyTA.fld40_7 (b := a) (o := 0) rfl) (lv rfl rfl (vl TyTA.agg3 rfl (rc b6 rfl)) (lv rfl rfl (vr rfl rfl rfl) (lv rfl rfl (vm rfl) ?_)))
   rcases bool_or (decide (a0 ≥ 0)) with a4 | a4
   ·refine ly (wanted_y rfl rfl rfl a4) rfl (HStep.of_val (v := (ptr a 7)) (vf TyTA.fld40_7 (b := a) (o := 0) rfl) ?_)
    refine ly (wanted_y rfl rfl rfl a4) rfl (HStep.of_val (v := (.int .i64 a0)) (vl TyTA.agg3 rfl (rc b6 rfl)) ?_)
    refine ly (wanted_y rfl rfl rfl a4) rfl (HStep.of_val (v := (ptr b 6)) (vf TyTA.fld40_6 (b := b) (o := 0) rfl) ?_)
    refine ly (wanted_y rfl rfl rfl a4) rfl (HStep.of_val (v := (.int .i64 a2)) (vl TyTA.agg3 rfl (rc c0 rfl)) ?_)
    refine ly (wanted_y rfl rfl rfl a4) rfl (HStep.of_val (v := (.bool (decide (a0 < a2)))) (vr rfl rfl rfl) ?_)
    refine lv rfl rfl (v := (.bool (decide (a0 < a2)))) (hv_pick_t rfl a4 rfl) (lv rfl rfl (va rfl) ?_)
    refine ln (qn ?_)
    exact ⟨rfl, (hc (show ((.bool (decide (a0 < a2))) : Value) = (.bool ((decide (a0 ≥ 0)) && (decide (a0 < a2)))) from (by first | rfl | ((try rw [a4]); all_goals first | rfl | (simp only [Bool.true_or, Bool.or_true, Bool.false_or, Bool.or_false, Bool.true_and, Bool.and_true, Bool.false_and, Bool.and_false, Bool.not_true, Bool.not_false, Bool.cond_true, Bool.cond_false]; done)) | simp [a4])) hn)⟩
   ·refine lo (wanted_n rfl rfl rfl a4) rfl ?_
    refine lo (wanted_n rfl rfl rfl a4) rfl ?_
    refine lo (wanted_n rfl rfl rfl a4) rfl ?_
    refine lo (wanted_n rfl rfl rfl a4) rfl ?_
    refine lo (wanted_n rfl rfl rfl a4) rfl ?_
    refine lv rfl rfl (v := (.bool false)) (hv_pick_f rfl a4 rfl) (lv rfl rfl (va rfl) ?_)
    refine ln (qn ?_)
    exact ⟨rfl, (hc (show ((.bool false) : Value) = (.bool ((decide (a0 ≥ 0)) && (decide (a0 < a2)))) from (by first | rfl | ((try rw [a4]); all_goals first | rfl | (simp only [Bool.true_or, Bool.or_true, Bool.false_or, Bool.or_false, Bool.true_and, Bool.and_true, Bool.false_and, Bool.and_false, Bool.not_true, Bool.not_false, Bool.cond_true, Bool.cond_false]; done)) | simp [a4])) hn)⟩
  ·rintro ρ _ ⟨rfl, hH⟩
   refine xh _ hH ?_
   refine xt ?_
   replace H := H h2 c1
   exact endQ_ret _ (res_one Tryz.results29 (rv_tmp rfl)) H
theorem f85_sh (b1 : Int) (b4 : ByteArray) (a7 : ByteArray) (b5 : Int) (b6 : Bool) (a1 : Int) (b0 : Int) (a3 : Int) (a9 : Int) (b2 : ByteArray) (a8 : ByteArray) (b7 : Int) (b3 : Bool) (a0 : Int) (a4 : Int) (b9 : Int) (h : Heap) (R : Value → Heap → Prop)
  (H : (∀ (h2 : Heap), Ext h h2 → R (.bool ((decide (a1 < a0)) || ((a1 == a0) && ((decide (a3 ≥ 0)) && (decide (a3 < a4)))))) h2)) :
  HC Tryz.prog 85 #[(.agg #[(.int .i64 b1), (.string b4), (.string a7), (.int .i64 b5), (.bool b6), (.int .i64 a1), (.int .i64 b0), (.int .i64 a3)]), (.agg #[(.int .i64 a9), (.string b2), (.string a8), (.int .i64 b7), (.bool b3), (.int .i64 a0), (.int .i64 a4), (.int .i64 b9)])] h R := by
 refine hc_of (args := [(.agg #[(.int .i64 b1), (.string b4), (.string a7), (.int .i64 b5), (.bool b6), (.int .i64 a1), (.int .i64 b0), (.int .i64 a3)]), (.agg #[(.int .i64 a9), (.string b2), (.string a8), (.int .i64 b7), (.bool b3), (.int .i64 a0), (.int .i64 a4), (.int .i64 b9)])]) Tryz.func85 rfl Tryz.ntmps85 (Nat.le_of_ble_eq_true rfl) ?_
 refine xs (xr ?_)
 refine lp rfl rfl (hn_box (v := (.agg #[(.int .i64 b1), (.string b4), (.string a7), (.int .i64 b5), (.bool b6), (.int .i64 a1), (.int .i64 b0), (.int .i64 a3)])) rfl ?_)
 intro a h1 c3 c5
 have c6 := ext_pushed_f85_sh c5
 have d0 : Array.size h ≤ a := Nat.le_of_eq (Eq.symm c3)
 have b8 : h1[a]? = some (.cells #[(.int .i64 b1), (.string b4), (.string a7), (.int .i64 b5), (.bool b6), (.int .i64 a1), (.int .i64 b0), (.int .i64 a3)] 40 (0, 0)) := by rw [c5]; exact push_new c3
 refine lp rfl rfl (hn_box (v := (.agg #[(.int .i64 a9), (.string b2), (.string a8), (.int .i64 b7), (.bool b3), (.int .i64 a0), (.int .i64 a4), (.int .i64 b9)])) rfl ?_)
 intro b h2 c0 c2
 have c4 := ext_pushed_f85_sh c2
 have c8 := Nat.ne_of_lt (Nat.lt_of_lt_of_eq (row_lt b8) (Eq.symm c0))
 have c9 : Array.size h ≤ b := Nat.le_trans (Ext.size c6) (Nat.le_of_eq (Eq.symm c0))
 have c1 : h2[b]? = some (.cells #[(.int .i64 a9), (.string b2), (.string a8), (.int .i64 b7), (.bool b3), (.int .i64 a0), (.int .i64 a4), (.int .i64 b9)] 40 (0, 0)) := by rw [c2]; exact push_new c0
 replace b8 := Ext.row c4 b8
 have c7 := Ext.trans c6 c4
 refine lv rfl rfl (va rfl) ?_
 refine ln (qn ?_)
 refine xk (fun ρ h' => h2 = h' ∧ Has ρ [(4, (.bool ((decide (a1 < a0)) || ((a1 == a0) && ((decide (a3 ≥ 0)) && (decide (a3 < a4)))))))]) ?_ ?_
 ·refine xr ?_
  refine lv rfl rfl (v := (ptr a 5)) (vf TyTA.fld40_5 (b := a) (o := 0) rfl) (lv rfl rfl (vl TyTA.agg3 rfl (rc b8 rfl)) (lv rfl rfl (v := (ptr b 5)) (vf TyTA.fld40_5 (b := b) (o := 0) rfl) (lv rfl rfl (vl TyTA.agg3 rfl (rc c1 rfl)) (lv rfl rfl (vr rfl rfl rfl) (lv rfl rfl (vm rfl) ?_)))))
  rcases bool_or (decide (a1 < a0)) with a2 | a2
  ·refine lo (wanted_n rfl rfl rfl a2) rfl ?_
   refine lo (wanted_n rfl rfl rfl a2) rfl ?_
   refine lo (wanted_n rfl rfl rfl a2) rfl ?_
   refine lo (wanted_n rfl rfl rfl a2) rfl ?_
   refine lo (wanted_n rfl rfl rfl a2) rfl ?_
   refine lo (wanted_n rfl rfl rfl a2) rfl ?_
   refine lo (wanted_u rfl rfl rfl) rfl ?_
   refine lo (wanted_u rfl rfl rfl) rfl ?_
   refine lo (wanted_u rfl rfl rfl) rfl ?_
   refine lo (wanted_n rfl rfl rfl a2) rfl ?_
   refine lo (wanted_n rfl rfl rfl a2) rfl ?_
   refine lo (wanted_u rfl rfl rfl) rfl ?_
   refine lo (wanted_u rfl rfl rfl) rfl ?_
   refine lo (wanted_u rfl rfl rfl) rfl ?_
   refine lo (wanted_u rfl rfl rfl) rfl ?_
   refine lo (wanted_u rfl rfl rfl) rfl ?_
   refine lo (wanted_n rfl rfl rfl a2) rfl ?_
   refine lv rfl rfl (v := (.bool true)) (hv_pick_t rfl a2 rfl) (lv rfl rfl (va rfl) ?_)
   refine ln (qn ?_)
   exact ⟨rfl, (hc (show ((.bool true) : Value) = (.bool ((decide (a1 < a0)) || ((a1 == a0) && ((decide (a3 ≥ 0)) && (decide (a3 < a4)))))) from (by first | rfl | ((try rw [a2]); all_goals first | rfl | (simp only [Bool.true_or, Bool.or_true, Bool.false_or, Bool.or_false, Bool.true_and, Bool.and_true, Bool.false_and, Bool.and_false, Bool.not_true, Bool.not_false, Bool.cond_true, Bool.cond_false]; done)) | simp [a2])) hn)⟩
  ·refine ly (wanted_y rfl rfl rfl a2) rfl (HStep.of_val (v := (ptr a 5)) (vf TyTA.fld40_5 (b := a) (o := 0) rfl) ?_)
   refine ly (wanted_y rfl rfl rfl a2) rfl (HStep.of_val (v := (.int .i64 a1)) (vl TyTA.agg3 rfl (rc b8 rfl)) ?_)
   refine ly (wanted_y rfl rfl rfl a2) rfl (HStep.of_val (v := (ptr b 5)) (vf TyTA.fld40_5 (b := b) (o := 0) rfl) ?_)
   refine ly (wanted_y rfl rfl rfl a2) rfl (HStep.of_val (v := (.int .i64 a0)) (vl TyTA.agg3 rfl (rc c1 rfl)) ?_)
   refine ly (wanted_y rfl rfl rfl a2) rfl (HStep.of_val (v := (.bool (a1 == a0))) (vr rfl rfl rfl) ?_)
   refine ly (wanted_y rfl rfl rfl a2) rfl (HStep.of_val (v := (.bool (a1 == a0))) (vm rfl) ?_)
   rcases bool_or (a1 == a0) with a6 | a6
   ·refine ly (wanted_y rfl rfl rfl a6) rfl (HStep.of_val (v := (ptr a 7)) (vf TyTA.fld40_7 (b := a) (o := 0) rfl) ?_)
    refine ly (wanted_y rfl rfl rfl a6) rfl (HStep.of_val (v := (.int .i64 a3)) (vl TyTA.agg3 rfl (rc b8 rfl)) ?_)
    refine ly (wanted_y rfl rfl rfl a6) rfl (HStep.of_val (v := (.bool (decide (a3 ≥ 0)))) (vr rfl rfl rfl) ?_)
    refine ly (wanted_y rfl rfl rfl a2) rfl (HStep.of_val (v := (.bool (decide (a3 ≥ 0)))) (hv_pick_t rfl a6 rfl) ?_)
    refine ly (wanted_y rfl rfl rfl a2) rfl (HStep.of_val (v := (.bool (decide (a3 ≥ 0)))) (vm rfl) ?_)
    rcases bool_or (decide (a3 ≥ 0)) with a5 | a5
    ·refine ly (wanted_y rfl rfl rfl a5) rfl (HStep.of_val (v := (ptr a 7)) (vf TyTA.fld40_7 (b := a) (o := 0) rfl) ?_)
     refine ly (wanted_y rfl rfl rfl a5) rfl (HStep.of_val (v := (.int .i64 a3)) (vl TyTA.agg3 rfl (rc b8 rfl)) ?_)
     refine ly (wanted_y rfl rfl rfl a5) rfl (HStep.of_val (v := (ptr b 6)) (vf TyTA.fld40_6 (b := b) (o := 0) rfl) ?_)
     refine ly (wanted_y rfl rfl rfl a5) rfl (HStep.of_val (v := (.int .i64 a4)) (vl TyTA.agg3 rfl (rc c1 rfl)) ?_)
     refine ly (wanted_y rfl rfl rfl a5) rfl (HStep.of_val (v := (.bool (decide (a3 < a4)))) (vr rfl rfl rfl) ?_)
     refine ly (wanted_y rfl rfl rfl a2) rfl (HStep.of_val (v := (.bool (decide (a3 < a4)))) (hv_pick_t rfl a5 rfl) ?_)
     refine lv rfl rfl (v := (.bool (decide (a3 < a4)))) (hv_pick_f rfl a2 rfl) (lv rfl rfl (va rfl) ?_)
     refine ln (qn ?_)
     exact ⟨rfl, (hc (show ((.bool (decide (a3 < a4))) : Value) = (.bool ((decide (a1 < a0)) || ((a1 == a0) && ((decide (a3 ≥ 0)) && (decide (a3 < a4)))))) from (by first | rfl | ((try rw [a2]); (try rw [a6]); (try rw [a5]); all_goals first | rfl | (simp only [Bool.true_or, Bool.or_true, Bool.false_or, Bool.or_false, Bool.true_and, Bool.and_true, Bool.false_and, Bool.and_false, Bool.not_true, Bool.not_false, Bool.cond_true, Bool.cond_false]; done)) | simp [a2, a6, a5])) hn)⟩
    ·refine lo (wanted_n rfl rfl rfl a5) rfl ?_
     refine lo (wanted_n rfl rfl rfl a5) rfl ?_
     refine lo (wanted_n rfl rfl rfl a5) rfl ?_
     refine lo (wanted_n rfl rfl rfl a5) rfl ?_
     refine lo (wanted_n rfl rfl rfl a5) rfl ?_
     refine ly (wanted_y rfl rfl rfl a2) rfl (HStep.of_val (v := (.bool false)) (hv_pick_f rfl a5 rfl) ?_)
     refine lv rfl rfl (v := (.bool false)) (hv_pick_f rfl a2 rfl) (lv rfl rfl (va rfl) ?_)
     refine ln (qn ?_)
     exact ⟨rfl, (hc (show ((.bool false) : Value) = (.bool ((decide (a1 < a0)) || ((a1 == a0) && ((decide (a3 ≥ 0)) && (decide (a3 < a4)))))) from (by first | rfl | ((try rw [a2]); (try rw [a6]); (try rw [a5]); all_goals first | rfl | (simp only [Bool.true_or, Bool.or_true, Bool.false_or, Bool.or_false, Bool.true_and, Bool.and_true, Bool.false_and, Bool.and_false, Bool.not_true, Bool.not_false, Bool.cond_true, Bool.cond_false]; done)) | simp [a2, a6, a5])) hn)⟩
   ·refine lo (wanted_n rfl rfl rfl a6) rfl ?_
    refine lo (wanted_n rfl rfl rfl a6) rfl ?_
    refine lo (wanted_n rfl rfl rfl a6) rfl ?_
    refine ly (wanted_y rfl rfl rfl a2) rfl (HStep.of_val (v := (.bool false)) (hv_pick_f rfl a6 rfl) ?_)
    refine ly (wanted_y rfl rfl rfl a2) rfl (HStep.of_val (v := (.bool false)) (vm rfl) ?_)
    refine lo (wanted_n rfl rfl (c := false) rfl rfl) rfl ?_
    refine lo (wanted_n rfl rfl (c := false) rfl rfl) rfl ?_
    refine lo (wanted_n rfl rfl (c := false) rfl rfl) rfl ?_
    refine lo (wanted_n rfl rfl (c := false) rfl rfl) rfl ?_
    refine lo (wanted_n rfl rfl (c := false) rfl rfl) rfl ?_
    refine ly (wanted_y rfl rfl rfl a2) rfl (HStep.of_val (v := (.bool false)) (hv_pick (t := false) rfl rfl) ?_)
    refine lv rfl rfl (v := (.bool false)) (hv_pick_f rfl a2 rfl) (lv rfl rfl (va rfl) ?_)
    refine ln (qn ?_)
    exact ⟨rfl, (hc (show ((.bool false) : Value) = (.bool ((decide (a1 < a0)) || ((a1 == a0) && ((decide (a3 ≥ 0)) && (decide (a3 < a4)))))) from (by first | rfl | ((try rw [a2]); (try rw [a6]); all_goals first | rfl | (simp only [Bool.true_or, Bool.or_true, Bool.false_or, Bool.or_false, Bool.true_and, Bool.and_true, Bool.false_and, Bool.and_false, Bool.not_true, Bool.not_false, Bool.cond_true, Bool.cond_false]; done)) | simp [a2, a6])) hn)⟩
 ·rintro ρ _ ⟨rfl, hH⟩
  refine xh _ hH ?_
  refine xt ?_
  replace H := H h2 c7
  exact endQ_ret _ (res_one Tryz.results85 (rv_tmp rfl)) H
end Go.Proofs.YtfjcciaabkjkgaaGreatDoor
namespace Go.Proofs.YtfjcciaabkjkgaaGreatDoor
open Go Ml
def Ml.ahB (a b : Mv) : Bool := decide (ah a b)
theorem lkeyed_c (m : Mv) (h : Heap) : HC Tryz.prog 39 #[mvV m] h fun v h' => v = .bool (keyed m) ∧ Ext h h' :=
  f39_sh _ _ _ _ _ _ _ _ _ _ fun _ x => ⟨by simp [keyed, Bool.or_assoc], x⟩
theorem ahead_c (a b : Mv) (h : Heap) : HC Tryz.prog 29 #[mvV a, mvV b] h fun v h' => v = .bool (ahB a b) ∧ Ext h h' := by
  refine f29_sh _ _ _ _ _ _ _ _ _ _ _ _ _ _ _ _ _ _ ⟨fun g h2 x => ⟨?_, x⟩, fun g h2 x => ⟨?_, x⟩⟩
  · congr 1
    have : a.life ≠ b.life := by simpa using g
    unfold ahB ah
    exact decide_eq_decide.2 ⟨.inl, fun q => q.elim id fun q => absurd q.1 this⟩
  · congr 1
    have : a.life = b.life := by simpa using g
    unfold ahB ah
    rw [← Bool.decide_and]
    exact decide_eq_decide.2 ⟨fun q => .inr ⟨this, q⟩, fun q => q.elim (fun q => by omega) fun q => q.2⟩
theorem rahead_c (a b : Mv) (h : Heap) : HC Tryz.prog 85 #[mvV a, mvV b] h fun v h' => v = .bool (ahB a b) ∧ Ext h h' := by
  refine f85_sh _ _ _ _ _ _ _ _ _ _ _ _ _ _ _ _ _ _ fun h2 x => ⟨?_, x⟩
  congr 1
  unfold ahB ah
  rw [Bool.eq_iff_iff]
  simp only [Bool.or_eq_true, Bool.and_eq_true, beq_iff_eq, decide_eq_true_eq]
  exact ⟨fun q => decide_eq_true q, fun q => of_decide_eq_true q⟩
end Go.Proofs.YtfjcciaabkjkgaaGreatDoor
namespace Go.Proofs.YtfjcciaabkjkgaaGreatDoor
open Go
inductive PT where
  | done
  | one (i : Nat) (t : PT)
  | fork (is : List Nat) (t : Nat → PT)
def treeB (ops : Array Oper) (anc : List Nat) (ks : List Kd) : Nat → PT → Array Bool → Bool
  | _, .done, l => (Region.ready .any ops l).isEmpty
  | f + 1, .one i t, l => stepB ops anc ks i l && treeB ops anc ks f t (l.setIfInBounds i true)
  | f + 1, .fork is t, l => !is.isEmpty && (Region.ready .any ops l == is) && is.all fun i => treeB ops anc ks f (t i) (l.setIfInBounds i true)
  | 0, _, _ => false
def HOne (P : Program) (ops : Array Oper) (ks : List Kd) (T : Heap → Heap → Prop) (C : Regs → Heap → Prop) (i : Nat) (ρ : Regs) (h : Heap) : Prop :=
  match ops[i]? with
  | none => False
  | some o => if Region.wanted o (yl ops ρ) then (match kdOf ks i with
      | .pure => ∃ v, (∀ h', HVal P ρ o h' v) ∧ C (updo ρ o.dst v) h
      | .read => ∃ v, (∀ h', Ext h h' → HVal P ρ o h' v) ∧ C (updo ρ o.dst v) h
      | .stay => ∃ v, (∀ h', T h h' → HVal P ρ o h' v) ∧ C (updo ρ o.dst v) h
      | k => HStep P ρ o h fun v h' => k.ok T h h' ∧ C (updo ρ o.dst v) h')
    else C (updo ρ o.dst undef) h
def HTree (P : Program) (ops : Array Oper) (ks : List Kd) (T : Heap → Heap → Prop) (Q : Regs → Heap → Prop) : PT → Regs → Heap → Prop
  | .done, ρ, h => Q ρ h
  | .one i t, ρ, h => HOne P ops ks T (HTree P ops ks T Q t) i ρ h
  | .fork is t, ρ, h => ∀ i ∈ is, HOne P ops ks T (HTree P ops ks T Q (t i)) i ρ h
theorem hOp_of_one {P : Program} {ops : Array Oper} {ks : List Kd} {T : Heap → Heap → Prop} (hT : Fit T) {C : Regs → Heap → Prop} {i : Nat} {ρ : Regs} {h : Heap} (hp : HOne P ops ks T C i ρ h) : hOp P ops (fun i => (kdOf ks i).ok T) i C ρ h := by
  unfold HOne at hp
  unfold hOp
  cases ho : ops[i]? with
  | none => rw [ho] at hp; exact hp.elim
  | some o =>
    simp only [ho] at hp
    simp only
    by_cases hw : Region.wanted o (yl ops ρ) = true
    · rw [if_pos hw] at hp ⊢
      cases hk : kdOf ks i with
      | pure => simp only [hk] at hp; obtain ⟨v, hv, hn⟩ := hp; exact HStep.of_val (hv h) ⟨rfl, hn⟩
      | read => simp only [hk] at hp; obtain ⟨v, hv, hn⟩ := hp; exact HStep.of_val (hv h (Ext.refl h)) ⟨rfl, hn⟩
      | stay => simp only [hk] at hp; obtain ⟨v, hv, hn⟩ := hp; exact HStep.of_val (hv h (hT.refl h)) ⟨rfl, hn⟩
      | ext => simp only [hk] at hp; exact hp
      | tame => simp only [hk] at hp; exact hp
      | wild => simp only [hk] at hp; exact hp
    · rw [if_neg hw] at hp ⊢
      exact hp
theorem hAny_step {P : Program} {ops : Array Oper} {ks : List Kd} {T : Heap → Heap → Prop} {Q : Regs → Heap → Prop} (hT : Fit T) (hs : Region.noSelect ops = true) {f i : Nat} {l : Array Bool} {ρ : Regs} {h : Heap} {C : Regs → Heap → Prop}
    (hc : Shut ops l) (hB1 : stepB ops (ancs ops.toList []) ks i l = true) (hC : i ∈ Region.ready .any ops l → ∀ ρ h, C ρ h → HAny P ops (fun i => (kdOf ks i).ok T) Q f (l.setIfInBounds i true) ρ h) (hp : HOne P ops ks T C i ρ h) :
    HAny P ops (fun i => (kdOf ks i).ok T) Q (f + 1) l ρ h := by
  have hp0 := hp
  unfold HOne at hp
  cases ho : ops[i]? with
  | none => rw [ho] at hp; exact hp.elim
  | some o =>
    simp only [ho] at hp
    have first : ∀ (U : Heap → Heap → Prop) (v : Value), (∀ h, U h h) → (∀ a b c, U a b → U b c → U a c) → (Region.ready .any ops l).contains i = true → Region.free .any ops l i = true →
        (∀ j, l.getD j true = false → ¬ Desc ops i j → ∀ h h', (kdOf ks j).ok T h h' → U h h') →
        Yl P ops o v (fun h' => U h h') ρ → C (updo ρ o.dst v) h → HAny P ops (fun i => (kdOf ks i).ok T) Q (f + 1) l ρ h := by
      intro U v hUr hUt hr hf hw hy hn
      have hr' : i ∈ Region.ready .any ops l := by simpa using hr
      exact hAny_first ho (Region.noSelect_spec hs) (fun i h => Kd.ok_refl hT _ h) U hUr hUt f l ρ h hc (Region.free_spec ho hf) hw hr' hy (hC hr' _ _ hn)
    have uP : ∀ v, (Region.ready .any ops l).contains i = true → Region.free .any ops l i = true → Yl P ops o v (fun _ => True) ρ → C (updo ρ o.dst v) h → HAny P ops (fun i => (kdOf ks i).ok T) Q (f + 1) l ρ h :=
      fun v hr hf hy hn => first (fun _ _ => True) v (fun _ => trivial) (fun _ _ _ _ _ => trivial) hr hf (fun _ _ _ _ _ _ => trivial) hy hn
    have uR : ∀ v, (Region.ready .any ops l).contains i = true → Region.free .any ops l i = true → aheadB (fun k => k == .wild || k == .tame) (ancs ops.toList []) ks i l = true → Yl P ops o v (fun h' => Ext h h') ρ → C (updo ρ o.dst v) h → HAny P ops (fun i => (kdOf ks i).ok T) Q (f + 1) l ρ h := by
      intro v hr hf hb hy hn
      refine first Ext v Ext.refl (fun _ _ _ => Ext.trans) hr hf (fun j hun hd h h' hk => ?_) hy hn
      have := aheadB_spec (by rfl) hb hun hd
      exact Kd.ok_ext (fun e => by rw [e] at this; simp at this) (fun e => by rw [e] at this; simp at this) hk
    have uS : ∀ v, (Region.ready .any ops l).contains i = true → Region.free .any ops l i = true → aheadB (fun k => k == .wild) (ancs ops.toList []) ks i l = true → Yl P ops o v (fun h' => T h h') ρ → C (updo ρ o.dst v) h → HAny P ops (fun i => (kdOf ks i).ok T) Q (f + 1) l ρ h := by
      intro v hr hf hb hy hn
      refine first T v hT.refl hT.trans hr hf (fun j hun hd h h' hk => ?_) hy hn
      have := aheadB_spec (by rfl) hb hun hd
      exact Kd.ok_T hT (fun e => by rw [e] at this; simp at this) hk
    have lone : ∀ (_hr : Region.ready .any ops l = [i]), HAny P ops (fun i => (kdOf ks i).ok T) Q (f + 1) l ρ h := by
      intro hr
      refine ⟨fun h => (by rw [hr] at h; cases h), fun j hj => ?_⟩
      rw [hr] at hj
      obtain rfl : j = i := by simpa using hj
      exact hOp_mono (hC (by rw [hr]; simp)) (hOp_of_one hT hp0)
    unfold stepB at hB1
    by_cases hw : Region.wanted o (yl ops ρ) = true
    · simp only [hw, if_true] at hp
      cases hk : kdOf ks i with
      | pure =>
        simp only [hk, Bool.and_eq_true] at hB1 hp
        obtain ⟨v, hv, hn⟩ := hp
        exact uP v hB1.1 hB1.2 (.inl ⟨hw, fun h' _ => hv h'⟩) hn
      | read =>
        simp only [hk, Bool.and_eq_true] at hB1 hp
        obtain ⟨v, hv, hn⟩ := hp
        exact uR v hB1.1.1 hB1.1.2 hB1.2 (.inl ⟨hw, fun h' hh' => hv h' hh'⟩) hn
      | stay =>
        simp only [hk, Bool.and_eq_true] at hB1 hp
        obtain ⟨v, hv, hn⟩ := hp
        exact uS v hB1.1.1 hB1.1.2 hB1.2 (.inl ⟨hw, fun h' hh' => hv h' hh'⟩) hn
      | ext => simp only [hk, beq_iff_eq] at hB1; exact lone hB1
      | tame => simp only [hk, beq_iff_eq] at hB1; exact lone hB1
      | wild => simp only [hk, beq_iff_eq] at hB1; exact lone hB1
    · have hw' : Region.wanted o (yl ops ρ) = false := by simpa using hw
      simp only [hw', Bool.false_eq_true, if_false] at hp
      cases hk : kdOf ks i with
      | pure =>
        simp only [hk, Bool.and_eq_true] at hB1
        exact uP undef hB1.1 hB1.2 (.inr ⟨hw', rfl⟩) hp
      | read =>
        simp only [hk, Bool.and_eq_true] at hB1
        exact uR undef hB1.1.1 hB1.1.2 hB1.2 (.inr ⟨hw', rfl⟩) hp
      | stay =>
        simp only [hk, Bool.and_eq_true] at hB1
        exact uS undef hB1.1.1 hB1.1.2 hB1.2 (.inr ⟨hw', rfl⟩) hp
      | ext => simp only [hk, beq_iff_eq] at hB1; exact lone hB1
      | tame => simp only [hk, beq_iff_eq] at hB1; exact lone hB1
      | wild => simp only [hk, beq_iff_eq] at hB1; exact lone hB1
theorem hAny_of_tree {P : Program} {ops : Array Oper} {ks : List Kd} {T : Heap → Heap → Prop} {Q : Regs → Heap → Prop} (hT : Fit T) (hs : Region.noSelect ops = true) :
    ∀ (t : PT) (f : Nat) (l : Array Bool) (ρ : Regs) (h : Heap), Shut ops l → treeB ops (ancs ops.toList []) ks f t l = true → HTree P ops ks T Q t ρ h → HAny P ops (fun i => (kdOf ks i).ok T) Q f l ρ h := by
  intro t
  induction t with
  | done =>
    intro f l ρ h hc hB hp
    have hr : Region.ready .any ops l = [] := by cases f <;> simpa [treeB] using hB
    cases f with
    | zero => exact ⟨hr, hp⟩
    | succ f => exact ⟨fun _ => hp, fun i hi => by rw [hr] at hi; cases hi⟩
  | one i t ih =>
    intro f l ρ h hc hB hp
    cases f with
    | zero => simp [treeB] at hB
    | succ f =>
      simp only [treeB, Bool.and_eq_true] at hB
      exact hAny_step hT hs hc hB.1 (fun hi ρ' h' hn => ih f _ ρ' h' (hc.set hi) hB.2 hn) hp
  | fork is t ih =>
    intro f l ρ h hc hB hp
    cases f with
    | zero => simp [treeB] at hB
    | succ f =>
      simp only [treeB, Bool.and_eq_true, beq_iff_eq, List.all_eq_true] at hB
      obtain ⟨⟨hne, hB⟩, hall⟩ := hB
      replace hB := And.intro hB hall
      cases his : is with
      | nil =>
        rw [his] at hne; simp at hne
      | cons i0 is' =>
        refine ⟨fun hr => (by rw [hB.1, his] at hr; cases hr), fun i hi => ?_⟩
        have hi' := hi
        rw [hB.1] at hi'
        exact hOp_mono (fun ρ' h' hn => ih i f _ ρ' h' (hc.set hi) (hB.2 i hi') hn) (hOp_of_one hT (hp i hi'))
def regT (n : Nat) (ops : Array Oper) (ks : List Kd) (t : PT) : Bool :=
  Region.noSelect ops && ops.all (dstB n) && treeB ops (ancs ops.toList []) ks ops.size t (Array.replicate ops.size false)
theorem hx_tree {m : Mo} {P : Program} {n : Nat} {Q : Exit → Regs → Heap → Prop} {ρ : Regs} {h : Heap} {id : Nat} {l : List Oper} (hmix : P.follows .mixedOrders = true) (T : Heap → Heap → Prop) (hT : Fit T) (ks : List Kd) (t : PT)
    (hB : regT n l.toArray ks t = true) (hp : HTree P l.toArray ks T (Q .normal) t ρ h) : HX m P n (.region id l.toArray true) Q ρ h := by
  intro N a w s hm hw
  simp only [regT, Bool.and_eq_true] at hB
  obtain ⟨⟨h1, h2⟩, h4⟩ := hB
  have hd : ∀ (i : Nat) (o : Oper), (l.toArray)[i]? = some o → dstB n o = true := fun i o ho => Array.all_eq_true_iff_forall_mem.1 h2 o (Array.mem_of_getElem? ho)
  refine wpIn_mono (wpIn_region_any hmix (wpAny_of_hAny (kd := fun i => (kdOf ks i).ok T) (Q := Q .normal) (w0 := w) hd _ _ ρ h a _ s hm hw ⟨rfl, rfl, rfl, HG.refl _⟩ ?_)) fun _ _ _ ⟨he, g1, ρ', g2, g3, g4⟩ => ⟨g1, ρ', g2, g3, by rw [he]; exact g4⟩
  refine hAny_of_tree hT h1 t _ _ ρ h (fun j o _ hl => ?_) h4 hp
  have : (Array.replicate l.toArray.size false).getD j false = false := by
    rcases Nat.lt_or_ge j l.toArray.size with h | h <;> simp [Array.getD, h]
  rw [this] at hl; cases hl
section
variable {P : Program} {ops : Array Oper} {ks : List Kd} {T : Heap → Heap → Prop} {Q : Regs → Heap → Prop} {i : Nat} {t : PT} {ρ : Regs} {h : Heap} {o : Oper}
theorem ht_done (hq : Q ρ h) : HTree P ops ks T Q .done ρ h := hq
theorem ho_pure {C : Regs → Heap → Prop} (ho : ops[i]? = some o) (hw : Region.wanted o (yl ops ρ) = true) (hk : kdOf ks i = .pure) (v : Value) (hv : ∀ h', HVal P ρ o h' v) (hn : C (updo ρ o.dst v) h) : HOne P ops ks T C i ρ h := by
  simp only [HOne, ho, hw, if_true, hk]; exact ⟨v, hv, hn⟩
theorem ho_read {C : Regs → Heap → Prop} (ho : ops[i]? = some o) (hw : Region.wanted o (yl ops ρ) = true) (hk : kdOf ks i = .read) (v : Value) (hv : ∀ h', Ext h h' → HVal P ρ o h' v) (hn : C (updo ρ o.dst v) h) : HOne P ops ks T C i ρ h := by
  simp only [HOne, ho, hw, if_true, hk]; exact ⟨v, hv, hn⟩
theorem ho_stay {C : Regs → Heap → Prop} (ho : ops[i]? = some o) (hw : Region.wanted o (yl ops ρ) = true) (hk : kdOf ks i = .stay) (v : Value) (hv : ∀ h', T h h' → HVal P ρ o h' v) (hn : C (updo ρ o.dst v) h) : HOne P ops ks T C i ρ h := by
  simp only [HOne, ho, hw, if_true, hk]; exact ⟨v, hv, hn⟩
theorem ho_tame {C : Regs → Heap → Prop} (ho : ops[i]? = some o) (hw : Region.wanted o (yl ops ρ) = true) (hk : kdOf ks i = .tame) (hs : HStep P ρ o h fun v h' => T h h' ∧ C (updo ρ o.dst v) h') : HOne P ops ks T C i ρ h := by
  simp only [HOne, ho, hw, if_true, hk]; exact hs
theorem ho_ext {C : Regs → Heap → Prop} (ho : ops[i]? = some o) (hw : Region.wanted o (yl ops ρ) = true) (hk : kdOf ks i = .ext) (hs : HStep P ρ o h fun v h' => Ext h h' ∧ C (updo ρ o.dst v) h') : HOne P ops ks T C i ρ h := by
  simp only [HOne, ho, hw, if_true, hk]; exact hs
theorem ho_wild {C : Regs → Heap → Prop} (ho : ops[i]? = some o) (hw : Region.wanted o (yl ops ρ) = true) (hk : kdOf ks i = .wild) (hs : HStep P ρ o h fun v h' => C (updo ρ o.dst v) h') : HOne P ops ks T C i ρ h := by
  simp only [HOne, ho, hw, if_true, hk]; exact hs.mono fun v h' hn => ⟨trivial, hn⟩
theorem ht_one (hp : HOne P ops ks T (HTree P ops ks T Q t) i ρ h) : HTree P ops ks T Q (.one i t) ρ h := hp
theorem ht_fork2 {i j : Nat} {u : PT} {f : Nat → PT} (hi : f i = t) (hj : f j = u) (h1 : HOne P ops ks T (HTree P ops ks T Q t) i ρ h) (h2 : HOne P ops ks T (HTree P ops ks T Q u) j ρ h) : HTree P ops ks T Q (.fork [i, j] f) ρ h := by
  intro k hk
  simp only [List.mem_cons, List.not_mem_nil, or_false] at hk
  rcases hk with rfl | rfl
  · rw [hi]; exact h1
  · rw [hj]; exact h2
end
end Go.Proofs.YtfjcciaabkjkgaaGreatDoor
namespace Go.Proofs.YtfjcciaabkjkgaaGreatDoor
open Go
open Go.Proofs.YtfjcciaabkjkgaaGreatDoor renaming hl_val → lv, hl_step → lp, hl_nil → ln, hl_yes → ly, hl_no → lo, hx_seq → xs, hx_region → xr, hx_cond → xc, hx_block → xb, hx_loopT → xl, hx_cut → xk, hx_has → xh, hx_skip → xi, hx_ret → xt, hx_exit → xe, seqQ_n → qn, seqQ_ret → qr, seqQ_exit → qe, blockQ_n → bn, blockQ_ret → br, blockQ_here → bh, hv_move → vm, hv_assign → va, hv_arith → vr, hv_load → vl, hv_loads → vL, hv_extract → vx, hv_field → vf, hv_index → vi, hp_pure → pp, hp_read → pr, hp_no → pn, has_cons → hc, has_nil → hn, hcells_cons → cc, hcells_nil → cn, rowcell → rc, hs_call → sc
set_option maxRecDepth 100000
set_option maxHeartbeats 4000000
theorem TyTB.agg22 : aggB Tryz.prog 22 = some false := by kernel_rfl
theorem TyTB.agg3 : aggB Tryz.prog 3 = some false := by kernel_rfl
theorem TyTB.agg40 : aggB Tryz.prog 40 = some true := by kernel_rfl
theorem TyTB.agg9 : aggB Tryz.prog 9 = some false := by kernel_rfl
theorem TyTB.cb29 : CallB Tryz.prog 29 := fun _ _ => Tryz.call29 _ _
theorem TyTB.cb33 : CallB Tryz.prog 33 := fun _ _ => Tryz.call33 _ _
theorem TyTB.cb35 : CallB Tryz.prog 35 := fun _ _ => Tryz.call35 _ _
theorem TyTB.cb38 : CallB Tryz.prog 38 := fun _ _ => Tryz.call38 _ _
theorem TyTB.cb39 : CallB Tryz.prog 39 := fun _ _ => Tryz.call39 _ _
theorem TyTB.el22 : elB Tryz.prog 22 = some 8 := by kernel_rfl
theorem TyTB.el26 : elB Tryz.prog 26 = some 1 := by kernel_rfl
theorem TyTB.fld40_1 : fldB Tryz.prog 40 1 = some 1 := by kernel_rfl
theorem TyTB.mixed : Tryz.prog.follows .mixedOrders = true := by kernel_rfl
theorem TyTB.sz3 : szB Tryz.prog 3 = some 1 := by kernel_rfl
theorem TyTB.sz40 : szB Tryz.prog 40 = some 8 := by kernel_rfl
theorem TyTB.u22 : Tryz.prog.underlying 22 = some (.slice 40) := by kernel_rfl
theorem TyTB.u26 : Tryz.prog.underlying 26 = some (.slice 3) := by kernel_rfl
theorem TyTB.z3 : zeroB Tryz.prog 3 (.int .i64 0) := by unfold zeroB; kernel_rfl
theorem TyTB.z40 : zeroB Tryz.prog 40 (.agg #[(.int .i64 0), (.string ByteArray.empty), (.string ByteArray.empty), (.int .i64 0), (.bool false), (.int .i64 0), (.int .i64 0), (.int .i64 0)]) := by unfold zeroB; kernel_rfl
theorem ext_pushed_f50_sh {h h1 : Heap} {o : Obj} (e : h1 = Array.push h o) : Ext h h1 := by rw [e]; exact Ext.push _ _
theorem f24_sh (l : Option Addr) (a9 : Nat) (b5 : Nat) (h : Heap) (R : Value → Heap → Prop)
  (H : (∃ (I2 : Int → Prop) (b4 : Int → Nat), I2 0 ∧ (∀ (v : Int), I2 v → (((decide (v < (a9 : Int))) = true → (∃ b1 b2 : Nat, l = some ⟨b1, b2, none⟩ ∧ (0 : Int) ≤ v ∧ v < (a9 : Int) ∧ (∃ a3 : Int, ∃ a4 a0 : ByteArray, ∃ a5 : Int, ∃ a6 : Bool, ∃ a1 a2 a7 : Int, hcell h b1 (b2 + (Int.toNat v) * 8) = some (.int .i64 a3) ∧ hcell h b1 ((b2 + (Int.toNat v) * 8) + 1) = some (.string a4) ∧ hcell h b1 ((b2 + (Int.toNat v) * 8) + 2) = some (.string a0) ∧ hcell h b1 ((b2 + (Int.toNat v) * 8) + 3) = some (.int .i64 a5) ∧ hcell h b1 ((b2 + (Int.toNat v) * 8) + 4) = some (.bool a6) ∧ hcell h b1 ((b2 + (Int.toNat v) * 8) + 5) = some (.int .i64 a1) ∧ hcell h b1 ((b2 + (Int.toNat v) * 8) + 6) = some (.int .i64 a2) ∧ hcell h b1 ((b2 + (Int.toNat v) * 8) + 7) = some (.int .i64 a7) ∧ ((((Ml.check ⟨a3, a4, a0, a5, a6, a1, a2, a7⟩) != 0) = true → (∀ (h4 : Heap), Ext h h4 → R (.int .i64 (Ml.check ⟨a3, a4, a0, a5, a6, a1, a2, a7⟩)) h4)) ∧ (((Ml.check ⟨a3, a4, a0, a5, a6, a1, a2, a7⟩) != 0) = false → (I2 (IntKind.i64.wrap (v + 1)) ∧ b4 (IntKind.i64.wrap (v + 1)) < b4 v)))))) ∧ ((decide (v < (a9 : Int))) = false → (∀ (h1 : Heap), Ext h h1 → R (.int .i64 0) h1)))))) :
  HC Tryz.prog 24 #[(.slice l a9 b5)] h R := by
 refine hc_of (args := [(.slice l a9 b5)]) Tryz.func24 rfl Tryz.ntmps24 (Nat.le_of_ble_eq_true rfl) ?_
 refine xs (xr ?_)
 refine lv rfl rfl (va rfl) ?_
 refine ln (qn (xs (xs (xr ?_))))
 refine lv rfl rfl (vm rfl) (lv rfl rfl (v := (.int .i64 (a9 : Int))) (hv_len (n := a9) TyTB.u22 rfl) (lv rfl rfl (vm rfl) ?_))
 refine ln (qn (xb ?_))
 obtain ⟨I2, b4, d7, e0⟩ := H
 refine xl (σ := Int) (fun s => [(6, (.slice l a9 b5)), (7, (.int .i64 (a9 : Int))), (8, (.int .i64 s))]) (fun s h' => I2 s ∧ Ext h h' ∧ True) (fun s _ => b4 s) 0 ⟨d7, (Ext.refl _), trivial⟩ (hc rfl (hc rfl (hc rfl hn))) ?_
 rintro v ρ h1 ⟨d5, b0, -⟩
 have H := e0 v d5
 refine xs (xr ?_)
 refine lv rfl rfl (vr rfl rfl rfl) ?_
 refine ln (qn (xs ?_))
 refine xc (b := decide (v < (a9 : Int))) rfl (fun b6 => ?_) (fun b6 => ?_)
 ·replace H := H.1 b6
  refine xi (qn (xs (xb (xs (xr ?_)))))
  obtain ⟨b1, b2, d6, d8, d9, Hq⟩ := H
  subst d6
  have H := Hq; clear Hq
  refine lv rfl rfl (v := (ptr b1 (b2 + (Int.toNat v) * 8))) (vi TyTB.el22 rfl rfl d8 d9) ?_
  obtain ⟨a3, a4, a0, a5, a6, a1, a2, a7, c6, d4, c7, d2, d0, d1, d3, c5, H⟩ := H
  refine lv rfl rfl (vL (vs := [(.int .i64 a3), (.string a4), (.string a0), (.int .i64 a5), (.bool a6), (.int .i64 a1), (.int .i64 a2), (.int .i64 a7)]) TyTB.agg40 TyTB.sz40 rfl (cc (Ext.cell b0 c6) (cc (Ext.cell b0 d4) (cc (Ext.cell b0 c7) (cc (Ext.cell b0 d2) (cc (Ext.cell b0 d0) (cc (Ext.cell b0 d1) (cc (Ext.cell b0 d3) (cc (Ext.cell b0 c5) cn))))))))) ?_
  refine lp rfl rfl (hn_alloc TyTB.z40 ?_)
  intro m h2 b9 b7
  have c3 := ext_pushed_f50_sh b7
  have c8 : Array.size h ≤ m := Nat.le_trans (Ext.size b0) (Nat.le_of_eq (Eq.symm b9))
  have b8 : h2[m]? = some (.cells #[(.int .i64 0), (.string ByteArray.empty), (.string ByteArray.empty), (.int .i64 0), (.bool false), (.int .i64 0), (.int .i64 0), (.int .i64 0)] 40 (0, 0)) := by rw [b7]; exact push_new b9
  have c9 := Ext.trans b0 c3
  refine lp rfl rfl (hn_stores (vs := [(.int .i64 a3), (.string a4), (.string a0), (.int .i64 a5), (.bool a6), (.int .i64 a1), (.int .i64 a2), (.int .i64 a7)]) rfl rfl TyTB.sz40 rfl (HWs_row b8 (by simp)) ?_)
  intro h3 c1
  have a8 : h3[m]? = some (.cells #[(.int .i64 a3), (.string a4), (.string a0), (.int .i64 a5), (.bool a6), (.int .i64 a1), (.int .i64 a2), (.int .i64 a7)] 40 (0, 0)) := row_hsets_eq c1 b8 (by simp [sets])
  have c4 := ext_hsets c1 c9 c8
  refine ln (qn (xs (xr ?_)))
  refine lv rfl rfl (vL (vs := [(.int .i64 a3), (.string a4), (.string a0), (.int .i64 a5), (.bool a6), (.int .i64 a1), (.int .i64 a2), (.int .i64 a7)]) TyTB.agg40 TyTB.sz40 rfl (cc (rc a8 rfl) (cc (rc a8 rfl) (cc (rc a8 rfl) (cc (rc a8 rfl) (cc (rc a8 rfl) (cc (rc a8 rfl) (cc (rc a8 rfl) (cc (rc a8 rfl) cn))))))))) ?_
  refine lp rfl rfl (sc TyTB.cb38 rfl (HC.mono (check_c (⟨a3, a4, a0, a5, a6, a1, a2, a7⟩) _) ?_))
  rintro _ h4 ⟨rfl, c2⟩
  replace a8 := Ext.row c2 a8
  have c0 := Ext.trans c4 c2
  refine lv rfl rfl (va rfl) ?_
  refine ln (qn (xs (xr ?_)))
  refine lv rfl rfl (vm rfl) (lv rfl rfl (vr rfl rfl rfl) ?_)
  refine ln (qn ?_)
  refine xc (b := (Ml.check ⟨a3, a4, a0, a5, a6, a1, a2, a7⟩) != 0) rfl (fun b3 => ?_) (fun b3 => ?_)
  ·replace H := H.1 b3
   refine xs (xr ?_)
   refine lv rfl rfl (vm rfl) (lv rfl rfl (va rfl) ?_)
   refine ln (qn (xt (br (qr (qr (br (qr ?_)))))))
   replace H := H h4 c0
   exact endQ_ret _ (res_one Tryz.results24 (rv_tmp rfl)) H
  ·replace H := H.2 b3
   refine xi (bn (qn (xr ?_)))
   refine lv rfl rfl (vr rfl rfl rfl) (lv rfl rfl (vm rfl) ?_)
   refine ln (qn ?_)
   exact ⟨IntKind.i64.wrap (v + 1), ⟨⟨H.1, c0, trivial⟩, H.2⟩, (hc rfl (hc rfl (hc rfl hn)))⟩
 ·replace H := H.2 b6
  refine xe (qe (qe (bh (qn (xs (xr ?_))))))
  refine lv rfl rfl (va rfl) ?_
  refine ln (qn (xt ?_))
  replace H := H h1 b0
  exact endQ_ret _ (res_one Tryz.results24 (rv_tmp rfl)) H
theorem f17_sh (l : Option Addr) (a8 : Nat) (b2 : Nat) (h : Heap) (R : Value → Heap → Prop)
  (H : (∃ (I2 : Int → Prop) (b4 : Int → Nat), I2 0 ∧ (∀ (i : Int), I2 i → (((decide (i < (a8 : Int))) = true → (∃ a9 b0 : Nat, l = some ⟨a9, b0, none⟩ ∧ (0 : Int) ≤ i ∧ i < (a8 : Int) ∧ (∃ a3 : Int, ∃ a4 a0 : ByteArray, ∃ a5 : Int, ∃ a6 : Bool, ∃ a1 a2 a7 : Int, hcell h a9 (b0 + (Int.toNat i) * 8) = some (.int .i64 a3) ∧ hcell h a9 ((b0 + (Int.toNat i) * 8) + 1) = some (.string a4) ∧ hcell h a9 ((b0 + (Int.toNat i) * 8) + 2) = some (.string a0) ∧ hcell h a9 ((b0 + (Int.toNat i) * 8) + 3) = some (.int .i64 a5) ∧ hcell h a9 ((b0 + (Int.toNat i) * 8) + 4) = some (.bool a6) ∧ hcell h a9 ((b0 + (Int.toNat i) * 8) + 5) = some (.int .i64 a1) ∧ hcell h a9 ((b0 + (Int.toNat i) * 8) + 6) = some (.int .i64 a2) ∧ hcell h a9 ((b0 + (Int.toNat i) * 8) + 7) = some (.int .i64 a7) ∧ ((((Ml.check ⟨a3, a4, a0, a5, a6, a1, a2, a7⟩) != 0) = true → (∀ (h2 : Heap), Ext h h2 → R (.int .i64 230) h2)) ∧ (((Ml.check ⟨a3, a4, a0, a5, a6, a1, a2, a7⟩) != 0) = false → (I2 (IntKind.i64.wrap (i + 1)) ∧ b4 (IntKind.i64.wrap (i + 1)) < b4 i)))))) ∧ ((decide (i < (a8 : Int))) = false → (∀ (h1 : Heap), Ext h h1 → R (.int .i64 0) h1)))))) :
  HC Tryz.prog 17 #[(.slice l a8 b2)] h R := by
 refine hc_of (args := [(.slice l a8 b2)]) Tryz.func17 rfl Tryz.ntmps17 (Nat.le_of_ble_eq_true rfl) ?_
 refine xs (xr ?_)
 refine lv rfl rfl (va rfl) ?_
 refine ln (qn (xs (xs (xr ?_))))
 refine lv rfl rfl (va rfl) ?_
 refine ln (qn (xb ?_))
 obtain ⟨I2, b4, c8, d1⟩ := H
 refine xl (σ := Int) (fun s => [(0, (.slice l a8 b2)), (3, (.int .i64 s))]) (fun s h' => I2 s ∧ Ext h h' ∧ True) (fun s _ => b4 s) 0 ⟨c8, (Ext.refl _), trivial⟩ (hc rfl (hc rfl hn)) ?_
 rintro i ρ h1 ⟨c6, b1, -⟩
 have H := d1 i c6
 refine xs (xs (xr ?_))
 refine lv rfl rfl (vm rfl) (lv rfl rfl (vm rfl) (lv rfl rfl (v := (.int .i64 (a8 : Int))) (hv_len (n := a8) TyTB.u22 rfl) (lv rfl rfl (vr rfl rfl rfl) ?_)))
 refine ln (qn ?_)
 refine xc (b := decide (i < (a8 : Int))) rfl (fun b5 => ?_) (fun b5 => ?_)
 ·replace H := H.1 b5
  refine xi (qn (xs (xb (xs (xr ?_)))))
  refine lv rfl rfl (vm rfl) (lv rfl rfl (vm rfl) ?_)
  obtain ⟨a9, b0, c7, c9, d0, Hq⟩ := H
  subst c7
  have H := Hq; clear Hq
  refine lv rfl rfl (v := (ptr a9 (b0 + (Int.toNat i) * 8))) (vi TyTB.el22 rfl rfl c9 d0) ?_
  obtain ⟨a3, a4, a0, a5, a6, a1, a2, a7, b8, c5, b9, c3, c1, c2, c4, b7, H⟩ := H
  refine lv rfl rfl (vL (vs := [(.int .i64 a3), (.string a4), (.string a0), (.int .i64 a5), (.bool a6), (.int .i64 a1), (.int .i64 a2), (.int .i64 a7)]) TyTB.agg40 TyTB.sz40 rfl (cc (Ext.cell b1 b8) (cc (Ext.cell b1 c5) (cc (Ext.cell b1 b9) (cc (Ext.cell b1 c3) (cc (Ext.cell b1 c1) (cc (Ext.cell b1 c2) (cc (Ext.cell b1 c4) (cc (Ext.cell b1 b7) cn))))))))) ?_
  refine lp rfl rfl (sc TyTB.cb33 rfl (HC.mono (rcheck_c (⟨a3, a4, a0, a5, a6, a1, a2, a7⟩) _) ?_))
  rintro _ h2 ⟨rfl, c0⟩
  have b6 := Ext.trans b1 c0
  refine lv rfl rfl (vr rfl rfl rfl) ?_
  refine ln (qn ?_)
  refine xc (b := (Ml.check ⟨a3, a4, a0, a5, a6, a1, a2, a7⟩) != 0) rfl (fun b3 => ?_) (fun b3 => ?_)
  ·replace H := H.1 b3
   refine xs (xr ?_)
   refine lv rfl rfl (va rfl) ?_
   refine ln (qn (xt (br (qr (qr (br (qr ?_)))))))
   replace H := H h2 b6
   exact endQ_ret _ (res_one Tryz.results17 (rv_tmp rfl)) H
  ·replace H := H.2 b3
   refine xi (bn (qn (xr ?_)))
   refine lv rfl rfl (vm rfl) (lv rfl rfl (vr rfl rfl rfl) (lv rfl rfl (va rfl) ?_))
   refine ln (qn ?_)
   exact ⟨IntKind.i64.wrap (i + 1), ⟨⟨H.1, b6, trivial⟩, H.2⟩, (hc rfl (hc rfl hn))⟩
 ·replace H := H.2 b5
  refine xe (qe (qe (bh (qn (xs (xr ?_))))))
  refine lv rfl rfl (va rfl) ?_
  refine ln (qn (xt ?_))
  replace H := H h1 b1
  exact endQ_ret _ (res_one Tryz.results17 (rv_tmp rfl)) H
theorem f12_sh (a : Option Addr) (a0 : Nat) (a3 : Nat) (b : Option Addr) (a1 : Nat) (a4 : Nat) (h : Heap) (R : Value → Heap → Prop)
  (H : ((((a0 : Int) != (a1 : Int)) = true → R (.bool false) h) ∧ (((a0 : Int) != (a1 : Int)) = false → (∃ (I2 : Int → Prop) (a8 : Int → Nat), I2 0 ∧ (∀ (i : Int), I2 i → (((decide (i < (a0 : Int))) = true → (∃ a6 b0 : Nat, a = some ⟨a6, b0, none⟩ ∧ (0 : Int) ≤ i ∧ i < (a0 : Int) ∧ (∃ x : Int, hcell h a6 (b0 + (Int.toNat i) * 1) = some (.int .i64 x) ∧ (∃ a7 a9 : Nat, b = some ⟨a7, a9, none⟩ ∧ (0 : Int) ≤ i ∧ i < (a1 : Int) ∧ (∃ a2 : Int, hcell h a7 (a9 + (Int.toNat i) * 1) = some (.int .i64 a2) ∧ (((x != a2) = true → R (.bool false) h) ∧ ((x != a2) = false → (I2 (IntKind.i64.wrap (i + 1)) ∧ a8 (IntKind.i64.wrap (i + 1)) < a8 i)))))))) ∧ ((decide (i < (a0 : Int))) = false → R (.bool true) h))))))) :
  HC Tryz.prog 12 #[(.slice a a0 a3), (.slice b a1 a4)] h R := by
 refine hc_of (args := [(.slice a a0 a3), (.slice b a1 a4)]) Tryz.func12 rfl Tryz.ntmps12 (Nat.le_of_ble_eq_true rfl) ?_
 refine xs (xr ?_)
 refine lv rfl rfl (va rfl) ?_
 refine ln (qn (xs (xs (xr ?_))))
 refine lv rfl rfl (vm rfl) (lv rfl rfl (v := (.int .i64 (a0 : Int))) (hv_len (n := a0) TyTB.u26 rfl) (lv rfl rfl (vm rfl) (lv rfl rfl (v := (.int .i64 (a1 : Int))) (hv_len (n := a1) TyTB.u26 rfl) (lv rfl rfl (vr rfl rfl rfl) ?_))))
 refine ln (qn ?_)
 refine xc (b := (a0 : Int) != (a1 : Int)) rfl (fun b3 => ?_) (fun b3 => ?_)
 ·replace H := H.1 b3
  refine xs (xr ?_)
  refine lv rfl rfl (va rfl) ?_
  refine ln (qn (xt (qr ?_)))
  exact endQ_ret _ (res_one Tryz.results12 (rv_tmp rfl)) H
 ·replace H := H.2 b3
  refine xi (qn (xs (xs (xr ?_))))
  refine lv rfl rfl (va rfl) ?_
  refine ln (qn (xb ?_))
  obtain ⟨I2, a8, c0, c2⟩ := H
  refine xl (σ := Int) (fun s => [(0, (.slice a a0 a3)), (1, (.slice b a1 a4)), (5, (.int .i64 s))]) (fun s h' => I2 s ∧ h = h') (fun s _ => a8 s) 0 ⟨c0, rfl⟩ (hc rfl (hc rfl (hc rfl hn))) ?_
  rintro i ρ _ ⟨b8, rfl⟩
  have H := c2 i b8
  refine xs (xs (xr ?_))
  refine lv rfl rfl (vm rfl) (lv rfl rfl (vm rfl) (lv rfl rfl (v := (.int .i64 (a0 : Int))) (hv_len (n := a0) TyTB.u26 rfl) (lv rfl rfl (vr rfl rfl rfl) ?_)))
  refine ln (qn ?_)
  refine xc (b := decide (i < (a0 : Int))) rfl (fun b1 => ?_) (fun b1 => ?_)
  ·replace H := H.1 b1
   refine xi (qn (xs (xb (xs ?_))))
   refine hx_draw TyTB.mixed [.pure, .pure, .pure, .read, .pure, .pure, .pure, .read, .pure] [0, 1, 2, 3, 4, 5, 6, 7, 8] (by kernel_rfl) ?_
   refine pp (i := 0) rfl (wanted_0 rfl) rfl (.slice a a0 a3) (fun _ => vm rfl) ?_
   refine pp (i := 1) rfl (wanted_0 rfl) rfl (.int .i64 i) (fun _ => vm rfl) ?_
   obtain ⟨a6, b0, b2, c1, b9, Hq⟩ := H
   subst b2
   have H := Hq; clear Hq
   refine pp (i := 2) rfl (wanted_0 rfl) rfl (ptr a6 (b0 + (Int.toNat i) * 1)) (fun _ => vi TyTB.el26 rfl rfl c1 b9) ?_
   obtain ⟨x, b5, H⟩ := H
   refine pr (i := 3) rfl (wanted_0 rfl) rfl (.int .i64 x) (fun _ he => vl TyTB.agg3 rfl (Ext.cell he b5)) ?_
   refine pp (i := 4) rfl (wanted_0 rfl) rfl (.slice b a1 a4) (fun _ => vm rfl) ?_
   refine pp (i := 5) rfl (wanted_0 rfl) rfl (.int .i64 i) (fun _ => vm rfl) ?_
   obtain ⟨a7, a9, b2, b4, b6, Hq⟩ := H
   subst b2
   have H := Hq; clear Hq
   refine pp (i := 6) rfl (wanted_0 rfl) rfl (ptr a7 (a9 + (Int.toNat i) * 1)) (fun _ => vi TyTB.el26 rfl rfl b4 b6) ?_
   obtain ⟨a2, b7, H⟩ := H
   refine pr (i := 7) rfl (wanted_0 rfl) rfl (.int .i64 a2) (fun _ he => vl TyTB.agg3 rfl (Ext.cell he b7)) ?_
   refine pp (i := 8) rfl (wanted_0 rfl) rfl (.bool (x != a2)) (fun _ => vr rfl rfl rfl) ?_
   refine hp_nil ?_
   refine qn ?_
   refine xc (b := x != a2) rfl (fun a5 => ?_) (fun a5 => ?_)
   ·replace H := H.1 a5
    refine xs (xr ?_)
    refine lv rfl rfl (va rfl) ?_
    refine ln (qn (xt (br (qr (qr (br (qr ?_)))))))
    exact endQ_ret _ (res_one Tryz.results12 (rv_tmp rfl)) H
   ·replace H := H.2 a5
    refine xi (bn (qn (xr ?_)))
    refine lv rfl rfl (vm rfl) (lv rfl rfl (vr rfl rfl rfl) (lv rfl rfl (va rfl) ?_))
    refine ln (qn ?_)
    exact ⟨IntKind.i64.wrap (i + 1), ⟨⟨H.1, rfl⟩, H.2⟩, (hc rfl (hc rfl (hc rfl hn)))⟩
  ·replace H := H.2 b1
   refine xe (qe (qe (bh (qn (xs (xr ?_))))))
   refine lv rfl rfl (va rfl) ?_
   refine ln (qn (xt ?_))
   exact endQ_ret _ (res_one Tryz.results12 (rv_tmp rfl)) H
theorem f42_sh (k : Int) (b4 : Nat) (b7 : Nat) (b6 : Nat) (b3 : Nat) (h : Heap) (R : Value → Heap → Prop)
  (H : (∃ j : Bool, (∃ x : Option Addr, ∃ b8 b9 : Nat, hcell h b4 b7 = some (.slice x b8 b9) ∧ (∃ a9 a8 : Nat, x = some ⟨a9, a8, none⟩ ∧ (0 : Int) ≤ k ∧ k < (b8 : Int) ∧ (∃ a5 : Int, ∃ a2 a1 : ByteArray, ∃ a6 : Int, ∃ a7 : Bool, ∃ a3 a4 b0 : Int, hcell h a9 (a8 + (Int.toNat k) * 8) = some (.int .i64 a5) ∧ hcell h a9 ((a8 + (Int.toNat k) * 8) + 1) = some (.string a2) ∧ hcell h a9 ((a8 + (Int.toNat k) * 8) + 2) = some (.string a1) ∧ hcell h a9 ((a8 + (Int.toNat k) * 8) + 3) = some (.int .i64 a6) ∧ hcell h a9 ((a8 + (Int.toNat k) * 8) + 4) = some (.bool a7) ∧ hcell h a9 ((a8 + (Int.toNat k) * 8) + 5) = some (.int .i64 a3) ∧ hcell h a9 ((a8 + (Int.toNat k) * 8) + 6) = some (.int .i64 a4) ∧ hcell h a9 ((a8 + (Int.toNat k) * 8) + 7) = some (.int .i64 b0) ∧ (((!(Ml.keyed ⟨a5, a2, a1, a6, a7, a3, a4, b0⟩)) = true → (j = true)) ∧ ((!(Ml.keyed ⟨a5, a2, a1, a6, a7, a3, a4, b0⟩)) = false → (∃ b2 : Int, hcell h b6 b3 = some (.int .i64 b2) ∧ ((0 : Int) ≤ b2 ∧ b2 < (b8 : Int) ∧ (∃ b5 : ByteArray, hcell h a9 ((a8 + (Int.toNat b2) * 8) + 1) = some (.string b5) ∧ (j = (!decide (a2 = b5))))))))))) ∧ (∀ (h1 : Heap), Ext h h1 → R (.bool j) h1))) :
  HC Tryz.prog 42 #[(.int .i64 k), (ptr b4 b7), (ptr b6 b3)] h R := by
 refine hc_of (args := [(.int .i64 k), (ptr b4 b7), (ptr b6 b3)]) Tryz.func42 rfl Tryz.ntmps42 (Nat.le_of_ble_eq_true rfl) ?_
 refine xs (xr ?_)
 refine lv rfl rfl (va rfl) ?_
 refine ln (qn ?_)
 obtain ⟨j, c1, c2⟩ := H
 refine xk (fun ρ h' => (Ext h h' ∧ True) ∧ Has ρ [(4, (.bool j))]) ?_ ?_
 ·have H := c1; clear c1 c2
  refine hx_draw TyTB.mixed [.read, .pure, .pure, .read, .ext, .pure, .pure, .read, .pure, .pure, .pure, .read, .read, .read, .pure, .pure, .read, .pure, .pure, .pure] [0, 1, 2, 3, 4, 5, 6, 7, 8, 9, 10, 11, 12, 13, 14, 15, 16, 17, 18, 19] (by kernel_rfl) ?_
  obtain ⟨x, b8, b9, c0, H⟩ := H
  refine pr (i := 0) rfl (wanted_0 rfl) rfl (.slice x b8 b9) (fun _ he => vl TyTB.agg22 rfl (Ext.cell he c0)) ?_
  refine pp (i := 1) rfl (wanted_0 rfl) rfl (.int .i64 k) (fun _ => vm rfl) ?_
  obtain ⟨a9, a8, d6, c5, c3, Hq⟩ := H
  subst d6
  have H := Hq; clear Hq
  refine pp (i := 2) rfl (wanted_0 rfl) rfl (ptr a9 (a8 + (Int.toNat k) * 8)) (fun _ => vi TyTB.el22 rfl rfl c5 c3) ?_
  obtain ⟨a5, a2, a1, a6, a7, a3, a4, b0, d7, c4, d5, c8, d4, c9, d3, d2, H⟩ := H
  refine pr (i := 3) rfl (wanted_0 rfl) rfl (.agg #[(.int .i64 a5), (.string a2), (.string a1), (.int .i64 a6), (.bool a7), (.int .i64 a3), (.int .i64 a4), (.int .i64 b0)]) (fun _ he => vL (vs := [(.int .i64 a5), (.string a2), (.string a1), (.int .i64 a6), (.bool a7), (.int .i64 a3), (.int .i64 a4), (.int .i64 b0)]) TyTB.agg40 TyTB.sz40 rfl (cc (Ext.cell he d7) (cc (Ext.cell he c4) (cc (Ext.cell he d5) (cc (Ext.cell he c8) (cc (Ext.cell he d4) (cc (Ext.cell he c9) (cc (Ext.cell he d3) (cc (Ext.cell he d2) cn))))))))) ?_
  refine hp_ext (i := 4) rfl (wanted_0 rfl) rfl (sc TyTB.cb39 rfl (HC.mono (lkeyed_c (⟨a5, a2, a1, a6, a7, a3, a4, b0⟩) _) ?_))
  rintro _ h2 ⟨rfl, b1⟩
  refine ⟨b1, ?_⟩
  refine pp (i := 5) rfl (wanted_0 rfl) rfl (.bool (!(Ml.keyed ⟨a5, a2, a1, a6, a7, a3, a4, b0⟩))) (fun _ => hv_not (b := Ml.keyed ⟨a5, a2, a1, a6, a7, a3, a4, b0⟩) rfl) ?_
  refine pp (i := 6) rfl (wanted_0 rfl) rfl (.bool (!(Ml.keyed ⟨a5, a2, a1, a6, a7, a3, a4, b0⟩))) (fun _ => vm rfl) ?_
  rcases bool_or (!(Ml.keyed ⟨a5, a2, a1, a6, a7, a3, a4, b0⟩)) with a0 | a0
  ·replace H := H.1 a0
   refine pn (i := 7) rfl (wanted_n rfl rfl rfl a0) ?_
   refine pn (i := 8) rfl (wanted_n rfl rfl rfl a0) ?_
   refine pn (i := 9) rfl (wanted_n rfl rfl rfl a0) ?_
   refine pn (i := 10) rfl (wanted_n rfl rfl rfl a0) ?_
   refine pn (i := 11) rfl (wanted_n rfl rfl rfl a0) ?_
   refine pn (i := 12) rfl (wanted_n rfl rfl rfl a0) ?_
   refine pn (i := 13) rfl (wanted_n rfl rfl rfl a0) ?_
   refine pn (i := 14) rfl (wanted_n rfl rfl rfl a0) ?_
   refine pn (i := 15) rfl (wanted_n rfl rfl rfl a0) ?_
   refine pn (i := 16) rfl (wanted_n rfl rfl rfl a0) ?_
   refine pn (i := 17) rfl (wanted_n rfl rfl rfl a0) ?_
   refine pp (i := 18) rfl (wanted_0 rfl) rfl (.bool true) (fun _ => hv_pick_t rfl a0 rfl) ?_
   refine pp (i := 19) rfl (wanted_0 rfl) rfl (.bool true) (fun _ => va rfl) ?_
   refine hp_nil ?_
   refine qn ?_
   obtain rfl := H
   exact ⟨⟨b1, trivial⟩, (hc rfl hn)⟩
  ·replace H := H.2 a0
   refine pr (i := 7) rfl (wanted_y rfl rfl rfl a0) rfl (.slice (some ⟨a9, a8, none⟩) b8 b9) (fun _ he => vl TyTB.agg22 rfl (Ext.cell he (Ext.cell b1 c0))) ?_
   refine pp (i := 8) rfl (wanted_y rfl rfl rfl a0) rfl (.int .i64 k) (fun _ => vm rfl) ?_
   refine pp (i := 9) rfl (wanted_y rfl rfl rfl a0) rfl (ptr a9 (a8 + (Int.toNat k) * 8)) (fun _ => vi TyTB.el22 rfl rfl c5 c3) ?_
   refine pp (i := 10) rfl (wanted_y rfl rfl rfl a0) rfl (ptr a9 ((a8 + (Int.toNat k) * 8) + 1)) (fun _ => vf TyTB.fld40_1 (b := a9) (o := a8 + (Int.toNat k) * 8) rfl) ?_
   refine pr (i := 11) rfl (wanted_y rfl rfl rfl a0) rfl (.string a2) (fun _ he => vl TyTB.agg9 rfl (Ext.cell he (Ext.cell b1 c4))) ?_
   refine pr (i := 12) rfl (wanted_y rfl rfl rfl a0) rfl (.slice (some ⟨a9, a8, none⟩) b8 b9) (fun _ he => vl TyTB.agg22 rfl (Ext.cell he (Ext.cell b1 c0))) ?_
   obtain ⟨b2, c7, H⟩ := H
   refine pr (i := 13) rfl (wanted_y rfl rfl rfl a0) rfl (.int .i64 b2) (fun _ he => vl TyTB.agg3 rfl (Ext.cell he (Ext.cell b1 c7))) ?_
   obtain ⟨d0, d1, H⟩ := H
   refine pp (i := 14) rfl (wanted_y rfl rfl rfl a0) rfl (ptr a9 (a8 + (Int.toNat b2) * 8)) (fun _ => vi TyTB.el22 rfl rfl d0 d1) ?_
   refine pp (i := 15) rfl (wanted_y rfl rfl rfl a0) rfl (ptr a9 ((a8 + (Int.toNat b2) * 8) + 1)) (fun _ => vf TyTB.fld40_1 (b := a9) (o := a8 + (Int.toNat b2) * 8) rfl) ?_
   obtain ⟨b5, c6, H⟩ := H
   refine pr (i := 16) rfl (wanted_y rfl rfl rfl a0) rfl (.string b5) (fun _ he => vl TyTB.agg9 rfl (Ext.cell he (Ext.cell b1 c6))) ?_
   refine pp (i := 17) rfl (wanted_y rfl rfl rfl a0) rfl (.bool (!decide (a2 = b5))) (fun _ => hv_str rfl rfl rfl) ?_
   refine pp (i := 18) rfl (wanted_0 rfl) rfl (.bool (!decide (a2 = b5))) (fun _ => hv_pick_f rfl a0 rfl) ?_
   refine pp (i := 19) rfl (wanted_0 rfl) rfl (.bool (!decide (a2 = b5))) (fun _ => va rfl) ?_
   refine hp_nil ?_
   refine qn ?_
   obtain rfl := H
   exact ⟨⟨b1, trivial⟩, (hc rfl hn)⟩
 ·have H := c2; clear c1 c2
  rintro ρ h1 ⟨⟨d8, -⟩, hH⟩
  refine xh _ hH ?_
  refine xt ?_
  replace H := H h1 d8
  exact endQ_ret _ (res_one Tryz.results42 (rv_tmp rfl)) H
theorem f48_sh (j : Int) (c0 : Nat) (c2 : Nat) (c1 : Nat) (b9 : Nat) (h : Heap) (R : Value → Heap → Prop)
  (H : (∃ x : Option Addr, ∃ c3 c4 : Nat, hcell h c0 c2 = some (.slice x c3 c4) ∧ (∃ a5 a4 : Nat, x = some ⟨a5, a4, none⟩ ∧ (0 : Int) ≤ j ∧ j < (c3 : Int) ∧ (∃ b3 : Int, ∃ b5 a9 : ByteArray, ∃ b6 : Int, ∃ b7 : Bool, ∃ b0 b2 b8 : Int, hcell h a5 (a4 + (Int.toNat j) * 8) = some (.int .i64 b3) ∧ hcell h a5 ((a4 + (Int.toNat j) * 8) + 1) = some (.string b5) ∧ hcell h a5 ((a4 + (Int.toNat j) * 8) + 2) = some (.string a9) ∧ hcell h a5 ((a4 + (Int.toNat j) * 8) + 3) = some (.int .i64 b6) ∧ hcell h a5 ((a4 + (Int.toNat j) * 8) + 4) = some (.bool b7) ∧ hcell h a5 ((a4 + (Int.toNat j) * 8) + 5) = some (.int .i64 b0) ∧ hcell h a5 ((a4 + (Int.toNat j) * 8) + 6) = some (.int .i64 b2) ∧ hcell h a5 ((a4 + (Int.toNat j) * 8) + 7) = some (.int .i64 b8) ∧ (∃ b4 : Int, hcell h c1 b9 = some (.int .i64 b4) ∧ ((0 : Int) ≤ b4 ∧ b4 < (c3 : Int) ∧ (∃ a3 : Int, ∃ a6 a0 : ByteArray, ∃ a7 : Int, ∃ a8 : Bool, ∃ a1 a2 b1 : Int, hcell h a5 (a4 + (Int.toNat b4) * 8) = some (.int .i64 a3) ∧ hcell h a5 ((a4 + (Int.toNat b4) * 8) + 1) = some (.string a6) ∧ hcell h a5 ((a4 + (Int.toNat b4) * 8) + 2) = some (.string a0) ∧ hcell h a5 ((a4 + (Int.toNat b4) * 8) + 3) = some (.int .i64 a7) ∧ hcell h a5 ((a4 + (Int.toNat b4) * 8) + 4) = some (.bool a8) ∧ hcell h a5 ((a4 + (Int.toNat b4) * 8) + 5) = some (.int .i64 a1) ∧ hcell h a5 ((a4 + (Int.toNat b4) * 8) + 6) = some (.int .i64 a2) ∧ hcell h a5 ((a4 + (Int.toNat b4) * 8) + 7) = some (.int .i64 b1) ∧ (∀ (h1 : Heap), Ext h h1 → R (.bool (Ml.ahB ⟨b3, b5, a9, b6, b7, b0, b2, b8⟩ ⟨a3, a6, a0, a7, a8, a1, a2, b1⟩)) h1)))))))) :
  HC Tryz.prog 48 #[(.int .i64 j), (ptr c0 c2), (ptr c1 b9)] h R := by
 refine hc_of (args := [(.int .i64 j), (ptr c0 c2), (ptr c1 b9)]) Tryz.func48 rfl Tryz.ntmps48 (Nat.le_of_ble_eq_true rfl) ?_
 refine xs (xr ?_)
 refine lv rfl rfl (va rfl) ?_
 refine ln (qn (xs ?_))
 refine hx_draw TyTB.mixed [.read, .pure, .pure, .read, .read, .read, .pure, .read, .ext, .pure] [0, 1, 2, 3, 4, 5, 6, 7, 8, 9] (by kernel_rfl) ?_
 obtain ⟨x, c3, c4, c6, H⟩ := H
 refine pr (i := 0) rfl (wanted_0 rfl) rfl (.slice x c3 c4) (fun _ he => vl TyTB.agg22 rfl (Ext.cell he c6)) ?_
 refine pp (i := 1) rfl (wanted_0 rfl) rfl (.int .i64 j) (fun _ => vm rfl) ?_
 obtain ⟨a5, a4, e3, e4, e0, Hq⟩ := H
 subst e3
 have H := Hq; clear Hq
 refine pp (i := 2) rfl (wanted_0 rfl) rfl (ptr a5 (a4 + (Int.toNat j) * 8)) (fun _ => vi TyTB.el22 rfl rfl e4 e0) ?_
 obtain ⟨b3, b5, a9, b6, b7, b0, b2, b8, e6, e8, e7, e5, e2, e1, d2, d9, H⟩ := H
 refine pr (i := 3) rfl (wanted_0 rfl) rfl (.agg #[(.int .i64 b3), (.string b5), (.string a9), (.int .i64 b6), (.bool b7), (.int .i64 b0), (.int .i64 b2), (.int .i64 b8)]) (fun _ he => vL (vs := [(.int .i64 b3), (.string b5), (.string a9), (.int .i64 b6), (.bool b7), (.int .i64 b0), (.int .i64 b2), (.int .i64 b8)]) TyTB.agg40 TyTB.sz40 rfl (cc (Ext.cell he e6) (cc (Ext.cell he e8) (cc (Ext.cell he e7) (cc (Ext.cell he e5) (cc (Ext.cell he e2) (cc (Ext.cell he e1) (cc (Ext.cell he d2) (cc (Ext.cell he d9) cn))))))))) ?_
 refine pr (i := 4) rfl (wanted_0 rfl) rfl (.slice (some ⟨a5, a4, none⟩) c3 c4) (fun _ he => vl TyTB.agg22 rfl (Ext.cell he c6)) ?_
 obtain ⟨b4, d5, H⟩ := H
 refine pr (i := 5) rfl (wanted_0 rfl) rfl (.int .i64 b4) (fun _ he => vl TyTB.agg3 rfl (Ext.cell he d5)) ?_
 obtain ⟨d4, c8, H⟩ := H
 refine pp (i := 6) rfl (wanted_0 rfl) rfl (ptr a5 (a4 + (Int.toNat b4) * 8)) (fun _ => vi TyTB.el22 rfl rfl d4 c8) ?_
 obtain ⟨a3, a6, a0, a7, a8, a1, a2, b1, d6, d8, c9, d1, d0, d3, d7, c7, H⟩ := H
 refine pr (i := 7) rfl (wanted_0 rfl) rfl (.agg #[(.int .i64 a3), (.string a6), (.string a0), (.int .i64 a7), (.bool a8), (.int .i64 a1), (.int .i64 a2), (.int .i64 b1)]) (fun _ he => vL (vs := [(.int .i64 a3), (.string a6), (.string a0), (.int .i64 a7), (.bool a8), (.int .i64 a1), (.int .i64 a2), (.int .i64 b1)]) TyTB.agg40 TyTB.sz40 rfl (cc (Ext.cell he d6) (cc (Ext.cell he d8) (cc (Ext.cell he c9) (cc (Ext.cell he d1) (cc (Ext.cell he d0) (cc (Ext.cell he d3) (cc (Ext.cell he d7) (cc (Ext.cell he c7) cn))))))))) ?_
 refine hp_ext (i := 8) rfl (wanted_0 rfl) rfl (sc TyTB.cb29 rfl (HC.mono (ahead_c (⟨b3, b5, a9, b6, b7, b0, b2, b8⟩) (⟨a3, a6, a0, a7, a8, a1, a2, b1⟩) _) ?_))
 rintro _ h1 ⟨rfl, c5⟩
 refine ⟨c5, ?_⟩
 refine pp (i := 9) rfl (wanted_0 rfl) rfl (.bool (Ml.ahB ⟨b3, b5, a9, b6, b7, b0, b2, b8⟩ ⟨a3, a6, a0, a7, a8, a1, a2, b1⟩)) (fun _ => va rfl) ?_
 refine hp_nil ?_
 refine qn (xt ?_)
 replace H := H h1 c5
 exact endQ_ret _ (res_one Tryz.results48 (rv_tmp rfl)) H
theorem f41_sh (sv : Option Addr) (a2 : Nat) (a3 : Nat) (h : Heap) (R : Value → Heap → Prop)
  (H : ((sv.isNone = true → R (.slice none 0 0) h) ∧ (sv.isNone = false → (∀ nb h1, nb = Array.size h → h1 = Array.push h (.cells #[] 3) → HAppend Tryz.prog 26 26 (.slice (some ⟨nb, 0, none⟩) 0 0) (.slice sv a2 a3) h1 (fun vv h2 => ∃ ap : Option Addr, ∃ a1 a0 : Nat, vv = (.slice ap a1 a0) ∧ R (.slice ap a1 a0) h2))))) :
  HC Tryz.prog 41 #[(.slice sv a2 a3)] h R := by
 refine hc_of (args := [(.slice sv a2 a3)]) Tryz.func41 rfl Tryz.ntmps41 (Nat.le_of_ble_eq_true rfl) ?_
 refine xs (xr ?_)
 refine lv rfl rfl (va rfl) ?_
 refine ln (qn (xs (xs (xr ?_))))
 refine lv rfl rfl (vm rfl) (lv rfl rfl (v := (.bool sv.isNone)) (hv_sliceNil TyTB.u26 rfl rfl) ?_)
 refine ln (qn ?_)
 refine xc (b := sv.isNone) rfl (fun a4 => ?_) (fun a4 => ?_)
 ·replace H := H.1 a4
  refine xs (xr ?_)
  refine lv rfl rfl (va rfl) ?_
  refine ln (qn (xt (qr ?_)))
  exact endQ_ret _ (res_one Tryz.results41 (rv_tmp rfl)) H
 ·replace H := H.2 a4
  refine xi (qn (xs (xr ?_)))
  refine lp rfl rfl (hn_buildSlice (n := 0) (vs := []) (cs := #[]) TyTB.u26 TyTB.sz3 TyTB.z3 rfl rfl (by kernel_rfl) ?_)
  intro nb h1 a6 a5
  replace H := H nb h1 a6 a5
  have a7 := ext_pushed_f50_sh a5
  refine lv rfl rfl (vm rfl) ?_
  refine lp rfl rfl (hs_append rfl rfl (HAppend.mono H ?_))
  rintro _ h2 ⟨ap, a1, a0, rfl, H⟩
  refine lv rfl rfl (va rfl) ?_
  refine ln (qn (xt ?_))
  exact endQ_ret _ (res_one Tryz.results41 (rv_tmp rfl)) H
theorem f40_sh (sv : Option Addr) (a0 : Nat) (a1 : Nat) (a5 : Value) (h : Heap) (R : Value → Heap → Prop)
  (H : HC Tryz.prog 35 #[(.slice sv a0 a1), a5] h (fun vv h1 => ∃ r : Int, vv = (.int .i64 r) ∧ (((r == (-1)) = true → R (.slice sv a0 a1) h1) ∧ ((r == (-1)) = false → (∃ (I2 : Int → Int → Heap → Prop) (b0 : Int → Int → Heap → Nat), I2 r (IntKind.i64.wrap (r + 1)) h1 ∧ (∀ (i : Int) (j : Int) (h2 : Heap), I2 i j h2 → (((decide (j < (a0 : Int))) = true → (∃ a8 : Int → Heap → Prop, (∃ a3 a2 : Nat, sv = some ⟨a3, a2, none⟩ ∧ (0 : Int) ≤ j ∧ j < (a0 : Int) ∧ (∃ x : Int, hcell h2 a3 (a2 + (Int.toNat j) * 1) = some (.int .i64 x) ∧ HCV Tryz.prog a5 [(.int .i64 x)] h2 (fun vv h4 => ∃ a7 : Bool, vv = (.bool a7) ∧ (((!a7) = true → ((0 : Int) ≤ i ∧ i < (a0 : Int) ∧ (HW h4 a3 (a2 + (Int.toNat i) * 1) ∧ ∀ h5, h5 = hset h4 a3 (a2 + (Int.toNat i) * 1) (.int .i64 x) → (a8 (IntKind.i64.wrap (i + 1)) h5)))) ∧ ((!a7) = false → (a8 i h4)))))) ∧ (∀ (a4 : Int) (h3 : Heap), a8 a4 h3 → (I2 a4 (IntKind.i64.wrap (j + 1)) h3 ∧ b0 a4 (IntKind.i64.wrap (j + 1)) h3 < b0 i j h2)))) ∧ ((decide (j < (a0 : Int))) = false → (0 ≤ (i : Int) ∧ i ≤ (a0 : Int) ∧ (a0 : Int) ≤ (a1 : Int) ∧ ∀ sl : Option Addr, sl = slA sv (Int.toNat i) 1 a1 → (((Int.toNat (a0 : Int) - Int.toNat i) ≠ 0 → ∃ cb co : Nat, sl = some ⟨cb, co, none⟩ ∧ HWs h2 cb co ((Int.toNat (a0 : Int) - Int.toNat i) * 1)) ∧ ∀ h6, ((Int.toNat (a0 : Int) - Int.toNat i) = 0 → h6 = h2) → (∀ cb co : Nat, (Int.toNat (a0 : Int) - Int.toNat i) ≠ 0 → sl = some ⟨cb, co, none⟩ → h6 = hsets h2 cb co (zcells [(.int .i64 0)] (Int.toNat (a0 : Int) - Int.toNat i))) → (0 ≤ ((0 : Int) : Int) ∧ (0 : Int) ≤ i ∧ i ≤ (a1 : Int) ∧ ∀ a6 : Option Addr, a6 = slA sv (Int.toNat 0) 1 a1 → R (.slice a6 (Int.toNat i - Int.toNat 0) (a1 - Int.toNat 0)) h6))))))))))) :
  HC Tryz.prog 40 #[(.slice sv a0 a1), a5] h R := by
 refine hc_of (args := [(.slice sv a0 a1), a5]) Tryz.func40 rfl Tryz.ntmps40 (Nat.le_of_ble_eq_true rfl) ?_
 refine xs (xr ?_)
 refine lv rfl rfl (va rfl) ?_
 refine ln (qn (xs (xr ?_)))
 refine lv rfl rfl (vm rfl) (lv rfl rfl (vm rfl) ?_)
 refine lp rfl rfl (sc TyTB.cb35 rfl (HC.mono H ?_))
 rintro _ h1 ⟨r, rfl, H⟩
 refine lv rfl rfl (va rfl) ?_
 refine ln (qn (xs (xs (xr ?_))))
 refine lv rfl rfl (vm rfl) (lv rfl rfl (vr rfl rfl rfl) ?_)
 refine ln (qn ?_)
 refine xc (b := r == (-1)) rfl (fun b3 => ?_) (fun b3 => ?_)
 ·replace H := H.1 b3
  refine xs (xr ?_)
  refine lv rfl rfl (vm rfl) (lv rfl rfl (va rfl) ?_)
  refine ln (qn (xt (qr ?_)))
  exact endQ_ret _ (res_one Tryz.results40 (rv_tmp rfl)) H
 ·replace H := H.2 b3
  refine xi (qn (xs (xs (xr ?_))))
  refine lv rfl rfl (vm rfl) (lv rfl rfl (vr rfl rfl rfl) (lv rfl rfl (va rfl) ?_))
  refine ln (qn (xb ?_))
  obtain ⟨I2, b0, d4, d5⟩ := H
  refine xl (σ := Int × Int) (fun s => [(0, (.slice sv a0 a1)), (1, a5), (5, (.int .i64 s.1)), (6, (.int .i64 s.2))]) (fun s h' => I2 s.1 s.2 h' ∧ True) (fun s h' => b0 s.1 s.2 h') (r, IntKind.i64.wrap (r + 1)) ⟨d4, trivial⟩ (hc rfl (hc rfl (hc rfl (hc rfl hn)))) ?_
  rintro ⟨i, j⟩ ρ h2 ⟨d2, -⟩
  have H := d5 i j h2 d2
  refine xs (xs (xr ?_))
  refine lv rfl rfl (vm rfl) (lv rfl rfl (vm rfl) (lv rfl rfl (v := (.int .i64 (a0 : Int))) (hv_len (n := a0) TyTB.u26 rfl) (lv rfl rfl (vr rfl rfl rfl) ?_)))
  refine ln (qn ?_)
  refine xc (b := decide (j < (a0 : Int))) rfl (fun b1 => ?_) (fun b1 => ?_)
  ·replace H := H.1 b1
   refine xi (qn ?_)
   obtain ⟨a8, b4, b2⟩ := H
   refine xk (fun ρ h' => ∃ a4 : Int, (a8 a4 h' ∧ True) ∧ Has ρ [(0, (.slice sv a0 a1)), (1, a5), (5, (.int .i64 a4)), (6, (.int .i64 j))]) ?_ ?_
   ·have H := b4; clear b4 b2
    refine xb (xs (xr ?_))
    refine lv rfl rfl (vm rfl) (lv rfl rfl (vm rfl) ?_)
    obtain ⟨a3, a2, d3, d0, c1, Hq⟩ := H
    subst d3
    have H := Hq; clear Hq
    refine lv rfl rfl (v := (ptr a3 (a2 + (Int.toNat j) * 1))) (vi TyTB.el26 rfl rfl d0 c1) ?_
    obtain ⟨x, c9, H⟩ := H
    refine lv rfl rfl (vl TyTB.agg3 rfl c9) (lv rfl rfl (va rfl) ?_)
    refine ln (qn (xs (xr ?_)))
    refine lv rfl rfl (vm rfl) (lv rfl rfl (vm rfl) ?_)
    refine lp rfl rfl (hs_callF (vs := [(.int .i64 x)]) rfl rfl (HCV.mono H ?_))
    rintro _ h4 ⟨a7, rfl, H⟩
    refine lv rfl rfl (v := (.bool (!a7))) (hv_not (b := a7) rfl) ?_
    refine ln (qn ?_)
    refine xc (b := !a7) rfl (fun a9 => ?_) (fun a9 => ?_)
    ·replace H := H.1 a9
     refine xs (xr ?_)
     refine lv rfl rfl (vm rfl) (lv rfl rfl (vm rfl) (lv rfl rfl (vm rfl) ?_))
     obtain ⟨c0, b9, H⟩ := H
     refine lv rfl rfl (v := (ptr a3 (a2 + (Int.toNat i) * 1))) (vi TyTB.el26 rfl rfl c0 b9) ?_
     obtain ⟨c2, H⟩ := H
     refine lp rfl rfl (hn_store (v := (.int .i64 x)) rfl rfl TyTB.sz3 rfl c2 ?_)
     intro h5 b7
     replace H := H h5 b7
     refine ln (qn (xr ?_))
     refine lv rfl rfl (vm rfl) (lv rfl rfl (vr rfl rfl rfl) (lv rfl rfl (va rfl) ?_))
     refine ln (bn (qn ?_))
     exact ⟨_, ⟨H, trivial⟩, (hc rfl (hc rfl (hc rfl (hc rfl hn))))⟩
    ·replace H := H.2 a9
     refine xi (bn (qn ?_))
     exact ⟨_, ⟨H, trivial⟩, (hc rfl (hc rfl (hc rfl (hc rfl hn))))⟩
   ·rintro ρ h3 ⟨a4, ⟨b6, -⟩, hH⟩
    have H := b2 a4 h3 b6; clear b4 b2
    refine xh _ hH ?_
    refine xr ?_
    refine lv rfl rfl (vm rfl) (lv rfl rfl (vr rfl rfl rfl) (lv rfl rfl (va rfl) ?_))
    refine ln (qn ?_)
    exact ⟨(a4, IntKind.i64.wrap (j + 1)), ⟨⟨H.1, trivial⟩, H.2⟩, (hc rfl (hc rfl (hc rfl (hc rfl hn))))⟩
  ·replace H := H.2 b1
   refine xe (qe (qe (bh (qn (xs (xr ?_))))))
   refine lv rfl rfl (vm rfl) (lv rfl rfl (vm rfl) ?_)
   obtain ⟨b5, c5, c4, H⟩ := H
   obtain ⟨sl, hq23⟩ : ∃ q, q = slA sv (Int.toNat i) 1 a1 := ⟨_, rfl⟩
   replace H := H sl hq23
   refine lv rfl rfl (v := (.slice sl (Int.toNat (a0 : Int) - Int.toNat i) (a1 - Int.toNat i))) (hv_slice (l := i) (r := (a0 : Int)) TyTB.u26 TyTB.sz3 rfl (sl_some rfl) sh_none b5 c5 c4 hq23) ?_
   obtain ⟨c8, H⟩ := H
   refine lp rfl rfl (hn_clear2 (zs := [(.int .i64 0)]) TyTB.u26 TyTB.z3 rfl (by decide) rfl rfl c8 ?_)
   intro h6 c6 c3
   replace H := H h6 c6 c3
   refine ln (qn (xs (xr ?_)))
   refine lv rfl rfl (vm rfl) (lv rfl rfl (vm rfl) ?_)
   obtain ⟨c7, d1, b8, H⟩ := H
   obtain ⟨a6, hq30⟩ : ∃ q, q = slA sv (Int.toNat 0) 1 a1 := ⟨_, rfl⟩
   replace H := H a6 hq30
   refine lv rfl rfl (v := (.slice a6 (Int.toNat i - Int.toNat 0) (a1 - Int.toNat 0))) (hv_slice (l := 0) (r := i) TyTB.u26 TyTB.sz3 rfl sl_none (sh_some rfl) c7 d1 b8 hq30) (lv rfl rfl (va rfl) ?_)
   refine ln (qn (xt ?_))
   exact endQ_ret _ (res_one Tryz.results40 (rv_tmp rfl)) H
theorem f47_sh (sv : Option Addr) (a0 : Nat) (a1 : Nat) (f : Value) (h : Heap) (R : Value → Heap → Prop)
  (H : HC Tryz.prog 35 #[(.slice sv a0 a1), f] h (fun vv h1 => ∃ r : Int, vv = (.int .i64 r) ∧ R (.bool (decide (r ≥ 0))) h1)) :
  HC Tryz.prog 47 #[(.slice sv a0 a1), f] h R := by
 refine hc_of (args := [(.slice sv a0 a1), f]) Tryz.func47 rfl Tryz.ntmps47 (Nat.le_of_ble_eq_true rfl) ?_
 refine xs (xr ?_)
 refine lv rfl rfl (va rfl) ?_
 refine ln (qn (xs (xr ?_)))
 refine lv rfl rfl (vm rfl) (lv rfl rfl (vm rfl) ?_)
 refine lp rfl rfl (sc TyTB.cb35 rfl (HC.mono H ?_))
 rintro _ h1 ⟨r, rfl, H⟩
 refine lv rfl rfl (vr rfl rfl rfl) (lv rfl rfl (va rfl) ?_)
 refine ln (qn (xt ?_))
 exact endQ_ret _ (res_one Tryz.results47 (rv_tmp rfl)) H
theorem f35_sh (sv : Option Addr) (a0 : Nat) (a3 : Nat) (f : Value) (h : Heap) (R : Value → Heap → Prop)
  (H : (∃ (I1 : Int → Heap → Prop) (a5 : Int → Heap → Nat), I1 0 h ∧ (∀ (v : Int) (h1 : Heap), I1 v h1 → (((decide (v < (a0 : Int))) = true → (∃ a2 a1 : Nat, sv = some ⟨a2, a1, none⟩ ∧ (0 : Int) ≤ v ∧ v < (a0 : Int) ∧ (∃ x : Int, hcell h1 a2 (a1 + (Int.toNat v) * 1) = some (.int .i64 x) ∧ HCV Tryz.prog f [(.int .i64 x)] h1 (fun vv h2 => ∃ r : Bool, vv = (.bool r) ∧ ((r = true → R (.int .i64 v) h2) ∧ (r = false → (I1 (IntKind.i64.wrap (v + 1)) h2 ∧ a5 (IntKind.i64.wrap (v + 1)) h2 < a5 v h1))))))) ∧ ((decide (v < (a0 : Int))) = false → R (.int .i64 (-1)) h1))))) :
  HC Tryz.prog 35 #[(.slice sv a0 a3), f] h R := by
 refine hc_of (args := [(.slice sv a0 a3), f]) Tryz.func35 rfl Tryz.ntmps35 (Nat.le_of_ble_eq_true rfl) ?_
 refine xs (xr ?_)
 refine lv rfl rfl (va rfl) ?_
 refine ln (qn (xs (xs (xr ?_))))
 refine lv rfl rfl (vm rfl) (lv rfl rfl (v := (.int .i64 (a0 : Int))) (hv_len (n := a0) TyTB.u26 rfl) (lv rfl rfl (vm rfl) ?_))
 refine ln (qn (xb ?_))
 obtain ⟨I1, a5, b2, b0⟩ := H
 refine xl (σ := Int) (fun s => [(0, (.slice sv a0 a3)), (1, f), (7, (.int .i64 (a0 : Int))), (8, (.int .i64 s))]) (fun s h' => I1 s h' ∧ True) (fun s h' => a5 s h') 0 ⟨b2, trivial⟩ (hc rfl (hc rfl (hc rfl (hc rfl hn)))) ?_
 rintro v ρ h1 ⟨a8, -⟩
 have H := b0 v h1 a8
 refine xs (xr ?_)
 refine lv rfl rfl (vr rfl rfl rfl) ?_
 refine ln (qn (xs ?_))
 refine xc (b := decide (v < (a0 : Int))) rfl (fun a6 => ?_) (fun a6 => ?_)
 ·replace H := H.1 a6
  refine xi (qn (xs (xb (xs (xr ?_)))))
  refine lv rfl rfl (vm rfl) (lv rfl rfl (va rfl) ?_)
  refine ln (qn (xs (xr ?_)))
  refine lv rfl rfl (vm rfl) (lv rfl rfl (vm rfl) (lv rfl rfl (vm rfl) ?_))
  obtain ⟨a2, a1, a9, b3, b1, Hq⟩ := H
  subst a9
  have H := Hq; clear Hq
  refine lv rfl rfl (v := (ptr a2 (a1 + (Int.toNat v) * 1))) (vi TyTB.el26 rfl rfl b3 b1) ?_
  obtain ⟨x, a7, H⟩ := H
  refine lv rfl rfl (vl TyTB.agg3 rfl a7) ?_
  refine lp rfl rfl (hs_callF (vs := [(.int .i64 x)]) rfl rfl (HCV.mono H ?_))
  rintro _ h2 ⟨r, rfl, H⟩
  refine ln (qn ?_)
  refine xc (b := r) rfl (fun a4 => ?_) (fun a4 => ?_)
  ·replace H := H.1 a4
   refine xs (xr ?_)
   refine lv rfl rfl (vm rfl) (lv rfl rfl (va rfl) ?_)
   refine ln (qn (xt (br (qr (qr (br (qr ?_)))))))
   exact endQ_ret _ (res_one Tryz.results35 (rv_tmp rfl)) H
  ·replace H := H.2 a4
   refine xi (bn (qn (xr ?_)))
   refine lv rfl rfl (vr rfl rfl rfl) (lv rfl rfl (vm rfl) ?_)
   refine ln (qn ?_)
   exact ⟨IntKind.i64.wrap (v + 1), ⟨⟨H.1, trivial⟩, H.2⟩, (hc rfl (hc rfl (hc rfl (hc rfl hn))))⟩
 ·replace H := H.2 a6
  refine xe (qe (qe (bh (qn (xs (xr ?_))))))
  refine lv rfl rfl (va rfl) ?_
  refine ln (qn (xt ?_))
  exact endQ_ret _ (res_one Tryz.results35 (rv_tmp rfl)) H
theorem f62_sh (sv : Option Addr) (a1 : Nat) (a4 : Nat) (v : Int) (h : Heap) (R : Value → Heap → Prop)
  (H : (∃ (I1 : Int → Prop) (a6 : Int → Nat), I1 0 ∧ (∀ (a0 : Int), I1 a0 → (((decide (a0 < (a1 : Int))) = true → (∃ a3 a2 : Nat, sv = some ⟨a3, a2, none⟩ ∧ (0 : Int) ≤ a0 ∧ a0 < (a1 : Int) ∧ (∃ x : Int, hcell h a3 (a2 + (Int.toNat a0) * 1) = some (.int .i64 x) ∧ (((v == x) = true → R (.int .i64 a0) h) ∧ ((v == x) = false → (I1 (IntKind.i64.wrap (a0 + 1)) ∧ a6 (IntKind.i64.wrap (a0 + 1)) < a6 a0)))))) ∧ ((decide (a0 < (a1 : Int))) = false → R (.int .i64 (-1)) h))))) :
  HC Tryz.prog 62 #[(.slice sv a1 a4), (.int .i64 v)] h R := by
 refine hc_of (args := [(.slice sv a1 a4), (.int .i64 v)]) Tryz.func62 rfl Tryz.ntmps62 (Nat.le_of_ble_eq_true rfl) ?_
 refine xs (xr ?_)
 refine lv rfl rfl (va rfl) ?_
 refine ln (qn (xs (xs (xr ?_))))
 refine lv rfl rfl (vm rfl) (lv rfl rfl (v := (.int .i64 (a1 : Int))) (hv_len (n := a1) TyTB.u26 rfl) (lv rfl rfl (vm rfl) ?_))
 refine ln (qn (xb ?_))
 obtain ⟨I1, a6, b3, b1⟩ := H
 refine xl (σ := Int) (fun s => [(0, (.slice sv a1 a4)), (1, (.int .i64 v)), (7, (.int .i64 (a1 : Int))), (8, (.int .i64 s))]) (fun s h' => I1 s ∧ h = h') (fun s _ => a6 s) 0 ⟨b3, rfl⟩ (hc rfl (hc rfl (hc rfl (hc rfl hn)))) ?_
 rintro a0 ρ _ ⟨a9, rfl⟩
 have H := b1 a0 a9
 refine xs (xr ?_)
 refine lv rfl rfl (vr rfl rfl rfl) ?_
 refine ln (qn (xs ?_))
 refine xc (b := decide (a0 < (a1 : Int))) rfl (fun a7 => ?_) (fun a7 => ?_)
 ·replace H := H.1 a7
  refine xi (qn (xs (xb (xs (xr ?_)))))
  refine lv rfl rfl (vm rfl) (lv rfl rfl (va rfl) ?_)
  refine ln (qn (xs (xr ?_)))
  refine lv rfl rfl (vm rfl) (lv rfl rfl (vm rfl) (lv rfl rfl (vm rfl) ?_))
  obtain ⟨a3, a2, b0, b4, b2, Hq⟩ := H
  subst b0
  have H := Hq; clear Hq
  refine lv rfl rfl (v := (ptr a3 (a2 + (Int.toNat a0) * 1))) (vi TyTB.el26 rfl rfl b4 b2) ?_
  obtain ⟨x, a8, H⟩ := H
  refine lv rfl rfl (vl TyTB.agg3 rfl a8) (lv rfl rfl (vr rfl rfl rfl) ?_)
  refine ln (qn ?_)
  refine xc (b := v == x) rfl (fun a5 => ?_) (fun a5 => ?_)
  ·replace H := H.1 a5
   refine xs (xr ?_)
   refine lv rfl rfl (vm rfl) (lv rfl rfl (va rfl) ?_)
   refine ln (qn (xt (br (qr (qr (br (qr ?_)))))))
   exact endQ_ret _ (res_one Tryz.results62 (rv_tmp rfl)) H
  ·replace H := H.2 a5
   refine xi (bn (qn (xr ?_)))
   refine lv rfl rfl (vr rfl rfl rfl) (lv rfl rfl (vm rfl) ?_)
   refine ln (qn ?_)
   exact ⟨IntKind.i64.wrap (a0 + 1), ⟨⟨H.1, rfl⟩, H.2⟩, (hc rfl (hc rfl (hc rfl (hc rfl hn))))⟩
 ·replace H := H.2 a7
  refine xe (qe (qe (bh (qn (xs (xr ?_))))))
  refine lv rfl rfl (va rfl) ?_
  refine ln (qn (xt ?_))
  exact endQ_ret _ (res_one Tryz.results62 (rv_tmp rfl)) H
theorem f50_sh (sv : Option Addr) (a0 : Nat) (a2 : Nat) (i : Int) (j : Int) (h : Heap) (R : Value → Heap → Prop)
  (H : (0 ≤ (i : Int) ∧ i ≤ j ∧ j ≤ (a0 : Int) ∧ (a0 : Int) ≤ (a2 : Int) ∧ ∀ sl : Option Addr, sl = slA sv (Int.toNat i) 1 (Int.toNat (a0 : Int)) → (((i == j) = true → R (.slice sv a0 a2) h) ∧ ((i == j) = false → (0 ≤ ((0 : Int) : Int) ∧ (0 : Int) ≤ i ∧ i ≤ (a2 : Int) ∧ ∀ a5 : Option Addr, a5 = slA sv (Int.toNat 0) 1 a2 → (0 ≤ (j : Int) ∧ j ≤ (a0 : Int) ∧ (a0 : Int) ≤ (a2 : Int) ∧ ∀ a6 : Option Addr, a6 = slA sv (Int.toNat j) 1 a2 → HAppend Tryz.prog 26 26 (.slice a5 (Int.toNat i - Int.toNat 0) (a2 - Int.toNat 0)) (.slice a6 (Int.toNat (a0 : Int) - Int.toNat j) (a2 - Int.toNat j)) h (fun vv h1 => ∃ ap : Option Addr, ∃ a1 a3 : Nat, vv = (.slice ap a1 a3) ∧ (0 ≤ ((a1 : Int) : Int) ∧ (a1 : Int) ≤ (a0 : Int) ∧ (a0 : Int) ≤ (a3 : Int) ∧ ∀ a4 : Option Addr, a4 = slA ap (Int.toNat (a1 : Int)) 1 a3 → (((Int.toNat (a0 : Int) - Int.toNat (a1 : Int)) ≠ 0 → ∃ cb co : Nat, a4 = some ⟨cb, co, none⟩ ∧ HWs h1 cb co ((Int.toNat (a0 : Int) - Int.toNat (a1 : Int)) * 1)) ∧ ∀ h2, ((Int.toNat (a0 : Int) - Int.toNat (a1 : Int)) = 0 → h2 = h1) → (∀ cb co : Nat, (Int.toNat (a0 : Int) - Int.toNat (a1 : Int)) ≠ 0 → a4 = some ⟨cb, co, none⟩ → h2 = hsets h1 cb co (zcells [(.int .i64 0)] (Int.toNat (a0 : Int) - Int.toNat (a1 : Int)))) → R (.slice ap a1 a3) h2))))))))) :
  HC Tryz.prog 50 #[(.slice sv a0 a2), (.int .i64 i), (.int .i64 j)] h R := by
 refine hc_of (args := [(.slice sv a0 a2), (.int .i64 i), (.int .i64 j)]) Tryz.func50 rfl Tryz.ntmps50 (Nat.le_of_ble_eq_true rfl) ?_
 refine xs (xr ?_)
 refine lv rfl rfl (va rfl) ?_
 refine ln (qn (xs (xr ?_)))
 refine lv rfl rfl (vm rfl) (lv rfl rfl (vm rfl) (lv rfl rfl (vm rfl) (lv rfl rfl (vm rfl) (lv rfl rfl (v := (.int .i64 (a0 : Int))) (hv_len (n := a0) TyTB.u26 rfl) ?_))))
 obtain ⟨c3, b9, c0, c2, H⟩ := H
 obtain ⟨sl, hq5⟩ : ∃ q, q = slA sv (Int.toNat i) 1 (Int.toNat (a0 : Int)) := ⟨_, rfl⟩
 replace H := H sl hq5
 refine lv rfl rfl (v := (.slice sl (Int.toNat j - Int.toNat i) (Int.toNat (a0 : Int) - Int.toNat i))) (hv_slice3 (l := i) (r := j) (mx := (a0 : Int)) TyTB.u26 TyTB.sz3 rfl rfl rfl rfl c3 b9 c0 c2 hq5) ?_
 refine ln (qn (xs (xs (xr ?_))))
 refine lv rfl rfl (vm rfl) (lv rfl rfl (vm rfl) (lv rfl rfl (vr rfl rfl rfl) ?_))
 refine ln (qn ?_)
 refine xc (b := i == j) rfl (fun a7 => ?_) (fun a7 => ?_)
 ·replace H := H.1 a7
  refine xs (xr ?_)
  refine lv rfl rfl (vm rfl) (lv rfl rfl (va rfl) ?_)
  refine ln (qn (xt (qr ?_)))
  exact endQ_ret _ (res_one Tryz.results50 (rv_tmp rfl)) H
 ·replace H := H.2 a7
  refine xi (qn (xs (xr ?_)))
  refine lv rfl rfl (vm rfl) (lv rfl rfl (v := (.int .i64 (a0 : Int))) (hv_len (n := a0) TyTB.u26 rfl) (lv rfl rfl (va rfl) ?_))
  refine ln (qn (xs ?_))
  refine hx_draw TyTB.mixed [.pure, .pure, .pure, .pure, .pure, .pure, .wild, .pure] [0, 1, 2, 3, 4, 5, 6, 7] (by kernel_rfl) ?_
  refine pp (i := 0) rfl (wanted_0 rfl) rfl (.slice sv a0 a2) (fun _ => vm rfl) ?_
  refine pp (i := 1) rfl (wanted_0 rfl) rfl (.int .i64 i) (fun _ => vm rfl) ?_
  obtain ⟨b8, b7, c1, H⟩ := H
  obtain ⟨a5, hq10⟩ : ∃ q, q = slA sv (Int.toNat 0) 1 a2 := ⟨_, rfl⟩
  replace H := H a5 hq10
  refine pp (i := 2) rfl (wanted_0 rfl) rfl (.slice a5 (Int.toNat i - Int.toNat 0) (a2 - Int.toNat 0)) (fun _ => hv_slice (l := 0) (r := i) TyTB.u26 TyTB.sz3 rfl sl_none (sh_some rfl) b8 b7 c1 hq10) ?_
  refine pp (i := 3) rfl (wanted_0 rfl) rfl (.slice sv a0 a2) (fun _ => vm rfl) ?_
  refine pp (i := 4) rfl (wanted_0 rfl) rfl (.int .i64 j) (fun _ => vm rfl) ?_
  obtain ⟨b6, a9, b1, H⟩ := H
  obtain ⟨a6, hq14⟩ : ∃ q, q = slA sv (Int.toNat j) 1 a2 := ⟨_, rfl⟩
  replace H := H a6 hq14
  refine pp (i := 5) rfl (wanted_0 rfl) rfl (.slice a6 (Int.toNat (a0 : Int) - Int.toNat j) (a2 - Int.toNat j)) (fun _ => hv_slice (l := j) (r := (a0 : Int)) TyTB.u26 TyTB.sz3 rfl (sl_some rfl) sh_none b6 a9 b1 hq14) ?_
  refine hp_wild (i := 6) rfl (wanted_0 rfl) rfl (hs_append rfl rfl (HAppend.mono H ?_))
  rintro _ h1 ⟨ap, a1, a3, rfl, H⟩
  refine pp (i := 7) rfl (wanted_0 rfl) rfl (.slice ap a1 a3) (fun _ => va rfl) ?_
  refine hp_nil ?_
  refine qn (xs (xr ?_))
  refine lv rfl rfl (vm rfl) (lv rfl rfl (vm rfl) (lv rfl rfl (v := (.int .i64 (a1 : Int))) (hv_len (n := a1) TyTB.u26 rfl) (lv rfl rfl (vm rfl) ?_)))
  obtain ⟨b5, b4, a8, H⟩ := H
  obtain ⟨a4, hq18⟩ : ∃ q, q = slA ap (Int.toNat (a1 : Int)) 1 a3 := ⟨_, rfl⟩
  replace H := H a4 hq18
  refine lv rfl rfl (v := (.slice a4 (Int.toNat (a0 : Int) - Int.toNat (a1 : Int)) (a3 - Int.toNat (a1 : Int)))) (hv_slice (l := (a1 : Int)) (r := (a0 : Int)) TyTB.u26 TyTB.sz3 rfl (sl_some rfl) (sh_some rfl) b5 b4 a8 hq18) ?_
  obtain ⟨b0, H⟩ := H
  refine lp rfl rfl (hn_clear2 (zs := [(.int .i64 0)]) TyTB.u26 TyTB.z3 rfl (by decide) rfl rfl b0 ?_)
  intro h2 b2 b3
  replace H := H h2 b2 b3
  refine ln (qn (xs (xr ?_)))
  refine lv rfl rfl (vm rfl) (lv rfl rfl (va rfl) ?_)
  refine ln (qn (xt ?_))
  exact endQ_ret _ (res_one Tryz.results50 (rv_tmp rfl)) H
end Go.Proofs.YtfjcciaabkjkgaaGreatDoor
