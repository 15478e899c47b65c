import Derived.WalkKit
import Derived.ProofKit
import Derived.OpenShut
import Derived.ShutString
import Derived.ChangeOld
import Derived.Below
import Derived.Carry
import Derived.Deep.Slices
import Derived.Deep.Fields
import Derived.Test.YtfjcciaabkjkgaaGreatDoorProg
import Derived.Test.YtfjcciaabkjkgaaGreatDoorPy1
namespace Go.Proofs.YtfjcciaabkjkgaaGreatDoor
open Go
abbrev Str := ByteArray
def slt (a b : Str) : Bool := decide (a.data.toList < b.data.toList)
theorem ba_ext {a b : ByteArray} (h : a.data.toList = b.data.toList) : a = b := by
  rcases a with ⟨⟨a⟩⟩; rcases b with ⟨⟨b⟩⟩; simp at h; subst h; rfl
theorem slt_irrefl (a : Str) : slt a a = false := by simp [slt]
theorem slt_trans {a b c : Str} (h1 : slt a b = true) (h2 : slt b c = true) : slt a c = true := by
  simp only [slt, decide_eq_true_eq] at *; exact List.lt_trans h1 h2
theorem slt_total {a b : Str} (h1 : slt a b = false) (h2 : slt b a = false) : a = b := by
  simp only [slt, decide_eq_false_iff_not, List.not_lt] at *
  exact ba_ext (List.le_antisymm h2 h1)
theorem slt_asymm {a b : Str} (h : slt a b = true) : slt b a = false := by
  cases e : slt b a with
  | false => rfl
  | true => have := slt_trans h e; rw [slt_irrefl] at this; cases this
theorem slt_or {a b : Str} (h : slt a b = false) : a = b ∨ slt b a = true := by
  cases e : slt b a with
  | true => exact .inr rfl
  | false => exact .inl (slt_total h e)
def scmp (a b : Str) : Int := if slt a b then -1 else if slt b a then 1 else 0
theorem bless_eq : ∀ (x y : List UInt8), Op.bytesLess x y = decide (x < y)
  | [], [] => by simp [Op.bytesLess]
  | _ :: _, [] => by simp [Op.bytesLess]
  | [], _ :: _ => by simp [Op.bytesLess]
  | a :: x, b :: y => by
    rw [Op.bytesLess, bless_eq x y]
    simp only [List.cons_lt_cons_iff]
    by_cases h1 : a < b <;> by_cases h2 : a = b <;> by_cases h3 : x < y <;> simp [h1, h2, h3]
def strV : BinOp → Str → Str → Option Value
  | .eql, a, b => some (.bool (decide (a = b)))
  | .neq, a, b => some (.bool (!decide (a = b)))
  | .lss, a, b => some (.bool (slt a b))
  | .leq, a, b => some (.bool (!slt b a))
  | .gtr, a, b => some (.bool (slt b a))
  | .geq, a, b => some (.bool (!slt a b))
  | _, _, _ => none
theorem str_eql (a b : Str) : (a.toList == b.toList) = decide (a = b) := by
  rw [ByteArray.toList_eq, ByteArray.toList_eq, Bool.eq_iff_iff]
  simp only [beq_iff_eq, decide_eq_true_eq]
  exact ⟨ba_ext, fun e => by rw [e]⟩
theorem str_lss (a b : Str) : Op.bytesLess a.toList b.toList = slt a b := by rw [bless_eq, ByteArray.toList_eq, ByteArray.toList_eq]; rfl
theorem str_leq (a b : Str) : (slt a b || decide (a = b)) = !slt b a := by
  cases e : slt b a with
  | true => rw [slt_asymm e]; simp; intro h; subst h; rw [slt_irrefl] at e; cases e
  | false => rcases slt_or e with h | h
             · subst h; simp
             · rw [h]; rfl
section
variable {P : Program} {ρ : Regs} {h : Heap} {d : Option Nat} {ty : TypeId} {p : String} {af : Array Edge} {g : Option (Nat × Bool)}
theorem hv_str {op : BinOp} {t t' : TypeId} {x y : Operand} {a b : Str} {v : Value} (hx : ev ρ x = .string a) (hy : ev ρ y = .string b) (hv : strV op a b = some v) : HVal P ρ ⟨d, .binOp op t x y t', ty, p, af, g⟩ h v :=
  hv_of fun w _ => by
    have key : ∀ r : Bool, v = .bool r → binOp op t (.string a) (.string b) = pure (.bool r) → (execOp (ev ρ) ⟨d, .binOp op t x y t', ty, p, af, g⟩).run P w = .ok (.value v) w := by
      intro r e1 e2
      subst e1
      simp [execOp, hx, hy, go_sem, eqGuard, e2]
    cases op <;> simp only [strV, Option.some.injEq, reduceCtorEq] at hv
    · exact key _ hv.symm (by simp only [binOp, Op.stringOp, str_eql])
    · exact key _ hv.symm (by simp only [binOp, Op.stringOp, str_eql])
    · exact key _ hv.symm (by simp only [binOp, Op.stringOp, str_lss])
    · exact key _ hv.symm (by simp only [binOp, Op.stringOp, str_lss, str_eql, str_leq])
    · exact key _ hv.symm (by simp only [binOp, Op.stringOp, str_lss, str_eql, str_leq, Bool.not_not])
    · exact key _ hv.symm (by simp only [binOp, Op.stringOp, str_lss])
theorem hv_strAdd {t t' : TypeId} {x y : Operand} {a b : Str} (hx : ev ρ x = .string a) (hy : ev ρ y = .string b) (hs : a.size + b.size ≤ 9223372036854775807) : HVal P ρ ⟨d, .binOp .add t x y t', ty, p, af, g⟩ h (.string (a ++ b)) :=
  hv_of fun w _ => by
    have hn : (a.size : Int) + b.size ≤ 9223372036854775807 := by omega
    simp [execOp, hx, hy, eqGuard, binOp, Op.stringOp, go_sem]
    exact hn
end
end Go.Proofs.YtfjcciaabkjkgaaGreatDoor
namespace Go.Proofs.YtfjcciaabkjkgaaGreatDoor
open Go Go.ChangeShapes Go.WideShapes Go.Deep
section
variable {H : Type} {enc : TypeId × Value → H} {W : World} {P : Program}
theorem hcell_of {a : Addr} {v : Value} (h : W.cell? a = some v) : a.spot = none ∧ hcell W.heap a.block a.off = some v := by
  unfold World.cell? at h
  unfold hcell
  split at h
  · rename_i hb
    rw [hb]
    split at h
    · cases h
    · rename_i hs
      exact ⟨by simpa using hs, h⟩
  · cases h
theorem add_spot (a : Addr) (n : Nat) (h : a.spot = none) : (a.add n).spot = none ∧ (a.add n).block = a.block ∧ (a.add n).off = a.off + n := by
  unfold Addr.add
  by_cases hn : n = 0
  · subst hn; exact ⟨h, rfl, rfl⟩
  · rw [if_neg hn]; exact ⟨rfl, rfl, rfl⟩
theorem open_list {α : Type} [Inhabited α] (E : Elt α) {e t : TypeId} (ht : P.underlying t = some (.slice e)) (hc : P.cellsOf e = E.k) (hk : 0 < E.k) (good : α → DataW H → Prop)
    (each : ∀ fuel cs (x : DataW H × List MemPlace), DataW.trod enc P W 0 (fun _ => true) true fuel e cs = some x → ∃ y : α, cs = E.enc y ∧ good y x.1)
    {fuel : Nat} {a0 : Option Addr} {len cap : Nat} {x : DataW H × List MemPlace} (h : DataW.trod enc P W 0 (fun _ => true) true fuel t [.slice a0 len cap] = some x) :
    len ≤ cap ∧ cap ≤ maxLen ∧ ∃ L : List α, L.length = len ∧ Sl E W.heap a0 cap L ∧ (len = 0 ∨ ∃ es sp, x.1 = .slice es sp ∧ es.length = len ∧ ∀ (i : Nat) y z, L[i]? = some y → es[i]? = some z → good y z) := by
  rcases open_slice ht h with ⟨hcs, _⟩ | ⟨a, len', cap', m, n, D, Pl, hcs, _, hl, hm, hmm, hx, hx'⟩
  · simp at hcs
    obtain ⟨rfl, rfl, rfl⟩ := hcs
    exact ⟨Nat.le_refl _, Nat.zero_le _, [], rfl, Sl.nil _ _, .inl rfl⟩
  · simp at hcs
    obtain ⟨rfl, rfl, rfl⟩ := hcs
    have hmc : m = cap := by simpa using hmm
    subst hmc
    have each' : ∀ i, ∃ q : α, i < m → good q (D i) ∧ ∀ j u, (E.enc q)[j]? = some u → W.cell? (a.add (i * E.k + j)) = some u := by
      intro i
      by_cases hi : i < m
      · obtain ⟨cs', h1, h2⟩ := hx' i hi
        obtain ⟨y, rfl, hg⟩ := each _ _ _ h2
        refine ⟨y, fun _ => ⟨hg, fun j u hj => ?_⟩⟩
        rw [hc] at h1
        obtain ⟨_, _, hcell⟩ := World.cells?_some h1
        have hjk : j < E.k := by have := (List.getElem?_eq_some_iff.1 hj).1; rw [E.len] at this; exact this
        have := hcell j hjk
        rw [Go.Deep.add_add] at this
        rw [this]; exact hj
      · exact ⟨default, fun h => absurd h hi⟩
    refine ⟨hl, hm, (List.range len).map fun i => Classical.choose (each' i), by simp, ⟨by simpa using hl, ?_⟩, .inr ⟨_, _, by rw [hx], by simp, fun i y z hy hz => ?_⟩⟩
    · rcases Nat.eq_zero_or_pos m with h0 | hpos
      · exact .inl h0
      · right
        have all := fun i => Classical.choose_spec (each' i)
        have sp : a.spot = none := by
          have h0 : 0 < (E.enc (Classical.choose (each' 0))).length := by rw [E.len]; exact hk
          have := (all 0 hpos).2 0 _ (List.getElem?_eq_getElem h0)
          have h1 := (hcell_of this).1
          simpa [Addr.add] using h1
        refine ⟨a.block, a.off, by rw [← sp], fun i x hx => HCells.mk fun j v hj => ?_⟩
        rw [List.getElem?_map] at hx
        cases hr : (List.range len)[i]? with
        | none => rw [hr] at hx; cases hx
        | some i' =>
          rw [hr] at hx
          simp only [Option.map_some, Option.some.injEq] at hx
          obtain ⟨hi, he⟩ := List.getElem?_eq_some_iff.1 hr
          have hi' : i' = i := by simpa using he.symm
          subst hi'
          subst hx
          have hil : i' < len := by simpa using hi
          have h1 := (hcell_of ((all i' (by omega)).2 j v hj)).2
          rw [(add_spot a _ sp).2.1, (add_spot a _ sp).2.2, ← Nat.add_assoc] at h1
          exact h1
    · rw [List.getElem?_map] at hy hz
      cases hr : (List.range len)[i]? with
      | none => rw [hr] at hy; cases hy
      | some i' =>
        rw [hr] at hy hz
        simp only [Option.map_some, Option.some.injEq] at hy hz
        obtain ⟨hi, he⟩ := List.getElem?_eq_some_iff.1 hr
        have hi' : i' = i := by simpa using he.symm
        subst hi'
        subst hy; subst hz
        have hil : i' < len := by simpa using hi
        exact ((Classical.choose_spec (each' i')) (by omega)).1
theorem open_listT {α : Type} [Inhabited α] (E : Elt α) {e t : TypeId} (ht : P.underlying t = some (.slice e)) (hc : P.cellsOf e = E.k) (hk : 0 < E.k) (good : α → DataW H → Prop)
    (each : ∀ fuel cs (x : DataW H × List MemPlace), DataW.trod enc P W 0 (fun _ => true) true fuel e cs = some x → ∃ y : α, cs = E.enc y ∧ good y x.1)
    {a0 : Option Addr} {len cap : Nat} {d : DataW H} {p : List MemPlace} (h : DataW.Trod enc P W 0 (fun _ => true) true t (.slice a0 len cap) d p) :
    len ≤ cap ∧ cap ≤ maxLen ∧ ∃ L : List α, L.length = len ∧ Sl E W.heap a0 cap L ∧ (len = 0 ∨ ∃ es sp, d = .slice es sp ∧ es.length = len ∧ ∀ (i : Nat) y z, L[i]? = some y → es[i]? = some z → good y z) := by
  obtain ⟨fuel, h⟩ := h
  exact open_list E ht hc hk good each (x := (d, p)) h
theorem below_of {w w' : World} (hs : Sim w w') (he : Ext w.heap w'.heap) : RowKit.Below w.heap.size w w' := ⟨hs.os, hs.tape, hs.output, he.size, fun k hk => he.block k hk⟩
end
end Go.Proofs.YtfjcciaabkjkgaaGreatDoor
namespace Go.Proofs.YtfjcciaabkjkgaaGreatDoor
namespace Ml
structure Mt where
  has : Bool
  val : Str
  deriving DecidableEq
structure Mv where
  kind : Int
  key : Str
  val : Str
  err : Int
  hit : Bool
  life : Int
  fr : Int
  to : Int
  deriving DecidableEq
def nil : Mt := ⟨false, ByteArray.empty⟩
def mlt (a b : Mt) : Bool := if a.has = b.has then slt a.val b.val else b.has
theorem mlt_irrefl (a : Mt) : mlt a a = false := by simp [mlt, slt_irrefl]
theorem mlt_trans {a b c : Mt} (h1 : mlt a b = true) (h2 : mlt b c = true) : mlt a c = true := by
  unfold mlt at *
  obtain ⟨a1, a2⟩ := a; obtain ⟨b1, b2⟩ := b; obtain ⟨c1, c2⟩ := c
  simp only at *
  cases a1 <;> cases b1 <;> cases c1 <;> simp at h1 h2 ⊢ <;> first | exact slt_trans h1 h2 | exact h1 | exact h2
theorem mlt_total {a b : Mt} (h1 : mlt a b = false) (h2 : mlt b a = false) : a = b := by
  unfold mlt at *
  obtain ⟨a1, a2⟩ := a; obtain ⟨b1, b2⟩ := b
  simp only at *
  cases a1 <;> cases b1 <;> simp at h1 h2 ⊢ <;> exact slt_total h1 h2
def Srt (l : List Mt) : Prop := l.Pairwise fun a b => mlt a b = true
theorem srt_unique : ∀ {l l' : List Mt}, Srt l → Srt l' → (∀ x, x ∈ l ↔ x ∈ l') → l = l'
  | [], [], _, _, _ => rfl
  | [], y :: _, _, _, h => by have := (h y).2 (by simp); cases this
  | x :: _, [], _, _, h => by have := (h x).1 (by simp); cases this
  | x :: l, y :: l', s, s', h => by
    obtain ⟨h1, s1⟩ := List.pairwise_cons.1 s
    obtain ⟨h2, s2⟩ := List.pairwise_cons.1 s'
    have exy : x = y := by
      rcases List.mem_cons.1 ((h x).1 (by simp)) with e | hx
      · exact e
      · rcases List.mem_cons.1 ((h y).2 (by simp)) with e | hy
        · exact e.symm
        · have := mlt_trans (h1 y hy) (h2 x hx); rw [mlt_irrefl] at this; cases this
    subst exy
    congr 1
    refine srt_unique s1 s2 fun z => ⟨fun hz => ?_, fun hz => ?_⟩
    · rcases List.mem_cons.1 ((h z).1 (by simp [hz])) with e | hz'
      · subst e; have := h1 z hz; rw [mlt_irrefl] at this; cases this
      · exact hz'
    · rcases List.mem_cons.1 ((h z).2 (by simp [hz])) with e | hz'
      · subst e; have := h2 z hz; rw [mlt_irrefl] at this; cases this
      · exact hz'
theorem Srt.nodup {l : List Mt} (s : Srt l) : l.Nodup := s.imp fun {a b} h e => by subst e; rw [mlt_irrefl] at h; cases h
def insW : List Mt → Mt → List Mt
  | [], m => [m]
  | x :: l, m => if mlt x m then x :: insW l m else if x = m then x :: l else m :: x :: l
theorem insW_mem : ∀ (l : List Mt) (m x : Mt), x ∈ insW l m ↔ x = m ∨ x ∈ l
  | [], m, x => by simp [insW]
  | y :: l, m, x => by
    unfold insW
    split
    · rw [List.mem_cons, insW_mem l m x, List.mem_cons]
      constructor
      · rintro (h | h | h)
        · exact .inr (.inl h)
        · exact .inl h
        · exact .inr (.inr h)
      · rintro (h | h | h)
        · exact .inr (.inl h)
        · exact .inl h
        · exact .inr (.inr h)
    · split
      · rename_i e; subst e; simp
      · simp
theorem insW_srt : ∀ (l : List Mt) (m : Mt), Srt l → Srt (insW l m)
  | [], m, _ => by simp [insW, Srt]
  | y :: l, m, s => by
    obtain ⟨h1, s1⟩ := List.pairwise_cons.1 s
    unfold insW
    split
    · rename_i hy
      refine List.pairwise_cons.2 ⟨fun x hx => ?_, insW_srt l m s1⟩
      rcases (insW_mem l m x).1 hx with e | hx
      · subst e; exact hy
      · exact h1 x hx
    · rename_i hy
      split
      · exact s
      · rename_i hne
        have hy' : mlt y m = false := by simpa using hy
        have hmy : mlt m y = true := by
          cases e : mlt m y with
          | true => rfl
          | false => exact absurd (mlt_total hy' e) hne
        refine List.pairwise_cons.2 ⟨fun x hx => ?_, s⟩
        rcases List.mem_cons.1 hx with e | hx
        · subst e; exact hmy
        · exact mlt_trans hmy (h1 x hx)
theorem insW_len : ∀ (l : List Mt) (m : Mt), (insW l m).length ≤ l.length + 1
  | [], m => by simp [insW]
  | y :: l, m => by
    unfold insW
    split
    · have := insW_len l m; simp; omega
    · split <;> simp
def norm (m : Mt) : Mt := ⟨m.has, bif !m.has then ByteArray.empty else m.val⟩
theorem norm_id {m : Mt} (h : m.has = false → m.val = ByteArray.empty) : norm m = m := by
  obtain ⟨b, v⟩ := m
  cases b
  · simp only [norm, Bool.not_false, cond_true] at *; rw [h trivial]
  · rfl
theorem insW_at : ∀ (L : List Mt) (m : Mt) (j : Nat), j ≤ L.length → (∀ i x, i < j → L[i]? = some x → mlt x m = true) → (∀ y, L[j]? = some y → mlt y m = false) → insW L m = if L[j]? = some m then L else L.take j ++ m :: L.drop j
  | [], m, j, hj, _, _ => by have : j = 0 := by simpa using hj
                             subst this; simp [insW]
  | x :: L, m, 0, _, _, h2 => by
    have hx := h2 x rfl
    unfold insW
    rw [hx]
    by_cases e : x = m
    · subst e; simp
    · simp [e]
  | x :: L, m, j + 1, hj, h1, h2 => by
    have hx := h1 0 x (by omega) rfl
    have ih := insW_at L m j (by simpa using hj) (fun i y hi hy => h1 (i + 1) y (by omega) (by simpa using hy)) (fun y hy => h2 y (by simpa using hy))
    unfold insW
    rw [hx, if_pos rfl, ih]
    simp only [List.getElem?_cons_succ]
    split <;> simp
def insAll (l : List Mt) (ms : List Mt) : List Mt := ms.foldl insW l
theorem insAll_srt : ∀ (ms l : List Mt), Srt l → Srt (insAll l ms)
  | [], _, s => s
  | m :: ms, l, s => insAll_srt ms _ (insW_srt l m s)
theorem insAll_mem : ∀ (ms l : List Mt) (x : Mt), x ∈ insAll l ms ↔ x ∈ l ∨ x ∈ ms
  | [], l, x => by simp [insAll]
  | m :: ms, l, x => by
    show x ∈ insAll (insW l m) ms ↔ _
    rw [insAll_mem ms, insW_mem, List.mem_cons]
    constructor
    · rintro ((h | h) | h)
      · exact .inr (.inl h)
      · exact .inl h
      · exact .inr (.inr h)
    · rintro (h | h | h)
      · exact .inl (.inr h)
      · exact .inl (.inl h)
      · exact .inr h
theorem insAll_len : ∀ (ms l : List Mt), (insAll l ms).length ≤ l.length + ms.length
  | [], l => by simp [insAll]
  | m :: ms, l => by
    show (insAll (insW l m) ms).length ≤ _
    have h1 := insAll_len ms (insW l m); have h2 := insW_len l m; simp; omega
theorem insAll_app (l a b : List Mt) : insAll l (a ++ b) = insAll (insAll l a) b := by simp [insAll]
def comp : List Mt → List Mt
  | [] => []
  | [x] => [x]
  | x :: y :: l => if x = y then comp (y :: l) else x :: comp (y :: l)
theorem comp_mem : ∀ (l : List Mt) (x : Mt), x ∈ comp l ↔ x ∈ l
  | [], _ => by simp [comp]
  | [_], _ => by simp [comp]
  | a :: b :: l, x => by
    unfold comp
    split
    · rename_i e; subst e; rw [comp_mem (a :: l) x]; simp
    · rw [List.mem_cons, comp_mem (b :: l) x, List.mem_cons (a := x) (b := a)]
theorem comp_srt : ∀ (l : List Mt), l.Pairwise (fun x y => mlt y x = false) → Srt (comp l)
  | [], _ => by simp [comp, Srt]
  | [_], _ => by simp [comp, Srt]
  | a :: b :: l, s => by
    obtain ⟨h1, s1⟩ := List.pairwise_cons.1 s
    unfold comp
    split
    · exact comp_srt (b :: l) s1
    · rename_i hne
      refine List.pairwise_cons.2 ⟨fun x hx => ?_, comp_srt (b :: l) s1⟩
      rw [comp_mem] at hx
      have hab : mlt a b = true := by
        cases e : mlt a b with
        | true => rfl
        | false => exact absurd (mlt_total e (h1 b (by simp))) hne
      cases e : mlt a x with
      | true => rfl
      | false =>
        have := mlt_total e (h1 x hx)
        subst this
        rcases List.mem_cons.1 hx with e2 | hx2
        · exact absurd e2 hne
        · have h3 := (List.pairwise_cons.1 s1).1 a hx2
          rw [hab] at h3; cases h3
theorem comp_snoc : ∀ (l : List Mt) (x y : Mt), comp (l ++ [x, y]) = comp (l ++ [x]) ++ (if x = y then [] else [y])
  | [], x, y => by
    by_cases e : x = y
    · simp [comp, e]
    · simp [comp, e]
  | [a], x, y => by
    have ih := comp_snoc [] x y
    simp only [List.nil_append, List.cons_append] at ih ⊢
    unfold comp
    by_cases e : a = x
    · rw [if_pos e, if_pos e, ih]
    · rw [if_neg e, if_neg e, ih]; rfl
  | a :: b :: l, x, y => by
    have ih := comp_snoc (b :: l) x y
    simp only [List.cons_append] at ih ⊢
    unfold comp
    by_cases e : a = b
    · rw [if_pos e, if_pos e, ih]
    · rw [if_neg e, if_neg e, ih]; rfl
theorem take_two (L : List Mt) (r : Nat) (hr : 1 ≤ r) (h : r < L.length) : ∃ l, L.take (r + 1) = l ++ [L[r - 1], L[r]] ∧ L.take r = l ++ [L[r - 1]] := by
  obtain ⟨q, rfl⟩ : ∃ q, r = q + 1 := ⟨r - 1, by omega⟩
  refine ⟨L.take q, ?_, ?_⟩
  · rw [List.take_add_one, List.take_add_one, List.getElem?_eq_getElem h, List.getElem?_eq_getElem (by omega : q < L.length), List.append_assoc]
    rfl
  · rw [List.take_add_one, List.getElem?_eq_getElem (by omega : q < L.length)]
    rfl
theorem comp_take (L : List Mt) (r : Nat) (hr : 1 ≤ r) (h : r < L.length) : comp (L.take (r + 1)) = comp (L.take r) ++ (if L[r - 1] = L[r] then [] else [L[r]]) := by
  obtain ⟨l, e1, e2⟩ := take_two L r hr h
  rw [e1, e2, comp_snoc]
def check (m : Mv) : Int :=
  if (m.kind < 1 ∨ m.kind > 5 ∨ m.fr < 0 ∨ (m.to ≥ 0 ∧ m.to < m.fr)) ∨ (m.hit = true ∧ ¬ (m.kind = 1 ∧ m.err = 0 ∧ m.to ≥ 0)) ∨ (m.kind = 1 ∧ m.hit = false ∧ m.val ≠ ByteArray.empty) ∨ (m.kind > 2 ∧ m.val ≠ ByteArray.empty) ∨ (m.kind > 3 ∧ m.key ≠ ByteArray.empty) then 230 else 0
def doesR (m : Mv) : Bool × Bool × Bool :=
  if m.kind ≠ 2 ∧ m.kind ≠ 3 then (true, false, false)
  else if m.to < 0 ∨ m.err = 2 ∨ m.err = 5 then (true, m.kind == 2, true)
  else if m.err = 0 then (false, m.kind == 2, m.kind == 3)
  else if m.kind = 2 ∧ m.err = 191 then (false, false, true)
  else (true, false, false)
def mcmp (a b : Mt) : Int := if a = b then 0 else if mlt a b then -1 else 1
def keyed (m : Mv) : Bool := m.kind == 1 || m.kind == 2 || m.kind == 3
def hits (m : Mv) : Bool := m.kind == 1 && (m.hit && (m.err == 0 && decide (m.to ≥ 0)))
def fate (m : Mv) : Nat := if m.to < 0 ∨ m.err = 2 ∨ m.err = 5 then 3 else if m.err = 0 then 1 else if m.err = 191 then 2 else 0
def putF (f : Nat) (now was : Mt) : List Mt := if f = 1 then [now] else if f = 2 then [nil] else if f = 3 then [now, nil, was] else [was]
def delF (f : Nat) (was : Mt) : List Mt := if f = 1 then [nil] else if f = 3 then [nil, was] else [was]
def outs (m : Mv) (was : Mt) : List Mt :=
  if m.kind = 1 then (if hits m = true ∧ (was.has = false ∨ was.val ≠ m.val) then [] else [was])
  else if m.kind = 2 then putF (fate m) ⟨true, m.val⟩ was
  else if m.kind = 3 then delF (fate m) was
  else [was]
def rOuts (m : Mv) (w : Mt) : List Mt :=
  if hits m = true ∧ (w.has = false ∨ w.val ≠ m.val) then [] else
  (if (doesR m).1 then [w] else []) ++ (if (doesR m).2.1 then [⟨true, m.val⟩] else []) ++ (if (doesR m).2.2 then [nil] else [])
theorem hits_kind {m : Mv} (h : hits m = true) : m.kind = 1 := by simp [hits] at h; exact h.1
theorem rOuts_iff (m : Mv) (w x : Mt) : x ∈ rOuts m w ↔ x ∈ outs m w := by
  unfold rOuts outs
  by_cases h1 : m.kind = 1
  · rw [if_pos h1]
    have : doesR m = (true, false, false) := by unfold doesR; rw [if_pos (by omega)]
    rw [this]
    split <;> simp
  · rw [if_neg h1]
    have hn : ¬ (hits m = true ∧ (w.has = false ∨ w.val ≠ m.val)) := fun h => h1 (hits_kind h.1)
    rw [if_neg hn]
    by_cases h2 : m.kind = 2
    · rw [if_pos h2]
      by_cases h3 : m.to < 0 ∨ m.err = 2 ∨ m.err = 5
      · have hd : doesR m = (true, true, true) := by unfold doesR; rw [if_neg (by omega), if_pos h3]; simp [h2]
        have hf : fate m = 3 := by unfold fate; rw [if_pos h3]
        rw [hd, hf, show putF 3 ⟨true, m.val⟩ w = [⟨true, m.val⟩, nil, w] from rfl]
        simp only [if_true, List.mem_append, List.mem_cons, List.not_mem_nil, or_false]
        constructor
        · rintro ((h | h) | h)
          · exact .inr (.inr h)
          · exact .inl h
          · exact .inr (.inl h)
        · rintro (h | h | h)
          · exact .inl (.inr h)
          · exact .inr h
          · exact .inl (.inl h)
      · by_cases h4 : m.err = 0
        · have hd : doesR m = (false, true, false) := by unfold doesR; rw [if_neg (by omega), if_neg h3, if_pos h4]; simp [h2]
          have hf : fate m = 1 := by unfold fate; rw [if_neg h3, if_pos h4]
          rw [hd, hf]; simp [putF]
        · by_cases h5 : m.err = 191
          · have hd : doesR m = (false, false, true) := by unfold doesR; rw [if_neg (by omega), if_neg h3, if_neg h4, if_pos ⟨h2, h5⟩]
            have hf : fate m = 2 := by unfold fate; rw [if_neg h3, if_neg h4, if_pos h5]
            rw [hd, hf]; simp [putF]
          · have hd : doesR m = (true, false, false) := by unfold doesR; rw [if_neg (by omega), if_neg h3, if_neg h4, if_neg (fun h => h5 h.2)]
            have hf : fate m = 0 := by unfold fate; rw [if_neg h3, if_neg h4, if_neg h5]
            rw [hd, hf]; simp [putF]
    · rw [if_neg h2]
      by_cases h6 : m.kind = 3
      · rw [if_pos h6]
        by_cases h3 : m.to < 0 ∨ m.err = 2 ∨ m.err = 5
        · have hd : doesR m = (true, false, true) := by unfold doesR; rw [if_neg (by omega), if_pos h3]; simp [h6]
          have hf : fate m = 3 := by unfold fate; rw [if_pos h3]
          rw [hd, hf, show delF 3 w = [nil, w] from rfl]
          simp only [if_true, List.mem_append, List.mem_cons, List.not_mem_nil, or_false, Bool.false_eq_true, if_false]
          constructor
          · rintro (h | h)
            · exact .inr h
            · exact .inl h
          · rintro (h | h)
            · exact .inr h
            · exact .inl h
        · by_cases h4 : m.err = 0
          · have hd : doesR m = (false, false, true) := by unfold doesR; rw [if_neg (by omega), if_neg h3, if_pos h4]; simp [h6]
            have hf : fate m = 1 := by unfold fate; rw [if_neg h3, if_pos h4]
            rw [hd, hf]; simp [delF]
          · have hd : doesR m = (true, false, false) := by unfold doesR; rw [if_neg (by omega), if_neg h3, if_neg h4, if_neg (fun h => h2 h.1)]
            have hf : fate m = 0 ∨ fate m = 2 := by unfold fate; rw [if_neg h3, if_neg h4]; split <;> simp
            rw [hd]
            rcases hf with hf | hf <;> rw [hf] <;> simp [delF]
      · rw [if_neg h6]
        have : doesR m = (true, false, false) := by unfold doesR; rw [if_pos ⟨h2, h6⟩]
        rw [this]; simp
theorem insAll_outs {T : List Mt} (s : Srt T) (m : Mv) (w : Mt) : insAll T (rOuts m w) = insAll T (outs m w) :=
  srt_unique (insAll_srt _ _ s) (insAll_srt _ _ s) fun x => by rw [insAll_mem, insAll_mem, rOuts_iff]
def next (l : List Mt) (m : Mv) : List Mt := insAll [] (l.flatMap (outs m))
theorem flat_take {β : Type} (L : List β) (f : β → List Mt) (j : Nat) (h : j < L.length) : (L.take (j + 1)).flatMap f = (L.take j).flatMap f ++ f L[j] := by
  rw [List.take_add_one, List.getElem?_eq_getElem h, List.flatMap_append]; simp
theorem next_srt (l : List Mt) (m : Mv) : Srt (next l m) := insAll_srt _ _ List.Pairwise.nil
theorem next_mem (l : List Mt) (m : Mv) (x : Mt) : x ∈ next l m ↔ ∃ w ∈ l, x ∈ outs m w := by
  unfold next; rw [insAll_mem]; simp
theorem putF_len (f : Nat) (n w : Mt) : (putF f n w).length ≤ 3 := by unfold putF; split <;> (try split) <;> (try split) <;> simp
theorem delF_len (f : Nat) (w : Mt) : (delF f w).length ≤ 3 := by unfold delF; split <;> (try split) <;> simp
theorem outs_len (m : Mv) (w : Mt) : (outs m w).length ≤ 3 := by
  unfold outs
  split
  · split <;> simp
  · split
    · exact putF_len _ _ _
    · split
      · exact delF_len _ _
      · simp
theorem flat_outs_len (m : Mv) : ∀ l : List Mt, (l.flatMap (outs m)).length ≤ 3 * l.length
  | [] => by simp
  | x :: l => by
    have := flat_outs_len m l; have := outs_len m x
    rw [List.flatMap_cons, List.length_append, List.length_cons]; omega
theorem next_of_sort {l : List Mt} {m : Mv} {s : List Mt} (hp : s.Perm (l.flatMap (outs m))) (hs : s.Pairwise (fun x y => mlt y x = false)) : comp s = next l m :=
  srt_unique (comp_srt s hs) (next_srt l m) fun x => by rw [comp_mem, hp.mem_iff, next_mem, List.mem_flatMap]
def Nm (l : List Mt) : Prop := ∀ x ∈ l, x.has = false → x.val = ByteArray.empty
theorem nodup_len : ∀ {l s : List Mt}, l.Nodup → (∀ x ∈ l, x ∈ s) → l.length ≤ s.length
  | [], _, _, _ => Nat.zero_le _
  | x :: l, s, hn, hs => by
    obtain ⟨h1, h2⟩ := List.nodup_cons.1 hn
    have hx : x ∈ s := hs x (by simp)
    have := nodup_len (l := l) (s := s.erase x) h2 fun y hy => by
      have hne : y ≠ x := fun e => h1 (by rw [← e]; exact hy)
      exact (List.mem_erase_of_ne hne).2 (hs y (by simp [hy]))
    rw [List.length_erase_of_mem hx] at this
    have hp : 0 < s.length := List.length_pos_of_mem hx
    simp only [List.length_cons]; omega
def start : List Mt := [nil]
theorem start_srt : Srt start := by simp [start, Srt]
def ends (l : List Mv) (key : Str) : List Mt := l.foldl (fun s m => if keyed m = true ∧ m.key = key then next s m else s) start
def bad (l : List Mv) (i : Nat) : Bool := match l[i]? with | some m => keyed m && (ends (l.take (i + 1)) m.key).isEmpty | none => false
end Ml
end Go.Proofs.YtfjcciaabkjkgaaGreatDoor
namespace Go.Proofs.YtfjcciaabkjkgaaGreatDoor
open Go
open Go.Proofs.YtfjcciaabkjkgaaGreatDoor renaming hl_val → lv, hl_step → lp, hl_nil → ln, hl_yes → ly, hl_no → lo, hx_seq → xs, hx_region → xr, hx_cond → xc, hx_cut → xk, hx_has → xh, hx_skip → xi, hx_ret → xt, seqQ_n → qn, seqQ_ret → qr, hv_move → vm, hv_assign → va, hv_arith → vr, hv_load → vl, hv_field → vf, hv_build → vb, has_cons → hc, has_nil → hn, hcells_cons → cc, hcells_nil → cn, rowcell → rc
set_option maxRecDepth 100000
set_option maxHeartbeats 4000000
theorem TyShA.agg3 : aggB Tryz.prog 3 = some false := by kernel_rfl
theorem TyShA.agg4 : aggB Tryz.prog 4 = some false := by kernel_rfl
theorem TyShA.agg9 : aggB Tryz.prog 9 = some false := by kernel_rfl
theorem TyShA.agg95 : aggB Tryz.prog 95 = some true := by kernel_rfl
theorem TyShA.fld40_0 : fldB Tryz.prog 40 0 = some 0 := by kernel_rfl
theorem TyShA.fld40_7 : fldB Tryz.prog 40 7 = some 7 := by kernel_rfl
theorem TyShA.fld95_0 : fldB Tryz.prog 95 0 = some 0 := by kernel_rfl
theorem TyShA.fld95_1 : fldB Tryz.prog 95 1 = some 1 := by kernel_rfl
theorem TyShA.pl95 : plB Tryz.prog 95 = some [(0, 1), (1, 1)] := by kernel_rfl
theorem TyShA.sz95 : szB Tryz.prog 95 = some 2 := by kernel_rfl
theorem TyShA.u4 : Tryz.prog.underlying 4 = some (.bool) := by kernel_rfl
theorem TyShA.z95 : zeroB Tryz.prog 95 (.agg #[(.bool false), (.string ByteArray.empty)]) := by unfold zeroB; kernel_rfl
theorem ext_pushed_f116_sh {h h1 : Heap} {o : Obj} (e : h1 = Array.push h o) : Ext h h1 := by rw [e]; exact Ext.push _ _
theorem f59_sh (a4 : Int) (a7 : ByteArray) (a1 : ByteArray) (a6 : Int) (a5 : Bool) (a3 : Int) (a2 : Int) (a0 : Int) (h : Heap) (R : Value → Heap → Prop)
  (H : (∀ (h1 : Heap), Ext h h1 → R (.bool (decide (a0 ≥ 0))) h1)) :
  HC Tryz.prog 59 #[(.agg #[(.int .i64 a4), (.string a7), (.string a1), (.int .i64 a6), (.bool a5), (.int .i64 a3), (.int .i64 a2), (.int .i64 a0)])] h R := by
 refine hc_of (args := [(.agg #[(.int .i64 a4), (.string a7), (.string a1), (.int .i64 a6), (.bool a5), (.int .i64 a3), (.int .i64 a2), (.int .i64 a0)])]) Tryz.func59 rfl Tryz.ntmps59 (Nat.le_of_ble_eq_true rfl) ?_
 refine xs (xr ?_)
 refine lp rfl rfl (hn_box (v := (.agg #[(.int .i64 a4), (.string a7), (.string a1), (.int .i64 a6), (.bool a5), (.int .i64 a3), (.int .i64 a2), (.int .i64 a0)])) rfl ?_)
 intro m h1 a9 a8
 have b0 := ext_pushed_f116_sh a8
 have b2 : Array.size h ≤ m := Nat.le_of_eq (Eq.symm a9)
 have b1 : h1[m]? = some (.cells #[(.int .i64 a4), (.string a7), (.string a1), (.int .i64 a6), (.bool a5), (.int .i64 a3), (.int .i64 a2), (.int .i64 a0)] 40 (0, 0)) := by rw [a8]; exact push_new a9
 refine lv rfl rfl (va rfl) ?_
 refine ln (qn (xs (xr ?_)))
 refine lv rfl rfl (v := (ptr m 7)) (vf TyShA.fld40_7 (b := m) (o := 0) rfl) (lv rfl rfl (vl TyShA.agg3 rfl (rc b1 rfl)) (lv rfl rfl (vr rfl rfl rfl) (lv rfl rfl (va rfl) ?_)))
 refine ln (qn (xt ?_))
 replace H := H h1 b0
 exact endQ_ret _ (res_one Tryz.results59 (rv_tmp rfl)) H
theorem f61_sh  (h : Heap) (R : Value → Heap → Prop)
  (H : (∀ (h2 : Heap), Ext h h2 → R (.agg #[(.bool false), (.string ByteArray.empty)]) h2)) :
  HC Tryz.prog 61 #[] h R := by
 refine hc_of (args := []) Tryz.func61 rfl Tryz.ntmps61 (Nat.le_of_ble_eq_true rfl) ?_
 refine xs (xr ?_)
 refine lp rfl rfl (hn_alloc TyShA.z95 ?_)
 intro pb h1 a4 a1
 have a5 := ext_pushed_f116_sh a1
 have a6 : Array.size h ≤ pb := Nat.le_of_eq (Eq.symm a4)
 have a2 : h1[pb]? = some (.cells #[(.bool false), (.string ByteArray.empty)] 95 (0, 0)) := by rw [a1]; exact push_new a4
 refine ln (qn (xs (xr ?_)))
 refine lv rfl rfl (v := (.agg #[(.bool false), (.string ByteArray.empty)])) (vb (vs := []) (cs := #[(.bool false), (.string ByteArray.empty)]) TyShA.z95 TyShA.pl95 rfl (by kernel_rfl)) ?_
 refine lp rfl rfl (hn_stores (vs := [(.bool false), (.string ByteArray.empty)]) rfl rfl TyShA.sz95 rfl (HWs_row a2 (by simp)) ?_)
 intro h2 a3
 have a0 : h2[pb]? = some (.cells #[(.bool false), (.string ByteArray.empty)] 95 (0, 0)) := row_hsets_eq a3 a2 rfl
 have a7 := ext_hsets a3 a5 a6
 refine ln (qn (xt ?_))
 replace H := H h2 a7
 exact endQ_ret _ (res_one Tryz.results61 (rv_cell (vs := [(.bool false), (.string ByteArray.empty)]) TyShA.agg95 TyShA.sz95 rfl (cc (rc a0 rfl) (cc (rc a0 rfl) cn)))) H
theorem f23_sh (a0 : Int) (a6 : ByteArray) (a3 : ByteArray) (a8 : Int) (a7 : Bool) (a5 : Int) (a4 : Int) (a9 : Int) (h : Heap) (R : Value → Heap → Prop)
  (H : (∀ (h1 : Heap), Ext h h1 → R (.bool ((a0 == 1) || ((a0 == 2) || (a0 == 3)))) h1)) :
  HC Tryz.prog 23 #[(.agg #[(.int .i64 a0), (.string a6), (.string a3), (.int .i64 a8), (.bool a7), (.int .i64 a5), (.int .i64 a4), (.int .i64 a9)])] h R := by
 refine hc_of (args := [(.agg #[(.int .i64 a0), (.string a6), (.string a3), (.int .i64 a8), (.bool a7), (.int .i64 a5), (.int .i64 a4), (.int .i64 a9)])]) Tryz.func23 rfl Tryz.ntmps23 (Nat.le_of_ble_eq_true rfl) ?_
 refine xs (xr ?_)
 refine lp rfl rfl (hn_box (v := (.agg #[(.int .i64 a0), (.string a6), (.string a3), (.int .i64 a8), (.bool a7), (.int .i64 a5), (.int .i64 a4), (.int .i64 a9)])) rfl ?_)
 intro m h1 b2 b1
 have b3 := ext_pushed_f116_sh b1
 have b4 : Array.size h ≤ m := Nat.le_of_eq (Eq.symm b2)
 have b0 : h1[m]? = some (.cells #[(.int .i64 a0), (.string a6), (.string a3), (.int .i64 a8), (.bool a7), (.int .i64 a5), (.int .i64 a4), (.int .i64 a9)] 40 (0, 0)) := by rw [b1]; exact push_new b2
 refine lv rfl rfl (va rfl) ?_
 refine ln (qn ?_)
 refine xk (fun ρ h' => h1 = h' ∧ Has ρ [(2, (.bool ((a0 == 1) || ((a0 == 2) || (a0 == 3)))))]) ?_ ?_
 ·refine xr ?_
  refine lv rfl rfl (v := (ptr m 0)) (vf TyShA.fld40_0 (b := m) (o := 0) rfl) (lv rfl rfl (vl TyShA.agg3 rfl (rc b0 rfl)) (lv rfl rfl (vr rfl rfl rfl) (lv rfl rfl (vm rfl) ?_)))
  rcases bool_or (a0 == 1) with a1 | a1
  ·refine lo (wanted_n rfl rfl rfl a1) rfl ?_
   refine lo (wanted_n rfl rfl rfl a1) rfl ?_
   refine lo (wanted_n rfl rfl rfl a1) rfl ?_
   refine lv rfl rfl (v := (.bool true)) (hv_pick_t rfl a1 rfl) (lv rfl rfl (vm rfl) ?_)
   refine lo (wanted_n rfl rfl (c := true) rfl rfl) rfl ?_
   refine lo (wanted_n rfl rfl (c := true) rfl rfl) rfl ?_
   refine lo (wanted_n rfl rfl (c := true) rfl rfl) rfl ?_
   refine lv rfl rfl (v := (.bool true)) (hv_pick (t := true) rfl rfl) (lv rfl rfl (va rfl) ?_)
   refine ln (qn ?_)
   exact ⟨rfl, (hc (show ((.bool true) : Value) = (.bool ((a0 == 1) || ((a0 == 2) || (a0 == 3)))) from (by first | rfl | ((try rw [a1]); all_goals first | rfl | (simp only [Bool.true_or, Bool.or_true, Bool.false_or, Bool.or_false, Bool.true_and, Bool.and_true, Bool.false_and, Bool.and_false, Bool.not_true, Bool.not_false, Bool.cond_true, Bool.cond_false]; done)) | simp [a1])) hn)⟩
  ·refine ly (wanted_y rfl rfl rfl a1) rfl (HStep.of_val (v := (ptr m 0)) (vf TyShA.fld40_0 (b := m) (o := 0) rfl) ?_)
   refine ly (wanted_y rfl rfl rfl a1) rfl (HStep.of_val (v := (.int .i64 a0)) (vl TyShA.agg3 rfl (rc b0 rfl)) ?_)
   refine ly (wanted_y rfl rfl rfl a1) rfl (HStep.of_val (v := (.bool (a0 == 2))) (vr rfl rfl rfl) ?_)
   refine lv rfl rfl (v := (.bool (a0 == 2))) (hv_pick_f rfl a1 rfl) (lv rfl rfl (vm rfl) ?_)
   rcases bool_or (a0 == 2) with a2 | a2
   ·refine lo (wanted_n rfl rfl rfl a2) rfl ?_
    refine lo (wanted_n rfl rfl rfl a2) rfl ?_
    refine lo (wanted_n rfl rfl rfl a2) rfl ?_
    refine lv rfl rfl (v := (.bool true)) (hv_pick_t rfl a2 rfl) (lv rfl rfl (va rfl) ?_)
    refine ln (qn ?_)
    exact ⟨rfl, (hc (show ((.bool true) : Value) = (.bool ((a0 == 1) || ((a0 == 2) || (a0 == 3)))) from (by first | rfl | ((try rw [a1]); (try rw [a2]); all_goals first | rfl | (simp only [Bool.true_or, Bool.or_true, Bool.false_or, Bool.or_false, Bool.true_and, Bool.and_true, Bool.false_and, Bool.and_false, Bool.not_true, Bool.not_false, Bool.cond_true, Bool.cond_false]; done)) | simp [a1, a2])) hn)⟩
   ·refine ly (wanted_y rfl rfl rfl a2) rfl (HStep.of_val (v := (ptr m 0)) (vf TyShA.fld40_0 (b := m) (o := 0) rfl) ?_)
    refine ly (wanted_y rfl rfl rfl a2) rfl (HStep.of_val (v := (.int .i64 a0)) (vl TyShA.agg3 rfl (rc b0 rfl)) ?_)
    refine ly (wanted_y rfl rfl rfl a2) rfl (HStep.of_val (v := (.bool (a0 == 3))) (vr rfl rfl rfl) ?_)
    refine lv rfl rfl (v := (.bool (a0 == 3))) (hv_pick_f rfl a2 rfl) (lv rfl rfl (va rfl) ?_)
    refine ln (qn ?_)
    exact ⟨rfl, (hc (show ((.bool (a0 == 3)) : Value) = (.bool ((a0 == 1) || ((a0 == 2) || (a0 == 3)))) from (by first | rfl | ((try rw [a1]); (try rw [a2]); all_goals first | rfl | (simp only [Bool.true_or, Bool.or_true, Bool.false_or, Bool.or_false, Bool.true_and, Bool.and_true, Bool.false_and, Bool.and_false, Bool.not_true, Bool.not_false, Bool.cond_true, Bool.cond_false]; done)) | simp [a1, a2])) hn)⟩
 ·rintro ρ _ ⟨rfl, hH⟩
  refine xh _ hH ?_
  refine xt ?_
  replace H := H h1 b3
  exact endQ_ret _ (res_one Tryz.results23 (rv_tmp rfl)) H
theorem f123_sh (a0 : Bool) (a2 : ByteArray) (a3 : Bool) (a1 : ByteArray) (h : Heap) (R : Value → Heap → Prop)
  (H : (((a0 != a3) = true → (∀ (h2 : Heap), Ext h h2 → R (.bool (!a0)) h2)) ∧ ((a0 != a3) = false → (∀ (h2 : Heap), Ext h h2 → R (.bool (slt a2 a1)) h2)))) :
  HC Tryz.prog 123 #[(.agg #[(.bool a0), (.string a2)]), (.agg #[(.bool a3), (.string a1)])] h R := by
 refine hc_of (args := [(.agg #[(.bool a0), (.string a2)]), (.agg #[(.bool a3), (.string a1)])]) Tryz.func123 rfl Tryz.ntmps123 (Nat.le_of_ble_eq_true rfl) ?_
 refine xs (xr ?_)
 refine lp rfl rfl (hn_box (v := (.agg #[(.bool a0), (.string a2)])) rfl ?_)
 intro a h1 b3 b2
 have a9 := ext_pushed_f116_sh b2
 have b6 : Array.size h ≤ a := Nat.le_of_eq (Eq.symm b3)
 have a4 : h1[a]? = some (.cells #[(.bool a0), (.string a2)] 95 (0, 0)) := by rw [b2]; exact push_new b3
 refine lp rfl rfl (hn_box (v := (.agg #[(.bool a3), (.string a1)])) rfl ?_)
 intro b h2 a7 b0
 have a8 := ext_pushed_f116_sh b0
 have b5 := Nat.ne_of_lt (Nat.lt_of_lt_of_eq (row_lt a4) (Eq.symm a7))
 have b4 : Array.size h ≤ b := Nat.le_trans (Ext.size a9) (Nat.le_of_eq (Eq.symm a7))
 have b1 : h2[b]? = some (.cells #[(.bool a3), (.string a1)] 95 (0, 0)) := by rw [b0]; exact push_new a7
 replace a4 := Ext.row a8 a4
 have a6 := Ext.trans a9 a8
 refine lv rfl rfl (va rfl) ?_
 refine ln (qn (xs (xs (xr ?_))))
 refine lv rfl rfl (v := (ptr a 0)) (vf TyShA.fld95_0 (b := a) (o := 0) rfl) (lv rfl rfl (vl TyShA.agg4 rfl (rc a4 rfl)) (lv rfl rfl (v := (ptr b 0)) (vf TyShA.fld95_0 (b := b) (o := 0) rfl) (lv rfl rfl (vl TyShA.agg4 rfl (rc b1 rfl)) (lv rfl rfl (v := (.bool (a0 != a3))) (hv_eqBool TyShA.u4 rfl rfl rfl) ?_))))
 refine ln (qn ?_)
 refine xc (b := a0 != a3) rfl (fun a5 => ?_) (fun a5 => ?_)
 ·replace H := H.1 a5
  refine xs (xr ?_)
  refine lv rfl rfl (v := (ptr a 0)) (vf TyShA.fld95_0 (b := a) (o := 0) rfl) (lv rfl rfl (vl TyShA.agg4 rfl (rc a4 rfl)) (lv rfl rfl (v := (.bool (!a0))) (hv_not (b := a0) rfl) (lv rfl rfl (va rfl) ?_)))
  refine ln (qn (xt (qr ?_)))
  replace H := H h2 a6
  exact endQ_ret _ (res_one Tryz.results123 (rv_tmp rfl)) H
 ·replace H := H.2 a5
  refine xi (qn (xs (xr ?_)))
  refine lv rfl rfl (v := (ptr a 1)) (vf TyShA.fld95_1 (b := a) (o := 0) rfl) (lv rfl rfl (vl TyShA.agg9 rfl (rc a4 rfl)) (lv rfl rfl (v := (ptr b 1)) (vf TyShA.fld95_1 (b := b) (o := 0) rfl) (lv rfl rfl (vl TyShA.agg9 rfl (rc b1 rfl)) (lv rfl rfl (v := (.bool (slt a2 a1))) (hv_str rfl rfl rfl) (lv rfl rfl (va rfl) ?_)))))
  refine ln (qn (xt ?_))
  replace H := H h2 a6
  exact endQ_ret _ (res_one Tryz.results123 (rv_tmp rfl)) H
end Go.Proofs.YtfjcciaabkjkgaaGreatDoor
namespace Go.Proofs.YtfjcciaabkjkgaaGreatDoor
open Go Ml
abbrev mvV (m : Mv) : Value := .agg #[.int .i64 m.kind, .string m.key, .string m.val, .int .i64 m.err, .bool m.hit, .int .i64 m.life, .int .i64 m.fr, .int .i64 m.to]
abbrev mtV (x : Mt) : Value := .agg #[.bool x.has, .string x.val]
def eMt : Elt Mt := ⟨2, fun x => [.bool x.has, .string x.val], fun _ => rfl, fun x v hv => by simp at hv; rcases hv with rfl | rfl <;> rfl⟩
def eMv : Elt Mv := ⟨8, fun m => [.int .i64 m.kind, .string m.key, .string m.val, .int .i64 m.err, .bool m.hit, .int .i64 m.life, .int .i64 m.fr, .int .i64 m.to], fun _ => rfl, fun x v hv => by simp at hv; rcases hv with rfl | rfl | rfl | rfl | rfl | rfl | rfl | rfl <;> rfl⟩
theorem returned_c (m : Mv) (h : Heap) : HC Tryz.prog 59 #[mvV m] h fun v h' => v = .bool (decide (m.to ≥ 0)) ∧ Ext h h' :=
  f59_sh _ _ _ _ _ _ _ _ _ _ fun _ x => ⟨rfl, x⟩
theorem none_c (h : Heap) : HC Tryz.prog 61 #[] h fun v h' => v = mtV nil ∧ Ext h h' := f61_sh _ _ fun _ x => ⟨rfl, x⟩
theorem ofKey_c (m : Mv) (h : Heap) : HC Tryz.prog 23 #[mvV m] h fun v h' => v = .bool (keyed m) ∧ Ext h h' :=
  f23_sh _ _ _ _ _ _ _ _ _ _ fun _ x => ⟨by simp [keyed, Bool.or_assoc], x⟩
theorem before_c (a b : Mt) (h : Heap) : HC Tryz.prog 123 #[mtV a, mtV b] h fun v h' => v = .bool (mlt a b) ∧ Ext h h' := by
  obtain ⟨a1, a2⟩ := a
  obtain ⟨b1, b2⟩ := b
  refine f123_sh _ _ _ _ _ _ ⟨fun e _ x => ⟨?_, x⟩, fun e _ x => ⟨?_, x⟩⟩
  · cases a1 <;> cases b1 <;> simp at e <;> rfl
  · cases a1 <;> cases b1 <;> simp at e <;> rfl
end Go.Proofs.YtfjcciaabkjkgaaGreatDoor
namespace Go.Proofs.YtfjcciaabkjkgaaGreatDoor
open Go
open Go.Proofs.YtfjcciaabkjkgaaGreatDoor renaming hl_val → lv, hl_step → lp, hl_nil → ln, hl_yes → ly, hl_no → lo, hx_seq → xs, hx_region → xr, hx_cond → xc, hx_block → xb, hx_cut → xk, hx_has → xh, hx_skip → xi, hx_ret → xt, seqQ_n → qn, seqQ_ret → qr, blockQ_n → bn, blockQ_ret → br, hv_move → vm, hv_assign → va, hv_arith → vr, hv_load → vl, hv_loads → vL, hv_field → vf, hp_pure → pp, hp_read → pr, has_cons → hc, has_nil → hn, hcells_cons → cc, hcells_nil → cn, rowcell → rc, hs_call → sc
set_option maxRecDepth 100000
set_option maxHeartbeats 4000000
theorem TyShB.agg27 : aggB Tryz.prog 27 = some false := by kernel_rfl
theorem TyShB.agg3 : aggB Tryz.prog 3 = some false := by kernel_rfl
theorem TyShB.agg4 : aggB Tryz.prog 4 = some false := by kernel_rfl
theorem TyShB.agg40 : aggB Tryz.prog 40 = some true := by kernel_rfl
theorem TyShB.agg9 : aggB Tryz.prog 9 = some false := by kernel_rfl
theorem TyShB.cb59 : CallB Tryz.prog 59 := fun _ _ => Tryz.call59 _ _
theorem TyShB.fld40_0 : fldB Tryz.prog 40 0 = some 0 := by kernel_rfl
theorem TyShB.fld40_1 : fldB Tryz.prog 40 1 = some 1 := by kernel_rfl
theorem TyShB.fld40_2 : fldB Tryz.prog 40 2 = some 2 := by kernel_rfl
theorem TyShB.fld40_3 : fldB Tryz.prog 40 3 = some 3 := by kernel_rfl
theorem TyShB.fld40_4 : fldB Tryz.prog 40 4 = some 4 := by kernel_rfl
theorem TyShB.fld40_6 : fldB Tryz.prog 40 6 = some 6 := by kernel_rfl
theorem TyShB.fld40_7 : fldB Tryz.prog 40 7 = some 7 := by kernel_rfl
theorem TyShB.mixed : Tryz.prog.follows .mixedOrders = true := by kernel_rfl
theorem TyShB.sz40 : szB Tryz.prog 40 = some 8 := by kernel_rfl
theorem ext_pushed_f105_sh {h h1 : Heap} {o : Obj} (e : h1 = Array.push h o) : Ext h h1 := by rw [e]; exact Ext.push _ _
theorem f58_sh (a0 : Int) (a7 : ByteArray) (a3 : ByteArray) (a1 : Int) (a2 : Bool) (a5 : Int) (a4 : Int) (a9 : Int) (h : Heap) (R : Value → Heap → Prop)
  (H : (∀ (h2 : Heap), Ext h h2 → R (.bool ((a0 == 1) && (a2 && ((a1 == 0) && (decide (Ml.Mv.to ⟨a0, a7, a3, a1, a2, a5, a4, a9⟩ ≥ 0)))))) h2)) :
  HC Tryz.prog 58 #[(.agg #[(.int .i64 a0), (.string a7), (.string a3), (.int .i64 a1), (.bool a2), (.int .i64 a5), (.int .i64 a4), (.int .i64 a9)])] h R := by
 refine hc_of (args := [(.agg #[(.int .i64 a0), (.string a7), (.string a3), (.int .i64 a1), (.bool a2), (.int .i64 a5), (.int .i64 a4), (.int .i64 a9)])]) Tryz.func58 rfl Tryz.ntmps58 (Nat.le_of_ble_eq_true rfl) ?_
 refine xs (xr ?_)
 refine lp rfl rfl (hn_box (v := (.agg #[(.int .i64 a0), (.string a7), (.string a3), (.int .i64 a1), (.bool a2), (.int .i64 a5), (.int .i64 a4), (.int .i64 a9)])) rfl ?_)
 intro m h1 b5 b4
 have b2 := ext_pushed_f105_sh b4
 have b8 : Array.size h ≤ m := Nat.le_of_eq (Eq.symm b5)
 have b1 : h1[m]? = some (.cells #[(.int .i64 a0), (.string a7), (.string a3), (.int .i64 a1), (.bool a2), (.int .i64 a5), (.int .i64 a4), (.int .i64 a9)] 40 (0, 0)) := by rw [b4]; exact push_new b5
 refine lv rfl rfl (va rfl) ?_
 refine ln (qn ?_)
 refine xk (fun ρ h' => (Ext h h' ∧ h'[m]? = some (.cells #[(.int .i64 a0), (.string a7), (.string a3), (.int .i64 a1), (.bool a2), (.int .i64 a5), (.int .i64 a4), (.int .i64 a9)] 40 (0, 0)) ∧ True) ∧ Has ρ [(2, (.bool ((a0 == 1) && (a2 && ((a1 == 0) && (decide (Ml.Mv.to ⟨a0, a7, a3, a1, a2, a5, a4, a9⟩ ≥ 0)))))))]) ?_ ?_
 ·refine xr ?_
  refine lv rfl rfl (v := (ptr m 0)) (vf TyShB.fld40_0 (b := m) (o := 0) rfl) (lv rfl rfl (vl TyShB.agg3 rfl (rc b1 rfl)) (lv rfl rfl (vr rfl rfl rfl) (lv rfl rfl (vm rfl) ?_)))
  rcases bool_or (a0 == 1) with a6 | a6
  ·refine ly (wanted_y rfl rfl rfl a6) rfl (HStep.of_val (v := (ptr m 4)) (vf TyShB.fld40_4 (b := m) (o := 0) rfl) ?_)
   refine ly (wanted_y rfl rfl rfl a6) rfl (HStep.of_val (v := (.bool a2)) (vl TyShB.agg4 rfl (rc b1 rfl)) ?_)
   refine lv rfl rfl (v := (.bool a2)) (hv_pick_t rfl a6 rfl) (lv rfl rfl (vm rfl) ?_)
   rcases bool_or (a2) with a8 | a8
   ·refine ly (wanted_y rfl rfl rfl a8) rfl (HStep.of_val (v := (ptr m 3)) (vf TyShB.fld40_3 (b := m) (o := 0) rfl) ?_)
    refine ly (wanted_y rfl rfl rfl a8) rfl (HStep.of_val (v := (.int .i64 a1)) (vl TyShB.agg27 rfl (rc b1 rfl)) ?_)
    refine ly (wanted_y rfl rfl rfl a8) rfl (HStep.of_val (v := (.bool (a1 == 0))) (vr rfl rfl rfl) ?_)
    refine lv rfl rfl (v := (.bool (a1 == 0))) (hv_pick_t rfl a8 rfl) (lv rfl rfl (vm rfl) ?_)
    rcases bool_or (a1 == 0) with b0 | b0
    ·refine ly (wanted_y rfl rfl rfl b0) rfl (HStep.of_val (v := (.agg #[(.int .i64 a0), (.string a7), (.string a3), (.int .i64 a1), (.bool a2), (.int .i64 a5), (.int .i64 a4), (.int .i64 a9)])) (vL (vs := [(.int .i64 a0), (.string a7), (.string a3), (.int .i64 a1), (.bool a2), (.int .i64 a5), (.int .i64 a4), (.int .i64 a9)]) TyShB.agg40 TyShB.sz40 rfl (cc (rc b1 rfl) (cc (rc b1 rfl) (cc (rc b1 rfl) (cc (rc b1 rfl) (cc (rc b1 rfl) (cc (rc b1 rfl) (cc (rc b1 rfl) (cc (rc b1 rfl) cn))))))))) ?_)
     refine ly (wanted_y rfl rfl rfl b0) rfl (sc TyShB.cb59 rfl (HC.mono (returned_c (⟨a0, a7, a3, a1, a2, a5, a4, a9⟩) _) ?_))
     rintro _ h3 ⟨rfl, b3⟩
     replace b1 := Ext.row b3 b1
     have b6 := Ext.trans b2 b3
     refine lv rfl rfl (v := (.bool (decide (Ml.Mv.to ⟨a0, a7, a3, a1, a2, a5, a4, a9⟩ ≥ 0)))) (hv_pick_t rfl b0 rfl) (lv rfl rfl (va rfl) ?_)
     refine ln (qn ?_)
     exact ⟨⟨b6, (row_congr b1 (by first | rfl | ((try rw [a6]); (try rw [a8]); (try rw [b0]); all_goals first | rfl | (simp only [Bool.true_or, Bool.or_true, Bool.false_or, Bool.or_false, Bool.true_and, Bool.and_true, Bool.false_and, Bool.and_false, Bool.not_true, Bool.not_false, Bool.cond_true, Bool.cond_false]; done)) | simp [a6, a8, b0])), trivial⟩, (hc (show ((.bool (decide (Ml.Mv.to ⟨a0, a7, a3, a1, a2, a5, a4, a9⟩ ≥ 0))) : Value) = (.bool ((a0 == 1) && (a2 && ((a1 == 0) && (decide (Ml.Mv.to ⟨a0, a7, a3, a1, a2, a5, a4, a9⟩ ≥ 0)))))) from (by first | rfl | ((try rw [a6]); (try rw [a8]); (try rw [b0]); all_goals first | rfl | (simp only [Bool.true_or, Bool.or_true, Bool.false_or, Bool.or_false, Bool.true_and, Bool.and_true, Bool.false_and, Bool.and_false, Bool.not_true, Bool.not_false, Bool.cond_true, Bool.cond_false]; done)) | simp [a6, a8, b0])) hn)⟩
    ·refine lo (wanted_n rfl rfl rfl b0) rfl ?_
     refine lo (wanted_n rfl rfl rfl b0) rfl ?_
     refine lv rfl rfl (v := (.bool false)) (hv_pick_f rfl b0 rfl) (lv rfl rfl (va rfl) ?_)
     refine ln (qn ?_)
     exact ⟨⟨b2, (row_congr b1 (by first | rfl | ((try rw [a6]); (try rw [a8]); (try rw [b0]); all_goals first | rfl | (simp only [Bool.true_or, Bool.or_true, Bool.false_or, Bool.or_false, Bool.true_and, Bool.and_true, Bool.false_and, Bool.and_false, Bool.not_true, Bool.not_false, Bool.cond_true, Bool.cond_false]; done)) | simp [a6, a8, b0])), trivial⟩, (hc (show ((.bool false) : Value) = (.bool ((a0 == 1) && (a2 && ((a1 == 0) && (decide (Ml.Mv.to ⟨a0, a7, a3, a1, a2, a5, a4, a9⟩ ≥ 0)))))) from (by first | rfl | ((try rw [a6]); (try rw [a8]); (try rw [b0]); all_goals first | rfl | (simp only [Bool.true_or, Bool.or_true, Bool.false_or, Bool.or_false, Bool.true_and, Bool.and_true, Bool.false_and, Bool.and_false, Bool.not_true, Bool.not_false, Bool.cond_true, Bool.cond_false]; done)) | simp [a6, a8, b0])) hn)⟩
   ·refine lo (wanted_n rfl rfl rfl a8) rfl ?_
    refine lo (wanted_n rfl rfl rfl a8) rfl ?_
    refine lo (wanted_n rfl rfl rfl a8) rfl ?_
    refine lv rfl rfl (v := (.bool false)) (hv_pick_f rfl a8 rfl) (lv rfl rfl (vm rfl) ?_)
    refine lo (wanted_n rfl rfl (c := false) rfl rfl) rfl ?_
    refine lo (wanted_n rfl rfl (c := false) rfl rfl) rfl ?_
    refine lv rfl rfl (v := (.bool false)) (hv_pick (t := false) rfl rfl) (lv rfl rfl (va rfl) ?_)
    refine ln (qn ?_)
    exact ⟨⟨b2, (row_congr b1 (by first | rfl | ((try rw [a6]); (try rw [a8]); all_goals first | rfl | (simp only [Bool.true_or, Bool.or_true, Bool.false_or, Bool.or_false, Bool.true_and, Bool.and_true, Bool.false_and, Bool.and_false, Bool.not_true, Bool.not_false, Bool.cond_true, Bool.cond_false]; done)) | simp [a6, a8])), trivial⟩, (hc (show ((.bool false) : Value) = (.bool ((a0 == 1) && (a2 && ((a1 == 0) && (decide (Ml.Mv.to ⟨a0, a7, a3, a1, a2, a5, a4, a9⟩ ≥ 0)))))) from (by first | rfl | ((try rw [a6]); (try rw [a8]); all_goals first | rfl | (simp only [Bool.true_or, Bool.or_true, Bool.false_or, Bool.or_false, Bool.true_and, Bool.and_true, Bool.false_and, Bool.and_false, Bool.not_true, Bool.not_false, Bool.cond_true, Bool.cond_false]; done)) | simp [a6, a8])) hn)⟩
  ·refine lo (wanted_n rfl rfl rfl a6) rfl ?_
   refine lo (wanted_n rfl rfl rfl a6) rfl ?_
   refine lv rfl rfl (v := (.bool false)) (hv_pick_f rfl a6 rfl) (lv rfl rfl (vm rfl) ?_)
   refine lo (wanted_n rfl rfl (c := false) rfl rfl) rfl ?_
   refine lo (wanted_n rfl rfl (c := false) rfl rfl) rfl ?_
   refine lo (wanted_n rfl rfl (c := false) rfl rfl) rfl ?_
   refine lv rfl rfl (v := (.bool false)) (hv_pick (t := false) rfl rfl) (lv rfl rfl (vm rfl) ?_)
   refine lo (wanted_n rfl rfl (c := false) rfl rfl) rfl ?_
   refine lo (wanted_n rfl rfl (c := false) rfl rfl) rfl ?_
   refine lv rfl rfl (v := (.bool false)) (hv_pick (t := false) rfl rfl) (lv rfl rfl (va rfl) ?_)
   refine ln (qn ?_)
   exact ⟨⟨b2, (row_congr b1 (by first | rfl | ((try rw [a6]); all_goals first | rfl | (simp only [Bool.true_or, Bool.or_true, Bool.false_or, Bool.or_false, Bool.true_and, Bool.and_true, Bool.false_and, Bool.and_false, Bool.not_true, Bool.not_false, Bool.cond_true, Bool.cond_false]; done)) | simp [a6])), trivial⟩, (hc (show ((.bool false) : Value) = (.bool ((a0 == 1) && (a2 && ((a1 == 0) && (decide (Ml.Mv.to ⟨a0, a7, a3, a1, a2, a5, a4, a9⟩ ≥ 0)))))) from (by first | rfl | ((try rw [a6]); all_goals first | rfl | (simp only [Bool.true_or, Bool.or_true, Bool.false_or, Bool.or_false, Bool.true_and, Bool.and_true, Bool.false_and, Bool.and_false, Bool.not_true, Bool.not_false, Bool.cond_true, Bool.cond_false]; done)) | simp [a6])) hn)⟩
 ·rintro ρ h2 ⟨⟨b7, b9, -⟩, hH⟩
  refine xh _ hH ?_
  refine xt ?_
  replace H := H h2 b7
  exact endQ_ret _ (res_one Tryz.results58 (rv_tmp rfl)) H
theorem f107_sh (a3 : Int) (a5 : ByteArray) (a1 : ByteArray) (a0 : Int) (a6 : Bool) (a4 : Int) (a2 : Int) (a8 : Int) (h : Heap) (R : Value → Heap → Prop)
  (H : ((((!(decide (Ml.Mv.to ⟨a3, a5, a1, a0, a6, a4, a2, a8⟩ ≥ 0))) || ((a0 == 2) || (a0 == 5))) = true → (∀ (h2 : Heap), Ext h h2 → R (.int .i64 3) h2)) ∧ (((!(decide (Ml.Mv.to ⟨a3, a5, a1, a0, a6, a4, a2, a8⟩ ≥ 0))) || ((a0 == 2) || (a0 == 5))) = false → (((a0 == 0) = true → (∀ (h2 : Heap), Ext h h2 → R (.int .i64 1) h2)) ∧ ((a0 == 0) = false → (((a0 == 191) = true → (∀ (h2 : Heap), Ext h h2 → R (.int .i64 2) h2)) ∧ ((a0 == 191) = false → (∀ (h2 : Heap), Ext h h2 → R (.int .i64 0) h2)))))))) :
  HC Tryz.prog 107 #[(.agg #[(.int .i64 a3), (.string a5), (.string a1), (.int .i64 a0), (.bool a6), (.int .i64 a4), (.int .i64 a2), (.int .i64 a8)])] h R := by
 refine hc_of (args := [(.agg #[(.int .i64 a3), (.string a5), (.string a1), (.int .i64 a0), (.bool a6), (.int .i64 a4), (.int .i64 a2), (.int .i64 a8)])]) Tryz.func107 rfl Tryz.ntmps107 (Nat.le_of_ble_eq_true rfl) ?_
 refine xs (xr ?_)
 refine lp rfl rfl (hn_box (v := (.agg #[(.int .i64 a3), (.string a5), (.string a1), (.int .i64 a0), (.bool a6), (.int .i64 a4), (.int .i64 a2), (.int .i64 a8)])) rfl ?_)
 intro m h1 b8 b7
 have c0 := ext_pushed_f105_sh b7
 have c1 : Array.size h ≤ m := Nat.le_of_eq (Eq.symm b8)
 have b0 : h1[m]? = some (.cells #[(.int .i64 a3), (.string a5), (.string a1), (.int .i64 a0), (.bool a6), (.int .i64 a4), (.int .i64 a2), (.int .i64 a8)] 40 (0, 0)) := by rw [b7]; exact push_new b8
 refine lv rfl rfl (va rfl) ?_
 refine ln (qn (xs (xb ?_)))
 refine xk (fun ρ h' => (Ext h h' ∧ h'[m]? = some (.cells #[(.int .i64 a3), (.string a5), (.string a1), (.int .i64 a0), (.bool a6), (.int .i64 a4), (.int .i64 a2), (.int .i64 a8)] 40 (0, 0)) ∧ True) ∧ Has ρ [(1, (ptr m 0)), (3, (.bool ((!(decide (Ml.Mv.to ⟨a3, a5, a1, a0, a6, a4, a2, a8⟩ ≥ 0))) || ((a0 == 2) || (a0 == 5)))))]) ?_ ?_
 ·refine xr ?_
  refine lv rfl rfl (vL (vs := [(.int .i64 a3), (.string a5), (.string a1), (.int .i64 a0), (.bool a6), (.int .i64 a4), (.int .i64 a2), (.int .i64 a8)]) TyShB.agg40 TyShB.sz40 rfl (cc (rc b0 rfl) (cc (rc b0 rfl) (cc (rc b0 rfl) (cc (rc b0 rfl) (cc (rc b0 rfl) (cc (rc b0 rfl) (cc (rc b0 rfl) (cc (rc b0 rfl) cn))))))))) ?_
  refine lp rfl rfl (sc TyShB.cb59 rfl (HC.mono (returned_c (⟨a3, a5, a1, a0, a6, a4, a2, a8⟩) _) ?_))
  rintro _ h3 ⟨rfl, b6⟩
  replace b0 := Ext.row b6 b0
  have b1 := Ext.trans c0 b6
  refine lv rfl rfl (v := (.bool (!(decide (Ml.Mv.to ⟨a3, a5, a1, a0, a6, a4, a2, a8⟩ ≥ 0))))) (hv_not (b := decide (Ml.Mv.to ⟨a3, a5, a1, a0, a6, a4, a2, a8⟩ ≥ 0)) rfl) (lv rfl rfl (vm rfl) ?_)
  rcases bool_or (!(decide (Ml.Mv.to ⟨a3, a5, a1, a0, a6, a4, a2, a8⟩ ≥ 0))) with a7 | a7
  ·refine lo (wanted_n rfl rfl rfl a7) rfl ?_
   refine lo (wanted_n rfl rfl rfl a7) rfl ?_
   refine lo (wanted_n rfl rfl rfl a7) rfl ?_
   refine lv rfl rfl (v := (.bool true)) (hv_pick_t rfl a7 rfl) (lv rfl rfl (vm rfl) ?_)
   refine lo (wanted_n rfl rfl (c := true) rfl rfl) rfl ?_
   refine lo (wanted_n rfl rfl (c := true) rfl rfl) rfl ?_
   refine lo (wanted_n rfl rfl (c := true) rfl rfl) rfl ?_
   refine lv rfl rfl (v := (.bool true)) (hv_pick (t := true) rfl rfl) (lv rfl rfl (va rfl) ?_)
   refine ln (qn ?_)
   exact ⟨⟨b1, (row_congr b0 (by first | rfl | ((try rw [a7]); all_goals first | rfl | (simp only [Bool.true_or, Bool.or_true, Bool.false_or, Bool.or_false, Bool.true_and, Bool.and_true, Bool.false_and, Bool.and_false, Bool.not_true, Bool.not_false, Bool.cond_true, Bool.cond_false]; done)) | simp [a7])), trivial⟩, (hc rfl (hc (show ((.bool true) : Value) = (.bool ((!(decide (Ml.Mv.to ⟨a3, a5, a1, a0, a6, a4, a2, a8⟩ ≥ 0))) || ((a0 == 2) || (a0 == 5)))) from (by first | rfl | ((try rw [a7]); all_goals first | rfl | (simp only [Bool.true_or, Bool.or_true, Bool.false_or, Bool.or_false, Bool.true_and, Bool.and_true, Bool.false_and, Bool.and_false, Bool.not_true, Bool.not_false, Bool.cond_true, Bool.cond_false]; done)) | simp [a7])) hn))⟩
  ·refine ly (wanted_y rfl rfl rfl a7) rfl (HStep.of_val (v := (ptr m 3)) (vf TyShB.fld40_3 (b := m) (o := 0) rfl) ?_)
   refine ly (wanted_y rfl rfl rfl a7) rfl (HStep.of_val (v := (.int .i64 a0)) (vl TyShB.agg27 rfl (rc b0 rfl)) ?_)
   refine ly (wanted_y rfl rfl rfl a7) rfl (HStep.of_val (v := (.bool (a0 == 2))) (vr rfl rfl rfl) ?_)
   refine lv rfl rfl (v := (.bool (a0 == 2))) (hv_pick_f rfl a7 rfl) (lv rfl rfl (vm rfl) ?_)
   rcases bool_or (a0 == 2) with a9 | a9
   ·refine lo (wanted_n rfl rfl rfl a9) rfl ?_
    refine lo (wanted_n rfl rfl rfl a9) rfl ?_
    refine lo (wanted_n rfl rfl rfl a9) rfl ?_
    refine lv rfl rfl (v := (.bool true)) (hv_pick_t rfl a9 rfl) (lv rfl rfl (va rfl) ?_)
    refine ln (qn ?_)
    exact ⟨⟨b1, (row_congr b0 (by first | rfl | ((try rw [a7]); (try rw [a9]); all_goals first | rfl | (simp only [Bool.true_or, Bool.or_true, Bool.false_or, Bool.or_false, Bool.true_and, Bool.and_true, Bool.false_and, Bool.and_false, Bool.not_true, Bool.not_false, Bool.cond_true, Bool.cond_false]; done)) | simp [a7, a9])), trivial⟩, (hc rfl (hc (show ((.bool true) : Value) = (.bool ((!(decide (Ml.Mv.to ⟨a3, a5, a1, a0, a6, a4, a2, a8⟩ ≥ 0))) || ((a0 == 2) || (a0 == 5)))) from (by first | rfl | ((try rw [a7]); (try rw [a9]); all_goals first | rfl | (simp only [Bool.true_or, Bool.or_true, Bool.false_or, Bool.or_false, Bool.true_and, Bool.and_true, Bool.false_and, Bool.and_false, Bool.not_true, Bool.not_false, Bool.cond_true, Bool.cond_false]; done)) | simp [a7, a9])) hn))⟩
   ·refine ly (wanted_y rfl rfl rfl a9) rfl (HStep.of_val (v := (ptr m 3)) (vf TyShB.fld40_3 (b := m) (o := 0) rfl) ?_)
    refine ly (wanted_y rfl rfl rfl a9) rfl (HStep.of_val (v := (.int .i64 a0)) (vl TyShB.agg27 rfl (rc b0 rfl)) ?_)
    refine ly (wanted_y rfl rfl rfl a9) rfl (HStep.of_val (v := (.bool (a0 == 5))) (vr rfl rfl rfl) ?_)
    refine lv rfl rfl (v := (.bool (a0 == 5))) (hv_pick_f rfl a9 rfl) (lv rfl rfl (va rfl) ?_)
    refine ln (qn ?_)
    exact ⟨⟨b1, (row_congr b0 (by first | rfl | ((try rw [a7]); (try rw [a9]); all_goals first | rfl | (simp only [Bool.true_or, Bool.or_true, Bool.false_or, Bool.or_false, Bool.true_and, Bool.and_true, Bool.false_and, Bool.and_false, Bool.not_true, Bool.not_false, Bool.cond_true, Bool.cond_false]; done)) | simp [a7, a9])), trivial⟩, (hc rfl (hc (show ((.bool (a0 == 5)) : Value) = (.bool ((!(decide (Ml.Mv.to ⟨a3, a5, a1, a0, a6, a4, a2, a8⟩ ≥ 0))) || ((a0 == 2) || (a0 == 5)))) from (by first | rfl | ((try rw [a7]); (try rw [a9]); all_goals first | rfl | (simp only [Bool.true_or, Bool.or_true, Bool.false_or, Bool.or_false, Bool.true_and, Bool.and_true, Bool.false_and, Bool.and_false, Bool.not_true, Bool.not_false, Bool.cond_true, Bool.cond_false]; done)) | simp [a7, a9])) hn))⟩
 ·rintro ρ h2 ⟨⟨b5, b9, -⟩, hH⟩
  refine xh _ hH ?_
  refine xc (b := ((!(decide (Ml.Mv.to ⟨a3, a5, a1, a0, a6, a4, a2, a8⟩ ≥ 0))) || ((a0 == 2) || (a0 == 5)))) rfl (fun b3 => ?_) (fun b3 => ?_)
  ·replace H := H.1 b3
   refine xs (xr ?_)
   refine lv rfl rfl (va rfl) ?_
   refine ln (qn (xt (br (qr ?_))))
   replace H := H h2 b5
   exact endQ_ret _ (res_one Tryz.results107 (rv_tmp rfl)) H
  ·replace H := H.2 b3
   refine xs (xr ?_)
   refine lv rfl rfl (v := (ptr m 3)) (vf TyShB.fld40_3 (b := m) (o := 0) rfl) (lv rfl rfl (vl TyShB.agg27 rfl (rc b9 rfl)) (lv rfl rfl (vr rfl rfl rfl) (lv rfl rfl (va rfl) ?_)))
   refine ln (qn ?_)
   refine xc (b := a0 == 0) rfl (fun b2 => ?_) (fun b2 => ?_)
   ·replace H := H.1 b2
    refine xs (xr ?_)
    refine lv rfl rfl (va rfl) ?_
    refine ln (qn (xt (br (qr ?_))))
    replace H := H h2 b5
    exact endQ_ret _ (res_one Tryz.results107 (rv_tmp rfl)) H
   ·replace H := H.2 b2
    refine xs (xr ?_)
    refine lv rfl rfl (v := (ptr m 3)) (vf TyShB.fld40_3 (b := m) (o := 0) rfl) (lv rfl rfl (vl TyShB.agg27 rfl (rc b9 rfl)) (lv rfl rfl (vr rfl rfl rfl) (lv rfl rfl (va rfl) ?_)))
    refine ln (qn ?_)
    refine xc (b := a0 == 191) rfl (fun b4 => ?_) (fun b4 => ?_)
    ·replace H := H.1 b4
     refine xs (xr ?_)
     refine lv rfl rfl (va rfl) ?_
     refine ln (qn (xt (br (qr ?_))))
     replace H := H h2 b5
     exact endQ_ret _ (res_one Tryz.results107 (rv_tmp rfl)) H
    ·replace H := H.2 b4
     refine xi (bn (qn (xs (xr ?_))))
     refine lv rfl rfl (va rfl) ?_
     refine ln (qn (xt ?_))
     replace H := H h2 b5
     exact endQ_ret _ (res_one Tryz.results107 (rv_tmp rfl)) H
theorem f33_sh (a0 : Int) (a7 : ByteArray) (a3 : ByteArray) (a6 : Int) (a4 : Bool) (b9 : Int) (a2 : Int) (a1 : Int) (h : Heap) (R : Value → Heap → Prop)
  (H : ((((decide (a0 < 1)) || ((decide (a0 > 5)) || ((decide (a2 < 0)) || ((decide (a1 ≥ 0)) && (decide (a1 < a2)))))) = true → (∀ (h1 : Heap), Ext h h1 → R (.int .i64 230) h1)) ∧ (((decide (a0 < 1)) || ((decide (a0 > 5)) || ((decide (a2 < 0)) || ((decide (a1 ≥ 0)) && (decide (a1 < a2)))))) = false → (((a4 && ((a0 != 1) || ((a6 != 0) || (!(decide (a1 ≥ 0)))))) = true → (∀ (h1 : Heap), Ext h h1 → R (.int .i64 230) h1)) ∧ ((a4 && ((a0 != 1) || ((a6 != 0) || (!(decide (a1 ≥ 0)))))) = false → ((((a0 == 1) && ((!a4) && (!decide (a3 = ByteArray.empty)))) = true → (∀ (h1 : Heap), Ext h h1 → R (.int .i64 230) h1)) ∧ (((a0 == 1) && ((!a4) && (!decide (a3 = ByteArray.empty)))) = false → ((((decide (a0 > 2)) && (!decide (a3 = ByteArray.empty))) = true → (∀ (h1 : Heap), Ext h h1 → R (.int .i64 230) h1)) ∧ (((decide (a0 > 2)) && (!decide (a3 = ByteArray.empty))) = false → ((((decide (a0 > 3)) && (!decide (a7 = ByteArray.empty))) = true → (∀ (h1 : Heap), Ext h h1 → R (.int .i64 230) h1)) ∧ (((decide (a0 > 3)) && (!decide (a7 = ByteArray.empty))) = false → (∀ (h1 : Heap), Ext h h1 → R (.int .i64 0) h1)))))))))))) :
  HC Tryz.prog 33 #[(.agg #[(.int .i64 a0), (.string a7), (.string a3), (.int .i64 a6), (.bool a4), (.int .i64 b9), (.int .i64 a2), (.int .i64 a1)])] h R := by
 refine hc_of (args := [(.agg #[(.int .i64 a0), (.string a7), (.string a3), (.int .i64 a6), (.bool a4), (.int .i64 b9), (.int .i64 a2), (.int .i64 a1)])]) Tryz.func33 rfl Tryz.ntmps33 (Nat.le_of_ble_eq_true rfl) ?_
 refine xs (xr ?_)
 refine lp rfl rfl (hn_box (v := (.agg #[(.int .i64 a0), (.string a7), (.string a3), (.int .i64 a6), (.bool a4), (.int .i64 b9), (.int .i64 a2), (.int .i64 a1)])) rfl ?_)
 intro m h1 c7 c6
 have c0 := ext_pushed_f105_sh c6
 have c8 : Array.size h ≤ m := Nat.le_of_eq (Eq.symm c7)
 have b7 : h1[m]? = some (.cells #[(.int .i64 a0), (.string a7), (.string a3), (.int .i64 a6), (.bool a4), (.int .i64 b9), (.int .i64 a2), (.int .i64 a1)] 40 (0, 0)) := by rw [c6]; exact push_new c7
 refine lv rfl rfl (va rfl) ?_
 refine ln (qn (xs (xr ?_)))
 refine lv rfl rfl (v := (ptr m 7)) (vf TyShB.fld40_7 (b := m) (o := 0) rfl) (lv rfl rfl (vl TyShB.agg3 rfl (rc b7 rfl)) (lv rfl rfl (vr rfl rfl rfl) (lv rfl rfl (va rfl) ?_)))
 refine ln (qn (xs (xb ?_)))
 refine xk (fun ρ h' => h1 = h' ∧ Has ρ [(1, (ptr m 0)), (3, (.bool (decide (a1 ≥ 0)))), (7, (.bool ((decide (a0 < 1)) || ((decide (a0 > 5)) || ((decide (a2 < 0)) || ((decide (a1 ≥ 0)) && (decide (a1 < a2))))))))]) ?_ ?_
 ·refine xr ?_
  refine lv rfl rfl (v := (ptr m 0)) (vf TyShB.fld40_0 (b := m) (o := 0) rfl) (lv rfl rfl (vl TyShB.agg3 rfl (rc b7 rfl)) (lv rfl rfl (vr rfl rfl rfl) (lv rfl rfl (vm rfl) ?_)))
  rcases bool_or (decide (a0 < 1)) with b2 | b2
  ·refine lo (wanted_n rfl rfl rfl b2) rfl ?_
   refine lo (wanted_n rfl rfl rfl b2) rfl ?_
   refine lo (wanted_n rfl rfl rfl b2) rfl ?_
   refine lv rfl rfl (v := (.bool true)) (hv_pick_t rfl b2 rfl) (lv rfl rfl (vm rfl) ?_)
   refine lo (wanted_n rfl rfl (c := true) rfl rfl) rfl ?_
   refine lo (wanted_n rfl rfl (c := true) rfl rfl) rfl ?_
   refine lo (wanted_n rfl rfl (c := true) rfl rfl) rfl ?_
   refine lv rfl rfl (v := (.bool true)) (hv_pick (t := true) rfl rfl) (lv rfl rfl (vm rfl) ?_)
   refine lo (wanted_n rfl rfl (c := true) rfl rfl) rfl ?_
   refine lo (wanted_n rfl rfl (c := true) rfl rfl) rfl ?_
   refine lo (wanted_u rfl rfl rfl) rfl ?_
   refine lo (wanted_u rfl rfl rfl) rfl ?_
   refine lo (wanted_u rfl rfl rfl) rfl ?_
   refine lo (wanted_u rfl rfl rfl) rfl ?_
   refine lo (wanted_u rfl rfl rfl) rfl ?_
   refine lo (wanted_n rfl rfl (c := true) rfl rfl) rfl ?_
   refine lv rfl rfl (v := (.bool true)) (hv_pick (t := true) rfl rfl) (lv rfl rfl (va rfl) ?_)
   refine ln (qn ?_)
   exact ⟨rfl, (hc rfl (hc rfl (hc (show ((.bool true) : Value) = (.bool ((decide (a0 < 1)) || ((decide (a0 > 5)) || ((decide (a2 < 0)) || ((decide (a1 ≥ 0)) && (decide (a1 < a2))))))) from (by first | rfl | ((try rw [b2]); all_goals first | rfl | (simp only [Bool.true_or, Bool.or_true, Bool.false_or, Bool.or_false, Bool.true_and, Bool.and_true, Bool.false_and, Bool.and_false, Bool.not_true, Bool.not_false, Bool.cond_true, Bool.cond_false]; done)) | simp [b2])) hn)))⟩
  ·refine ly (wanted_y rfl rfl rfl b2) rfl (HStep.of_val (v := (ptr m 0)) (vf TyShB.fld40_0 (b := m) (o := 0) rfl) ?_)
   refine ly (wanted_y rfl rfl rfl b2) rfl (HStep.of_val (v := (.int .i64 a0)) (vl TyShB.agg3 rfl (rc b7 rfl)) ?_)
   refine ly (wanted_y rfl rfl rfl b2) rfl (HStep.of_val (v := (.bool (decide (a0 > 5)))) (vr rfl rfl rfl) ?_)
   refine lv rfl rfl (v := (.bool (decide (a0 > 5)))) (hv_pick_f rfl b2 rfl) (lv rfl rfl (vm rfl) ?_)
   rcases bool_or (decide (a0 > 5)) with b6 | b6
   ·refine lo (wanted_n rfl rfl rfl b6) rfl ?_
    refine lo (wanted_n rfl rfl rfl b6) rfl ?_
    refine lo (wanted_n rfl rfl rfl b6) rfl ?_
    refine lv rfl rfl (v := (.bool true)) (hv_pick_t rfl b6 rfl) (lv rfl rfl (vm rfl) ?_)
    refine lo (wanted_n rfl rfl (c := true) rfl rfl) rfl ?_
    refine lo (wanted_n rfl rfl (c := true) rfl rfl) rfl ?_
    refine lo (wanted_u rfl rfl rfl) rfl ?_
    refine lo (wanted_u rfl rfl rfl) rfl ?_
    refine lo (wanted_u rfl rfl rfl) rfl ?_
    refine lo (wanted_u rfl rfl rfl) rfl ?_
    refine lo (wanted_u rfl rfl rfl) rfl ?_
    refine lo (wanted_n rfl rfl (c := true) rfl rfl) rfl ?_
    refine lv rfl rfl (v := (.bool true)) (hv_pick (t := true) rfl rfl) (lv rfl rfl (va rfl) ?_)
    refine ln (qn ?_)
    exact ⟨rfl, (hc rfl (hc rfl (hc (show ((.bool true) : Value) = (.bool ((decide (a0 < 1)) || ((decide (a0 > 5)) || ((decide (a2 < 0)) || ((decide (a1 ≥ 0)) && (decide (a1 < a2))))))) from (by first | rfl | ((try rw [b2]); (try rw [b6]); all_goals first | rfl | (simp only [Bool.true_or, Bool.or_true, Bool.false_or, Bool.or_false, Bool.true_and, Bool.and_true, Bool.false_and, Bool.and_false, Bool.not_true, Bool.not_false, Bool.cond_true, Bool.cond_false]; done)) | simp [b2, b6])) hn)))⟩
   ·refine ly (wanted_y rfl rfl rfl b6) rfl (HStep.of_val (v := (ptr m 6)) (vf TyShB.fld40_6 (b := m) (o := 0) rfl) ?_)
    refine ly (wanted_y rfl rfl rfl b6) rfl (HStep.of_val (v := (.int .i64 a2)) (vl TyShB.agg3 rfl (rc b7 rfl)) ?_)
    refine ly (wanted_y rfl rfl rfl b6) rfl (HStep.of_val (v := (.bool (decide (a2 < 0)))) (vr rfl rfl rfl) ?_)
    refine lv rfl rfl (v := (.bool (decide (a2 < 0)))) (hv_pick_f rfl b6 rfl) (lv rfl rfl (vm rfl) ?_)
    rcases bool_or (decide (a2 < 0)) with a9 | a9
    ·refine lo (wanted_n rfl rfl rfl a9) rfl ?_
     refine lo (wanted_n rfl rfl rfl a9) rfl ?_
     refine lo (wanted_u rfl rfl rfl) rfl ?_
     refine lo (wanted_u rfl rfl rfl) rfl ?_
     refine lo (wanted_u rfl rfl rfl) rfl ?_
     refine lo (wanted_u rfl rfl rfl) rfl ?_
     refine lo (wanted_u rfl rfl rfl) rfl ?_
     refine lo (wanted_n rfl rfl rfl a9) rfl ?_
     refine lv rfl rfl (v := (.bool true)) (hv_pick_t rfl a9 rfl) (lv rfl rfl (va rfl) ?_)
     refine ln (qn ?_)
     exact ⟨rfl, (hc rfl (hc rfl (hc (show ((.bool true) : Value) = (.bool ((decide (a0 < 1)) || ((decide (a0 > 5)) || ((decide (a2 < 0)) || ((decide (a1 ≥ 0)) && (decide (a1 < a2))))))) from (by first | rfl | ((try rw [b2]); (try rw [b6]); (try rw [a9]); all_goals first | rfl | (simp only [Bool.true_or, Bool.or_true, Bool.false_or, Bool.or_false, Bool.true_and, Bool.and_true, Bool.false_and, Bool.and_false, Bool.not_true, Bool.not_false, Bool.cond_true, Bool.cond_false]; done)) | simp [b2, b6, a9])) hn)))⟩
    ·refine ly (wanted_y rfl rfl rfl a9) rfl (HStep.of_val (v := (.bool (decide (a1 ≥ 0)))) (vm rfl) ?_)
     refine ly (wanted_y rfl rfl rfl a9) rfl (HStep.of_val (v := (.bool (decide (a1 ≥ 0)))) (vm rfl) ?_)
     rcases bool_or (decide (a1 ≥ 0)) with a8 | a8
     ·refine ly (wanted_y rfl rfl rfl a8) rfl (HStep.of_val (v := (ptr m 7)) (vf TyShB.fld40_7 (b := m) (o := 0) rfl) ?_)
      refine ly (wanted_y rfl rfl rfl a8) rfl (HStep.of_val (v := (.int .i64 a1)) (vl TyShB.agg3 rfl (rc b7 rfl)) ?_)
      refine ly (wanted_y rfl rfl rfl a8) rfl (HStep.of_val (v := (ptr m 6)) (vf TyShB.fld40_6 (b := m) (o := 0) rfl) ?_)
      refine ly (wanted_y rfl rfl rfl a8) rfl (HStep.of_val (v := (.int .i64 a2)) (vl TyShB.agg3 rfl (rc b7 rfl)) ?_)
      refine ly (wanted_y rfl rfl rfl a8) rfl (HStep.of_val (v := (.bool (decide (a1 < a2)))) (vr rfl rfl rfl) ?_)
      refine ly (wanted_y rfl rfl rfl a9) rfl (HStep.of_val (v := (.bool (decide (a1 < a2)))) (hv_pick_t rfl a8 rfl) ?_)
      refine lv rfl rfl (v := (.bool (decide (a1 < a2)))) (hv_pick_f rfl a9 rfl) (lv rfl rfl (va rfl) ?_)
      refine ln (qn ?_)
      exact ⟨rfl, (hc rfl (hc rfl (hc (show ((.bool (decide (a1 < a2))) : Value) = (.bool ((decide (a0 < 1)) || ((decide (a0 > 5)) || ((decide (a2 < 0)) || ((decide (a1 ≥ 0)) && (decide (a1 < a2))))))) from (by first | rfl | ((try rw [b2]); (try rw [b6]); (try rw [a9]); (try rw [a8]); all_goals first | rfl | (simp only [Bool.true_or, Bool.or_true, Bool.false_or, Bool.or_false, Bool.true_and, Bool.and_true, Bool.false_and, Bool.and_false, Bool.not_true, Bool.not_false, Bool.cond_true, Bool.cond_false]; done)) | simp [b2, b6, a9, a8])) hn)))⟩
     ·refine lo (wanted_n rfl rfl rfl a8) rfl ?_
      refine lo (wanted_n rfl rfl rfl a8) rfl ?_
      refine lo (wanted_n rfl rfl rfl a8) rfl ?_
      refine lo (wanted_n rfl rfl rfl a8) rfl ?_
      refine lo (wanted_n rfl rfl rfl a8) rfl ?_
      refine ly (wanted_y rfl rfl rfl a9) rfl (HStep.of_val (v := (.bool false)) (hv_pick_f rfl a8 rfl) ?_)
      refine lv rfl rfl (v := (.bool false)) (hv_pick_f rfl a9 rfl) (lv rfl rfl (va rfl) ?_)
      refine ln (qn ?_)
      exact ⟨rfl, (hc rfl (hc rfl (hc (show ((.bool false) : Value) = (.bool ((decide (a0 < 1)) || ((decide (a0 > 5)) || ((decide (a2 < 0)) || ((decide (a1 ≥ 0)) && (decide (a1 < a2))))))) from (by first | rfl | ((try rw [b2]); (try rw [b6]); (try rw [a9]); (try rw [a8]); all_goals first | rfl | (simp only [Bool.true_or, Bool.or_true, Bool.false_or, Bool.or_false, Bool.true_and, Bool.and_true, Bool.false_and, Bool.and_false, Bool.not_true, Bool.not_false, Bool.cond_true, Bool.cond_false]; done)) | simp [b2, b6, a9, a8])) hn)))⟩
 ·rintro ρ _ ⟨rfl, hH⟩
  refine xh _ hH ?_
  refine xc (b := ((decide (a0 < 1)) || ((decide (a0 > 5)) || ((decide (a2 < 0)) || ((decide (a1 ≥ 0)) && (decide (a1 < a2))))))) rfl (fun c5 => ?_) (fun c5 => ?_)
  ·replace H := H.1 c5
   refine xs (xr ?_)
   refine lv rfl rfl (va rfl) ?_
   refine ln (qn (xt (br (qr ?_))))
   replace H := H h1 c0
   exact endQ_ret _ (res_one Tryz.results33 (rv_tmp rfl)) H
  ·replace H := H.2 c5
   refine xk (fun ρ h' => h1 = h' ∧ Has ρ [(1, (ptr m 0)), (31, (.bool (a4 && ((a0 != 1) || ((a6 != 0) || (!(decide (a1 ≥ 0))))))))]) ?_ ?_
   ·refine xr ?_
    refine lv rfl rfl (v := (ptr m 4)) (vf TyShB.fld40_4 (b := m) (o := 0) rfl) (lv rfl rfl (vl TyShB.agg4 rfl (rc b7 rfl)) (lv rfl rfl (vm rfl) ?_))
    rcases bool_or (a4) with a5 | a5
    ·refine ly (wanted_y rfl rfl rfl a5) rfl (HStep.of_val (v := (ptr m 0)) (vf TyShB.fld40_0 (b := m) (o := 0) rfl) ?_)
     refine ly (wanted_y rfl rfl rfl a5) rfl (HStep.of_val (v := (.int .i64 a0)) (vl TyShB.agg3 rfl (rc b7 rfl)) ?_)
     refine ly (wanted_y rfl rfl rfl a5) rfl (HStep.of_val (v := (.bool (a0 != 1))) (vr rfl rfl rfl) ?_)
     refine ly (wanted_y rfl rfl rfl a5) rfl (HStep.of_val (v := (.bool (a0 != 1))) (vm rfl) ?_)
     rcases bool_or (a0 != 1) with b1 | b1
     ·refine lo (wanted_n rfl rfl rfl b1) rfl ?_
      refine lo (wanted_n rfl rfl rfl b1) rfl ?_
      refine lo (wanted_n rfl rfl rfl b1) rfl ?_
      refine ly (wanted_y rfl rfl rfl a5) rfl (HStep.of_val (v := (.bool true)) (hv_pick_t rfl b1 rfl) ?_)
      refine ly (wanted_y rfl rfl rfl a5) rfl (HStep.of_val (v := (.bool true)) (vm rfl) ?_)
      refine lo (wanted_n rfl rfl (c := true) rfl rfl) rfl ?_
      refine lo (wanted_n rfl rfl (c := true) rfl rfl) rfl ?_
      refine ly (wanted_y rfl rfl rfl a5) rfl (HStep.of_val (v := (.bool true)) (hv_pick (t := true) rfl rfl) ?_)
      refine lv rfl rfl (v := (.bool true)) (hv_pick_t rfl a5 rfl) (lv rfl rfl (va rfl) ?_)
      refine ln (qn ?_)
      exact ⟨rfl, (hc rfl (hc (show ((.bool true) : Value) = (.bool (a4 && ((a0 != 1) || ((a6 != 0) || (!(decide (a1 ≥ 0))))))) from (by first | rfl | ((try rw [a5]); (try rw [b1]); all_goals first | rfl | (simp only [Bool.true_or, Bool.or_true, Bool.false_or, Bool.or_false, Bool.true_and, Bool.and_true, Bool.false_and, Bool.and_false, Bool.not_true, Bool.not_false, Bool.cond_true, Bool.cond_false]; done)) | simp [a5, b1])) hn))⟩
     ·refine ly (wanted_y rfl rfl rfl b1) rfl (HStep.of_val (v := (ptr m 3)) (vf TyShB.fld40_3 (b := m) (o := 0) rfl) ?_)
      refine ly (wanted_y rfl rfl rfl b1) rfl (HStep.of_val (v := (.int .i64 a6)) (vl TyShB.agg27 rfl (rc b7 rfl)) ?_)
      refine ly (wanted_y rfl rfl rfl b1) rfl (HStep.of_val (v := (.bool (a6 != 0))) (vr rfl rfl rfl) ?_)
      refine ly (wanted_y rfl rfl rfl a5) rfl (HStep.of_val (v := (.bool (a6 != 0))) (hv_pick_f rfl b1 rfl) ?_)
      refine ly (wanted_y rfl rfl rfl a5) rfl (HStep.of_val (v := (.bool (a6 != 0))) (vm rfl) ?_)
      rcases bool_or (a6 != 0) with b8 | b8
      ·refine lo (wanted_n rfl rfl rfl b8) rfl ?_
       refine lo (wanted_n rfl rfl rfl b8) rfl ?_
       refine ly (wanted_y rfl rfl rfl a5) rfl (HStep.of_val (v := (.bool true)) (hv_pick_t rfl b8 rfl) ?_)
       refine lv rfl rfl (v := (.bool true)) (hv_pick_t rfl a5 rfl) (lv rfl rfl (va rfl) ?_)
       refine ln (qn ?_)
       exact ⟨rfl, (hc rfl (hc (show ((.bool true) : Value) = (.bool (a4 && ((a0 != 1) || ((a6 != 0) || (!(decide (a1 ≥ 0))))))) from (by first | rfl | ((try rw [a5]); (try rw [b1]); (try rw [b8]); all_goals first | rfl | (simp only [Bool.true_or, Bool.or_true, Bool.false_or, Bool.or_false, Bool.true_and, Bool.and_true, Bool.false_and, Bool.and_false, Bool.not_true, Bool.not_false, Bool.cond_true, Bool.cond_false]; done)) | simp [a5, b1, b8])) hn))⟩
      ·refine ly (wanted_y rfl rfl rfl b8) rfl (HStep.of_val (v := (.bool (decide (a1 ≥ 0)))) (vm rfl) ?_)
       refine ly (wanted_y rfl rfl rfl b8) rfl (HStep.of_val (v := (.bool (!(decide (a1 ≥ 0))))) (hv_not (b := decide (a1 ≥ 0)) rfl) ?_)
       refine ly (wanted_y rfl rfl rfl a5) rfl (HStep.of_val (v := (.bool (!(decide (a1 ≥ 0))))) (hv_pick_f rfl b8 rfl) ?_)
       refine lv rfl rfl (v := (.bool (!(decide (a1 ≥ 0))))) (hv_pick_t rfl a5 rfl) (lv rfl rfl (va rfl) ?_)
       refine ln (qn ?_)
       exact ⟨rfl, (hc rfl (hc (show ((.bool (!(decide (a1 ≥ 0)))) : Value) = (.bool (a4 && ((a0 != 1) || ((a6 != 0) || (!(decide (a1 ≥ 0))))))) from (by first | rfl | ((try rw [a5]); (try rw [b1]); (try rw [b8]); all_goals first | rfl | (simp only [Bool.true_or, Bool.or_true, Bool.false_or, Bool.or_false, Bool.true_and, Bool.and_true, Bool.false_and, Bool.and_false, Bool.not_true, Bool.not_false, Bool.cond_true, Bool.cond_false]; done)) | simp [a5, b1, b8])) hn))⟩
    ·refine lo (wanted_n rfl rfl rfl a5) rfl ?_
     refine lo (wanted_n rfl rfl rfl a5) rfl ?_
     refine lo (wanted_n rfl rfl rfl a5) rfl ?_
     refine lo (wanted_n rfl rfl rfl a5) rfl ?_
     refine lo (wanted_u rfl rfl rfl) rfl ?_
     refine lo (wanted_u rfl rfl rfl) rfl ?_
     refine lo (wanted_u rfl rfl rfl) rfl ?_
     refine lo (wanted_n rfl rfl rfl a5) rfl ?_
     refine lo (wanted_n rfl rfl rfl a5) rfl ?_
     refine lo (wanted_u rfl rfl rfl) rfl ?_
     refine lo (wanted_u rfl rfl rfl) rfl ?_
     refine lo (wanted_n rfl rfl rfl a5) rfl ?_
     refine lv rfl rfl (v := (.bool false)) (hv_pick_f rfl a5 rfl) (lv rfl rfl (va rfl) ?_)
     refine ln (qn ?_)
     exact ⟨rfl, (hc rfl (hc (show ((.bool false) : Value) = (.bool (a4 && ((a0 != 1) || ((a6 != 0) || (!(decide (a1 ≥ 0))))))) from (by first | rfl | ((try rw [a5]); all_goals first | rfl | (simp only [Bool.true_or, Bool.or_true, Bool.false_or, Bool.or_false, Bool.true_and, Bool.and_true, Bool.false_and, Bool.and_false, Bool.not_true, Bool.not_false, Bool.cond_true, Bool.cond_false]; done)) | simp [a5])) hn))⟩
   ·rintro ρ _ ⟨rfl, hH⟩
    refine xh _ hH ?_
    refine xc (b := (a4 && ((a0 != 1) || ((a6 != 0) || (!(decide (a1 ≥ 0))))))) rfl (fun c2 => ?_) (fun c2 => ?_)
    ·replace H := H.1 c2
     refine xs (xr ?_)
     refine lv rfl rfl (va rfl) ?_
     refine ln (qn (xt (br (qr ?_))))
     replace H := H h1 c0
     exact endQ_ret _ (res_one Tryz.results33 (rv_tmp rfl)) H
    ·replace H := H.2 c2
     refine xk (fun ρ h' => h1 = h' ∧ Has ρ [(1, (ptr m 0)), (48, (.bool ((a0 == 1) && ((!a4) && (!decide (a3 = ByteArray.empty))))))]) ?_ ?_
     ·refine xr ?_
      refine lv rfl rfl (v := (ptr m 0)) (vf TyShB.fld40_0 (b := m) (o := 0) rfl) (lv rfl rfl (vl TyShB.agg3 rfl (rc b7 rfl)) (lv rfl rfl (vr rfl rfl rfl) (lv rfl rfl (vm rfl) ?_)))
      rcases bool_or (a0 == 1) with b0 | b0
      ·refine ly (wanted_y rfl rfl rfl b0) rfl (HStep.of_val (v := (ptr m 4)) (vf TyShB.fld40_4 (b := m) (o := 0) rfl) ?_)
       refine ly (wanted_y rfl rfl rfl b0) rfl (HStep.of_val (v := (.bool a4)) (vl TyShB.agg4 rfl (rc b7 rfl)) ?_)
       refine ly (wanted_y rfl rfl rfl b0) rfl (HStep.of_val (v := (.bool (!a4))) (hv_not (b := a4) rfl) ?_)
       refine lv rfl rfl (v := (.bool (!a4))) (hv_pick_t rfl b0 rfl) (lv rfl rfl (vm rfl) ?_)
       rcases bool_or (!a4) with b3 | b3
       ·refine ly (wanted_y rfl rfl rfl b3) rfl (HStep.of_val (v := (ptr m 2)) (vf TyShB.fld40_2 (b := m) (o := 0) rfl) ?_)
        refine ly (wanted_y rfl rfl rfl b3) rfl (HStep.of_val (v := (.string a3)) (vl TyShB.agg9 rfl (rc b7 rfl)) ?_)
        refine ly (wanted_y rfl rfl rfl b3) rfl (HStep.of_val (v := (.bool (!decide (a3 = ByteArray.empty)))) (hv_str rfl rfl rfl) ?_)
        refine lv rfl rfl (v := (.bool (!decide (a3 = ByteArray.empty)))) (hv_pick_t rfl b3 rfl) (lv rfl rfl (va rfl) ?_)
        refine ln (qn ?_)
        exact ⟨rfl, (hc rfl (hc (show ((.bool (!decide (a3 = ByteArray.empty))) : Value) = (.bool ((a0 == 1) && ((!a4) && (!decide (a3 = ByteArray.empty))))) from (by first | rfl | ((try rw [b0]); (try rw [b3]); all_goals first | rfl | (simp only [Bool.true_or, Bool.or_true, Bool.false_or, Bool.or_false, Bool.true_and, Bool.and_true, Bool.false_and, Bool.and_false, Bool.not_true, Bool.not_false, Bool.cond_true, Bool.cond_false]; done)) | simp [b0, b3])) hn))⟩
       ·refine lo (wanted_n rfl rfl rfl b3) rfl ?_
        refine lo (wanted_n rfl rfl rfl b3) rfl ?_
        refine lo (wanted_n rfl rfl rfl b3) rfl ?_
        refine lv rfl rfl (v := (.bool false)) (hv_pick_f rfl b3 rfl) (lv rfl rfl (va rfl) ?_)
        refine ln (qn ?_)
        exact ⟨rfl, (hc rfl (hc (show ((.bool false) : Value) = (.bool ((a0 == 1) && ((!a4) && (!decide (a3 = ByteArray.empty))))) from (by first | rfl | ((try rw [b0]); (try rw [b3]); all_goals first | rfl | (simp only [Bool.true_or, Bool.or_true, Bool.false_or, Bool.or_false, Bool.true_and, Bool.and_true, Bool.false_and, Bool.and_false, Bool.not_true, Bool.not_false, Bool.cond_true, Bool.cond_false]; done)) | simp [b0, b3])) hn))⟩
      ·refine lo (wanted_n rfl rfl rfl b0) rfl ?_
       refine lo (wanted_n rfl rfl rfl b0) rfl ?_
       refine lo (wanted_n rfl rfl rfl b0) rfl ?_
       refine lv rfl rfl (v := (.bool false)) (hv_pick_f rfl b0 rfl) (lv rfl rfl (vm rfl) ?_)
       refine lo (wanted_n rfl rfl (c := false) rfl rfl) rfl ?_
       refine lo (wanted_n rfl rfl (c := false) rfl rfl) rfl ?_
       refine lo (wanted_n rfl rfl (c := false) rfl rfl) rfl ?_
       refine lv rfl rfl (v := (.bool false)) (hv_pick (t := false) rfl rfl) (lv rfl rfl (va rfl) ?_)
       refine ln (qn ?_)
       exact ⟨rfl, (hc rfl (hc (show ((.bool false) : Value) = (.bool ((a0 == 1) && ((!a4) && (!decide (a3 = ByteArray.empty))))) from (by first | rfl | ((try rw [b0]); all_goals first | rfl | (simp only [Bool.true_or, Bool.or_true, Bool.false_or, Bool.or_false, Bool.true_and, Bool.and_true, Bool.false_and, Bool.and_false, Bool.not_true, Bool.not_false, Bool.cond_true, Bool.cond_false]; done)) | simp [b0])) hn))⟩
     ·rintro ρ _ ⟨rfl, hH⟩
      refine xh _ hH ?_
      refine xc (b := ((a0 == 1) && ((!a4) && (!decide (a3 = ByteArray.empty))))) rfl (fun c1 => ?_) (fun c1 => ?_)
      ·replace H := H.1 c1
       refine xs (xr ?_)
       refine lv rfl rfl (va rfl) ?_
       refine ln (qn (xt (br (qr ?_))))
       replace H := H h1 c0
       exact endQ_ret _ (res_one Tryz.results33 (rv_tmp rfl)) H
      ·replace H := H.2 c1
       refine xk (fun ρ h' => h1 = h' ∧ Has ρ [(1, (ptr m 0)), (62, (.bool ((decide (a0 > 2)) && (!decide (a3 = ByteArray.empty)))))]) ?_ ?_
       ·refine xr ?_
        refine lv rfl rfl (v := (ptr m 0)) (vf TyShB.fld40_0 (b := m) (o := 0) rfl) (lv rfl rfl (vl TyShB.agg3 rfl (rc b7 rfl)) (lv rfl rfl (vr rfl rfl rfl) (lv rfl rfl (vm rfl) ?_)))
        rcases bool_or (decide (a0 > 2)) with b5 | b5
        ·refine ly (wanted_y rfl rfl rfl b5) rfl (HStep.of_val (v := (ptr m 2)) (vf TyShB.fld40_2 (b := m) (o := 0) rfl) ?_)
         refine ly (wanted_y rfl rfl rfl b5) rfl (HStep.of_val (v := (.string a3)) (vl TyShB.agg9 rfl (rc b7 rfl)) ?_)
         refine ly (wanted_y rfl rfl rfl b5) rfl (HStep.of_val (v := (.bool (!decide (a3 = ByteArray.empty)))) (hv_str rfl rfl rfl) ?_)
         refine lv rfl rfl (v := (.bool (!decide (a3 = ByteArray.empty)))) (hv_pick_t rfl b5 rfl) (lv rfl rfl (va rfl) ?_)
         refine ln (qn ?_)
         exact ⟨rfl, (hc rfl (hc (show ((.bool (!decide (a3 = ByteArray.empty))) : Value) = (.bool ((decide (a0 > 2)) && (!decide (a3 = ByteArray.empty)))) from (by first | rfl | ((try rw [b5]); all_goals first | rfl | (simp only [Bool.true_or, Bool.or_true, Bool.false_or, Bool.or_false, Bool.true_and, Bool.and_true, Bool.false_and, Bool.and_false, Bool.not_true, Bool.not_false, Bool.cond_true, Bool.cond_false]; done)) | simp [b5])) hn))⟩
        ·refine lo (wanted_n rfl rfl rfl b5) rfl ?_
         refine lo (wanted_n rfl rfl rfl b5) rfl ?_
         refine lo (wanted_n rfl rfl rfl b5) rfl ?_
         refine lv rfl rfl (v := (.bool false)) (hv_pick_f rfl b5 rfl) (lv rfl rfl (va rfl) ?_)
         refine ln (qn ?_)
         exact ⟨rfl, (hc rfl (hc (show ((.bool false) : Value) = (.bool ((decide (a0 > 2)) && (!decide (a3 = ByteArray.empty)))) from (by first | rfl | ((try rw [b5]); all_goals first | rfl | (simp only [Bool.true_or, Bool.or_true, Bool.false_or, Bool.or_false, Bool.true_and, Bool.and_true, Bool.false_and, Bool.and_false, Bool.not_true, Bool.not_false, Bool.cond_true, Bool.cond_false]; done)) | simp [b5])) hn))⟩
       ·rintro ρ _ ⟨rfl, hH⟩
        refine xh _ hH ?_
        refine xc (b := ((decide (a0 > 2)) && (!decide (a3 = ByteArray.empty)))) rfl (fun c3 => ?_) (fun c3 => ?_)
        ·replace H := H.1 c3
         refine xs (xr ?_)
         refine lv rfl rfl (va rfl) ?_
         refine ln (qn (xt (br (qr ?_))))
         replace H := H h1 c0
         exact endQ_ret _ (res_one Tryz.results33 (rv_tmp rfl)) H
        ·replace H := H.2 c3
         refine xk (fun ρ h' => h1 = h' ∧ Has ρ [(71, (.bool ((decide (a0 > 3)) && (!decide (a7 = ByteArray.empty)))))]) ?_ ?_
         ·refine xr ?_
          refine lv rfl rfl (v := (ptr m 0)) (vf TyShB.fld40_0 (b := m) (o := 0) rfl) (lv rfl rfl (vl TyShB.agg3 rfl (rc b7 rfl)) (lv rfl rfl (vr rfl rfl rfl) (lv rfl rfl (vm rfl) ?_)))
          rcases bool_or (decide (a0 > 3)) with b4 | b4
          ·refine ly (wanted_y rfl rfl rfl b4) rfl (HStep.of_val (v := (ptr m 1)) (vf TyShB.fld40_1 (b := m) (o := 0) rfl) ?_)
           refine ly (wanted_y rfl rfl rfl b4) rfl (HStep.of_val (v := (.string a7)) (vl TyShB.agg9 rfl (rc b7 rfl)) ?_)
           refine ly (wanted_y rfl rfl rfl b4) rfl (HStep.of_val (v := (.bool (!decide (a7 = ByteArray.empty)))) (hv_str rfl rfl rfl) ?_)
           refine lv rfl rfl (v := (.bool (!decide (a7 = ByteArray.empty)))) (hv_pick_t rfl b4 rfl) (lv rfl rfl (va rfl) ?_)
           refine ln (qn ?_)
           exact ⟨rfl, (hc (show ((.bool (!decide (a7 = ByteArray.empty))) : Value) = (.bool ((decide (a0 > 3)) && (!decide (a7 = ByteArray.empty)))) from (by first | rfl | ((try rw [b4]); all_goals first | rfl | (simp only [Bool.true_or, Bool.or_true, Bool.false_or, Bool.or_false, Bool.true_and, Bool.and_true, Bool.false_and, Bool.and_false, Bool.not_true, Bool.not_false, Bool.cond_true, Bool.cond_false]; done)) | simp [b4])) hn)⟩
          ·refine lo (wanted_n rfl rfl rfl b4) rfl ?_
           refine lo (wanted_n rfl rfl rfl b4) rfl ?_
           refine lo (wanted_n rfl rfl rfl b4) rfl ?_
           refine lv rfl rfl (v := (.bool false)) (hv_pick_f rfl b4 rfl) (lv rfl rfl (va rfl) ?_)
           refine ln (qn ?_)
           exact ⟨rfl, (hc (show ((.bool false) : Value) = (.bool ((decide (a0 > 3)) && (!decide (a7 = ByteArray.empty)))) from (by first | rfl | ((try rw [b4]); all_goals first | rfl | (simp only [Bool.true_or, Bool.or_true, Bool.false_or, Bool.or_false, Bool.true_and, Bool.and_true, Bool.false_and, Bool.and_false, Bool.not_true, Bool.not_false, Bool.cond_true, Bool.cond_false]; done)) | simp [b4])) hn)⟩
         ·rintro ρ _ ⟨rfl, hH⟩
          refine xh _ hH ?_
          refine xc (b := ((decide (a0 > 3)) && (!decide (a7 = ByteArray.empty)))) rfl (fun c4 => ?_) (fun c4 => ?_)
          ·replace H := H.1 c4
           refine xs (xr ?_)
           refine lv rfl rfl (va rfl) ?_
           refine ln (qn (xt (br (qr ?_))))
           replace H := H h1 c0
           exact endQ_ret _ (res_one Tryz.results33 (rv_tmp rfl)) H
          ·replace H := H.2 c4
           refine xi (bn (qn (xs (xr ?_))))
           refine lv rfl rfl (va rfl) ?_
           refine ln (qn (xt ?_))
           replace H := H h1 c0
           exact endQ_ret _ (res_one Tryz.results33 (rv_tmp rfl)) H
theorem f105_sh (a0 : Int) (b0 : ByteArray) (a7 : ByteArray) (a1 : Int) (b1 : Bool) (a9 : Int) (a8 : Int) (a2 : Int) (h : Heap) (R : Value → Heap → Prop)
  (H : ((((!(a0 == 2)) && (!(a0 == 3))) = true → (∀ (h1 : Heap), Ext h h1 → R (.tuple #[(.bool true), (.bool false), (.bool false)]) h1)) ∧ (((!(a0 == 2)) && (!(a0 == 3))) = false → ((((decide (a2 < 0)) || ((a1 == 2) || (a1 == 5))) = true → (∀ (h1 : Heap), Ext h h1 → R (.tuple #[(.bool true), (.bool (a0 == 2)), (.bool true)]) h1)) ∧ (((decide (a2 < 0)) || ((a1 == 2) || (a1 == 5))) = false → (((a1 == 0) = true → (∀ (h1 : Heap), Ext h h1 → R (.tuple #[(.bool false), (.bool (a0 == 2)), (.bool (a0 == 3))]) h1)) ∧ ((a1 == 0) = false → ((((a0 == 2) && (a1 == 191)) = true → (∀ (h1 : Heap), Ext h h1 → R (.tuple #[(.bool false), (.bool false), (.bool true)]) h1)) ∧ (((a0 == 2) && (a1 == 191)) = false → (∀ (h1 : Heap), Ext h h1 → R (.tuple #[(.bool true), (.bool false), (.bool false)]) h1)))))))))) :
  HC Tryz.prog 105 #[(.agg #[(.int .i64 a0), (.string b0), (.string a7), (.int .i64 a1), (.bool b1), (.int .i64 a9), (.int .i64 a8), (.int .i64 a2)])] h R := by
 refine hc_of (args := [(.agg #[(.int .i64 a0), (.string b0), (.string a7), (.int .i64 a1), (.bool b1), (.int .i64 a9), (.int .i64 a8), (.int .i64 a2)])]) Tryz.func105 rfl Tryz.ntmps105 (Nat.le_of_ble_eq_true rfl) ?_
 refine xs (xr ?_)
 refine lp rfl rfl (hn_box (v := (.agg #[(.int .i64 a0), (.string b0), (.string a7), (.int .i64 a1), (.bool b1), (.int .i64 a9), (.int .i64 a8), (.int .i64 a2)])) rfl ?_)
 intro m h1 b9 b8
 have b3 := ext_pushed_f105_sh b8
 have c0 : Array.size h ≤ m := Nat.le_of_eq (Eq.symm b9)
 have b2 : h1[m]? = some (.cells #[(.int .i64 a0), (.string b0), (.string a7), (.int .i64 a1), (.bool b1), (.int .i64 a9), (.int .i64 a8), (.int .i64 a2)] 40 (0, 0)) := by rw [b8]; exact push_new b9
 refine lv rfl rfl (va rfl) (lv rfl rfl (va rfl) (lv rfl rfl (va rfl) ?_))
 refine ln (qn (xs ?_))
 refine hx_draw TyShB.mixed [.pure, .read, .pure, .pure, .read, .pure, .pure, .pure] [0, 1, 2, 3, 4, 5, 6, 7] (by kernel_rfl) ?_
 refine pp (i := 0) rfl (wanted_0 rfl) rfl (ptr m 0) (fun _ => vf TyShB.fld40_0 (b := m) (o := 0) rfl) ?_
 refine pr (i := 1) rfl (wanted_0 rfl) rfl (.int .i64 a0) (fun _ he => vl TyShB.agg3 rfl (Ext.cell he (rc b2 rfl))) ?_
 refine pp (i := 2) rfl (wanted_0 rfl) rfl (.bool (a0 == 2)) (fun _ => vr rfl rfl rfl) ?_
 refine pp (i := 3) rfl (wanted_0 rfl) rfl (ptr m 0) (fun _ => vf TyShB.fld40_0 (b := m) (o := 0) rfl) ?_
 refine pr (i := 4) rfl (wanted_0 rfl) rfl (.int .i64 a0) (fun _ he => vl TyShB.agg3 rfl (Ext.cell he (rc b2 rfl))) ?_
 refine pp (i := 5) rfl (wanted_0 rfl) rfl (.bool (a0 == 3)) (fun _ => vr rfl rfl rfl) ?_
 refine pp (i := 6) rfl (wanted_0 rfl) rfl (.bool (a0 == 2)) (fun _ => va rfl) ?_
 refine pp (i := 7) rfl (wanted_0 rfl) rfl (.bool (a0 == 3)) (fun _ => va rfl) ?_
 refine hp_nil ?_
 refine qn ?_
 refine xk (fun ρ h' => h1 = h' ∧ Has ρ [(1, (ptr m 0)), (5, (.bool (a0 == 2))), (6, (.bool (a0 == 3))), (7, (.bool ((decide (a2 < 0)) || ((a1 == 2) || (a1 == 5)))))]) ?_ ?_
 ·refine xr ?_
  refine lv rfl rfl (v := (ptr m 7)) (vf TyShB.fld40_7 (b := m) (o := 0) rfl) (lv rfl rfl (vl TyShB.agg3 rfl (rc b2 rfl)) (lv rfl rfl (vr rfl rfl rfl) (lv rfl rfl (vm rfl) ?_)))
  rcases bool_or (decide (a2 < 0)) with a4 | a4
  ·refine lo (wanted_n rfl rfl rfl a4) rfl ?_
   refine lo (wanted_n rfl rfl rfl a4) rfl ?_
   refine lo (wanted_n rfl rfl rfl a4) rfl ?_
   refine lv rfl rfl (v := (.bool true)) (hv_pick_t rfl a4 rfl) (lv rfl rfl (vm rfl) ?_)
   refine lo (wanted_n rfl rfl (c := true) rfl rfl) rfl ?_
   refine lo (wanted_n rfl rfl (c := true) rfl rfl) rfl ?_
   refine lo (wanted_n rfl rfl (c := true) rfl rfl) rfl ?_
   refine lv rfl rfl (v := (.bool true)) (hv_pick (t := true) rfl rfl) (lv rfl rfl (va rfl) ?_)
   refine ln (qn ?_)
   exact ⟨rfl, (hc rfl (hc rfl (hc rfl (hc (show ((.bool true) : Value) = (.bool ((decide (a2 < 0)) || ((a1 == 2) || (a1 == 5)))) from (by first | rfl | ((try rw [a4]); all_goals first | rfl | (simp only [Bool.true_or, Bool.or_true, Bool.false_or, Bool.or_false, Bool.true_and, Bool.and_true, Bool.false_and, Bool.and_false, Bool.not_true, Bool.not_false, Bool.cond_true, Bool.cond_false]; done)) | simp [a4])) hn))))⟩
  ·refine ly (wanted_y rfl rfl rfl a4) rfl (HStep.of_val (v := (ptr m 3)) (vf TyShB.fld40_3 (b := m) (o := 0) rfl) ?_)
   refine ly (wanted_y rfl rfl rfl a4) rfl (HStep.of_val (v := (.int .i64 a1)) (vl TyShB.agg27 rfl (rc b2 rfl)) ?_)
   refine ly (wanted_y rfl rfl rfl a4) rfl (HStep.of_val (v := (.bool (a1 == 2))) (vr rfl rfl rfl) ?_)
   refine lv rfl rfl (v := (.bool (a1 == 2))) (hv_pick_f rfl a4 rfl) (lv rfl rfl (vm rfl) ?_)
   rcases bool_or (a1 == 2) with a6 | a6
   ·refine lo (wanted_n rfl rfl rfl a6) rfl ?_
    refine lo (wanted_n rfl rfl rfl a6) rfl ?_
    refine lo (wanted_n rfl rfl rfl a6) rfl ?_
    refine lv rfl rfl (v := (.bool true)) (hv_pick_t rfl a6 rfl) (lv rfl rfl (va rfl) ?_)
    refine ln (qn ?_)
    exact ⟨rfl, (hc rfl (hc rfl (hc rfl (hc (show ((.bool true) : Value) = (.bool ((decide (a2 < 0)) || ((a1 == 2) || (a1 == 5)))) from (by first | rfl | ((try rw [a4]); (try rw [a6]); all_goals first | rfl | (simp only [Bool.true_or, Bool.or_true, Bool.false_or, Bool.or_false, Bool.true_and, Bool.and_true, Bool.false_and, Bool.and_false, Bool.not_true, Bool.not_false, Bool.cond_true, Bool.cond_false]; done)) | simp [a4, a6])) hn))))⟩
   ·refine ly (wanted_y rfl rfl rfl a6) rfl (HStep.of_val (v := (ptr m 3)) (vf TyShB.fld40_3 (b := m) (o := 0) rfl) ?_)
    refine ly (wanted_y rfl rfl rfl a6) rfl (HStep.of_val (v := (.int .i64 a1)) (vl TyShB.agg27 rfl (rc b2 rfl)) ?_)
    refine ly (wanted_y rfl rfl rfl a6) rfl (HStep.of_val (v := (.bool (a1 == 5))) (vr rfl rfl rfl) ?_)
    refine lv rfl rfl (v := (.bool (a1 == 5))) (hv_pick_f rfl a6 rfl) (lv rfl rfl (va rfl) ?_)
    refine ln (qn ?_)
    exact ⟨rfl, (hc rfl (hc rfl (hc rfl (hc (show ((.bool (a1 == 5)) : Value) = (.bool ((decide (a2 < 0)) || ((a1 == 2) || (a1 == 5)))) from (by first | rfl | ((try rw [a4]); (try rw [a6]); all_goals first | rfl | (simp only [Bool.true_or, Bool.or_true, Bool.false_or, Bool.or_false, Bool.true_and, Bool.and_true, Bool.false_and, Bool.and_false, Bool.not_true, Bool.not_false, Bool.cond_true, Bool.cond_false]; done)) | simp [a4, a6])) hn))))⟩
 ·rintro ρ _ ⟨rfl, hH⟩
  refine xh _ hH ?_
  refine xs (xb ?_)
  refine xk (fun ρ h' => h1 = h' ∧ Has ρ [(1, (ptr m 0)), (5, (.bool (a0 == 2))), (6, (.bool (a0 == 3))), (7, (.bool ((decide (a2 < 0)) || ((a1 == 2) || (a1 == 5))))), (27, (.bool ((!(a0 == 2)) && (!(a0 == 3)))))]) ?_ ?_
  ·refine xr ?_
   refine lv rfl rfl (vm rfl) (lv rfl rfl (v := (.bool (!(a0 == 2)))) (hv_not (b := a0 == 2) rfl) (lv rfl rfl (vm rfl) ?_))
   rcases bool_or (!(a0 == 2)) with a5 | a5
   ·refine ly (wanted_y rfl rfl rfl a5) rfl (HStep.of_val (v := (.bool (a0 == 3))) (vm rfl) ?_)
    refine ly (wanted_y rfl rfl rfl a5) rfl (HStep.of_val (v := (.bool (!(a0 == 3)))) (hv_not (b := a0 == 3) rfl) ?_)
    refine lv rfl rfl (v := (.bool (!(a0 == 3)))) (hv_pick_t rfl a5 rfl) (lv rfl rfl (va rfl) ?_)
    refine ln (qn ?_)
    exact ⟨rfl, (hc rfl (hc rfl (hc rfl (hc rfl (hc (show ((.bool (!(a0 == 3))) : Value) = (.bool ((!(a0 == 2)) && (!(a0 == 3)))) from (by first | rfl | ((try rw [a5]); all_goals first | rfl | (simp only [Bool.true_or, Bool.or_true, Bool.false_or, Bool.or_false, Bool.true_and, Bool.and_true, Bool.false_and, Bool.and_false, Bool.not_true, Bool.not_false, Bool.cond_true, Bool.cond_false]; done)) | simp [a5])) hn)))))⟩
   ·refine lo (wanted_n rfl rfl rfl a5) rfl ?_
    refine lo (wanted_n rfl rfl rfl a5) rfl ?_
    refine lv rfl rfl (v := (.bool false)) (hv_pick_f rfl a5 rfl) (lv rfl rfl (va rfl) ?_)
    refine ln (qn ?_)
    exact ⟨rfl, (hc rfl (hc rfl (hc rfl (hc rfl (hc (show ((.bool false) : Value) = (.bool ((!(a0 == 2)) && (!(a0 == 3)))) from (by first | rfl | ((try rw [a5]); all_goals first | rfl | (simp only [Bool.true_or, Bool.or_true, Bool.false_or, Bool.or_false, Bool.true_and, Bool.and_true, Bool.false_and, Bool.and_false, Bool.not_true, Bool.not_false, Bool.cond_true, Bool.cond_false]; done)) | simp [a5])) hn)))))⟩
  ·rintro ρ _ ⟨rfl, hH⟩
   refine xh _ hH ?_
   refine xc (b := ((!(a0 == 2)) && (!(a0 == 3)))) rfl (fun b4 => ?_) (fun b4 => ?_)
   ·replace H := H.1 b4
    refine xs (xr ?_)
    refine lv rfl rfl (va rfl) (lv rfl rfl (va rfl) (lv rfl rfl (va rfl) ?_))
    refine ln (qn (xt (br (qr ?_))))
    replace H := H h1 b3
    exact endQ_ret _ (res_three Tryz.results105 (rv_tmp rfl) (rv_tmp rfl) (rv_tmp rfl)) H
   ·replace H := H.2 b4
    refine xs (xr ?_)
    refine lv rfl rfl (vm rfl) (lv rfl rfl (va rfl) ?_)
    refine ln (qn ?_)
    refine xc (b := ((decide (a2 < 0)) || ((a1 == 2) || (a1 == 5)))) rfl (fun b6 => ?_) (fun b6 => ?_)
    ·replace H := H.1 b6
     refine xs (xr ?_)
     refine lv rfl rfl (vm rfl) (lv rfl rfl (va rfl) (lv rfl rfl (va rfl) (lv rfl rfl (va rfl) ?_)))
     refine ln (qn (xt (br (qr ?_))))
     replace H := H h1 b3
     exact endQ_ret _ (res_three Tryz.results105 (rv_tmp rfl) (rv_tmp rfl) (rv_tmp rfl)) H
    ·replace H := H.2 b6
     refine xs (xr ?_)
     refine lv rfl rfl (v := (ptr m 3)) (vf TyShB.fld40_3 (b := m) (o := 0) rfl) (lv rfl rfl (vl TyShB.agg27 rfl (rc b2 rfl)) (lv rfl rfl (vr rfl rfl rfl) (lv rfl rfl (va rfl) ?_)))
     refine ln (qn ?_)
     refine xc (b := a1 == 0) rfl (fun b5 => ?_) (fun b5 => ?_)
     ·replace H := H.1 b5
      refine xs (xr ?_)
      refine lv rfl rfl (vm rfl) (lv rfl rfl (vm rfl) (lv rfl rfl (va rfl) (lv rfl rfl (va rfl) (lv rfl rfl (va rfl) ?_))))
      refine ln (qn (xt (br (qr ?_))))
      replace H := H h1 b3
      exact endQ_ret _ (res_three Tryz.results105 (rv_tmp rfl) (rv_tmp rfl) (rv_tmp rfl)) H
     ·replace H := H.2 b5
      refine xk (fun ρ h' => h1 = h' ∧ Has ρ [(43, (.bool ((a0 == 2) && (a1 == 191))))]) ?_ ?_
      ·refine xr ?_
       refine lv rfl rfl (vm rfl) (lv rfl rfl (vm rfl) ?_)
       rcases bool_or (a0 == 2) with a3 | a3
       ·refine ly (wanted_y rfl rfl rfl a3) rfl (HStep.of_val (v := (ptr m 3)) (vf TyShB.fld40_3 (b := m) (o := 0) rfl) ?_)
        refine ly (wanted_y rfl rfl rfl a3) rfl (HStep.of_val (v := (.int .i64 a1)) (vl TyShB.agg27 rfl (rc b2 rfl)) ?_)
        refine ly (wanted_y rfl rfl rfl a3) rfl (HStep.of_val (v := (.bool (a1 == 191))) (vr rfl rfl rfl) ?_)
        refine lv rfl rfl (v := (.bool (a1 == 191))) (hv_pick_t rfl a3 rfl) (lv rfl rfl (va rfl) ?_)
        refine ln (qn ?_)
        exact ⟨rfl, (hc (show ((.bool (a1 == 191)) : Value) = (.bool ((a0 == 2) && (a1 == 191))) from (by first | rfl | ((try rw [a3]); all_goals first | rfl | (simp only [Bool.true_or, Bool.or_true, Bool.false_or, Bool.or_false, Bool.true_and, Bool.and_true, Bool.false_and, Bool.and_false, Bool.not_true, Bool.not_false, Bool.cond_true, Bool.cond_false]; done)) | simp [a3])) hn)⟩
       ·refine lo (wanted_n rfl rfl rfl a3) rfl ?_
        refine lo (wanted_n rfl rfl rfl a3) rfl ?_
        refine lo (wanted_n rfl rfl rfl a3) rfl ?_
        refine lv rfl rfl (v := (.bool false)) (hv_pick_f rfl a3 rfl) (lv rfl rfl (va rfl) ?_)
        refine ln (qn ?_)
        exact ⟨rfl, (hc (show ((.bool false) : Value) = (.bool ((a0 == 2) && (a1 == 191))) from (by first | rfl | ((try rw [a3]); all_goals first | rfl | (simp only [Bool.true_or, Bool.or_true, Bool.false_or, Bool.or_false, Bool.true_and, Bool.and_true, Bool.false_and, Bool.and_false, Bool.not_true, Bool.not_false, Bool.cond_true, Bool.cond_false]; done)) | simp [a3])) hn)⟩
      ·rintro ρ _ ⟨rfl, hH⟩
       refine xh _ hH ?_
       refine xc (b := ((a0 == 2) && (a1 == 191))) rfl (fun b7 => ?_) (fun b7 => ?_)
       ·replace H := H.1 b7
        refine xs (xr ?_)
        refine lv rfl rfl (va rfl) (lv rfl rfl (va rfl) (lv rfl rfl (va rfl) ?_))
        refine ln (qn (xt (br (qr ?_))))
        replace H := H h1 b3
        exact endQ_ret _ (res_three Tryz.results105 (rv_tmp rfl) (rv_tmp rfl) (rv_tmp rfl)) H
       ·replace H := H.2 b7
        refine xi (bn (qn (xs (xr ?_))))
        refine lv rfl rfl (va rfl) (lv rfl rfl (va rfl) (lv rfl rfl (va rfl) ?_))
        refine ln (qn (xt ?_))
        replace H := H h1 b3
        exact endQ_ret _ (res_three Tryz.results105 (rv_tmp rfl) (rv_tmp rfl) (rv_tmp rfl)) H
end Go.Proofs.YtfjcciaabkjkgaaGreatDoor
namespace Go.Proofs.YtfjcciaabkjkgaaGreatDoor
open Go Ml
theorem hits_c (m : Mv) (h : Heap) : HC Tryz.prog 58 #[mvV m] h fun v h' => v = .bool (hits m) ∧ Ext h h' :=
  f58_sh _ _ _ _ _ _ _ _ _ _ fun _ x => ⟨rfl, x⟩
theorem fate_c (m : Mv) (h : Heap) : HC Tryz.prog 107 #[mvV m] h fun v h' => v = .int .i64 (fate m : Nat) ∧ Ext h h' := by
  refine f107_sh _ _ _ _ _ _ _ _ _ _ ⟨fun e _ x => ⟨?_, x⟩, fun e => ⟨fun e2 _ x => ⟨?_, x⟩, fun e2 => ⟨fun e3 _ x => ⟨?_, x⟩, fun e3 _ x => ⟨?_, x⟩⟩⟩⟩
  all_goals simp at *
  · unfold fate; rw [if_pos (by omega)]; rfl
  · unfold fate; rw [if_neg (by omega), if_pos (by omega)]; rfl
  · unfold fate; rw [if_neg (by omega), if_neg (by omega), if_pos (by omega)]; rfl
  · unfold fate; rw [if_neg (by omega), if_neg (by omega), if_neg (by omega)]; rfl
theorem does_c (m : Mv) (h : Heap) : HC Tryz.prog 105 #[mvV m] h fun v h' => v = .tuple #[.bool (doesR m).1, .bool (doesR m).2.1, .bool (doesR m).2.2] ∧ Ext h h' := by
  refine f105_sh _ _ _ _ _ _ _ _ _ _ ⟨fun e _ x => ⟨?_, x⟩, fun e => ⟨fun e2 _ x => ⟨?_, x⟩, fun e2 => ⟨fun e3 _ x => ⟨?_, x⟩, fun e3 => ⟨fun e4 _ x => ⟨?_, x⟩, fun e4 _ x => ⟨?_, x⟩⟩⟩⟩⟩
  all_goals simp at *
  · unfold doesR; rw [if_pos ⟨e.1, e.2⟩]; exact ⟨rfl, rfl, rfl⟩
  · unfold doesR; rw [if_neg (by omega), if_pos (by omega)]; exact ⟨rfl, rfl, rfl⟩
  · unfold doesR; rw [if_neg (by omega), if_neg (by omega), if_pos (by omega)]; exact ⟨rfl, rfl, rfl⟩
  · unfold doesR; rw [if_neg (by omega), if_neg (by omega), if_neg (by omega), if_pos (by omega)]; exact ⟨rfl, rfl, rfl⟩
  · unfold doesR; rw [if_neg (by omega), if_neg (by omega), if_neg (by omega), if_neg (by omega)]; exact ⟨rfl, rfl, rfl⟩
theorem rcheck_c (m : Mv) (h : Heap) : HC Tryz.prog 33 #[mvV m] h fun v h' => v = .int .i64 (check m) ∧ Ext h h' := by
  refine f33_sh _ _ _ _ _ _ _ _ _ _ ⟨fun e _ x => ⟨?_, x⟩, fun e => ⟨fun e2 _ x => ⟨?_, x⟩, fun e2 => ⟨fun e3 _ x => ⟨?_, x⟩, fun e3 => ⟨fun e4 _ x => ⟨?_, x⟩, fun e4 => ⟨fun e5 _ x => ⟨?_, x⟩, fun e5 _ x => ⟨?_, x⟩⟩⟩⟩⟩⟩
  all_goals simp at *
  · unfold check; rw [if_pos (by omega)]
  · unfold check; rw [if_pos (.inr (.inl ⟨e2.1, by omega⟩))]
  · unfold check; rw [if_pos (.inr (.inr (.inl ⟨e3.1, e3.2.1, e3.2.2⟩)))]
  · unfold check; rw [if_pos (.inr (.inr (.inr (.inl ⟨e4.1, e4.2⟩))))]
  · unfold check; rw [if_pos (.inr (.inr (.inr (.inr ⟨e5.1, e5.2⟩))))]
  · unfold check
    rw [if_neg ?_]
    rintro (h1 | ⟨h1, h2⟩ | ⟨h1, h2, h3⟩ | ⟨h1, h2⟩ | ⟨h1, h2⟩)
    · omega
    · have := e2 h1; omega
    · exact h3 (e3 h1 h2)
    · exact h2 (e4 h1)
    · exact h2 (e5 h1)
end Go.Proofs.YtfjcciaabkjkgaaGreatDoor
