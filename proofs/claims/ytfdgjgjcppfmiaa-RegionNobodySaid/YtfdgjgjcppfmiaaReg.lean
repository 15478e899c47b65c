/-
The manager of regions in memory, and what its methods do to it.
-/
import Derived.Test.YtfdgjgjcppfmiaaShA
namespace Go.Proofs.Ytfdgjgjcppfmiaa
open Go

/-- Blocks from lo on, but one. -/
structure Lo where
  lo : Nat
  x : Option Nat
def Lo.ok (N : Lo) (b : Nat) : Prop := N.lo ≤ b ∧ N.x ≠ some b

structure Info where
  st : Int
  sq : Int
  pins : Int
  er : Int

def Info.vals (i : Info) : List Value := [.int .i64 i.st, .int .u64 i.sq, .int .i64 i.pins, .int .i64 i.er]

/-- A row of ints from N0 on: all its cells are ints. -/
structure IntBlk (h : Heap) (N0 : Lo) (b sz : Nat) : Prop where
  low : N0.ok b
  ex : ∃ cs, h[b]? = some (.cells cs 3 (0, 0)) ∧ sz ≤ cs.size ∧ ∀ i, i < cs.size → ∃ z : Int, cs[i]? = some (.int .i64 z)

/-- A slice of ints: what it holds. -/
structure IntSl (h : Heap) (N0 : Lo) (a : Option Addr) (c : Nat) (L : List Int) : Prop where
  le : L.length ≤ c
  ex : (a = none ∧ c = 0) ∨ ∃ b o, a = some ⟨b, o, none⟩ ∧ IntBlk h N0 b (o + c) ∧ ∀ i z, L[i]? = some z → hcell h b (o + i) = some (.int .i64 z)

def blkOf (a : Option Addr) (b : Nat) : Prop := ∃ o, a = some ⟨b, o, none⟩

/-- A slice of ints, whatever they are. -/
structure AnySl (h : Heap) (N0 : Lo) (a : Option Addr) (n c : Nat) : Prop where
  le : n ≤ c
  ex : (a = none ∧ c = 0) ∨ ∃ b o, a = some ⟨b, o, none⟩ ∧ IntBlk h N0 b (o + c)

structure InfoAt (c : Array Value) (i : Nat) (e : Info) : Prop where
  c0 : c[i * 4]? = some (.int .i64 e.st)
  c1 : c[i * 4 + 1]? = some (.int .u64 e.sq)
  c2 : c[i * 4 + 2]? = some (.int .i64 e.pins)
  c3 : c[i * 4 + 3]? = some (.int .i64 e.er)

structure Inv (n K : Nat) (I : Nat → Info) (L : List Int) (last cur : Int) : Prop where
  n2 : 2 ≤ n
  n256 : n ≤ 256
  kle : K ≤ 2097152
  each : ∀ k, k < n → 1 ≤ (I k).st ∧ (I k).st ≤ 4 ∧ 0 ≤ (I k).pins ∧ (I k).pins ≤ 2147483647 ∧ 0 ≤ (I k).er ∧ (I k).er ≤ K ∧ ((I k).st = 1 → (I k).pins = 0 ∧ (I k).sq = 0)
  nodup : L.Nodup
  free : ∀ x ∈ L, 0 ≤ x ∧ x < n ∧ (I x.toNat).st = 1
  cur : cur = -1 ∨ (0 ≤ cur ∧ cur < n ∧ (I cur.toNat).st = 2)
  last : 0 ≤ last ∧ last ≤ 9223372036854775807

structure Mem (h : Heap) (N0 : Lo) (p q mb n K : Nat) (I : Nat → Info) (fa : Option Addr) (fc : Nat) (L : List Int) (last cur : Int) : Prop where
  lowp : N0.ok p
  lowq : N0.ok q
  lowm : N0.ok mb
  xlt : ∀ y, N0.x = some y → y < h.size
  tab : ∃ qc, h[p]? = some (.cells #[.slice (some ⟨q, 0, none⟩) n qc, .slice fa L.length fc, .int .u64 last, .int .i64 cur, .map (some mb)] 67 (0, 0))
  row : ∃ cs, h[q]? = some (.cells cs 31 (0, 0)) ∧ n * 4 ≤ cs.size ∧ ∀ i, i < n → InfoAt cs i (I i)
  fr : IntSl h N0 fa fc L
  dr : ∃ kv, MapL h mb (Value.int .i64) kv ∧ ∀ x ∈ kv, ∃ a m c, x.2 = .slice a m c ∧ m ≤ K ∧ AnySl h N0 a m c ∧ ∀ b, blkOf a b → ¬ blkOf fa b

structure Man (h : Heap) (N0 : Lo) (p q mb n K : Nat) (I : Nat → Info) (fa : Option Addr) (fc : Nat) (L : List Int) (last cur : Int) : Prop extends Mem h N0 p q mb n K I fa fc L last cur where
  inv : Inv n K I L last cur

section
variable {h : Heap} {N0 : Lo} {p q mb n K : Nat} {I : Nat → Info} {fa : Option Addr} {fc : Nat} {L : List Int} {last cur : Int}

theorem Mem.c0 (t : Mem h N0 p q mb n K I fa fc L last cur) : ∃ qc, hcell h p 0 = some (.slice (some ⟨q, 0, none⟩) n qc) := let ⟨qc, e⟩ := t.tab; ⟨qc, by rw [hcell_row e]; rfl⟩
theorem Mem.c1 (t : Mem h N0 p q mb n K I fa fc L last cur) : hcell h p 1 = some (.slice fa L.length fc) := let ⟨qc, e⟩ := t.tab; by rw [hcell_row e]; rfl
theorem Mem.c2 (t : Mem h N0 p q mb n K I fa fc L last cur) : hcell h p 2 = some (.int .u64 last) := let ⟨qc, e⟩ := t.tab; by rw [hcell_row e]; rfl
theorem Mem.c3 (t : Mem h N0 p q mb n K I fa fc L last cur) : hcell h p 3 = some (.int .i64 cur) := let ⟨qc, e⟩ := t.tab; by rw [hcell_row e]; rfl
theorem Mem.c4 (t : Mem h N0 p q mb n K I fa fc L last cur) : hcell h p 4 = some (.map (some mb)) := let ⟨qc, e⟩ := t.tab; by rw [hcell_row e]; rfl
theorem Mem.hwp (t : Mem h N0 p q mb n K I fa fc L last cur) (o : Nat) (ho : o < 5) : HW h p o := let ⟨qc, e⟩ := t.tab; HW_row e (by simpa using ho)
theorem Mem.i0 (t : Mem h N0 p q mb n K I fa fc L last cur) {i : Int} (h0 : 0 ≤ i) (h1 : i < (n : Int)) : hcell h q (0 + i.toNat * 4) = some (.int .i64 (I i.toNat).st) := by
  obtain ⟨cs, e, _, hc⟩ := t.row; rw [hcell_row e, Nat.zero_add]; exact (hc i.toNat (by omega)).c0
theorem Mem.i1 (t : Mem h N0 p q mb n K I fa fc L last cur) {i : Int} (h0 : 0 ≤ i) (h1 : i < (n : Int)) : hcell h q (0 + i.toNat * 4 + 1) = some (.int .u64 (I i.toNat).sq) := by
  obtain ⟨cs, e, _, hc⟩ := t.row; rw [hcell_row e, Nat.zero_add]; exact (hc i.toNat (by omega)).c1
theorem Mem.i2 (t : Mem h N0 p q mb n K I fa fc L last cur) {i : Int} (h0 : 0 ≤ i) (h1 : i < (n : Int)) : hcell h q (0 + i.toNat * 4 + 2) = some (.int .i64 (I i.toNat).pins) := by
  obtain ⟨cs, e, _, hc⟩ := t.row; rw [hcell_row e, Nat.zero_add]; exact (hc i.toNat (by omega)).c2
theorem Mem.i3 (t : Mem h N0 p q mb n K I fa fc L last cur) {i : Int} (h0 : 0 ≤ i) (h1 : i < (n : Int)) : hcell h q (0 + i.toNat * 4 + 3) = some (.int .i64 (I i.toNat).er) := by
  obtain ⟨cs, e, _, hc⟩ := t.row; rw [hcell_row e, Nat.zero_add]; exact (hc i.toNat (by omega)).c3
theorem Mem.hwq (t : Mem h N0 p q mb n K I fa fc L last cur) {i : Int} (h0 : 0 ≤ i) (h1 : i < (n : Int)) (j : Nat) (hj : j < 4) : HW h q (0 + i.toNat * 4 + j) := by
  obtain ⟨cs, e, hl, _⟩ := t.row; exact HW_row e (by omega)
theorem Mem.hwsq (t : Mem h N0 p q mb n K I fa fc L last cur) {i : Int} (h0 : 0 ≤ i) (h1 : i < (n : Int)) : HWs h q (0 + i.toNat * 4) 4 := fun j hj => t.hwq h0 h1 j hj
theorem Mem.nepq (t : Mem h N0 p q mb n K I fa fc L last cur) : p ≠ q := by
  obtain ⟨_, e1⟩ := t.tab; obtain ⟨_, e2, _⟩ := t.row
  intro e; rw [e, e2] at e1; simp at e1

theorem Mem.fresh (t : Mem h N0 p q mb n K I fa fc L last cur) {k : Nat} (hk : h.size ≤ k) : N0.ok k := by
  have h1 := row_lt t.tab.choose_spec
  have h2 := t.lowp.1
  exact ⟨by omega, fun e => by have := t.xlt k e; omega⟩

/-! ### frames -/
theorem IntBlk.same {b sz : Nat} {h' : Heap} (k : IntBlk h N0 b sz) (e : h'[b]? = h[b]?) : IntBlk h' N0 b sz := ⟨k.low, let ⟨cs, h1, h2⟩ := k.ex; ⟨cs, e.trans h1, h2⟩⟩
theorem IntBlk.lt {b sz : Nat} (k : IntBlk h N0 b sz) : b < h.size := let ⟨_, h1, _⟩ := k.ex; row_lt h1
theorem hcell_same {h' : Heap} {b o : Nat} (e : h'[b]? = h[b]?) : hcell h' b o = hcell h b o := by unfold hcell; rw [e]
theorem IntSl.same {a : Option Addr} {c : Nat} {h' : Heap} (k : IntSl h N0 a c L) (e : ∀ b, blkOf a b → h'[b]? = h[b]?) : IntSl h' N0 a c L := by
  refine ⟨k.le, k.ex.imp id ?_⟩
  rintro ⟨b, o, rfl, kb, kc⟩
  have eb := e b ⟨o, rfl⟩
  exact ⟨b, o, rfl, kb.same eb, fun i z hz => (hcell_same eb).trans (kc i z hz)⟩
theorem AnySl.same {a : Option Addr} {m c : Nat} {h' : Heap} (k : AnySl h N0 a m c) (e : ∀ b, blkOf a b → h'[b]? = h[b]?) : AnySl h' N0 a m c := by
  refine ⟨k.le, k.ex.imp id ?_⟩
  rintro ⟨b, o, rfl, kb⟩
  exact ⟨b, o, rfl, kb.same (e b ⟨o, rfl⟩)⟩
theorem IntSl.lt {a : Option Addr} {c : Nat} (k : IntSl h N0 a c L) {b : Nat} (hb : blkOf a b) : b < h.size := by
  obtain ⟨o, rfl⟩ := hb
  rcases k.ex with ⟨e, _⟩ | ⟨b', o', e, kb, _⟩
  · cases e
  · cases e; exact kb.lt
theorem AnySl.lt {a : Option Addr} {m c : Nat} (k : AnySl h N0 a m c) {b : Nat} (hb : blkOf a b) : b < h.size := by
  obtain ⟨o, rfl⟩ := hb
  rcases k.ex with ⟨e, _⟩ | ⟨b', o', e, kb⟩
  · cases e
  · cases e; exact kb.lt
/-- A row of ints is none of the manager's other blocks. -/
theorem Mem.intne (t : Mem h N0 p q mb n K I fa fc L last cur) {b sz : Nat} (k : IntBlk h N0 b sz) : b ≠ p ∧ b ≠ q ∧ b ≠ mb := by
  obtain ⟨_, e1⟩ := t.tab; obtain ⟨_, e2, _⟩ := t.row; obtain ⟨_, ⟨_, _, e3, _⟩, _⟩ := t.dr; obtain ⟨_, e4, _⟩ := k.ex
  refine ⟨fun e => ?_, fun e => ?_, fun e => ?_⟩
  · rw [e, e1] at e4; simp at e4
  · rw [e, e2] at e4; simp at e4
  · rw [e, e3] at e4; simp at e4
theorem IntSl.blk {a : Option Addr} {c : Nat} (k : IntSl h N0 a c L) {b : Nat} (hb : blkOf a b) : ∃ sz, IntBlk h N0 b sz := by
  obtain ⟨o, rfl⟩ := hb
  rcases k.ex with ⟨e, _⟩ | ⟨b', o', e, kb, _⟩
  · cases e
  · cases e; exact ⟨_, kb⟩
theorem AnySl.blk {a : Option Addr} {m c : Nat} (k : AnySl h N0 a m c) {b : Nat} (hb : blkOf a b) : ∃ sz, IntBlk h N0 b sz := by
  obtain ⟨o, rfl⟩ := hb
  rcases k.ex with ⟨e, _⟩ | ⟨b', o', e, kb⟩
  · cases e
  · cases e; exact ⟨_, kb⟩

/-- Nothing of the manager's turns. -/
theorem Mem.ext (t : Mem h N0 p q mb n K I fa fc L last cur) {h' : Heap} (he : Ext h h') : Mem h' N0 p q mb n K I fa fc L last cur := by
  refine ⟨t.lowp, t.lowq, t.lowm, fun y e => Nat.lt_of_lt_of_le (t.xlt y e) he.size, let ⟨qc, e⟩ := t.tab; ⟨qc, he.row e⟩, let ⟨cs, e, r⟩ := t.row; ⟨cs, he.row e, r⟩, t.fr.same (fun b hb => he.block b (t.fr.lt hb)), ?_⟩
  obtain ⟨kv, m, hk⟩ := t.dr
  refine ⟨kv, m.ext he, fun x hx => ?_⟩
  obtain ⟨a, k, c, e, hle, ha, hd⟩ := hk x hx
  exact ⟨a, k, c, e, hle, ha.same (fun b hb => he.block b (ha.lt hb)), hd⟩
theorem Man.ext (t : Man h N0 p q mb n K I fa fc L last cur) {h' : Heap} (he : Ext h h') : Man h' N0 p q mb n K I fa fc L last cur := ⟨t.toMem.ext he, t.inv⟩

/-! ### small ones -/
theorem made_c (t : Man h N0 p q mb n K I fa fc L last cur) : HC Try.prog 32 #[.pointer (some ⟨p, 0, none⟩)] h fun v h' => v = .bool true ∧ h' = h := by
  obtain ⟨qc, c0⟩ := t.c0
  have := t.inv.n2
  exact f32_sh _ _ _ ⟨true, ⟨fun _ => ⟨_, _, rfl, _, _, _, c0, (decide_eq_true (by omega)).symm⟩, fun h => by cases h⟩, rfl, rfl⟩

/-- at: a region that must be in a state. -/
theorem at_yes (t : Man h N0 p q mb n K I fa fc L last cur) {r s : Int} (h0 : 0 ≤ r) (h1 : r < n) (hs : s ≠ 0 → (I r.toNat).st = s) :
    HC Try.prog 31 #[ptr p 0, .int .i64 r, .int .i64 s] h fun v h' => v = .tuple #[.pointer (some ⟨q, 0 + r.toNat * 4, none⟩), .int .i64 0] ∧ h' = h := by
  obtain ⟨qc, c0⟩ := t.c0
  refine f31_sh _ _ _ _ _ _ ⟨true, made_c t, fun h => by simp at h, fun _ => ?_⟩
  refine ⟨false, ⟨fun h => ?_, fun _ => ⟨_, _, _, c0, (decide_eq_false (by omega)).symm⟩⟩, fun h => by simp at h, fun _ => ?_⟩
  · simp only [decide_eq_true_eq] at h; omega
  refine ⟨false, ⟨fun h => ⟨_, _, _, c0, _, _, rfl, h0, h1, _, t.i0 h0 h1, ?_⟩, fun _ => rfl⟩, fun h => by simp at h, fun _ => ⟨_, _, _, c0, _, _, rfl, h0, h1, rfl, rfl⟩⟩
  have : s ≠ 0 := by simpa using h
  rw [hs this]; simp

theorem at_no (t : Man h N0 p q mb n K I fa fc L last cur) {r s : Int} (hn : ¬ (0 ≤ r ∧ r < n ∧ (s ≠ 0 → (I r.toNat).st = s))) :
    ∃ e : Int, e ≠ 0 ∧ HC Try.prog 31 #[ptr p 0, .int .i64 r, .int .i64 s] h fun v h' => v = .tuple #[.pointer none, .int .i64 e] ∧ h' = h := by
  obtain ⟨qc, c0⟩ := t.c0
  by_cases hr : 0 ≤ r ∧ r < n
  · have hs : s ≠ 0 ∧ (I r.toNat).st ≠ s := ⟨fun e => hn ⟨hr.1, hr.2, fun h => absurd e h⟩, fun e => hn ⟨hr.1, hr.2, fun _ => e⟩⟩
    refine ⟨91, by decide, f31_sh _ _ _ _ _ _ ⟨true, made_c t, fun h => by simp at h, fun _ => ?_⟩⟩
    refine ⟨false, ⟨fun h => ?_, fun _ => ⟨_, _, _, c0, (decide_eq_false (by omega)).symm⟩⟩, fun h => by simp at h, fun _ => ?_⟩
    · simp only [decide_eq_true_eq] at h; omega
    refine ⟨true, ⟨fun h => ⟨_, _, _, c0, _, _, rfl, hr.1, hr.2, _, t.i0 hr.1 hr.2, ?_⟩, fun h => ?_⟩, fun _ => ⟨rfl, rfl⟩, fun h => by simp at h⟩
    · simp [hs.2]
    · have : s = 0 := by simpa using h
      exact absurd this hs.1
  · refine ⟨90, by decide, f31_sh _ _ _ _ _ _ ⟨true, made_c t, fun h => by simp at h, fun _ => ?_⟩⟩
    refine ⟨true, ⟨fun _ => rfl, fun h => ⟨_, _, _, c0, ?_⟩⟩, fun _ => ⟨rfl, rfl⟩, fun h => by simp at h⟩
    simp only [decide_eq_false_iff_not] at h
    exact (decide_eq_true (by omega)).symm

end
end Go.Proofs.Ytfdgjgjcppfmiaa
