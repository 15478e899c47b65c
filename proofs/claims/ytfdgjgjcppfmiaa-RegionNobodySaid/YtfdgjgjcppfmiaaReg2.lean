/-
The manager's methods.
-/
import Derived.Test.YtfdgjgjcppfmiaaReg
namespace Go.Proofs.Ytfdgjgjcppfmiaa
open Go

def upI (I : Nat → Info) (k : Nat) (x : Info) : Nat → Info := fun j => if j = k then x else I j
theorem upI_same (I : Nat → Info) (k : Nat) (x : Info) : upI I k x k = x := by simp [upI]
theorem upI_ne (I : Nat → Info) {k j : Nat} (x : Info) (h : j ≠ k) : upI I k x j = I j := by simp [upI, h]

/-- How a region may go on. -/
def Goes (a b : Info) : Prop :=
  (b.st = a.st ∨ b.st = a.st % 4 + 1) ∧ (a.st = 4 → b.pins ≤ a.pins) ∧ (a.st = 4 → b.st = 1 → a.pins = 0 ∧ b.er = a.er + 1)
theorem Goes.refl (a : Info) (h : a.st = 4 → a.st ≠ 1) : Goes a a := ⟨.inl rfl, fun _ => Int.le_refl _, fun h1 h2 => absurd h2 (h h1)⟩

/-- What a call leaves. -/
def After (h h' : Heap) (N0 : Lo) (p q mb n K : Nat) (I : Nat → Info) : Prop :=
  Fr N0.ok h h' ∧ ∃ I' fa' fc' L' last' cur', Man h' N0 p q mb n K I' fa' fc' L' last' cur' ∧ ∀ k, k < n → Goes (I k) (I' k)

section
variable {h : Heap} {N0 : Lo} {p q mb n K : Nat} {I : Nat → Info} {fa : Option Addr} {fc : Nat} {L : List Int} {last cur : Int}

theorem goes_up {k : Nat} {x : Info} (hg : Goes (I k) x) : ∀ j, j < n → Goes (I j) (upI I k x j) := by
  intro j _
  by_cases e : j = k
  · subst e; rw [upI_same]; exact hg
  · rw [upI_ne _ _ e]; exact Goes.refl _ (fun h h' => by rw [h] at h'; cases h')
theorem goes_same : ∀ j, j < n → Goes (I j) (I j) := fun _ _ => Goes.refl _ (fun h h' => by rw [h] at h'; cases h')

theorem Man.after (t : Man h N0 p q mb n K I fa fc L last cur) : After h h N0 p q mb n K I := ⟨Fr.refl _ _, I, fa, fc, L, last, cur, t, goes_same⟩

theorem Mem.nem (t : Mem h N0 p q mb n K I fa fc L last cur) : mb ≠ p ∧ mb ≠ q := by
  obtain ⟨_, e1⟩ := t.tab; obtain ⟨_, e2, _⟩ := t.row; obtain ⟨_, ⟨_, _, e3, _⟩, _⟩ := t.dr
  refine ⟨fun e => ?_, fun e => ?_⟩
  · rw [e, e1] at e3; simp at e3
  · rw [e, e2] at e3; simp at e3

/-- The row of regions is written. -/
theorem Mem.put (t : Mem h N0 p q mb n K I fa fc L last cur) {I' : Nat → Info} {h' : Heap}
    (o : Only q h h') (hrow : ∃ cs, h'[q]? = some (.cells cs 31 (0, 0)) ∧ n * 4 ≤ cs.size ∧ ∀ i, i < n → InfoAt cs i (I' i)) :
    Mem h' N0 p q mb n K I' fa fc L last cur := by
  refine ⟨t.lowp, t.lowq, t.lowm, fun y e => by rw [o.size]; exact t.xlt y e, let ⟨qc, e⟩ := t.tab; ⟨qc, (o.block p t.nepq).trans e⟩, hrow, t.fr.same (fun b hb => ?_), ?_⟩
  · obtain ⟨sz, kb⟩ := t.fr.blk hb
    exact o.block b (t.intne kb).2.1
  · obtain ⟨kv, m, hd⟩ := t.dr
    refine ⟨kv, m.row (o.block mb t.nem.2), fun y hy => ?_⟩
    obtain ⟨a, j, c, e, hle, ha, hd⟩ := hd y hy
    refine ⟨a, j, c, e, hle, ha.same (fun b hb => ?_), hd⟩
    obtain ⟨sz, kb⟩ := ha.blk hb
    exact o.block b (t.intne kb).2.1

/-- The manager's own block is written. -/
theorem Mem.own (t : Mem h N0 p q mb n K I fa fc L last cur) {h' : Heap} {fa' : Option Addr} {fc' : Nat} {L' : List Int} {last' cur' : Int} (o : Only p h h')
    (tab : ∀ qc, h[p]? = some (.cells #[.slice (some ⟨q, 0, none⟩) n qc, .slice fa L.length fc, .int .u64 last, .int .i64 cur, .map (some mb)] 67 (0, 0)) →
      h'[p]? = some (.cells #[.slice (some ⟨q, 0, none⟩) n qc, .slice fa' L'.length fc', .int .u64 last', .int .i64 cur', .map (some mb)] 67 (0, 0)))
    (fr : IntSl h N0 fa' fc' L') (dis : ∀ kv, MapL h mb (Value.int .i64) kv → ∀ x ∈ kv, ∀ a m c, x.2 = .slice a m c → ∀ b, blkOf a b → ¬ blkOf fa' b) : Mem h' N0 p q mb n K I fa' fc' L' last' cur' := by
  refine ⟨t.lowp, t.lowq, t.lowm, fun y e => by rw [o.size]; exact t.xlt y e, let ⟨qc, e⟩ := t.tab; ⟨qc, tab qc e⟩, let ⟨cs, e, r⟩ := t.row; ⟨cs, (o.block q t.nepq.symm).trans e, r⟩, fr.same (fun b hb => ?_), ?_⟩
  · obtain ⟨sz, kb⟩ := fr.blk hb
    exact o.block b (t.intne kb).1
  · obtain ⟨kv, m, hd⟩ := t.dr
    refine ⟨kv, m.row (o.block mb t.nem.1), fun y hy => ?_⟩
    obtain ⟨a, j, c, e, hle, ha, _⟩ := hd y hy
    refine ⟨a, j, c, e, hle, ha.same (fun b hb => ?_), dis kv m y hy a j c e⟩
    obtain ⟨sz, kb⟩ := ha.blk hb
    exact o.block b (t.intne kb).1

/-- The drains are written. -/
theorem Mem.drs (t : Mem h N0 p q mb n K I fa fc L last cur) {h' : Heap} {kv' : List (Int × Value)} (o : Only mb h h') (m' : MapL h' mb (Value.int .i64) kv')
    (hd : ∀ x ∈ kv', ∃ a m c, x.2 = .slice a m c ∧ m ≤ K ∧ AnySl h N0 a m c ∧ ∀ b, blkOf a b → ¬ blkOf fa b) : Mem h' N0 p q mb n K I fa fc L last cur := by
  refine ⟨t.lowp, t.lowq, t.lowm, fun y e => by rw [o.size]; exact t.xlt y e, let ⟨qc, e⟩ := t.tab; ⟨qc, (o.block p t.nem.1.symm).trans e⟩, let ⟨cs, e, r⟩ := t.row; ⟨cs, (o.block q t.nem.2.symm).trans e, r⟩, t.fr.same (fun b hb => ?_), kv', m', fun y hy => ?_⟩
  · obtain ⟨sz, kb⟩ := t.fr.blk hb
    exact o.block b (t.intne kb).2.2
  · obtain ⟨a, j, c, e, hle, ha, hx⟩ := hd y hy
    refine ⟨a, j, c, e, hle, ha.same (fun b hb => ?_), hx⟩
    obtain ⟨sz, kb⟩ := ha.blk hb
    exact o.block b (t.intne kb).2.2
theorem Mem.look (t : Mem h N0 p q mb n K I fa fc L last cur) (r : Int) : ∃ kv, MapL h mb (Value.int .i64) kv ∧ (∀ x ∈ kv, ∃ a m c, x.2 = .slice a m c ∧ m ≤ K ∧ AnySl h N0 a m c ∧ ∀ b, blkOf a b → ¬ blkOf fa b) ∧
    ∃ a m c, (lk kv r).getD (.slice none 0 0) = .slice a m c ∧ m ≤ K ∧ AnySl h N0 a m c ∧ ∀ b, blkOf a b → ¬ blkOf fa b := by
  obtain ⟨kv, m, hd⟩ := t.dr
  refine ⟨kv, m, hd, ?_⟩
  cases e : lk kv r with
  | none => exact ⟨none, 0, 0, rfl, Nat.zero_le _, ⟨Nat.le_refl _, .inl ⟨rfl, rfl⟩⟩, fun b ⟨o, h⟩ => by cases h⟩
  | some v =>
    obtain ⟨a, j, c, e1, h1⟩ := hd _ (lk_mem kv r v e)
    exact ⟨a, j, c, e1, h1⟩

theorem only_hset {h : Heap} {b o : Nat} {v : Value} : Only b h (hset h b o v) := ⟨hset_size, fun _ hi => hset_ne hi⟩
theorem only_hsets {h : Heap} {b o : Nat} {vs : List Value} : Only b h (hsets h b o vs) := ⟨hsets_size vs, fun _ hi => hsets_ne vs hi⟩

theorem info_set {cs : Array Value} (hc : ∀ i, i < n → InfoAt cs i (I i)) {k : Nat} (x : Info) (cs' : Array Value)
    (hin : ∀ j, j < 4 → cs'[k * 4 + j]? = x.vals[j]?) (hout : ∀ i, i < k * 4 ∨ k * 4 + 4 ≤ i → cs'[i]? = cs[i]?) : ∀ i, i < n → InfoAt cs' i (upI I k x i) := by
  intro i hi
  by_cases e : i = k
  · subst e; rw [upI_same]
    exact ⟨hin 0 (by omega), hin 1 (by omega), hin 2 (by omega), hin 3 (by omega)⟩
  · rw [upI_ne _ _ e]
    have h0 := hc i hi
    exact ⟨(hout _ (by omega)).trans h0.c0, (hout _ (by omega)).trans h0.c1, (hout _ (by omega)).trans h0.c2, (hout _ (by omega)).trans h0.c3⟩

/-- A store of one word of region k: the row behind it. -/
theorem row_word (t : Mem h N0 p q mb n K I fa fc L last cur) {k : Nat} (hk : k < n) {j : Nat} (hj : j < 4) {v : Value} {x : Info} (hv : ∀ i, i < 4 → x.vals[i]? = if i = j then some v else (I k).vals[i]?) :
    ∃ cs, (hset h q (0 + k * 4 + j) v)[q]? = some (.cells cs 31 (0, 0)) ∧ n * 4 ≤ cs.size ∧ ∀ i, i < n → InfoAt cs i (upI I k x i) := by
  obtain ⟨cs, e, hl, hc⟩ := t.row
  refine ⟨_, hset_row e, by simpa using hl, info_set hc x _ (fun i hi => ?_) (fun i hi => ?_)⟩
  · rw [hv i hi, Nat.zero_add, Array.getElem?_setIfInBounds]
    by_cases e : i = j
    · subst e
      have : k * 4 + i < cs.size := by omega
      simp [this]
    · have h1 : ¬ (k * 4 + j = k * 4 + i) := by omega
      rw [if_neg h1, if_neg e]
      have h0 := hc k hk
      match i, hi with
      | 0, _ => exact h0.c0
      | 1, _ => exact h0.c1
      | 2, _ => exact h0.c2
      | 3, _ => exact h0.c3
  · rw [Nat.zero_add, Array.getElem?_setIfInBounds_ne (by omega)]

theorem inv_up (i : Inv n K I L last cur) {k : Nat} (hk : k < n) {x : Info} (h1 : 1 ≤ x.st ∧ x.st ≤ 4 ∧ 0 ≤ x.pins ∧ x.pins ≤ 2147483647 ∧ 0 ≤ x.er ∧ x.er ≤ K ∧ (x.st = 1 → x.pins = 0 ∧ x.sq = 0))
    (h2 : (k : Int) ∈ L → x.st = 1) (h3 : cur = k → x.st = 2) : Inv n K (upI I k x) L last cur := by
  refine ⟨i.n2, i.n256, i.kle, fun j hj => ?_, i.nodup, fun y hy => ?_, ?_, i.last⟩
  · by_cases e : j = k
    · subst e; rw [upI_same]; exact h1
    · rw [upI_ne _ _ e]; exact i.each j hj
  · obtain ⟨g1, g2, g3⟩ := i.free y hy
    refine ⟨g1, g2, ?_⟩
    by_cases e : y.toNat = k
    · rw [e, upI_same]; exact h2 (by have : (k : Int) = y := by omega
                                     rw [this]; exact hy)
    · rw [upI_ne _ _ e]; exact g3
  · rcases i.cur with e | ⟨g1, g2, g3⟩
    · exact .inl e
    · refine .inr ⟨g1, g2, ?_⟩
      by_cases e : cur.toNat = k
      · rw [e, upI_same]; exact h3 (by omega)
      · rw [upI_ne _ _ e]; exact g3

theorem vals_eq {x y : Info} {j : Nat} {v : Value} (h : x.vals = y.vals.set j v) (hj : j < 4) : ∀ i, i < 4 → x.vals[i]? = if i = j then some v else y.vals[i]? := by
  intro i hi
  have hl : y.vals.length = 4 := rfl
  rw [h, List.getElem?_set]
  by_cases e : i = j
  · subst e; simp [hl, hj]
  · rw [if_neg (Ne.symm e), if_neg e]

/-- One word of region r is written: what is left. -/
theorem word_after (t : Man h N0 p q mb n K I fa fc L last cur) {r : Int} (h0 : 0 ≤ r) (h1 : r < n) {j : Nat} (hj : j < 4) {v : Value} {x : Info} (hv : x.vals = (I r.toNat).vals.set j v)
    (inv : Inv n K (upI I r.toNat x) L last cur) (hg : Goes (I r.toNat) x) : After h (hset h q (0 + r.toNat * 4 + j) v) N0 p q mb n K I :=
  ⟨fr_hset _ (fun _ => t.lowq), _, fa, fc, L, last, cur, ⟨t.toMem.put only_hset (row_word t.toMem (by omega) hj (vals_eq hv hj)), inv⟩, goes_up hg⟩

theorem mark_c (t : Man h N0 p q mb n K I fa fc L last cur) (r : Int) : HC Try.prog 24 #[ptr p 0, .int .i64 r] h fun v h' => (∃ e : Int, v = .int .i64 e) ∧ After h h' N0 p q mb n K I := by
  by_cases hr : 0 ≤ r ∧ r < n ∧ ((3 : Int) ≠ 0 → (I r.toNat).st = 3)
  · obtain ⟨h0, h1, h3⟩ := hr
    have h3 := h3 (by decide)
    refine f24_sh _ _ _ _ _ ⟨_, _, at_yes t h0 h1 (fun _ => h3), fun h' => After h h' N0 p q mb n K I, ⟨fun _ => ⟨_, _, rfl, t.hwq h0 h1 0 (by omega), ?_⟩, fun h => by simp at h⟩, fun h1 ha => ⟨⟨_, rfl⟩, ha⟩⟩
    rintro h2 rfl
    have hk : r.toNat < n := by omega
    have ev := t.inv.each _ hk
    refine word_after (j := 0) (x := { I r.toNat with st := 4 }) t h0 h1 (by omega) rfl (inv_up t.inv hk ⟨by simp, by simp, ev.2.2.1, ev.2.2.2.1, ev.2.2.2.2.1, ev.2.2.2.2.2.1, fun h => by simp at h⟩ (fun hm => ?_) (fun hc => ?_)) ⟨.inr ?_, fun h => ?_, fun h => ?_⟩
    · have := (t.inv.free _ hm).2.2; simp only [Int.toNat_natCast] at this; omega
    · rcases t.inv.cur with e | ⟨g1, g2, g3⟩
      · omega
      · have : cur.toNat = r.toNat := by omega
        rw [this] at g3; omega
    · show (4 : Int) = _; rw [h3]; rfl
    · rw [h3] at h; cases h
    · rw [h3] at h; cases h
  · obtain ⟨e, he, ha⟩ := at_no t hr
    exact f24_sh _ _ _ _ _ ⟨_, _, ha, fun h' => h' = h, ⟨fun h => absurd (eq_of_beq h) he, fun _ => rfl⟩, fun h1 e1 => ⟨⟨_, rfl⟩, by rw [e1]; exact t.after⟩⟩

theorem pin_c (t : Man h N0 p q mb n K I fa fc L last cur) (r : Int) : HC Try.prog 26 #[ptr p 0, .int .i64 r] h fun v h' => (∃ b : Bool, v = .bool b) ∧ After h h' N0 p q mb n K I := by
  by_cases hr : 0 ≤ r ∧ r < n ∧ ((0 : Int) ≠ 0 → (I r.toNat).st = 0)
  · obtain ⟨h0, h1, _⟩ := hr
    have hk : r.toNat < n := by omega
    have ev := t.inv.each _ hk
    have c0 := t.i0 h0 h1
    have c2 := t.i2 h0 h1
    refine f26_sh _ _ _ _ _ ⟨_, _, at_yes t h0 h1 (fun h => absurd rfl h), ((I r.toNat).st == 1) || ((I r.toNat).st == 4) || decide ((I r.toNat).pins ≥ 2147483647), ⟨fun h => by simp at h, fun _ => ⟨_, _, rfl, _, c0, fun h => by simp [h], fun h => ⟨_, c0, fun h' => by simp [h'], fun h' => ⟨_, c2, by simp [h, h']⟩⟩⟩⟩, fun _ => ⟨⟨_, rfl⟩, t.after⟩, fun hj => ⟨_, _, rfl, _, c2, t.hwq h0 h1 2 (by omega), ?_⟩⟩
    simp only [Bool.or_eq_false_iff, beq_eq_false_iff_ne, decide_eq_false_iff_not] at hj
    rintro h2 rfl
    refine ⟨⟨_, rfl⟩, ?_⟩
    have hw : IntKind.i64.wrap ((I r.toNat).pins + 1) = (I r.toNat).pins + 1 := w64 (by omega) (by omega)
    rw [hw]
    refine word_after (j := 2) (x := { I r.toNat with pins := (I r.toNat).pins + 1 }) t h0 h1 (by omega) rfl (inv_up t.inv hk ⟨ev.1, ev.2.1, by show 0 ≤ (I r.toNat).pins + 1; omega, by show (I r.toNat).pins + 1 ≤ _; omega, ev.2.2.2.2.1, ev.2.2.2.2.2.1, fun h => absurd h hj.1.1⟩ (fun hm => ?_) (fun hc => ?_)) ⟨.inl rfl, fun h => absurd h hj.1.2, fun h => absurd h hj.1.2⟩
    · have := (t.inv.free _ hm).2.2; simp only [Int.toNat_natCast] at this; exact this
    · rcases t.inv.cur with e | ⟨g1, g2, g3⟩
      · omega
      · have : cur.toNat = r.toNat := by omega
        rw [this] at g3; exact g3
  · obtain ⟨e, he, ha⟩ := at_no t hr
    refine f26_sh _ _ _ _ _ ⟨_, _, ha, true, ⟨fun _ => rfl, fun h => by simp [he] at h⟩, fun _ => ⟨⟨_, rfl⟩, t.after⟩, fun h => by cases h⟩


theorem unpin_c (t : Man h N0 p q mb n K I fa fc L last cur) (r : Int) : HC Try.prog 22 #[ptr p 0, .int .i64 r] h fun v h' => (∃ a m c e, v = .tuple #[.slice a m c, .int .i64 e]) ∧ After h h' N0 p q mb n K I := by
  by_cases hr : 0 ≤ r ∧ r < n ∧ ((0 : Int) ≠ 0 → (I r.toNat).st = 0)
  · obtain ⟨h0, h1, _⟩ := hr
    have hk : r.toNat < n := by omega
    have ev := t.inv.each _ hk
    have c2 := t.i2 h0 h1
    refine f22_sh _ _ _ _ _ ⟨_, _, at_yes t h0 h1 (fun h => absurd rfl h), fun h => by simp at h, fun _ => ⟨_, _, rfl, _, c2, fun _ => ⟨⟨_, _, _, _, rfl⟩, t.after⟩, fun hp => ⟨_, c2, t.hwq h0 h1 2 (by omega), ?_⟩⟩⟩
    have hp : (I r.toNat).pins ≠ 0 := by simpa using hp
    rintro h2 rfl
    have hw : IntKind.i64.wrap ((I r.toNat).pins - 1) = (I r.toNat).pins - 1 := w64 (by omega) (by omega)
    rw [hw]
    have inv := inv_up (x := { I r.toNat with pins := (I r.toNat).pins - 1 }) t.inv hk ⟨ev.1, ev.2.1, by show 0 ≤ (I r.toNat).pins - 1; omega, by show (I r.toNat).pins - 1 ≤ _; omega, ev.2.2.2.2.1, ev.2.2.2.2.2.1, fun h => absurd (ev.2.2.2.2.2.2 h).1 hp⟩ (fun hm => by
      have := (t.inv.free _ hm).2.2; simp only [Int.toNat_natCast] at this; exact this) (fun hc => by
      rcases t.inv.cur with e | ⟨g1, g2, g3⟩
      · omega
      · have : cur.toNat = r.toNat := by omega
        rw [this] at g3; exact g3)
    have t1 : Mem (hset h q (0 + r.toNat * 4 + 2) (.int .i64 ((I r.toNat).pins - 1))) N0 p q mb n K (upI I r.toNat { I r.toNat with pins := (I r.toNat).pins - 1 }) fa fc L last cur :=
      t.toMem.put only_hset (row_word t.toMem hk (by omega) (vals_eq rfl (by omega)))
    have f1 : Fr N0.ok h (hset h q (0 + r.toNat * 4 + 2) (.int .i64 ((I r.toNat).pins - 1))) := fr_hset _ (fun _ => t.lowq)
    have hg : ∀ j, j < n → Goes (I j) (upI I r.toNat { I r.toNat with pins := (I r.toNat).pins - 1 } j) :=
      goes_up ⟨.inl rfl, fun _ => by show (I r.toNat).pins - 1 ≤ (I r.toNat).pins; omega, fun h h' => by have h' : (I r.toNat).st = 1 := h'; rw [h'] at h; cases h⟩
    generalize hset h q (0 + r.toNat * 4 + 2) (.int .i64 ((I r.toNat).pins - 1)) = H1 at *
    have d0 := t1.i0 h0 h1
    have d2 := t1.i2 h0 h1
    rw [upI_same] at d0 d2
    have done : After h H1 N0 p q mb n K I := ⟨f1, _, _, _, _, _, _, ⟨t1, inv⟩, hg⟩
    refine ⟨((I r.toNat).st != 4) || decide ((I r.toNat).pins - 1 > 0), ⟨_, d0, fun h => by simp [h], fun h => ⟨_, d2, by simp [h]⟩⟩, fun _ => ⟨⟨_, _, _, _, rfl⟩, done⟩, fun _ => ?_⟩
    obtain ⟨kv, m, hd, a, j, c, e, _⟩ := t1.look r
    refine ⟨_, t1.c4, mb, rfl, kv, m, a, j, c, e, _, t1.c4, mb, rfl, kv, m, ?_⟩
    intro h3 o3 m3
    exact ⟨⟨_, _, _, _, rfl⟩, f1.trans o3.fr (fun i _ h => by rw [h]; exact t.lowm), _, _, _, _, _, _, ⟨t1.drs o3 m3 (fun x hx => hd x (kdel_mem kv r x hx)), inv⟩, hg⟩
  · obtain ⟨e, he, ha⟩ := at_no t hr
    exact f22_sh _ _ _ _ _ ⟨_, _, ha, fun _ => ⟨⟨_, _, _, _, rfl⟩, t.after⟩, fun h => by simp [he] at h⟩

theorem hset_comm {b b' o o' : Nat} {v v' : Value} (hb : b ≠ b') : hset (hset h b o v) b' o' v' = hset (hset h b' o' v') b o v := by
  apply Array.ext_getElem?
  intro i
  by_cases e1 : i = b
  · subst e1
    rw [hset_ne hb]
    unfold hset
    rw [Array.getElem?_modify, Array.getElem?_modify, Array.getElem?_modify]
    simp [Ne.symm hb]
  · rw [hset_ne (b := b) (h := hset h b' o' v') e1]
    by_cases e2 : i = b'
    · subst e2
      unfold hset
      rw [Array.getElem?_modify, Array.getElem?_modify, Array.getElem?_modify]
      simp [Ne.symm e1]
    · rw [hset_ne e2, hset_ne e1, hset_ne e2]

theorem seal_c (t : Man h N0 p q mb n K I fa fc L last cur) : HC Try.prog 23 #[ptr p 0] h fun v h' => (∃ e : Int, v = .int .i64 e) ∧ After h h' N0 p q mb n K I := by
  obtain ⟨qc, c0⟩ := t.c0
  refine f23_sh _ _ _ _ ⟨true, made_c t, fun h => by simp at h, fun _ => ⟨_, t.c3, fun _ => ⟨⟨_, rfl⟩, t.after⟩, fun hc => ?_⟩⟩
  have hc : cur ≠ -1 := by simpa using hc
  obtain ⟨g1, g2, g3⟩ := t.inv.cur.resolve_left hc
  refine ⟨_, _, _, c0, _, t.c3, _, _, rfl, g1, g2, t.hwq g1 g2 0 (by omega), ?_⟩
  rintro h1 rfl
  have hk : cur.toNat < n := by omega
  have ev := t.inv.each _ hk
  have t1 : Mem (hset h q (0 + cur.toNat * 4) (.int .i64 3)) N0 p q mb n K (upI I cur.toNat { I cur.toNat with st := 3 }) fa fc L last cur :=
    t.toMem.put only_hset (row_word (j := 0) t.toMem hk (by omega) (vals_eq rfl (by omega)))
  refine ⟨t1.hwp 3 (by omega), ?_⟩
  rintro h2 rfl
  have t2 : Mem (hset (hset h q (0 + cur.toNat * 4) (.int .i64 3)) p 3 (.int .i64 (-1))) N0 p q mb n K (upI I cur.toNat { I cur.toNat with st := 3 }) fa fc L last (-1) :=
    t1.own only_hset (fun qc e => by rw [hset_row e]; rfl) t1.fr (fun kv m x hx a j c e => by
      obtain ⟨kv', m', hd⟩ := t1.dr
      have : kv' = kv := by
        obtain ⟨es, c1, e1, e2, _⟩ := m
        obtain ⟨es', c1', e1', e2', _⟩ := m'
        rw [e1] at e1'; cases e1'
        rw [e2] at e2'
        have := congrArg (List.map (fun (p : Value × Value) => ((match p.1 with | .int _ z => z | _ => 0), p.2))) e2'
        simp only [List.map_map] at this
        have g : ((fun (p : Value × Value) => ((match p.1 with | .int _ z => z | _ => 0), p.2)) ∘ fun (p : Int × Value) => (Value.int .i64 p.1, p.2)) = id := by funext p; rfl
        rw [g, List.map_id, List.map_id] at this
        exact this.symm
      subst this
      obtain ⟨a', j', c', e', _, _, hdis⟩ := hd x hx
      rw [e] at e'; cases e'
      exact hdis)
  have inv0 : Inv n K I L last (-1) := ⟨t.inv.n2, t.inv.n256, t.inv.kle, t.inv.each, t.inv.nodup, t.inv.free, .inl rfl, t.inv.last⟩
  refine ⟨⟨_, rfl⟩, (fr_hset _ (fun _ => t.lowq)).trans (fr_hset N0.ok (fun _ => t.lowp)) (fun _ _ h => h), _, _, _, _, _, _, ⟨t2, inv_up inv0 hk ⟨by simp, by simp, ev.2.2.1, ev.2.2.2.1, ev.2.2.2.2.1, ev.2.2.2.2.2.1, fun h => by simp at h⟩ (fun hm => ?_) (fun h => ?_)⟩, goes_up ⟨.inr ?_, fun h => ?_, fun h => ?_⟩⟩
  · have := (t.inv.free _ hm).2.2; simp only [Int.toNat_natCast] at this; omega
  · omega
  · show (3 : Int) = _; rw [g3]; rfl
  · rw [g3] at h; cases h
  · rw [g3] at h; cases h

end
end Go.Proofs.Ytfdgjgjcppfmiaa
