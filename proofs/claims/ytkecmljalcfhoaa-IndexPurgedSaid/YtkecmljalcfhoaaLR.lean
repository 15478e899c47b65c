/-
Going over a stripe, whole; the desk of a law: an index, a list and a number.
-/
import Derived.Test.YtkecmljalcfhoaaLC
namespace Go.Proofs.Ytkecmljalcfhoaa
namespace Ix
open Go RH

theorem range_all {Lp : LoopState → Option Code → Heap → Prop} {l tb : Nat} {h13 h14 : Heap} {y : Value} {a : Option Addr} {L : List Ent} {OUT : Option Code → Heap → Prop}
    (stay : ∀ s p h h', Lp s p h → h'[l]? = h[l]? → Lp s p h') (el : l = h13.size + 1) (x14 : Ext h13 h14) (z14 : h14.size = h13.size + 2) (L14 : Lp .ready none h14)
    (opt : TOpt h14 a L) (hc : hcell h14 tb 0 = some (.pointer a)) (J : (Nat → Prop) → Nat → Heap → Prop)
    (j0 : ∀ h3, Ext h14 h3 → J (fun b => b = l ∨ (h14.size ≤ b ∧ b < h3.size)) 0 h3) (jst : ∀ Z k h h', Z l → J Z k h → Fr (fun b => b = l) h h' → J Z k h')
    (step : ∀ Z k (hk : k < L.length) h15 (K : Value → Heap → Prop), Z l → (∀ b, Z b → b < h15.size) → Lp .ready none h15 → J Z k h15 → (∀ h', J Z (k + 1) h' → Lp .ready none h' → Fr (fun b => ¬ Z b ∨ b = l) h15 h' → K (.bool true) h') →
      HCV Try.prog y [.agg #[.int .u64 L[k].h, .int .u64 L[k].a, .int .u64 L[k].v, .int .u8 L[k].k]] h15 K)
    (fin : ∀ Z h, h14.size ≤ h.size → J Z L.length h → OUT none h) :
    HCF Try.prog (.func (.func 55) #[] #[ptr tb 0]) [y] h14 (fun _ h16 => ∃ (st : LoopState) (pend : Option Code), Lp st pend h16 ∧ st ≠ .busy ∧ ∀ h17, Only l h16 h17 → Lp .exhausted pend h17 → OUT pend h17) := by
  refine go_over opt hc fun h3 x3 => ?_
  have s3 := x3.size
  refine ⟨fun k h => Lp .ready none h ∧ J (fun b => b = l ∨ (h14.size ≤ b ∧ b < h3.size)) k h, ⟨stay _ _ _ _ L14 (x3.block l (by omega)), j0 h3 x3⟩, ?_, ?_⟩
  · rintro k hk h4 f4 ⟨lp, jk⟩ h6 x6
    have s4 := f4.size
    have s6 := x6.size
    refine step _ k hk h6 _ (.inl rfl) (fun b g => by rcases g with g | g <;> omega) (stay _ _ _ _ lp (x6.block l (by omega))) (jst _ _ _ _ (.inl rfl) jk (x6.fr _)) fun h' j' lp' f' => ?_
    refine ⟨f'.mono fun b _ g => ?_, true, rfl, fun g => (by cases g), fun _ => ⟨lp', j'⟩⟩
    by_cases hb : b < h14.size
    · exact .inl hb
    · refine .inr (Nat.le_of_not_lt fun q => ?_)
      rcases g with g | g
      · exact g (.inr ⟨by omega, q⟩)
      · omega
  · rintro h4 f4 ⟨lp, jk⟩
    have s4 := f4.size
    exact ⟨.ready, none, lp, by simp, fun h17 o17 _ => fin _ h17 (by have := o17.size; omega) (jst _ _ _ _ (.inl rfl) jk o17.fr)⟩

/-- What a law has: an index, a region's number, a list of entries, a count. -/
structure DeskW (Z : Nat → Prop) (h0 h : Heap) (rg nb lf gn : Nat) (q : Int) (M : List Ent) (g : Int) (W : Nat → Prop) (a : Option Addr) (c : Nat) : Prop where
  wok : ∀ b, W b → h0.size ≤ b ∧ b ≠ rg ∧ b ≠ nb ∧ b ≠ lf ∧ b ≠ gn ∧ ¬ blkA a b ∧ ¬ Z b ∧ b < h.size
  rr : h[rg]? = some (.cells #[.int .i64 q] 3 (0, 0))
  rn : h[nb]? = some (.cells #[.bool false] 4 (0, 0))
  rl : h[lf]? = some (.cells #[.slice a M.length c] 47 (0, 0))
  rc : h[gn]? = some (.cells #[.int .i64 g] 3 (0, 0))
  s : Sl eEnt h a c M
  w : Own eEnt.k 31 h0.size h a c
  x : Ext h0 h
  z : ¬ Z rg ∧ ¬ Z nb ∧ ¬ Z lf ∧ ¬ Z gn ∧ ∀ b, blkA a b → ¬ Z b
  lo : h0.size ≤ rg ∧ h0.size ≤ nb ∧ h0.size ≤ lf ∧ h0.size ≤ gn ∧ rg ≠ gn
def Desk (Z : Nat → Prop) (h0 h : Heap) (x m rg nb lf gn : Nat) (q : Int) (Ls : List (List Ent)) (M : List Ent) (g : Int) : Prop := ∃ W a c, Has W h x m Ls ∧ DeskW Z h0 h rg nb lf gn q M g W a c

section
variable {Z : Nat → Prop} {h0 h : Heap} {x m rg nb lf gn : Nat} {q g : Int} {Ls : List (List Ent)} {M : List Ent}
theorem Desk.fr (d : Desk Z h0 h x m rg nb lf gn q Ls M g) {h' : Heap} {S : Nat → Prop} (f : Fr S h h') (hs : ∀ b, S b → Z b) (hl : ∀ b, S b → h0.size ≤ b) : Desk Z h0 h' x m rg nb lf gn q Ls M g := by
  obtain ⟨W, a, c, hx, d⟩ := d
  obtain ⟨z1, z2, z3, z4, z5⟩ := d.z
  refine ⟨W, a, c, hx.fr f fun b g s => (d.wok b g).2.2.2.2.2.2.1 (hs b s), ⟨fun b g => ?_, f.row d.rr fun s => z1 (hs _ s), f.row d.rn fun s => z2 (hs _ s), f.row d.rl fun s => z3 (hs _ s), f.row d.rc fun s => z4 (hs _ s),
    d.s.fr f fun b hb s => z5 b hb (hs _ s), d.w.fr f fun b hb s => z5 b hb (hs _ s), ((d.x.fr S).trans f fun _ _ s => s).ext fun b hb s => by have := hl b s; omega, d.z, d.lo⟩⟩
  obtain ⟨k1, k2, k3, k4, k5, k6, k7, k8⟩ := d.wok b g
  exact ⟨k1, k2, k3, k4, k5, k6, k7, Nat.lt_of_lt_of_le k8 f.size⟩
theorem Desk.ext (d : Desk Z h0 h x m rg nb lf gn q Ls M g) {h' : Heap} (f : Ext h h') : Desk Z h0 h' x m rg nb lf gn q Ls M g := d.fr (f.fr (fun _ => False)) (fun _ g => g.elim) (fun _ g => g.elim)
/-- Blocks that were not there are none of ours. -/
theorem Desk.z' (d : Desk Z h0 h x m rg nb lf gn q Ls M g) {Z' : Nat → Prop} (hz : ∀ b, Z' b → h.size ≤ b) : Desk Z' h0 h x m rg nb lf gn q Ls M g := by
  obtain ⟨W, a, c, hx, d⟩ := d
  have h1 := row_lt d.rr
  have h2 := row_lt d.rn
  have h3 := row_lt d.rl
  have h4 := row_lt d.rc
  have no : ∀ {b}, b < h.size → ¬ Z' b := fun hb g => by have := hz _ g; omega
  refine ⟨W, a, c, hx, ⟨fun b g => ?_, d.rr, d.rn, d.rl, d.rc, d.s, d.w, d.x, ⟨no h1, no h2, no h3, no h4, fun b hb => no (d.w.low hb).2⟩, d.lo⟩⟩
  obtain ⟨k1, k2, k3, k4, k5, k6, k7, k8⟩ := d.wok b g
  exact ⟨k1, k2, k3, k4, k5, k6, no k8, k8⟩
theorem Desk.count (d : Desk Z h0 h x m rg nb lf gn q Ls M g) : hcell h gn 0 = some (.int .i64 g) ∧ HW h gn 0 ∧ ∀ g' h', h' = hset h gn 0 (.int .i64 g') → Desk Z h0 h' x m rg nb lf gn q Ls M g' ∧ Fr (fun b => ¬ Z b) h h' := by
  obtain ⟨W, a, c, hx, d⟩ := d
  obtain ⟨z1, z2, z3, z4, z5⟩ := d.z
  obtain ⟨l1, l2, l3, l4, l5⟩ := d.lo
  refine ⟨by rw [hcell_row d.rc]; rfl, HW_row d.rc (by simp), fun g' h' e => ?_⟩
  have f := fr_hset_of e
  have n1 : nb ≠ gn := fun k => by have := d.rn; rw [k, d.rc] at this; simp at this
  have n2 : lf ≠ gn := fun k => by have := d.rl; rw [k, d.rc] at this; simp at this
  have n3 : ∀ b, blkA a b → b ≠ gn := fun b hb k => by
    rcases d.w with ⟨e1, _⟩ | ⟨b', o', cs, e1, _, r1, _⟩
    · rw [e1] at hb; exact blkA_none hb
    · rw [e1, blkA_some] at hb; rw [hb] at k; rw [k, d.rc] at r1; simp at r1
  refine ⟨⟨W, a, c, hx.fr f fun b g s => (d.wok b g).2.2.2.2.1 s, ⟨fun b g => ?_, f.row d.rr l5, f.row d.rn n1, f.row d.rl n2, by rw [e, hset_row d.rc]; rfl, d.s.fr f n3, d.w.fr f n3, ext_of_fr f d.x l4, d.z, d.lo⟩⟩, f.mono fun b _ s => by rw [s]; exact z4⟩
  obtain ⟨k1, k2, k3, k4, k5, k6, k7, k8⟩ := d.wok b g
  exact ⟨k1, k2, k3, k4, k5, k6, k7, Nat.lt_of_lt_of_le k8 f.size⟩
/-- Another list is written into the list's cell. -/
theorem DeskW.swap {W : Nat → Prop} {a : Option Addr} {c : Nat} (hx : Has W h x m Ls) (d : DeskW Z h0 h rg nb lf gn q M g W a c) {h1 : Heap} {a' : Option Addr} {c' n' : Nat} {M' : List Ent} (f1 : Fr (blkA a) h h1) (s1 : Sl eEnt h1 a' c' M') (w1 : Own eEnt.k 31 h0.size h1 a' c') (hb1 : ∀ b, blkA a' b → blkA a b ∨ h.size ≤ b)
    (hn : n' = M'.length) (hz : ∀ b, Z b → b < h.size) :
    HW h1 lf 0 ∧ ∀ h', h' = hset h1 lf 0 (.slice a' n' c') → Desk Z h0 h' x m rg nb lf gn q Ls M' g ∧ Fr (fun b => ¬ Z b) h h' := by
  subst hn
  obtain ⟨z1, z2, z3, z4, z5⟩ := d.z
  obtain ⟨l1, l2, l3, l4, l5⟩ := d.lo
  have typ : ∀ {b : Nat} {cs : Array Value} {T : TypeId}, h[b]? = some (.cells cs T (0, 0)) → T ≠ 31 → ¬ blkA a b := fun hr hT hb => by
    rcases d.w with ⟨e1, _⟩ | ⟨b', o', cs, e1, _, r1, _⟩
    · rw [e1] at hb; exact blkA_none hb
    · rw [e1, blkA_some] at hb; subst hb; rw [r1] at hr; simp at hr; exact hT hr.2.symm
  have rl1 := f1.row d.rl (typ d.rl (by decide))
  refine ⟨HW_row rl1 (by simp), fun h' e => ?_⟩
  have f2 := fr_hset_of e
  have f : Fr (fun b => blkA a b ∨ b = lf) h h' := (f1.mono fun _ _ s => .inl s).trans f2 fun _ _ s => .inr s
  have n1 : nb ≠ lf := fun k => by have := d.rn; rw [k, d.rl] at this; simp at this
  have n2 : gn ≠ lf := fun k => by have := d.rc; rw [k, d.rl] at this; simp at this
  have n3 : rg ≠ lf := fun k => by have := d.rr; rw [k, d.rl] at this; simp at this
  have n4 : ∀ b, blkA a' b → b ≠ lf := fun b hb k => by
    rcases w1 with ⟨e1, _⟩ | ⟨b', o', cs, e1, _, r1, _⟩
    · rw [e1] at hb; exact blkA_none hb
    · rw [e1, blkA_some] at hb; rw [hb] at k; rw [k, rl1] at r1; simp at r1
  have hl := row_lt d.rl
  refine ⟨⟨W, a', c', hx.fr f fun b g s => ?_, ⟨fun b g => ?_, f.row d.rr ?_, f.row d.rn ?_, by rw [e, hset_row rl1]; rfl, f.row d.rc ?_, s1.fr f2 n4, w1.fr f2 n4, ?_, ⟨z1, z2, z3, z4, fun b hb s => ?_⟩, d.lo⟩⟩, f.mono fun b _ s => ?_⟩
  · obtain ⟨k1, k2, k3, k4, k5, k6, k7, k8⟩ := d.wok b g
    exact s.elim k6 k4
  · obtain ⟨k1, k2, k3, k4, k5, k6, k7, k8⟩ := d.wok b g
    refine ⟨k1, k2, k3, k4, k5, fun s => ?_, k7, Nat.lt_of_lt_of_le k8 f.size⟩
    rcases hb1 b s with s | s
    · exact k6 s
    · omega
  · rintro (s | s)
    · exact typ d.rr (by decide) s
    · exact n3 s
  · rintro (s | s)
    · exact typ d.rn (by decide) s
    · exact n1 s
  · rintro (s | s)
    · exact typ d.rc (by decide) s
    · exact n2 s
  · refine ((d.x.fr _).trans f fun _ _ s => s).ext fun b hb s => ?_
    rcases s with s | s
    · have := (d.w.low s).1; omega
    · omega
  · rcases hb1 b hb with s' | s'
    · exact z5 b s' s
    · have := hz b s; omega
  · rcases s with s | s
    · exact z5 b s
    · rw [s]; exact z3
/-- The index is turned by a call. -/
theorem Desk.turn (d : Desk Z h0 h x m rg nb lf gn q Ls M g) (hz : ∀ b, Z b → b < h.size) : ∃ W, Has W h x m Ls ∧ ∀ Ls' h', Aft W h x m Ls' h' → Desk Z h0 h' x m rg nb lf gn q Ls' M g := by
  obtain ⟨W, a, c, hx, d⟩ := d
  refine ⟨W, hx, fun Ls' h' af => ?_⟩
  obtain ⟨f, hx'⟩ := af
  have h1 := row_lt d.rr
  have h2 := row_lt d.rn
  have h3 := row_lt d.rl
  have h4 := row_lt d.rc
  refine ⟨_, a, c, hx', ⟨fun b g => ?_, f.row d.rr fun s => (d.wok _ s).2.1 rfl, f.row d.rn fun s => (d.wok _ s).2.2.1 rfl, f.row d.rl fun s => (d.wok _ s).2.2.2.1 rfl, f.row d.rc fun s => (d.wok _ s).2.2.2.2.1 rfl,
    d.s.fr f fun b hb s => (d.wok _ s).2.2.2.2.2.1 hb, d.w.fr f fun b hb s => (d.wok _ s).2.2.2.2.2.1 hb, ((d.x.fr _).trans f fun _ _ s => s).ext fun b hb s => by have := (d.wok b s).1; omega, d.z, d.lo⟩⟩
  rcases g with g | g
  · obtain ⟨k1, k2, k3, k4, k5, k6, k7, k8⟩ := d.wok b g
    exact ⟨k1, k2, k3, k4, k5, k6, k7, Nat.lt_of_lt_of_le k8 f.size⟩
  · have := d.x.size
    exact ⟨by omega, by omega, by omega, by omega, by omega, fun s => by have := (d.w.low s).2; omega, fun s => by have := hz b s; omega, g.2⟩
end

theorem Has.small {W : Nat → Prop} {h : Heap} {x m : Nat} {Ls : List (List Ent)} (a : Has W h x m Ls) : ∀ L ∈ Ls, L.length ≤ 65536 := by
  obtain ⟨Ts, I, rfl⟩ := a
  intro L hL
  obtain ⟨t, ht, rfl⟩ := List.mem_map.1 hL
  obtain ⟨ok, rel⟩ := I.ok t ht
  exact TOpt.len (.inr ⟨t.p, t.q, t.B, m, t.s, rfl, ok, rel⟩)
theorem flat_small {Ls : List (List Ent)} (h : ∀ L ∈ Ls, L.length ≤ 65536) : Ls.flatten.length ≤ Ls.length * 65536 := by
  induction Ls with
  | nil => simp
  | cons L Ls ih =>
    have h1 := h L (by simp)
    have h2 := ih fun M hM => h M (by simp [hM])
    simp only [List.flatten_cons, List.length_append, List.length_cons]
    omega
end Ix
end Go.Proofs.Ytkecmljalcfhoaa
