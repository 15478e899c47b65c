/-
Going over a stripe, whole; the desk of a law: an index, a list and a number.
An index that New did not give: what its methods tell.
Lists of calls, read off the memory.
The law IndexClosed, over heaps.
-/
import Derived.Test.YtkecmljalcfhoaaLC
import Derived.Test.YtkecmljalcfhoaaShU
import Derived.Test.YtkecmljalcfhoaaLO
import Derived.Test.YtkecmljalcfhoaaShP
namespace Go.Proofs.Ytkecmljalcfhoaa
namespace Ix
open Go RH

theorem range_all {Lp : LoopState → Option Code → Heap → Prop} {l tb : Nat} {h13 h14 : Heap} {y : Value} {a : Option Addr} {L : List Ent} {OUT : Option Code → Heap → Prop}
    (stay : ∀ s p h h', Lp s p h → h'[l]? = h[l]? → Lp s p h') (el : l = h13.size + 1) (x14 : Ext h13 h14) (z14 : h14.size = h13.size + 2) (L14 : Lp .ready none h14)
    (opt : TOpt h14 a L) (hc : hcell h14 tb 0 = some (.pointer a)) (J : (Nat → Prop) → Nat → Heap → Prop)
    (j0 : ∀ h3, Ext h14 h3 → J (fun b => b = l ∨ (h14.size ≤ b ∧ b < h3.size)) 0 h3) (jst : ∀ Z k h h', Z l → J Z k h → Fr (fun b => b = l) h h' → J Z k h')
    (step : ∀ Z k (hk : k < L.length) h15 (K : Value → Heap → Prop), Z l → (∀ b, Z b → b < h15.size) → Lp .ready none h15 → J Z k h15 → (∀ h', J Z (k + 1) h' → Lp .ready none h' → Fr (fun b => ¬ Z b ∨ b = l) h15 h' → K (.bool true) h') →
      HCV Try.prog y [.agg #[.int .u64 L[k].h, .int .u64 L[k].a, .int .u64 L[k].v, .int .u8 L[k].k]] h15 K)
    (fin : ∀ Z h, h14.size ≤ h.size → J Z L.length h → OUT none h) :
    HCF Try.prog (.func (.func 55) #[] #[ptr tb 0]) [y] h14 (fun _ h16 => ∃ (st : LoopState) (pend : Option Code), Lp st pend h16 ∧ st ≠ .busy ∧ ∀ h17, Only l h16 h17 → Lp .exhausted pend h17 → OUT pend h17) := by
  refine go_over opt hc fun h3 x3 => ?_
  have s3 := x3.size
  refine ⟨fun k h => Lp .ready none h ∧ J (fun b => b = l ∨ (h14.size ≤ b ∧ b < h3.size)) k h, ⟨stay _ _ _ _ L14 (x3.block l (by omega)), j0 h3 x3⟩, ?_, ?_⟩
  · rintro k hk h4 f4 ⟨lp, jk⟩ h6 x6
    have s4 := f4.size
    have s6 := x6.size
    refine step _ k hk h6 _ (.inl rfl) (fun b g => by rcases g with g | g <;> omega) (stay _ _ _ _ lp (x6.block l (by omega))) (jst _ _ _ _ (.inl rfl) jk (x6.fr _)) fun h' j' lp' f' => ?_
    refine ⟨f'.mono fun b _ g => ?_, true, rfl, fun g => (by cases g), fun _ => ⟨lp', j'⟩⟩
    by_cases hb : b < h14.size
    · exact .inl hb
    · refine .inr (Nat.le_of_not_lt fun q => ?_)
      rcases g with g | g
      · exact g (.inr ⟨by omega, q⟩)
      · omega
  · rintro h4 f4 ⟨lp, jk⟩
    have s4 := f4.size
    exact ⟨.ready, none, lp, by simp, fun h17 o17 _ => fin _ h17 (by have := o17.size; omega) (jst _ _ _ _ (.inl rfl) jk o17.fr)⟩

/-- What a law has: an index, a region's number, a list of entries, a count. -/
structure DeskW (Z : Nat → Prop) (h0 h : Heap) (rg nb lf gn : Nat) (q : Int) (M : List Ent) (g : Int) (W : Nat → Prop) (a : Option Addr) (c : Nat) : Prop where
  wok : ∀ b, W b → h0.size ≤ b ∧ b ≠ rg ∧ b ≠ nb ∧ b ≠ lf ∧ b ≠ gn ∧ ¬ blkA a b ∧ ¬ Z b ∧ b < h.size
  rr : h[rg]? = some (.cells #[.int .i64 q] 3 (0, 0))
  rn : h[nb]? = some (.cells #[.bool false] 4 (0, 0))
  rl : h[lf]? = some (.cells #[.slice a M.length c] 47 (0, 0))
  rc : h[gn]? = some (.cells #[.int .i64 g] 3 (0, 0))
  s : Sl eEnt h a c M
  w : Own eEnt.k 31 h0.size h a c
  x : Ext h0 h
  z : ¬ Z rg ∧ ¬ Z nb ∧ ¬ Z lf ∧ ¬ Z gn ∧ ∀ b, blkA a b → ¬ Z b
  lo : h0.size ≤ rg ∧ h0.size ≤ nb ∧ h0.size ≤ lf ∧ h0.size ≤ gn ∧ rg ≠ gn
def Desk (Z : Nat → Prop) (h0 h : Heap) (x m rg nb lf gn : Nat) (q : Int) (Ls : List (List Ent)) (M : List Ent) (g : Int) : Prop := ∃ W a c, Has W h x m Ls ∧ DeskW Z h0 h rg nb lf gn q M g W a c

section
variable {Z : Nat → Prop} {h0 h : Heap} {x m rg nb lf gn : Nat} {q g : Int} {Ls : List (List Ent)} {M : List Ent}
theorem Desk.fr (d : Desk Z h0 h x m rg nb lf gn q Ls M g) {h' : Heap} {S : Nat → Prop} (f : Fr S h h') (hs : ∀ b, S b → Z b) (hl : ∀ b, S b → h0.size ≤ b) : Desk Z h0 h' x m rg nb lf gn q Ls M g := by
  obtain ⟨W, a, c, hx, d⟩ := d
  obtain ⟨z1, z2, z3, z4, z5⟩ := d.z
  refine ⟨W, a, c, hx.fr f fun b g s => (d.wok b g).2.2.2.2.2.2.1 (hs b s), ⟨fun b g => ?_, f.row d.rr fun s => z1 (hs _ s), f.row d.rn fun s => z2 (hs _ s), f.row d.rl fun s => z3 (hs _ s), f.row d.rc fun s => z4 (hs _ s),
    d.s.fr f fun b hb s => z5 b hb (hs _ s), d.w.fr f fun b hb s => z5 b hb (hs _ s), ((d.x.fr S).trans f fun _ _ s => s).ext fun b hb s => by have := hl b s; omega, d.z, d.lo⟩⟩
  obtain ⟨k1, k2, k3, k4, k5, k6, k7, k8⟩ := d.wok b g
  exact ⟨k1, k2, k3, k4, k5, k6, k7, Nat.lt_of_lt_of_le k8 f.size⟩
theorem Desk.ext (d : Desk Z h0 h x m rg nb lf gn q Ls M g) {h' : Heap} (f : Ext h h') : Desk Z h0 h' x m rg nb lf gn q Ls M g := d.fr (f.fr (fun _ => False)) (fun _ g => g.elim) (fun _ g => g.elim)
/-- Blocks that were not there are none of ours. -/
theorem Desk.z' (d : Desk Z h0 h x m rg nb lf gn q Ls M g) {Z' : Nat → Prop} (hz : ∀ b, Z' b → h.size ≤ b) : Desk Z' h0 h x m rg nb lf gn q Ls M g := by
  obtain ⟨W, a, c, hx, d⟩ := d
  have h1 := row_lt d.rr
  have h2 := row_lt d.rn
  have h3 := row_lt d.rl
  have h4 := row_lt d.rc
  have no : ∀ {b}, b < h.size → ¬ Z' b := fun hb g => by have := hz _ g; omega
  refine ⟨W, a, c, hx, ⟨fun b g => ?_, d.rr, d.rn, d.rl, d.rc, d.s, d.w, d.x, ⟨no h1, no h2, no h3, no h4, fun b hb => no (d.w.low hb).2⟩, d.lo⟩⟩
  obtain ⟨k1, k2, k3, k4, k5, k6, k7, k8⟩ := d.wok b g
  exact ⟨k1, k2, k3, k4, k5, k6, no k8, k8⟩
theorem Desk.count (d : Desk Z h0 h x m rg nb lf gn q Ls M g) : hcell h gn 0 = some (.int .i64 g) ∧ HW h gn 0 ∧ ∀ g' h', h' = hset h gn 0 (.int .i64 g') → Desk Z h0 h' x m rg nb lf gn q Ls M g' ∧ Fr (fun b => ¬ Z b) h h' := by
  obtain ⟨W, a, c, hx, d⟩ := d
  obtain ⟨z1, z2, z3, z4, z5⟩ := d.z
  obtain ⟨l1, l2, l3, l4, l5⟩ := d.lo
  refine ⟨by rw [hcell_row d.rc]; rfl, HW_row d.rc (by simp), fun g' h' e => ?_⟩
  have f := fr_hset_of e
  have n1 : nb ≠ gn := fun k => by have := d.rn; rw [k, d.rc] at this; simp at this
  have n2 : lf ≠ gn := fun k => by have := d.rl; rw [k, d.rc] at this; simp at this
  have n3 : ∀ b, blkA a b → b ≠ gn := fun b hb k => by
    rcases d.w with ⟨e1, _⟩ | ⟨b', o', cs, e1, _, r1, _⟩
    · rw [e1] at hb; exact blkA_none hb
    · rw [e1, blkA_some] at hb; rw [hb] at k; rw [k, d.rc] at r1; simp at r1
  refine ⟨⟨W, a, c, hx.fr f fun b g s => (d.wok b g).2.2.2.2.1 s, ⟨fun b g => ?_, f.row d.rr l5, f.row d.rn n1, f.row d.rl n2, by rw [e, hset_row d.rc]; rfl, d.s.fr f n3, d.w.fr f n3, ext_of_fr f d.x l4, d.z, d.lo⟩⟩, f.mono fun b _ s => by rw [s]; exact z4⟩
  obtain ⟨k1, k2, k3, k4, k5, k6, k7, k8⟩ := d.wok b g
  exact ⟨k1, k2, k3, k4, k5, k6, k7, Nat.lt_of_lt_of_le k8 f.size⟩
/-- Another list is written into the list's cell. -/
theorem DeskW.swap {W : Nat → Prop} {a : Option Addr} {c : Nat} (hx : Has W h x m Ls) (d : DeskW Z h0 h rg nb lf gn q M g W a c) {h1 : Heap} {a' : Option Addr} {c' n' : Nat} {M' : List Ent} (f1 : Fr (blkA a) h h1) (s1 : Sl eEnt h1 a' c' M') (w1 : Own eEnt.k 31 h0.size h1 a' c') (hb1 : ∀ b, blkA a' b → blkA a b ∨ h.size ≤ b)
    (hn : n' = M'.length) (hz : ∀ b, Z b → b < h.size) :
    HW h1 lf 0 ∧ ∀ h', h' = hset h1 lf 0 (.slice a' n' c') → Desk Z h0 h' x m rg nb lf gn q Ls M' g ∧ Fr (fun b => ¬ Z b) h h' := by
  subst hn
  obtain ⟨z1, z2, z3, z4, z5⟩ := d.z
  obtain ⟨l1, l2, l3, l4, l5⟩ := d.lo
  have typ : ∀ {b : Nat} {cs : Array Value} {T : TypeId}, h[b]? = some (.cells cs T (0, 0)) → T ≠ 31 → ¬ blkA a b := fun hr hT hb => by
    rcases d.w with ⟨e1, _⟩ | ⟨b', o', cs, e1, _, r1, _⟩
    · rw [e1] at hb; exact blkA_none hb
    · rw [e1, blkA_some] at hb; subst hb; rw [r1] at hr; simp at hr; exact hT hr.2.symm
  have rl1 := f1.row d.rl (typ d.rl (by decide))
  refine ⟨HW_row rl1 (by simp), fun h' e => ?_⟩
  have f2 := fr_hset_of e
  have f : Fr (fun b => blkA a b ∨ b = lf) h h' := (f1.mono fun _ _ s => .inl s).trans f2 fun _ _ s => .inr s
  have n1 : nb ≠ lf := fun k => by have := d.rn; rw [k, d.rl] at this; simp at this
  have n2 : gn ≠ lf := fun k => by have := d.rc; rw [k, d.rl] at this; simp at this
  have n3 : rg ≠ lf := fun k => by have := d.rr; rw [k, d.rl] at this; simp at this
  have n4 : ∀ b, blkA a' b → b ≠ lf := fun b hb k => by
    rcases w1 with ⟨e1, _⟩ | ⟨b', o', cs, e1, _, r1, _⟩
    · rw [e1] at hb; exact blkA_none hb
    · rw [e1, blkA_some] at hb; rw [hb] at k; rw [k, rl1] at r1; simp at r1
  have hl := row_lt d.rl
  refine ⟨⟨W, a', c', hx.fr f fun b g s => ?_, ⟨fun b g => ?_, f.row d.rr ?_, f.row d.rn ?_, by rw [e, hset_row rl1]; rfl, f.row d.rc ?_, s1.fr f2 n4, w1.fr f2 n4, ?_, ⟨z1, z2, z3, z4, fun b hb s => ?_⟩, d.lo⟩⟩, f.mono fun b _ s => ?_⟩
  · obtain ⟨k1, k2, k3, k4, k5, k6, k7, k8⟩ := d.wok b g
    exact s.elim k6 k4
  · obtain ⟨k1, k2, k3, k4, k5, k6, k7, k8⟩ := d.wok b g
    refine ⟨k1, k2, k3, k4, k5, fun s => ?_, k7, Nat.lt_of_lt_of_le k8 f.size⟩
    rcases hb1 b s with s | s
    · exact k6 s
    · omega
  · rintro (s | s)
    · exact typ d.rr (by decide) s
    · exact n3 s
  · rintro (s | s)
    · exact typ d.rn (by decide) s
    · exact n1 s
  · rintro (s | s)
    · exact typ d.rc (by decide) s
    · exact n2 s
  · refine ((d.x.fr _).trans f fun _ _ s => s).ext fun b hb s => ?_
    rcases s with s | s
    · have := (d.w.low s).1; omega
    · omega
  · rcases hb1 b hb with s' | s'
    · exact z5 b s' s
    · have := hz b s; omega
  · rcases s with s | s
    · exact z5 b s
    · rw [s]; exact z3
/-- The index is turned by a call. -/
theorem Desk.turn (d : Desk Z h0 h x m rg nb lf gn q Ls M g) (hz : ∀ b, Z b → b < h.size) : ∃ W, Has W h x m Ls ∧ ∀ Ls' h', Aft W h x m Ls' h' → Desk Z h0 h' x m rg nb lf gn q Ls' M g := by
  obtain ⟨W, a, c, hx, d⟩ := d
  refine ⟨W, hx, fun Ls' h' af => ?_⟩
  obtain ⟨f, hx'⟩ := af
  have h1 := row_lt d.rr
  have h2 := row_lt d.rn
  have h3 := row_lt d.rl
  have h4 := row_lt d.rc
  refine ⟨_, a, c, hx', ⟨fun b g => ?_, f.row d.rr fun s => (d.wok _ s).2.1 rfl, f.row d.rn fun s => (d.wok _ s).2.2.1 rfl, f.row d.rl fun s => (d.wok _ s).2.2.2.1 rfl, f.row d.rc fun s => (d.wok _ s).2.2.2.2.1 rfl,
    d.s.fr f fun b hb s => (d.wok _ s).2.2.2.2.2.1 hb, d.w.fr f fun b hb s => (d.wok _ s).2.2.2.2.2.1 hb, ((d.x.fr _).trans f fun _ _ s => s).ext fun b hb s => by have := (d.wok b s).1; omega, d.z, d.lo⟩⟩
  rcases g with g | g
  · obtain ⟨k1, k2, k3, k4, k5, k6, k7, k8⟩ := d.wok b g
    exact ⟨k1, k2, k3, k4, k5, k6, k7, Nat.lt_of_lt_of_le k8 f.size⟩
  · have := d.x.size
    exact ⟨by omega, by omega, by omega, by omega, by omega, fun s => by have := (d.w.low s).2; omega, fun s => by have := hz b s; omega, g.2⟩
end

theorem Has.small {W : Nat → Prop} {h : Heap} {x m : Nat} {Ls : List (List Ent)} (a : Has W h x m Ls) : ∀ L ∈ Ls, L.length ≤ 65536 := by
  obtain ⟨Ts, I, rfl⟩ := a
  intro L hL
  obtain ⟨t, ht, rfl⟩ := List.mem_map.1 hL
  obtain ⟨ok, rel⟩ := I.ok t ht
  exact TOpt.len (.inr ⟨t.p, t.q, t.B, m, t.s, rfl, ok, rel⟩)
theorem flat_small {Ls : List (List Ent)} (h : ∀ L ∈ Ls, L.length ≤ 65536) : Ls.flatten.length ≤ Ls.length * 65536 := by
  induction Ls with
  | nil => simp
  | cons L Ls ih =>
    have h1 := h L (by simp)
    have h2 := ih fun M hM => h M (by simp [hM])
    simp only [List.flatten_cons, List.length_append, List.length_cons]
    omega
theorem shut_ext {h h5 h6 : Heap} (x : Ext h h5) (s : Shut' h.size h5 h6) : Ext h h6 := ⟨by rw [s.size]; exact x.size, fun b hb => (s.low hb).trans (x.block b hb)⟩
end Ix
end Go.Proofs.Ytkecmljalcfhoaa

namespace Go.Proofs.Ytkecmljalcfhoaa
namespace Ix
open Go RH

def Closed (h : Heap) (p : Option Addr) : Prop := p = none ∨ ∃ b, p = some ⟨b, 0, none⟩ ∧ h[b]? = some (.cells #[.slice none 0 0] 61 (0, 0))
section
variable {h : Heap} {p : Option Addr}
theorem Closed.ext (z : Closed h p) {h' : Heap} (x : Ext h h') : Closed h' p := z.imp id fun ⟨b, e, hc⟩ => ⟨b, e, x.row hc⟩
theorem stripes_z (z : Closed h p) : HC Try.prog 17 #[.pointer p] h fun v h' => v = .int .i64 0 ∧ h' = h := by
  rcases z with rfl | ⟨b, rfl, hc⟩
  · exact f17_sh _ _ _ ⟨fun _ => ⟨rfl, rfl⟩, fun g => by simp at g⟩
  · exact f17_sh _ _ _ ⟨fun g => by simp at g, fun _ => ⟨b, 0, rfl, _, _, _, by rw [hcell_row hc]; rfl, rfl, rfl⟩⟩
theorem stripe_z (z : Closed h p) (v : Int) : HC Try.prog 24 #[.pointer p, .int .u64 v] h fun r h' => r = .int .i64 0 ∧ h' = h :=
  f24_sh _ _ _ _ ⟨0, stripes_z z, fun _ => ⟨rfl, rfl⟩, fun g => by simp at g⟩
theorem at_z (z : Closed h p) (v : Int) : HC Try.prog 27 #[.pointer p, .int .u64 v] h fun r h' => r = .pointer none ∧ h' = h :=
  f27_sh _ _ _ _ ⟨0, stripes_z z, fun _ => ⟨rfl, rfl⟩, fun g => by simp at g⟩
theorem sidx_z (z : Closed h p) (n : Int) : HC Try.prog 44 #[.pointer p, .int .i64 n] h fun r h' => r = .pointer none ∧ h' = h := by
  refine f44_sh _ _ _ _ ⟨true, ⟨fun _ => rfl, fun g => ⟨0, stripes_z z, ?_⟩⟩, fun _ => ⟨rfl, rfl⟩, fun g => by cases g⟩
  have := of_decide_eq_false g
  exact (decide_eq_true (by omega)).symm
abbrev zE : Value := .agg #[.int .u64 0, .int .u64 0, .int .u64 0, .int .u8 0]
theorem get_z (z : Closed h p) (v : Int) : HC Try.prog 11 #[.pointer p, .int .u64 v] h fun r h' => r = .tuple #[zE, .bool false] ∧ Ext h h' := by
  refine f11_sh _ _ _ _ fun pb h1 lo lt x1 => ⟨none, at_z (z.ext x1) v, (get_no _ _).mono ?_⟩
  rintro _ h2 ⟨rfl, x2⟩
  exact ⟨x2.kp _, _, _, _, _, _, rfl, fun h3 f3 => ⟨rfl, ext_of_fr f3 (x1.trans x2) lo⟩⟩
theorem put_z (z : Closed h p) (a b c d : Int) : HC Try.prog 29 #[.pointer p, .agg #[.int .u64 a, .int .u64 b, .int .u64 c, .int .u8 d]] h fun r h' => r = .tuple #[zE, .bool false, .int .i64 6] ∧ Ext h h' := by
  refine f29_sh _ _ _ _ _ _ _ fun e old h2 _ _ lo _ x2 => ⟨none, at_z (z.ext x2) a, fun _ h3 f3 => ⟨rfl, ext_of_fr f3 x2 lo⟩, fun g => by simp at g⟩
theorem remove_z (z : Closed h p) (v : Int) : HC Try.prog 30 #[.pointer p, .int .u64 v] h fun r h' => r = .tuple #[zE, .bool false] ∧ Ext h h' := by
  refine f30_sh _ _ _ _ fun pb h1 lo lt x1 => ⟨none, at_z (z.ext x1) v, (remove_no _ _).mono ?_⟩
  rintro _ h2 ⟨rfl, x2⟩
  exact ⟨x2.kp _, _, _, _, _, _, rfl, fun h3 f3 => ⟨rfl, ext_of_fr f3 (x1.trans x2) lo⟩⟩
theorem removeIf_z (z : Closed h p) (v a : Int) : HC Try.prog 31 #[.pointer p, .int .u64 v, .int .u64 a] h fun r h' => r = .bool false ∧ Ext h h' := by
  refine f31_sh _ _ _ _ _ ((get_z z v).mono ?_)
  rintro _ h1 ⟨rfl, x1⟩
  exact ⟨_, _, _, _, _, rfl, fun _ h3 x3 => ⟨rfl, x1.trans x3⟩, fun g => by simp at g⟩
theorem move_z (z : Closed h p) (v a b : Int) : HC Try.prog 32 #[.pointer p, .int .u64 v, .int .u64 a, .int .u64 b] h fun r h' => r = .bool false ∧ Ext h h' := by
  refine f32_sh _ _ _ _ _ _ ((get_z z v).mono ?_)
  rintro _ h1 ⟨rfl, x1⟩
  exact ⟨_, _, _, _, _, rfl, fun _ h3 x3 => ⟨rfl, x1.trans x3⟩, fun g => by simp at g⟩
theorem hit_z (z : Closed h p) (v : Int) : HC Try.prog 33 #[.pointer p, .int .u64 v] h fun r h' => r = .bool false ∧ Ext h h' := by
  refine f33_sh _ _ _ _ ⟨none, at_z z v, (hit_no _ _).mono ?_⟩
  rintro _ h1 ⟨rfl, rfl⟩
  exact ⟨_, rfl, rfl, Ext.refl _⟩
theorem len_z (z : Closed h p) (n : Int) : HC Try.prog 23 #[.pointer p, .int .i64 n] h fun r h' => r = .int .i64 0 ∧ h' = h :=
  f23_sh _ _ _ _ ⟨none, sidx_z z n, 0, len_no h, rfl, rfl⟩
theorem all_z (z : Closed h p) (n : Int) : HC Try.prog 18 #[.pointer p, .int .i64 n] h fun v h' => Ext h h' ∧ ∃ tb, v = .func (.func 55) #[] #[ptr tb 0] ∧ h.size ≤ tb ∧ h'[tb]? = some (.cells #[.pointer none] 70 (0, 0)) := by
  refine f18_sh _ _ _ _ ⟨none, sidx_z z n, (seq_c (L := []) (.inl ⟨rfl, rfl⟩)).mono ?_⟩
  rintro v h1 ⟨x1, tb, rfl, lo, r1⟩
  exact ⟨_, rfl, x1, tb, rfl, lo, r1⟩
theorem fork_z (z : Closed h p) : HC Try.prog 20 #[.pointer p] h fun v h' => v = .pointer none ∧ h' = h := by
  rcases z with rfl | ⟨b, rfl, hc⟩
  · exact f20_sh _ _ _ ⟨true, ⟨fun _ => rfl, fun g => by simp at g⟩, fun _ => ⟨rfl, rfl⟩, fun g => by cases g⟩
  · exact f20_sh _ _ _ ⟨true, ⟨fun g => by simp at g, fun _ => ⟨b, 0, rfl, _, _, _, by rw [hcell_row hc]; rfl, rfl⟩⟩, fun _ => ⟨rfl, rfl⟩, fun g => by cases g⟩
/-- Going over nothing. -/
theorem range_no {Lp : LoopState → Option Code → Heap → Prop} {l tb : Nat} {h13 h14 : Heap} {y : Value} {OUT : Option Code → Heap → Prop}
    (stay : ∀ s p h h', Lp s p h → h'[l]? = h[l]? → Lp s p h') (el : l = h13.size + 1) (x14 : Ext h13 h14) (z14 : h14.size = h13.size + 2) (L14 : Lp .ready none h14)
    (hc : hcell h14 tb 0 = some (.pointer none)) (fin : ∀ h, Ext h13 h → OUT none h) :
    HCF Try.prog (.func (.func 55) #[] #[ptr tb 0]) [y] h14 (fun _ h16 => ∃ (st : LoopState) (pend : Option Code), Lp st pend h16 ∧ st ≠ .busy ∧ ∀ h17, Only l h16 h17 → Lp .exhausted pend h17 → OUT pend h17) :=
  range_all (L := []) stay el x14 z14 L14 (.inl ⟨rfl, rfl⟩) hc (fun _ _ h => Fr (fun b => b = l) h14 h) (fun _ x => x.fr _) (fun _ _ _ _ _ f g => f.trans g fun _ _ s => s) (fun _ k hk => absurd hk (by simp)) fun _ h _ f => fin h (((x14.fr _).trans f fun _ _ s => s).ext fun b hb s => by omega)
theorem purge_z (z : Closed h p) (n q : Int) : HC Try.prog 19 #[.pointer p, .int .i64 n, .int .i64 q] h fun v h' => v = .int .i64 0 ∧ Ext h h' := by
  refine f19_sh _ _ _ _ _ fun rb h1 e1 eh1 => ?_
  have x1 : Ext h h1 := by rw [eh1]; exact Ext.push _ _
  clear eh1
  refine ⟨none, sidx_z (z.ext x1) n, fun tb h2 e2 eh2 => ?_⟩
  have x2 : Ext h1 h2 := by rw [eh2]; exact Ext.push _ _
  have r2 : h2[tb]? = some (.cells #[.pointer none] 70 (0, 0)) := by rw [eh2]; exact push_new e2
  clear eh2
  refine ⟨HW_row r2 (by simp), ?_⟩
  rintro h3 e3
  have s1 := x1.size
  have s2 := x2.size
  have r3 : h3[tb]? = some (.cells #[.pointer none] 70 (0, 0)) := by rw [e3, hset_row r2]; rfl
  have x3 : Ext h1 h3 := ext_hset e3 x2 (by omega)
  clear e3
  intro nb h4 e4 eh4
  have x4 : Ext h3 h4 := by rw [eh4]; exact Ext.push _ _
  have r4 : h4[nb]? = some (.cells #[.int .i64 0] 3 (0, 0)) := by rw [eh4]; exact push_new e4
  clear eh4
  refine ⟨HW_row r4 (by simp), ?_⟩
  rintro h5 e5
  have r5 : h5[nb]? = some (.cells #[.int .i64 0] 3 (0, 0)) := by rw [e5, hset_row r4]; rfl
  have x35 : Ext h3 h5 := ext_hset e5 x4 (by omega)
  clear e5
  refine ⟨none, by rw [hcell_row (x35.row r3)]; rfl, (seq_c (L := []) (.inl ⟨rfl, rfl⟩)).mono ?_⟩
  rintro _ h6 ⟨x6, cb, rfl, lcb, rcb⟩
  refine ⟨_, rfl, fun Lp l h7 y stay el x7 z7 L7 hyld => range_no (OUT := fun pend h10 => pend = none ∧ _) stay el x7 z7 L7 (by rw [hcell_row (x7.row rcb)]; rfl) fun h10 x10 => ?_⟩
  exact ⟨rfl, 0, by rw [hcell_row ((x6.trans x10).row r5)]; rfl, fun h18 s18 => ⟨rfl, shut_ext (x1.trans (x3.trans (x35.trans (x6.trans x10)))) s18⟩⟩

/-- What a call tells. -/
def toldZ (k : Int) : Value := .agg #[.int .u64 0, .int .u64 0, .int .u64 0, .int .u8 0, .int .u64 0, .int .u64 0, .int .u64 0, .int .u8 0, .bool false, .bool false, .int .i64 (if k = 0 then 6 else 0), .int .i64 0, .int .i64 0]
theorem one_z (z : Closed h p) (k a b c d e n m : Int) :
    HC Try.prog 12 #[.pointer p, .agg #[.int .i64 k, .int .u64 a, .int .u64 b, .int .u64 c, .int .u8 d, .int .u64 e, .int .i64 n, .int .i64 m]] h fun v h' => v = toldZ k ∧ Ext h h' := by
  have ne : ∀ {i : Int}, (k == i) = true → k = i := eq_of_beq
  refine f12_sho _ _ _ _ _ _ _ _ _ _ _ ⟨fun c1 c2 c3 c4 c5 c6 c7 pb t h4 => c1 = 0 ∧ c2 = 0 ∧ c3 = 0 ∧ c4 = 0 ∧ c5 = false ∧ c6 = (if k = 0 then 6 else 0) ∧ c7 = 0 ∧ Ext h h4,
    ⟨fun g => ?_, fun g0 => ⟨fun g => ?_, fun _ => ⟨fun g => ?_, fun _ => ⟨fun g => ?_, fun _ => ⟨fun g => ?_, fun _ => ⟨fun g => ?_, fun _ => ?_⟩⟩⟩⟩⟩⟩, ?_⟩
  · intro o pb t h3 _ _ _ _ lo _ x3
    refine (put_z (z.ext x3) a b c d).mono ?_
    rintro _ h5 ⟨rfl, x5⟩
    exact ⟨x5.kp _, _, _, _, _, _, _, rfl, fun h6 f6 h7 f7 h8 f8 => ⟨rfl, rfl, rfl, rfl, rfl, by rw [if_pos (ne g)], rfl, ext_of_fr f8 (ext_of_fr f7 (ext_of_fr f6 (x3.trans x5) lo) lo) lo⟩⟩
  all_goals try have hk : k ≠ 0 := fun q => by rw [q] at g0; simp at g0
  · intro o pb t h3 _ _ _ _ lo _ x3
    refine (remove_z (z.ext x3) a).mono ?_
    rintro _ h5 ⟨rfl, x5⟩
    exact ⟨x5.kp _, _, _, _, _, _, rfl, fun h6 f6 h7 f7 => ⟨rfl, rfl, rfl, rfl, rfl, by rw [if_neg hk], rfl, ext_of_fr f7 (ext_of_fr f6 (x3.trans x5) lo) lo⟩⟩
  · intro o pb t h3 _ _ _ _ lo _ x3
    refine (removeIf_z (z.ext x3) a e).mono ?_
    rintro _ h5 ⟨rfl, x5⟩
    exact ⟨x5.kp _, _, rfl, fun h6 f6 => ⟨rfl, rfl, rfl, rfl, rfl, by rw [if_neg hk], rfl, ext_of_fr f6 (x3.trans x5) lo⟩⟩
  · intro o pb t h3 _ _ _ _ lo _ x3
    refine (move_z (z.ext x3) a e b).mono ?_
    rintro _ h5 ⟨rfl, x5⟩
    exact ⟨x5.kp _, _, rfl, fun h6 f6 => ⟨rfl, rfl, rfl, rfl, rfl, by rw [if_neg hk], rfl, ext_of_fr f6 (x3.trans x5) lo⟩⟩
  · intro o pb t h3 _ _ _ _ lo _ x3
    refine (hit_z (z.ext x3) a).mono ?_
    rintro _ h5 ⟨rfl, x5⟩
    exact ⟨x5.kp _, _, rfl, fun h6 f6 => ⟨rfl, rfl, rfl, rfl, rfl, by rw [if_neg hk], rfl, ext_of_fr f6 (x3.trans x5) lo⟩⟩
  · intro o pb t h3 _ _ _ _ lo _ x3
    refine (purge_z (z.ext x3) n m).mono ?_
    rintro _ h5 ⟨rfl, x5⟩
    exact ⟨x5.kp _, _, rfl, fun h6 f6 => ⟨rfl, rfl, rfl, rfl, rfl, by rw [if_neg hk], rfl, ext_of_fr f6 (x3.trans x5) lo⟩⟩
  · intro pb t h3 _ _ lo _ x3
    refine (get_z (z.ext x3) a).mono ?_
    rintro _ h5 ⟨rfl, x5⟩
    exact ⟨x5.kp _, _, _, _, _, _, rfl, fun h6 f6 h7 f7 => ⟨rfl, rfl, rfl, rfl, rfl, by rw [if_neg hk], rfl, ext_of_fr f7 (ext_of_fr f6 (x3.trans x5) lo) lo⟩⟩
  · rintro _ _ _ _ _ _ _ pb t h4 ⟨rfl, rfl, rfl, rfl, rfl, rfl, rfl, x4⟩ lo _ _ _ h23 f23
    exact ⟨rfl, ext_of_fr f23 x4 lo⟩
end
end Ix
end Go.Proofs.Ytkecmljalcfhoaa

namespace Go.Proofs.Ytkecmljalcfhoaa
namespace Ix
open Go Go.ChangeShapes Go.WideShapes Go.Deep

theorem oOps {H : Type} {enc : TypeId × Value → H} {W : World} {a : Option Addr} {len cap : Nat} {d : DataW H} {p : List MemPlace}
    (h : DataW.Trod enc Try.prog W 0 (fun _ => true) true 22 (.slice a len cap) d p) : ∃ L : List Op, len = L.length ∧ L.length ≤ 9223372036854775807 ∧ Sl eOp W.heap a cap L ∧ ∀ o ∈ L, okOp o := by
  obtain ⟨fuel, h⟩ := h
  obtain ⟨k1, k2, L, rfl, k4, k5⟩ := open_list eOp Try.underlying22 (by kernel_rfl) (by decide) (fun y d => d = dOp y ∧ wfOp y) (fun fuel cs x h => oOp fuel cs x h) h
  have hm : cap ≤ 9223372036854775807 := k2
  refine ⟨L, rfl, by omega, k4, fun o ho => ?_⟩
  obtain ⟨i, hi, hie⟩ := List.getElem_of_mem ho
  rcases k5 with k5 | ⟨es, sp, _, hes, hg⟩
  · omega
  · exact ok_of (hg i o es[i] (by rw [List.getElem?_eq_getElem hi, hie]) (List.getElem?_eq_getElem (by omega))).2
theorem oOp1 {H : Type} {enc : TypeId × Value → H} {W : World} {cs : Array Value} {d : DataW H} {p : List MemPlace}
    (h : DataW.Trod enc Try.prog W 0 (fun _ => true) true 33 (.agg cs) d p) : ∃ o : Op, cs = (eOp.enc o).toArray ∧ okOp o := by
  obtain ⟨fuel, h⟩ := h
  obtain ⟨o, ho, _, hw⟩ := oOp _ _ _ h
  refine ⟨o, ?_, ok_of hw⟩
  have : cs.toList = eOp.enc o := by simpa [Value.cells] using ho
  rw [← this]
end Ix
end Go.Proofs.Ytkecmljalcfhoaa

namespace Go.Proofs.Ytkecmljalcfhoaa
namespace Ix
open Go RH

set_option maxHeartbeats 8000000 in
theorem law_closed {h : Heap} {a : Option Addr} {c : Nat} {L : List Op} (s : Sl eOp h a c L) (hl : L.length ≤ 9223372036854775807) :
    HC Try.prog 9 #[.slice a L.length c] h fun v h' => v = .bool true ∧ Ext h h' := by
  refine f9_sh _ _ _ _ _ fun nb h1 e1 eh1 => (awake_c h1).mono ?_
  have x1 : Ext h h1 := by rw [eh1]; exact Ext.push _ _
  have r1 : h1[nb]? = some (.cells #[.bool false] 4 (0, 0)) := by rw [eh1]; exact push_new e1
  clear eh1
  rintro _ h2 ⟨rfl, x2⟩
  refine ⟨true, rfl, fun g => (by cases g), fun _ ib h5 e5 eh5 pb h6 e6 eh6 => ?_⟩
  have x5 : Ext h2 h5 := by rw [eh5]; exact Ext.push _ _
  have r5 : h5[ib]? = some (.cells #[.slice none 0 0] 61 (0, 0)) := by rw [eh5]; exact push_new e5
  have x6 : Ext h5 h6 := by rw [eh6]; exact Ext.push _ _
  have r6 : h6[pb]? = some (.cells #[.pointer none, ptr ib 0] 25 (0, 0)) := by rw [eh6]; exact push_new e6
  clear eh5 eh6
  have ri6 := x6.row r5
  have x06 := x1.trans (x2.trans (x5.trans x6))
  have rn6 := (x2.trans (x5.trans x6)).row r1
  have lnb : h.size ≤ nb := by omega
  have fin : ∀ {h27 : Heap} {b : Bool}, b = true → h27[nb]? = some (.cells #[.bool b] 4 (0, 0)) → Ext h h27 → ∃ res : Bool, hcell h27 nb 0 = some (.bool res) ∧ (∀ h28, Shut' (Array.size h) h27 h28 → (Value.bool res = .bool true ∧ Ext h h28)) := fun hb r x => ⟨_, by rw [hcell_row r]; rfl, fun h28 s28 => ⟨by rw [hb], shut_ext x s28⟩⟩
  refine ⟨fun v h7 => ∃ k : Nat, v = k ∧ k ≤ 2 ∧ Ext h6 h7, fun v _ => 2 - v.toNat, ⟨0, rfl, by omega, Ext.refl _⟩, ?_⟩
  rintro _ h7 ⟨k, rfl, hk, x7⟩
  refine ⟨fun hlt => ?_, fun _ => ⟨HW_row (x7.row rn6) (by simp), fun h29 e29 => ?_⟩⟩
  · have hk2 : k < 2 := lt_of_dec (n := 2) hlt
    obtain ⟨p, hp, hcl⟩ : ∃ p, hcell h7 pb (0 + (Int.toNat (k : Int)) * 1) = some (.pointer p) ∧ Closed h6 p := by
      rw [hcell_row (x7.row r6), Int.toNat_natCast]
      match k, hk2 with
      | 0, _ => exact ⟨none, rfl, .inl rfl⟩
      | 1, _ => exact ⟨some ⟨ib, 0, none⟩, rfl, .inr ⟨ib, rfl, ri6⟩⟩
    refine ⟨by omega, by omega, p, hp, fun v h8 => ∃ j : Nat, v = j ∧ j ≤ L.length ∧ Ext h6 h8, fun v _ => L.length - v.toNat, ⟨0, rfl, Nat.zero_le _, x7⟩, ?_⟩
    rintro _ h8 ⟨j, rfl, hj, x8⟩
    have z8 := hcl.ext x8
    refine ⟨fun hlt => ?_, fun _ => ⟨fun b h25 => b = false ∧ Ext h6 h25, ⟨0, stripes_z z8, fun g => by simp at g, fun _ => (fork_z z8).mono ?_⟩, ?_⟩⟩
    · have hjl := lt_of_dec hlt
      obtain ⟨b, o, e, d⟩ := (s.ext (x06.trans x8)).at (List.getElem?_eq_getElem hjl)
      refine ⟨b, o, e, by omega, by omega, _, _, _, _, _, _, _, _, d.1, d.2.1, d.2.2.1, d.2.2.2.1, d.2.2.2.2.1, d.2.2.2.2.2.1, d.2.2.2.2.2.2.1, d.2.2.2.2.2.2.2.1, fun ob h9 e9 eh9 => ?_⟩
      have x9 : Ext h8 h9 := by rw [eh9]; exact Ext.push _ _
      have r9 : h9[ob]? = some (.cells #[(.int .i64 0), (.int .u64 0), (.int .u64 0), (.int .u64 0), (.int .u8 0), (.int .u64 0), (.int .i64 0), (.int .i64 0)] 33 (0, 0)) := by rw [eh9]; exact push_new e9
      clear eh9
      refine ⟨HWs_row r9 (by simp), ?_⟩
      rintro h10 e10
      have r10 : h10[ob]? = some (.cells (eOp.enc L[j]).toArray 33 (0, 0)) := by rw [e10, hsets_row _ r9]; rfl
      have x10 : Ext h8 h10 := ext_hsets e10 x9 (by omega)
      clear e10
      have z10 := z8.ext x10
      refine ⟨_, _, _, _, _, _, _, _, by rw [hcell_row r10]; rfl, by rw [hcell_row r10]; rfl, by rw [hcell_row r10]; rfl, by rw [hcell_row r10]; rfl, by rw [hcell_row r10]; rfl, by rw [hcell_row r10]; rfl, by rw [hcell_row r10]; rfl, by rw [hcell_row r10]; rfl, (one_z z10 _ _ _ _ _ _ _ _).mono ?_⟩
      rintro _ h11 ⟨rfl, x11⟩
      refine ⟨_, _, _, _, _, _, _, _, _, _, _, _, _, rfl, fun tb h12 e12 eh12 => ?_⟩
      have x12 : Ext h11 h12 := by rw [eh12]; exact Ext.push _ _
      have r12 : h12[tb]? = some (.cells #[(.int .u64 0), (.int .u64 0), (.int .u64 0), (.int .u8 0), (.int .u64 0), (.int .u64 0), (.int .u64 0), (.int .u8 0), (.bool false), (.bool false), (.int .i64 0), (.int .i64 0), (.int .i64 0)] 38 (0, 0)) := by rw [eh12]; exact push_new e12
      clear eh12
      refine ⟨HWs_row r12 (by simp), ?_⟩
      rintro h13 e13
      have r13 : h13[tb]? = some (.cells #[(.int .u64 0), (.int .u64 0), (.int .u64 0), (.int .u8 0), (.int .u64 0), (.int .u64 0), (.int .u64 0), (.int .u8 0), (.bool false), (.bool false), (.int .i64 (if L[j].kind = 0 then 6 else 0)), (.int .i64 0), (.int .i64 0)] 38 (0, 0)) := by
        rw [e13, hsets_row _ r12]; simp [sets]
      have x13 : Ext h11 h13 := ext_hsets e13 x12 (by omega)
      clear e13
      have x813 := x10.trans (x11.trans x13)
      have z13 := z8.ext x813
      have ro13 := (x11.trans x13).row r10
      have co : ∀ i v, (eOp.enc L[j]).toArray[i]? = some v → hcell h13 ob i = some v := fun i v e => by rw [hcell_row ro13]; exact e
      refine ⟨false, ⟨L[j].kind, co 0 _ rfl, fun g => ?_, fun g => ?_⟩, fun g => (by cases g), fun _ => ⟨L[j].n, co 6 _ rfl, (all_z z13 _).mono ?_⟩⟩
      · have hk0 : L[j].kind = 0 := eq_of_beq g
        rw [if_pos hk0] at r13
        have ct : ∀ i v, (#[(.int .u64 0), (.int .u64 0), (.int .u64 0), (.int .u8 0), (.int .u64 0), (.int .u64 0), (.int .u64 0), (.int .u8 0), (.bool false), (.bool false), (.int .i64 6), (.int .i64 0), (.int .i64 0)] : Array Value)[i]? = some v → hcell h13 tb i = some v := fun i v e => by rw [hcell_row r13]; exact e
        exact ⟨6, ct 10 _ rfl, fun g => by simp at g, fun _ => ⟨0, 0, 0, 0, ct 0 _ rfl, ct 1 _ rfl, ct 2 _ rfl, ct 3 _ rfl, fun g => by simp at g, fun _ => ⟨false, ct 8 _ rfl, fun g => (by cases g), fun _ => ⟨0, ct 12 _ rfl, fun g => by simp at g, fun _ => ⟨L[j].n, co 6 _ rfl, 0, len_z z13 _, fun g => by simp at g, fun _ => ⟨L[j].entry.h, co 1 _ rfl, 0, stripe_z z13 _, rfl⟩⟩⟩⟩⟩⟩
      · have ct : ∀ i v, (#[(.int .u64 0), (.int .u64 0), (.int .u64 0), (.int .u8 0), (.int .u64 0), (.int .u64 0), (.int .u64 0), (.int .u8 0), (.bool false), (.bool false), (.int .i64 (if L[j].kind = 0 then 6 else 0)), (.int .i64 0), (.int .i64 0)] : Array Value)[i]? = some v → hcell h13 tb i = some v := fun i v e => by rw [hcell_row r13]; exact e
        exact ⟨0, 0, 0, 0, ct 0 _ rfl, ct 1 _ rfl, ct 2 _ rfl, ct 3 _ rfl, fun g => by simp at g, fun _ => ⟨false, ct 8 _ rfl, fun g => (by cases g), fun _ => ⟨0, ct 12 _ rfl, fun g => by simp at g, fun _ => ⟨L[j].n, co 6 _ rfl, 0, len_z z13 _, fun g => by simp at g, fun _ => ⟨L[j].entry.h, co 1 _ rfl, 0, stripe_z z13 _, rfl⟩⟩⟩⟩⟩
      · rintro _ h16 ⟨x16, tb2, rfl, lo2, rt2⟩
        refine ⟨_, rfl, fun Lp l h17 y stay el x17 z17 L17 hyld => range_no (OUT := fun pend h20 => (pend = none ∧ _) ∨ (pend = some .ret ∧ _)) stay el x17 z17 L17 (by rw [hcell_row (x17.row rt2)]; rfl) fun h20 x20 => .inl ⟨rfl, ?_⟩⟩
        rw [wadd' j (by omega)]
        exact ⟨⟨j + 1, rfl, hjl, x8.trans (x813.trans (x16.trans x20))⟩, by simp only [Int.toNat_natCast]; omega⟩
    · rintro _ h26 ⟨rfl, rfl⟩
      exact ⟨none, rfl, rfl, x8⟩
    · rintro _ h25 ⟨rfl, x25⟩
      refine ⟨fun g => (by cases g), fun _ => ?_⟩
      rw [wadd' k (by omega)]
      exact ⟨⟨k + 1, rfl, hk2, x25⟩, by simp only [Int.toNat_natCast]; omega⟩
  · exact fin rfl (by rw [e29, hset_row (x7.row rn6)]; rfl) (ext_hset e29 (x06.trans x7) lnb)
end Ix
end Go.Proofs.Ytkecmljalcfhoaa
