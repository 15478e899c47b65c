/-
What the law's 'all' collects; a step on both tables.
-/
import Derived.Test.YtebipjmcckkhcaaTD
namespace Go.Proofs.Ytebipjmcckkhcaa
open Go RH

section
variable {h : Heap} {p q B m : Nat} {s : RH.Sl} {L : List Ent}

theorem app_at {α : Type} {E : Elt α} {T : TypeId} {N : Nat} {h : Heap} {a : Option Addr} {c : Nat} {L : List α} {P : Program} {t : TypeId} {by_ : Nat} (A : AppT P t T E.k by_) {n n2 : Nat}
    {a2 : Option Addr} {c2 : Nat} {L2 : List α} (s : Sl E h a c L) (w : Own E.k T N h a c) (hn : n = L.length) (s2 : Sl E h a2 c2 L2) (hn2 : n2 = L2.length) (hN : N ≤ h.size) (hsz : (n + n2) * by_ ≤ 140737488355328) {K : Value → Heap → Prop}
    (hk : ∀ a' c' h', Fr (blkA a) h h' → Sl E h' a' c' (L ++ L2) → Own E.k T N h' a' c' → (∀ b, blkA a' b → blkA a b ∨ h.size ≤ b) → K (.slice a' (n + n2) c') h') :
    HAppend P t t (.slice a n c) (.slice a2 n2 c2) h K := by
  subst hn; subst hn2; exact app_sl A s w s2 hN hsz hk
theorem cb41 : CallB Try.prog 41 := fun _ _ => Try.call41 _ _

/-- Collecting: what the slice in block l holds behind k entries. -/
structure Col (N : Nat) (l : Nat) (L : List Ent) (k : Nat) (h : Heap) : Prop where
  ex : ∃ a c, h[l]? = some (.cells #[.slice a k c] 35 (0, 0)) ∧ Sl eEnt h a c (L.take k) ∧ Own eEnt.k 31 N h a c
theorem Col.fr {N l k : Nat} {h h' : Heap} {S : Nat → Prop} (x : Col N l L k h) (f : Fr S h h') (hl : ¬ S l) (hn : ∀ b, N ≤ b → b < h.size → ¬ S b) : Col N l L k h' := by
  obtain ⟨a, c, r, s, w⟩ := x.ex
  exact ⟨a, c, f.row r hl, s.fr f fun b hb => hn b (w.low hb).1 (w.low hb).2, w.fr f fun b hb => hn b (w.low hb).1 (w.low hb).2⟩

set_option maxHeartbeats 4000000 in
theorem all_c (t : TabOK h p q B m s) (r : Rel B s L) (hl : L.length ≤ 65536) : HC Try.prog 18 #[ptr p 0] h fun v h' => New eEnt 31 h h' v L := by
  refine f18_sh _ _ _ _ fun l h1 el e1 => ?_
  have x1 : Ext h h1 := by rw [e1]; exact Ext.push _ _
  have r1 : h1[l]? = some (.cells #[.slice none 0 0] 35 (0, 0)) := by rw [e1]; exact push_new el
  refine f23_sh _ _ _ _ fun tb h2 et e2 => ?_
  have x2 : Ext h1 h2 := by rw [e2]; exact Ext.push _ _
  have c2 : hcell h2 tb 0 = some (ptr p 0) := by rw [hcell_row (by rw [e2]; exact push_new et)]; rfl
  refine ⟨_, rfl, fun Lp l1 h3 y stay el1 x3 z3 L3 hyld => ?_⟩
  refine ⟨41, [], [ptr tb 0], rfl, cb41, ?_⟩
  have t3 := t.ext (x1.trans (x2.trans x3))
  have hl1 := row_lt r1
  have hs1 := x1.size
  have hs2 := x2.size
  have hs3 := x3.size
  have hll : l ≠ l1 := by omega
  refine all_it t3 r (x3.cell c2) hl fun h4 x4 => ?_
  have hs4 := x4.size
  have fin : ∀ k h5, k = L.length → Fr (Yw h3 h4) h4 h5 → (Lp .ready none h5 ∧ Col h4.size l L k h5 ∧ Ext h h5) → ∃ (st : LoopState) (pend : Option Code), Lp st pend h5 ∧ st ≠ .busy ∧ ∀ h6, Only l1 h5 h6 → Lp .exhausted pend h6 → pend = none ∧ ∃ x_1 : Option Addr, ∃ x_n_1 x_c_1 : Nat, hcell h6 l 0 = some (.slice x_1 x_n_1 x_c_1) ∧ (∀ h14, Shut' (Array.size h) h6 h14 → New eEnt 31 h h14 (.slice x_1 x_n_1 x_c_1) L) := by
    rintro k h5 rfl f5 ⟨lp, cl, x5⟩
    refine ⟨.ready, none, lp, by simp, fun h6 o6 _ => ⟨rfl, ?_⟩⟩
    have hs5 := f5.size
    obtain ⟨a, c, r6, s6, w6⟩ := (cl.fr o6.fr hll fun b hb _ q => by omega).ex
    have rc : hcell h6 l 0 = some (.slice a L.length c) := by rw [hcell_row r6]; rfl
    refine ⟨a, _, c, rc, fun h14 s14 => ?_⟩
    have hl6 : h5.size = h6.size := o6.size.symm
    have cellk : ∀ {b o v}, hcell h6 b o = some v → hcell h14 b o = some v := fun hc => shut_cell s14 hc
    refine ⟨a, c, rfl, ⟨by rw [s14.size, o6.size]; exact x5.size, fun b hb => ?_⟩, ?_, ?_⟩
    · rw [s14.low hb, o6.block b (by omega)]; exact x5.block b hb
    · rw [List.take_length] at s6
      refine ⟨s6.le, s6.ex.imp id fun ⟨b, o, e, hc⟩ => ⟨b, o, e, fun i z hz => HCells.mk fun j v hv => cellk ((hc i z hz).get hv)⟩⟩
    · exact (w6.imp id fun ⟨b, o, cs, e, lo, hr, hc⟩ => ⟨b, o, cs, e, by omega, s14.row hr (by simp), hc⟩)
  refine ⟨fun k h5 => Lp .ready none h5 ∧ Col h4.size l L k h5 ∧ Ext h h5, ⟨?_, ?_, x1.trans (x2.trans (x3.trans x4))⟩, ?_, fun h5 f5 j5 => fin _ h5 rfl f5 j5⟩
  · exact stay _ _ _ _ L3 (x4.block l1 (by omega))
  · exact ⟨none, 0, x4.row (x3.row (x2.row r1)), by simpa using Sl.nil eEnt h4, Own.nil _ _ _ _⟩
  rintro k hk h5 f5 ⟨lp5, cl5, x5⟩ h6 x6
  have hs5 := f5.size
  have hs6 := x6.size
  have cl6 := cl5.fr (x6.fr (fun _ => False)) id fun _ _ _ => id
  have lp6 := stay _ _ _ _ lp5 (x6.block l1 (by omega))
  refine hyld _ _ _ _ h6 _ lp6 fun e h7 ee e7 => ?_
  have r7 : h7[e]? = some (.cells #[.int .u64 0, .int .u64 0, .int .u64 0, .int .u8 0] 31 (0, 0)) := by rw [e7]; exact push_new ee
  have x7 : Ext h6 h7 := by rw [e7]; exact Ext.push _ _
  refine ⟨HWs_row r7 (by simp), ?_⟩
  rintro h8 e8
  have r8 : h8[e]? = some (.cells #[.int .u64 L[k].h, .int .u64 L[k].a, .int .u64 L[k].v, .int .u8 L[k].k] 31 (0, 0)) := by rw [e8, hsets_row _ r7]; rfl
  have x8 : Ext h6 h8 := ext_hsets e8 x7 (by omega)
  clear e8 e7
  have hs8 := x8.size
  refine ⟨stay _ _ _ _ lp6 (x8.block l1 (by omega)), fun h9 o9 lp9 => ?_⟩
  have hs9 := o9.size
  have cl9 := (cl6.fr (x8.fr (fun _ => False)) id fun _ _ _ => id).fr o9.fr hll fun b hb _ q => by omega
  have r9 := o9.fr.row r8 (by omega)
  have f9 : Fr (Yw h3 h4) h6 h9 := (x8.fr _).trans o9.fr fun i hi g => .inl (by omega)
  have xx9 : Ext h h9 := ((x5.trans (x6.trans x8)).fr (fun b => b = l1)).trans o9.fr (fun _ _ g => g) |>.ext fun i hi g => by omega
  obtain ⟨a, c, rl9, s9, w9⟩ := cl9.ex
  refine ⟨a, k, c, by rw [hcell_row rl9]; rfl, _, _, _, _, by rw [hcell_row r9]; rfl, by rw [hcell_row r9]; rfl, by rw [hcell_row r9]; rfl, by rw [hcell_row r9]; rfl, fun nb h10 eb10 eh10 => ?_⟩
  have x10 : Ext h9 h10 := by rw [eh10]; exact Ext.push _ _
  have hrow : h10[nb]? = some (.cells ([L[k]].flatMap eEnt.enc).toArray 31 (0, 0)) := by rw [eh10]; exact push_new eb10
  have hkk : k = (L.take k).length := by rw [List.length_take]; omega
  refine app_at (L2 := [L[k]]) aEnt (s9.ext x10) (w9.ext x10) hkk (Sl.lit (L := [L[k]]) hrow) rfl (by have := x10.size; omega) (by show (k + 1) * 32 ≤ _; omega) ?_
  intro a' c' h11 f11 s11 w11 b11
  have hal : ∀ b, blkA a b → b ≠ l := fun b hb g => by have := (w9.low hb).1; omega
  have hal1 : ∀ b, blkA a b → b ≠ l1 := fun b hb g => by have := (w9.low hb).1; omega
  have rl11 := f11.row (x10.row rl9) fun g => hal l g rfl
  have hs11 := f11.size
  have hs10 := x10.size
  refine ⟨_, _, _, rfl, HW_row rl11 (by simp), ?_⟩
  rintro h12 e12
  have f12 : Fr (fun b => b = l) h11 h12 := fr_hset_of e12
  have rl12 : h12[l]? = some (.cells #[.slice a' (k + 1) c'] 35 (0, 0)) := by rw [e12, hset_row rl11]; rfl
  have hs12 := f12.size
  have lp10 : h12[l1]? = h9[l1]? := by
    rw [f12.block l1 (by omega) (by omega), f11.block l1 (by omega) (fun g => hal1 l1 g rfl), x10.block l1 (by omega)]
  refine ⟨stay _ _ _ _ lp9 lp10, fun h13 o13 lp13 => ?_⟩
  have hs13 := o13.size
  have hb' : ∀ b, blkA a' b → h4.size ≤ b := fun b hb => (w11.low hb).1
  have f912 : Fr (Yw h3 h4) h9 h13 := by
    have g1 : Fr (Yw h3 h4) h9 h11 := (x10.fr _).trans f11 fun i _ g => .inr (w9.low g).1
    have g2 : Fr (Yw h3 h4) h9 h12 := g1.trans f12 fun i _ g => .inl (by omega)
    exact g2.trans o13.fr fun i _ g => .inl (by omega)
  refine ⟨f9.trans f912 fun _ _ g => g, true, rfl, (fun g => by cases g), fun _ => ⟨lp13, ?_, ?_⟩⟩
  · have cl12 : Col h4.size l L (k + 1) h12 := by
      refine ⟨a', c', rl12, ?_, w11.fr f12 fun b hb g => by have := hb' b hb; omega⟩
      refine (s11.fr f12 fun b hb g => by have := hb' b hb; omega).cast ?_
      rw [List.take_add_one, List.getElem?_eq_getElem hk]; rfl
    exact cl12.fr o13.fr hll fun b hb _ g => by omega
  · refine ⟨by have := xx9.size; omega, fun b hb => ?_⟩
    have hb9 : b < h9.size := Nat.lt_of_lt_of_le hb xx9.size
    rw [o13.block b (by omega), f12.block b (by omega) (by omega), f11.block b (by omega) (fun g => by have := (w9.low g).1; omega), x10.block b hb9]
    exact xx9.block b hb
end
end Go.Proofs.Ytebipjmcckkhcaa
