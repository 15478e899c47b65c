/-
The law TableStops, over heaps.
-/
import Derived.Test.YtebipjmcckkhcaaTH
import Derived.Test.YtebipjmcckkhcaaShV
namespace Go.Proofs.Ytebipjmcckkhcaa
open Go RH

def LL (l l1 b : Nat) : Prop := b = l ∨ b = l1
theorem shut_ext {h h3 h4 : Heap} (e : Ext h h3) (s : Shut' h.size h3 h4) : Ext h h4 := ⟨by rw [s.size]; exact e.size, fun b hb => (s.low hb).trans (e.block b hb)⟩

section
variable {h h3 : Heap} {p q B m : Nat} {s : RH.Sl} {L : List Ent}

theorem Col.done {N N' l : Nat} {h : Heap} (x : Col N l L L.length h) (hN : N' ≤ N) : ∃ a c, h[l]? = some (.cells #[.slice a L.length c] 35 (0, 0)) ∧ Sl eEnt h a c L ∧ Own eEnt.k 31 N' h a c := by
  obtain ⟨a, c, r6, s6, w6⟩ := x.ex
  rw [List.take_length] at s6
  exact ⟨a, c, r6, s6, w6.down hN⟩
set_option maxHeartbeats 4000000 in
theorem col_it {tb l l1 : Nat} {y : Value} {Lp : LoopState → Option Code → Heap → Prop} {Q : Heap → Prop} (t3 : TabOK h3 p q B m s) (r : Rel B s L) (hl : L.length ≤ 65536) (ctb : hcell h3 tb 0 = some (ptr p 0))
    (stay : ∀ s p h h', Lp s p h → h'[l1]? = h[l1]? → Lp s p h') (L3 : Lp .ready none h3) (rl3 : h3[l]? = some (.cells #[.slice none 0 0] 35 (0, 0))) (hll : l ≠ l1) (hl1 : l1 < h3.size)
    (hyld : ∀ (it_Hash : Int) (it_At : Int) (it_Version : Int) (it_Hits : Int) (h4 : Heap) (K12 : Value → Heap → Prop), Lp .ready none h4 →
      (∀ e h7, e = Array.size h4 → h7 = Array.push h4 (.cells #[(.int .u64 0), (.int .u64 0), (.int .u64 0), (.int .u8 0)] 31) →
       (HWs h7 e 0 4 ∧
        ∀ h8, h8 = hsets h7 e 0 [(.int .u64 it_Hash), (.int .u64 it_At), (.int .u64 it_Version), (.int .u8 it_Hits)] →
        (Lp .ready none h8 ∧
         ∀ h9, Only l1 h8 h9 → Lp .busy none h9 →
         (∃ x : Option Addr, ∃ x_n x_c : Nat, hcell h9 l 0 = some (.slice x x_n x_c) ∧
          (∃ x_Hash x_At x_Version x_Hits : Int, hcell h9 e 0 = some (.int .u64 x_Hash) ∧ hcell h9 e 1 = some (.int .u64 x_At) ∧ hcell h9 e 2 = some (.int .u64 x_Version) ∧ hcell h9 e 3 = some (.int .u8 x_Hits) ∧
           (∀ nb h10, nb = Array.size h9 → h10 = Array.push h9 (.cells #[(.int .u64 x_Hash), (.int .u64 x_At), (.int .u64 x_Version), (.int .u8 x_Hits)] 31) →
            HAppend Try.prog 35 35 (.slice x x_n x_c) (.slice (some ⟨nb, 0, none⟩) 1 1) h10 (fun vv h11 => ∃ ap : Option Addr, ∃ ap_n ap_c : Nat, vv = (.slice ap ap_n ap_c) ∧
             (HW h11 l 0 ∧
              ∀ h12, h12 = hset h11 l 0 (.slice ap ap_n ap_c) →
              (Lp .busy none h12 ∧
               ∀ h13, Only l1 h12 h13 → Lp .ready none h13 → K12 (.bool true) h13))))))))) →
      HCV Try.prog y [(.agg #[(.int .u64 it_Hash), (.int .u64 it_At), (.int .u64 it_Version), (.int .u8 it_Hits)])] h4 K12)
    (fin : ∀ h5, Fr (LL l l1) h3 h5 → Lp .ready none h5 → (∃ a c, h5[l]? = some (.cells #[.slice a L.length c] 35 (0, 0)) ∧ Sl eEnt h5 a c L ∧ Own eEnt.k 31 h3.size h5 a c) → Q h5) :
    HCF Try.prog (.func (.func 41) #[] #[ptr tb 0]) [y] h3 fun _ h5 => Q h5 := by
  refine ⟨41, [], [ptr tb 0], rfl, cb41, ?_⟩
  have hl2 := row_lt rl3
  refine all_it t3 r ctb hl fun h4 x4 => ?_
  have hs4 := x4.size
  refine ⟨fun k h5 => Lp .ready none h5 ∧ Col h4.size l L k h5 ∧ Fr (LL l l1) h3 h5, ⟨?_, ?_, x4.fr _⟩, ?_, fun h5 f5 ⟨lp, cl, x5⟩ => fin h5 x5 lp (cl.done hs4)⟩
  · exact stay _ _ _ _ L3 (x4.block l1 (by omega))
  · exact ⟨none, 0, x4.row rl3, by simpa using Sl.nil eEnt h4, Own.nil _ _ _ _⟩
  rintro k hk h5 f5 ⟨lp5, cl5, x5⟩ h6 x6
  have hs5 := f5.size
  have hs6 := x6.size
  have cl6 := cl5.fr (x6.fr (fun _ => False)) id fun _ _ _ => id
  have lp6 := stay _ _ _ _ lp5 (x6.block l1 (by omega))
  refine hyld _ _ _ _ h6 _ lp6 fun e h7 ee e7 => ?_
  have r7 : h7[e]? = some (.cells #[.int .u64 0, .int .u64 0, .int .u64 0, .int .u8 0] 31 (0, 0)) := by rw [e7]; exact push_new ee
  have x7 : Ext h6 h7 := by rw [e7]; exact Ext.push _ _
  refine ⟨HWs_row r7 (by simp), ?_⟩
  rintro h8 e8
  have r8 : h8[e]? = some (.cells #[.int .u64 L[k].h, .int .u64 L[k].a, .int .u64 L[k].v, .int .u8 L[k].k] 31 (0, 0)) := by rw [e8, hsets_row _ r7]; rfl
  have x8 : Ext h6 h8 := ext_hsets e8 x7 (by omega)
  clear e8 e7
  have hs8 := x8.size
  refine ⟨stay _ _ _ _ lp6 (x8.block l1 (by omega)), fun h9 o9 lp9 => ?_⟩
  have hs9 := o9.size
  have cl9 := (cl6.fr (x8.fr (fun _ => False)) id fun _ _ _ => id).fr o9.fr hll fun b hb _ q => by omega
  have r9 := o9.fr.row r8 (by omega)
  have f9 : Fr (Yw h3 h4) h6 h9 := (x8.fr _).trans o9.fr fun i hi g => .inl (by omega)
  have xx9 : Fr (LL l l1) h3 h9 := ((x5.trans ((x6.trans x8).fr (fun _ => False)) fun _ _ g => g.elim)).trans o9.fr fun _ _ g => .inr g
  obtain ⟨a, c, rl9, s9, w9⟩ := cl9.ex
  refine ⟨a, k, c, by rw [hcell_row rl9]; rfl, _, _, _, _, by rw [hcell_row r9]; rfl, by rw [hcell_row r9]; rfl, by rw [hcell_row r9]; rfl, by rw [hcell_row r9]; rfl, fun nb h10 eb10 eh10 => ?_⟩
  have x10 : Ext h9 h10 := by rw [eh10]; exact Ext.push _ _
  have hrow : h10[nb]? = some (.cells ([L[k]].flatMap eEnt.enc).toArray 31 (0, 0)) := by rw [eh10]; exact push_new eb10
  have hkk : k = (L.take k).length := by rw [List.length_take]; omega
  refine app_at (L2 := [L[k]]) aEnt (s9.ext x10) (w9.ext x10) hkk (Sl.lit (L := [L[k]]) hrow) rfl (by have := x10.size; omega) (by show (k + 1) * 32 ≤ _; omega) ?_
  intro a' c' h11 f11 s11 w11 b11
  have hal : ∀ b, blkA a b → b ≠ l := fun b hb g => by have := (w9.low hb).1; omega
  have hal1 : ∀ b, blkA a b → b ≠ l1 := fun b hb g => by have := (w9.low hb).1; omega
  have rl11 := f11.row (x10.row rl9) fun g => hal l g rfl
  have hs11 := f11.size
  have hs10 := x10.size
  refine ⟨_, _, _, rfl, HW_row rl11 (by simp), ?_⟩
  rintro h12 e12
  have f12 : Fr (fun b => b = l) h11 h12 := fr_hset_of e12
  have rl12 : h12[l]? = some (.cells #[.slice a' (k + 1) c'] 35 (0, 0)) := by rw [e12, hset_row rl11]; rfl
  have hs12 := f12.size
  have lp10 : h12[l1]? = h9[l1]? := by
    rw [f12.block l1 (by omega) (by omega), f11.block l1 (by omega) (fun g => hal1 l1 g rfl), x10.block l1 (by omega)]
  refine ⟨stay _ _ _ _ lp9 lp10, fun h13 o13 lp13 => ?_⟩
  have hs13 := o13.size
  have hb' : ∀ b, blkA a' b → h4.size ≤ b := fun b hb => (w11.low hb).1
  have f912 : Fr (Yw h3 h4) h9 h13 := by
    have g1 : Fr (Yw h3 h4) h9 h11 := (x10.fr _).trans f11 fun i _ g => .inr (w9.low g).1
    have g2 : Fr (Yw h3 h4) h9 h12 := g1.trans f12 fun i _ g => .inl (by omega)
    exact g2.trans o13.fr fun i _ g => .inl (by omega)
  refine ⟨f9.trans f912 fun _ _ g => g, true, rfl, (fun g => by cases g), fun _ => ⟨lp13, ?_, ?_⟩⟩
  · have cl12 : Col h4.size l L (k + 1) h12 := by
      refine ⟨a', c', rl12, ?_, w11.fr f12 fun b hb g => by have := hb' b hb; omega⟩
      refine (s11.fr f12 fun b hb g => by have := hb' b hb; omega).cast ?_
      rw [List.take_add_one, List.getElem?_eq_getElem hk]; rfl
    exact cl12.fr o13.fr hll fun b hb _ g => by omega
  · have g1 : Fr (LL l l1) h3 h11 := (xx9.trans (x10.fr (fun _ => False)) fun _ _ g => g.elim).trans f11 fun i hi g => by have := (w9.low g).1; omega
    exact (g1.trans f12 fun _ _ g => .inl g).trans o13.fr fun _ _ g => .inr g

/-- What the law keeps of its own. -/
structure Own3 (h : Heap) (xb mb eb y : Nat) (most : Int) (e : Ent) (S : Nat → Prop) : Prop where
  x : h[xb]? = some (.cells #[.pointer (some ⟨y, 0, none⟩)] 47 (0, 0))
  m : h[mb]? = some (.cells #[.int .i64 most] 3 (0, 0))
  e : h[eb]? = some (.cells #[.int .u64 e.h, .int .u64 e.a, .int .u64 e.v, .int .u8 e.k] 31 (0, 0))
  nx : ¬ S xb
  nm : ¬ S mb
  ne : ¬ S eb
theorem Own3.fr {h h' : Heap} {xb mb eb y : Nat} {most : Int} {e : Ent} {S W : Nat → Prop} (o : Own3 h xb mb eb y most e S) (f : Fr W h h') (hx : ¬ W xb) (hm : ¬ W mb) (he : ¬ W eb) : Own3 h' xb mb eb y most e S :=
  ⟨f.row o.x hx, f.row o.m hm, f.row o.e he, o.nx, o.nm, o.ne⟩
theorem Own3.ext {h h' : Heap} {xb mb eb y : Nat} {most : Int} {e : Ent} {S : Nat → Prop} (o : Own3 h xb mb eb y most e S) (f : Ext h h') : Own3 h' xb mb eb y most e S := o.fr (f.fr (fun _ => False)) id id id
theorem Own3.step {h h' : Heap} {xb mb eb y : Nat} {most : Int} {e : Ent} {S S' : Nat → Prop} (o : Own3 h xb mb eb y most e S) (f : Fr S h h') (hs : ∀ b, S' b → S b ∨ h.size ≤ b) : Own3 h' xb mb eb y most e S' :=
  ⟨f.row o.x o.nx, f.row o.m o.nm, f.row o.e o.ne, fun g => (hs _ g).elim o.nx fun g => by have := row_lt o.x; omega, fun g => (hs _ g).elim o.nm fun g => by have := row_lt o.m; omega, fun g => (hs _ g).elim o.ne fun g => by have := row_lt o.e; omega⟩

set_option maxHeartbeats 8000000 in
theorem law_stops {bits most : Int} {l : Option Addr} {n c : Nat} {K : Nat → Int} {E : Nat → Ent} (hn : n ≤ 9223372036854775807) (x : OpsAt h l n K E) {e : Ent} (hwe : e.wf) :
    HC Try.prog 6 #[.int .i64 bits, .slice l n c, .int .i64 most, .agg #[.int .u64 e.h, .int .u64 e.a, .int .u64 e.v, .int .u8 e.k]] h fun v h' => v = .bool true ∧ Ext h h' := by
  refine f6_sh _ _ _ _ _ _ _ _ _ _ _ fun mb ha ema eha eb hb eeb ehb => ?_
  have xa : Ext h ha := by rw [eha]; exact Ext.push _ _
  have rm : ha[mb]? = some (.cells #[.int .i64 most] 3 (0, 0)) := by rw [eha]; exact push_new ema
  have xb' : Ext ha hb := by rw [ehb]; exact Ext.push _ _
  have re : hb[eb]? = some (.cells #[.int .u64 e.h, .int .u64 e.a, .int .u64 e.v, .int .u8 e.k] 31 (0, 0)) := by rw [ehb]; exact push_new eeb
  have hml := row_lt rm
  have hel := row_lt re
  have hsb := xb'.size
  have hsa := xa.size
  refine (lives_c hb).mono ?_
  rintro _ h1 ⟨rfl, e1⟩
  have x01 : Ext h h1 := xa.trans (xb'.trans e1)
  refine ⟨_, rfl, fun h => by simp at h, fun _ => ?_⟩
  by_cases hv : bits < 2 ∨ 16 < bits ∨ (16 : Int) < 16
  · refine (new_no hv h1).mono ?_
    rintro _ h2 ⟨rfl, rfl⟩
    refine ⟨_, _, rfl, (new_r h2).mono ?_⟩
    rintro _ h3 ⟨x3, hres⟩
    obtain ⟨_, rfl⟩ := hres.resolve_left (by rintro ⟨b, k, y, rfl, _, _, t3⟩; have := t3.b2; have := t3.bm; have := t3.m16; omega)
    refine ⟨_, _, rfl, fun xb h7 ex eh => ?_⟩
    have x7 : Ext h3 h7 := by rw [eh]; exact Ext.push _ _
    have r7 : h7[xb]? = some (.cells #[.pointer none] 47 (0, 0)) := by rw [eh]; exact push_new ex
    refine ⟨HW_row r7 (by simp), ?_⟩
    rintro h8 rfl
    have r8 : (hset h7 xb 0 (.pointer none))[xb]? = some (.cells #[.pointer none] 47 (0, 0)) := by rw [hset_row r7]; rfl
    have hs3 := x3.size
    have hs1 := x01.size
    have x8 : Ext h (hset h7 xb 0 (.pointer none)) := ext_hset rfl (x01.trans (x3.trans x7)) (by omega)
    refine ⟨true, ⟨fun g => by simp at g, fun _ => ⟨none, by rw [hcell_row r8]; rfl, rfl⟩⟩, fun _ h9 s9 => ⟨by simp, shut_ext x8 s9⟩, (fun g => by cases g)⟩
  obtain ⟨B, rfl⟩ : ∃ B : Nat, bits = B := ⟨bits.toNat, by omega⟩
  refine (new_c (bits := B) (most := 16) (by omega) (by omega) (by omega) h1).mono ?_
  rintro _ h2 ⟨e2, p, q, rfl, hp, hq, t2⟩
  have hs1 := e1.size
  refine ⟨_, _, rfl, (new_r h2).mono ?_⟩
  rintro _ h3 ⟨x3, hres⟩
  obtain ⟨b, k, y, eb', em, rfl, t3⟩ := hres.resolve_right fun g => hv g.1
  have eb'' : b = B := by omega
  have em' : k = 16 := by omega
  subst eb''; subst em'
  have T3 := two_new (x01.trans e2) (by omega) (by omega) t2 x3 t3
  have hs2 := e2.size
  have hs3 := x3.size
  refine ⟨_, _, rfl, fun xb h7 ex eh => ?_⟩
  have x7 : Ext h3 h7 := by rw [eh]; exact Ext.push _ _
  have r7 : h7[xb]? = some (.cells #[.pointer none] 47 (0, 0)) := by rw [eh]; exact push_new ex
  refine ⟨HW_row r7 (by simp), ?_⟩
  rintro h8 e8
  have r8 : h8[xb]? = some (.cells #[.pointer (some ⟨y, 0, none⟩)] 47 (0, 0)) := by rw [e8, hset_row r7]; rfl
  have x38 : Ext h3 h8 := ext_hset e8 x7 (by omega)
  clear e8 eh
  have T8 := T3.ext x38
  have ylo := t3.lo
  have O8 : Own3 h8 xb mb eb y most e (SS p q y none) := by
    have n1 : ∀ z, z < h1.size → ¬ SS p q y none z := fun z hz g => by
      rcases g with (g | g) | (g | g)
      · omega
      · omega
      · omega
      · exact blkA_none g
    exact ⟨r8, x38.row (x3.row (e2.row (e1.row (xb'.row rm)))), x38.row (x3.row (e2.row (e1.row re))), fun g => by
      have := T3.lt g; omega, n1 mb (by omega), n1 eb (by omega)⟩
  have x08 : Ext h h8 := x01.trans (e2.trans (x3.trans x38))
  refine ⟨false, ⟨fun g => by simp at g, fun _ => ⟨_, by rw [hcell_row r8]; rfl, rfl⟩⟩, (fun g => by cases g), fun _ => ?_⟩
  refine ⟨fun v i h4 => ∃ (j q : Nat) (a : Option Addr) (c B : Nat) (s : RH.Sl) (L : List Ent), v = false ∧ i = j ∧ j ≤ n ∧ Ext h h4 ∧ Two h.size h4 p q y a c B 16 s L ∧ Own3 h4 xb mb eb y most e (SS p q y a),
    fun _ i _ => n - i.toNat, ⟨0, q, none, 0, b, _, [], rfl, rfl, Nat.zero_le _, x08, T8, O8⟩, ?_⟩
  rintro _ _ h10 ⟨j, q, a, c2, B, s, L, rfl, rfl, hj, e10, T, O⟩
  have hs10 := e10.size
  refine ⟨fun hlt => ?_, fun hge => ?_⟩
  · have hjn : j < n := by have := of_decide_eq_true hlt; omega
    obtain ⟨lb, lo, rfl, hb, hx⟩ := x.ext e10 (by omega)
    obtain ⟨hw, c0, c1, c2', c3, c4⟩ := hx j hjn
    refine ⟨fun v h5 => v = false ∧ ∃ (q : Nat) (a : Option Addr) (c B : Nat) (s : RH.Sl) (L : List Ent), Ext h h5 ∧ Two h.size h5 p q y a c B 16 s L ∧ Own3 h5 xb mb eb y most e (SS p q y a), ⟨lb, lo, rfl, by omega, by omega, _, c0, fun _ => ?_, fun _ => ?_⟩, ?_⟩
    · refine ⟨_, by rw [hcell_row O.x]; rfl, _, _, _, _, _, c0, c1, c2', c3, c4, (step_c T (K j) hw).mono ?_⟩
      rintro _ h9 ⟨rfl, st⟩
      have e9 := st.ext' e10 T
      obtain ⟨f, q2, a2, c3', B2, s2, L2, T2, hS⟩ := st
      exact ⟨true, rfl, rfl, q2, a2, c3', B2, s2, L2, e9, T2, O.step f hS⟩
    · exact ⟨rfl, q, a, c2, B, s, L, e10, T, O⟩
    · rintro _ h5 ⟨rfl, q, a, c2, B, s, L, e5, T5, O5⟩
      refine ⟨fun g => (by cases g), fun _ => ?_⟩
      rw [w64 (by omega) (by omega)]
      refine ⟨⟨j + 1, q, a, c2, B, s, L, rfl, rfl, hjn, e5, T5, O5⟩, ?_⟩
      show n - Int.toNat ((j : Int) + 1) < n - Int.toNat (j : Int)
      omega
  have hsm := T.r.small
  refine f23_sh _ _ _ _ fun tb h14 et eh14 => ?_
  have x14 : Ext h10 h14 := by rw [eh14]; exact Ext.push _ _
  have r14 : h14[tb]? = some (.cells #[ptr p 0] 24 (0, 0)) := by rw [eh14]; exact push_new et
  clear eh14
  refine ⟨_, rfl, fun nb h15 en eh15 => ?_⟩
  have x15 : Ext h14 h15 := by rw [eh15]; exact Ext.push _ _
  have r15 : h15[nb]? = some (.cells #[.int .i64 0] 3 (0, 0)) := by rw [eh15]; exact push_new en
  clear eh15
  refine ⟨HW_row r15 (by simp), ?_⟩
  rintro h16 e16
  have hs14 := x14.size
  have hs15 := x15.size
  have x1016 : Ext h10 h16 := ext_hset e16 (x14.trans x15) (by omega)
  have r16 : h16[nb]? = some (.cells #[.int .i64 0] 3 (0, 0)) := by rw [e16, hset_row r15]; rfl
  have htl := row_lt r14
  have rt16 : h16[tb]? = some (.cells #[ptr p 0] 24 (0, 0)) := by
    have f := fr_hset_of e16
    exact f.row (x15.row r14) (by omega)
  clear e16
  have T16 := T.ext x1016
  have O16 := O.ext x1016
  have x016 := e10.trans x1016
  have hs16 := x1016.size
  have hnl := row_lt r16
  have hnS : ¬ SS p q y a nb := fun g => by have := T.lt g; omega
  have htS : ¬ SS p q y a tb := fun g => by have := T.lt g; omega
  have hxl := row_lt O.x
  have hml' := row_lt O.m
  have hel' := row_lt O.e
  refine ⟨fun h17 => ∃ cnt : Nat, h17[nb]? = some (.cells #[.int .i64 cnt] 3 (0, 0)) ∧ (most ≤ cnt ∨ L.length ≤ cnt) ∧ cnt ≤ L.length ∧ Ext h h17 ∧ Two h.size h17 p q y a c2 B 16 s L ∧ Own3 h17 xb mb eb y most e (SS p q y a) ∧ h17[tb]? = some (.cells #[ptr p 0] 24 (0, 0)), fun Lp l1 h18 yv stay el1 x18 z18 L18 hyld => ?_, ?_⟩
  · -- the first walk
    refine ⟨41, [], [ptr tb 0], rfl, cb41, ?_⟩
    have T18 := T16.ext x18
    refine all_it T18.t T.rel (by rw [hcell_row (x18.row rt16)]; rfl) (by omega) fun h19 x19 => ?_
    have hs18 := x18.size
    have hs19 := x19.size
    have x1619 := x18.trans x19
    let Keep : Nat → Heap → Prop := fun k h => h[nb]? = some (.cells #[.int .i64 k] 3 (0, 0)) ∧ Fr (LL nb l1) h16 h
    have keepS : ∀ {k h'}, Keep k h' → Ext h h' ∧ Two h.size h' p q y a c2 B 16 s L ∧ Own3 h' xb mb eb y most e (SS p q y a) ∧ h'[tb]? = some (.cells #[ptr p 0] 24 (0, 0)) := fun {k h'} g => by
      have f := g.2
      refine ⟨((x016.fr _).trans f fun _ _ g => g).ext fun i hi g => by rcases g with g | g <;> omega, T16.fr f fun b hb g => ?_, O16.fr f (fun g => by rcases g with g | g <;> omega) (fun g => by rcases g with g | g <;> omega) (fun g => by rcases g with g | g <;> omega), f.row rt16 fun g => by rcases g with g | g <;> omega⟩
      rcases g with rfl | rfl
      · exact hnS hb
      · have := T16.lt hb; omega
    have fin : ∀ (cnt : Nat) (h5 : Heap) (st : LoopState) (pend : Option Code), (pend = none ∨ pend = some (.exit 2)) → st ≠ .busy → (most ≤ cnt ∨ L.length ≤ cnt) → cnt ≤ L.length → Keep cnt h5 → Lp st pend h5 →
        ∃ (st : LoopState) (pend : Option Code), Lp st pend h5 ∧ st ≠ .busy ∧ ∀ h21, Only l1 h5 h21 → Lp .exhausted pend h21 →
        ((pend = none ∧ (∃ cnt : Nat, h21[nb]? = some (.cells #[.int .i64 cnt] 3 (0, 0)) ∧ (most ≤ cnt ∨ L.length ≤ cnt) ∧ cnt ≤ L.length ∧ Ext h h21 ∧ Two h.size h21 p q y a c2 B 16 s L ∧ Own3 h21 xb mb eb y most e (SS p q y a) ∧ h21[tb]? = some (.cells #[ptr p 0] 24 (0, 0)))) ∨ (pend = some (.exit 2) ∧
          (∃ cnt : Nat, h21[nb]? = some (.cells #[.int .i64 cnt] 3 (0, 0)) ∧ (most ≤ cnt ∨ L.length ≤ cnt) ∧ cnt ≤ L.length ∧ Ext h h21 ∧ Two h.size h21 p q y a c2 B 16 s L ∧ Own3 h21 xb mb eb y most e (SS p q y a) ∧ h21[tb]? = some (.cells #[ptr p 0] 24 (0, 0))))) := by
      intro cnt h5 st pend hp hst hc1 hc2 kp lp
      refine ⟨st, pend, lp, hst, fun h21 o21 _ => ?_⟩
      have kp' : Keep cnt h21 := ⟨o21.fr.row kp.1 (by omega), kp.2.trans o21.fr fun _ _ g => .inr g⟩
      have hall := keepS kp'
      rcases hp with rfl | rfl
      · exact .inl ⟨rfl, cnt, kp'.1, hc1, hc2, hall⟩
      · exact .inr ⟨rfl, cnt, kp'.1, hc1, hc2, hall⟩
    refine ⟨fun k h5 => k ≤ L.length ∧ Lp .ready none h5 ∧ Keep k h5, ⟨Nat.zero_le _, stay _ _ _ _ L18 (x19.block l1 (by omega)), x1619.row r16, x1619.fr _⟩, ?_, fun h5 f5 j5 => fin L.length h5 _ none (.inl rfl) (by simp) (.inr (Nat.le_refl _)) (Nat.le_refl _) j5.2.2 j5.2.1⟩
    rintro k hk h5 f5 ⟨hkl, lp5, kp5⟩ h6 x6
    have hs5 := f5.size
    have hs6 := x6.size
    have lp6 := stay _ _ _ _ lp5 (x6.block l1 (by omega))
    refine hyld _ _ _ _ h6 _ lp6 fun eb7 h7 ee e7 => ?_
    have r7 : h7[eb7]? = some (.cells #[.int .u64 0, .int .u64 0, .int .u64 0, .int .u8 0] 31 (0, 0)) := by rw [e7]; exact push_new ee
    have x7 : Ext h6 h7 := by rw [e7]; exact Ext.push _ _
    refine ⟨HWs_row r7 (by simp), ?_⟩
    rintro h8 e8
    have r8 : h8[eb7]? = some (.cells #[.int .u64 L[k].h, .int .u64 L[k].a, .int .u64 L[k].v, .int .u8 L[k].k] 31 (0, 0)) := by rw [e8, hsets_row _ r7]; rfl
    have x8 : Ext h6 h8 := ext_hsets e8 x7 (by omega)
    clear e8 e7
    have hs8 := x8.size
    refine ⟨stay _ _ _ _ lp6 (x8.block l1 (by omega)), fun h9 o9 lp9 => ?_⟩
    have hs9 := o9.size
    have kp9 : Keep k h9 := ⟨o9.fr.row ((x6.trans x8).row kp5.1) (by omega), (kp5.2.trans ((x6.trans x8).fr (fun _ => False)) fun _ _ g => g.elim).trans o9.fr fun _ _ g => .inr g⟩
    have r9 := o9.fr.row r8 (by omega)
    have f9 : Fr (Yw h18 h19) h6 h9 := (x8.fr _).trans o9.fr fun i hi g => .inl (by omega)
    obtain ⟨e9, T9, O9, rt9⟩ := keepS kp9
    obtain ⟨ab, ao, ea, d0, d1, d2, d3⟩ := T9.r.at hk
    refine ⟨decide (most ≤ (k : Int)), ⟨(k : Int), by rw [hcell_row kp9.1]; rfl, _, by rw [hcell_row O9.m]; rfl, fun g => ?_, fun g => ⟨_, by rw [hcell_row O9.x]; rfl, y, 0, rfl, _, _, _, T9.r.c2, fun g2 => ?_, fun _ => ⟨_, _, _, _, by rw [hcell_row r9]; rfl, by rw [hcell_row r9]; rfl, by rw [hcell_row r9]; rfl, by rw [hcell_row r9]; rfl, ab, ao, ea, by omega, by omega, _, _, _, _, d0, d1, d2, d3, ?_⟩⟩⟩, fun g => ?_, fun g => ?_⟩
    · exact decide_eq_true (of_decide_eq_true g)
    · have := of_decide_eq_true g2; omega
    · have hnot : ¬ most ≤ (k : Int) := of_decide_eq_false g
      rw [decide_eq_false hnot]; simp
    · refine ⟨lp9, fun h25 o25 lp25 => ⟨f9.trans o25.fr fun i hi g => .inl (by omega), false, rfl, fun _ => ?_, (fun g => by cases g)⟩⟩
      refine fin k h25 _ _ (.inr rfl) (by simp) (.inl (of_decide_eq_true g)) hkl ⟨o25.fr.row kp9.1 (by omega), kp9.2.trans o25.fr fun _ _ g => .inr g⟩ lp25
    · refine ⟨_, by rw [hcell_row kp9.1]; rfl, HW_row kp9.1 (by simp), ?_⟩
      rintro h26 e26
      have f26 := fr_hset_of e26
      have r26 : h26[nb]? = some (.cells #[.int .i64 ((k + 1 : Nat) : Int)] 3 (0, 0)) := by rw [e26, hset_row kp9.1, wadd k (by omega)]; rfl
      clear e26
      have hs26 := f26.size
      refine ⟨stay _ _ _ _ lp9 (f26.block l1 (by omega) (by omega)), fun h27 o27 lp27 => ⟨(f9.trans f26 fun i hi g => .inl (by omega)).trans o27.fr fun i hi g => .inl (by omega), true, rfl, (fun g => by cases g), fun _ => ⟨hk, lp27, o27.fr.row r26 (by omega), (kp9.2.trans f26 fun _ _ g => .inl g).trans o27.fr fun _ _ g => .inr g⟩⟩⟩
  rintro h17 ⟨cnt, r17, hc1, hc2, e17, T17, O17, rt17⟩
  have after : ∀ {h29}, Stp h.size h17 p q y a 16 h29 → ∃ (q : Nat) (a : Option Addr) (c B : Nat) (s : RH.Sl) (L : List Ent), Ext h h29 ∧ Two h.size h29 p q y a c B 16 s L ∧ Own3 h29 xb mb eb y most e (SS p q y a) ∧ h29[tb]? = some (.cells #[ptr p 0] 24 (0, 0)) := fun {h29} st => by
    have e9 := st.ext' e17 T17
    obtain ⟨f, q2, a2, c3', B2, s2, L2, T2, hS⟩ := st
    exact ⟨q2, a2, c3', B2, s2, L2, e9, T2, O17.step f hS, f.row rt17 htS⟩
  have c0 : hcell h17 eb 0 = some (.int .u64 e.h) := by rw [hcell_row O17.e]; rfl
  have c1 : hcell h17 eb 1 = some (.int .u64 e.a) := by rw [hcell_row O17.e]; rfl
  have c2' : hcell h17 eb 2 = some (.int .u64 e.v) := by rw [hcell_row O17.e]; rfl
  have c3 : hcell h17 eb 3 = some (.int .u8 e.k) := by rw [hcell_row O17.e]; rfl
  refine ⟨fun v h29 => v = false ∧ ∃ (q : Nat) (a : Option Addr) (c B : Nat) (s : RH.Sl) (L : List Ent), Ext h h29 ∧ Two h.size h29 p q y a c B 16 s L ∧ Own3 h29 xb mb eb y most e (SS p q y a) ∧ h29[tb]? = some (.cells #[ptr p 0] 24 (0, 0)),
    ⟨_, by rw [hcell_row r17]; rfl, _, by rw [hcell_row O17.m]; rfl, fun g => ?_, fun g => ?_⟩, ?_⟩
  · have hlt := of_decide_eq_true g
    refine ⟨_, by rw [hcell_row O17.x]; rfl, y, 0, rfl, _, _, _, T17.r.c2, fun g2 => ?_, fun _ => ⟨_, _, _, _, c0, c1, c2', c3, (step_c T17 1 hwe).mono ?_⟩⟩
    · have := of_decide_eq_true g2
      omega
    · rintro _ h29 ⟨rfl, st⟩
      exact ⟨true, rfl, rfl, after st⟩
  · refine ⟨_, by rw [hcell_row O17.x]; rfl, _, _, _, _, c0, c1, c2', c3, (step_c T17 1 hwe).mono ?_⟩
    rintro _ h29 ⟨rfl, st⟩
    exact ⟨true, rfl, rfl, after st⟩
  rintro _ h28 ⟨rfl, q, a, c2, B, s, L, e28, T28, O28, rt28⟩
  refine ⟨(fun g => by cases g), fun _ ab h32 ea eh32 => ?_⟩
  have x32 : Ext h28 h32 := by rw [eh32]; exact Ext.push _ _
  have r32 : h32[ab]? = some (.cells #[.slice none 0 0] 35 (0, 0)) := by rw [eh32]; exact push_new ea
  clear eh32
  intro Lp l2 h33 yv stay el2 x33 z33 L33 hyld
  have T33 := T28.ext (x32.trans x33)
  have O33 := O28.ext (x32.trans x33)
  have x033 := e28.trans (x32.trans x33)
  have hsm' := T28.r.small
  have hal := row_lt r32
  have hs32 := x32.size
  have hs33 := x33.size
  have hs28 := e28.size
  have ht28 := row_lt rt28
  have ho28 := row_lt O28.x
  refine col_it T33.t T28.rel (by omega) (by rw [hcell_row ((x32.trans x33).row rt28)]; rfl) stay L33 (x33.row r32) (by omega) (by omega) hyld fun h5 f5 lp5 hex => ?_
  refine ⟨.ready, none, lp5, by simp, fun h36 o36 _ => ⟨rfl, ?_⟩⟩
  obtain ⟨ar, cr, rr, sr, wr⟩ := hex
  have hs5 := f5.size
  have f36 : Fr (LL ab l2) h33 h36 := f5.trans o36.fr fun _ _ g => .inr g
  have rr36 := o36.fr.row rr (by omega)
  have sr36 : Sl eEnt h36 ar cr L := sr.fr o36.fr fun b hb g => by have := (wr.low hb).1; omega
  have T36 : Two h.size h36 p q y a c2 B 16 s L := T33.fr f36 fun b hb g => by
    have := T28.lt hb
    rcases g with g | g <;> omega
  have O36 := O33.fr f36 (fun g => by rcases g with g | g <;> omega) (fun g => by have := row_lt O28.m; rcases g with g | g <;> omega) (fun g => by have := row_lt O28.e; rcases g with g | g <;> omega)
  have x036 : Ext h h36 := ((x033.fr _).trans f36 fun _ _ g => g).ext fun i hi g => by rcases g with g | g <;> omega
  refine ⟨_, _, _, by rw [hcell_row rr36]; rfl, _, by rw [hcell_row O36.x]; rfl, y, 0, rfl, _, _, _, T36.r.c2, true, fun h45 x45 => ?_, fun h44 s44 => ⟨rfl, shut_ext x036 s44⟩⟩
  have := same_r (sr36.ext x45) (T36.ext x45).r.sl (by omega)
  rw [decide_eq_true rfl] at this
  exact this
end
end Go.Proofs.Ytebipjmcckkhcaa
