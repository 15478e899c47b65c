/-
The index: moved, how many, all.
-/
import Derived.Test.YtkecmljalcfhoaaIB
import Derived.Test.YtkecmljalcfhoaaTO
namespace Go.Proofs.Ytkecmljalcfhoaa
namespace Ix
open Go RH

section
variable {W : Nat → Prop} {h : Heap} {x m : Nat} {Ts : List Tb} {Ls : List (List Ent)}

theorem move_i (I : Idx W h x m Ts) {v fr to : Nat} (hv : v < 18446744073709551616) (hto : to < 18446744073709551616) : HC Try.prog 32 #[.pointer (some ⟨x, 0, none⟩), .int .u64 v, .int .u64 fr, .int .u64 to] h fun r h' =>
    r = .bool (mMove (str (Ts.map Tb.L) v) v fr to).1 ∧ Aft W h x m ((Ts.map Tb.L).set (v % Ts.length) (mMove (str (Ts.map Tb.L) v) v fr to).2) h' := by
  obtain ⟨t, ht, _⟩ := I.get v
  refine f32_sh _ _ _ _ _ _ ((get_i I hv).mono ?_)
  rintro _ h1 ⟨rfl, x1⟩
  rw [str_eq ht]
  refine ⟨_, _, _, _, _, rfl, fun g h3 x3 => ?_, fun g eb h4 lo4 lt4 x4 => ⟨_, fun h6 x6 => at_i (I.ext (x1.trans (x4.trans x6))) v ht, ?_⟩⟩
  · have e : mMove t.L v fr to = (false, t.L) := by
      unfold mMove mGet at *
      cases hl : look t.L v with
      | none => rfl
      | some y =>
        rw [hl] at g
        simp only [Bool.not_true, Bool.false_or, Bool.or_eq_true, bne_iff_ne, ne_eq, beq_iff_eq] at g
        simp only; rw [if_neg (by omega)]
    rw [e]
    exact ⟨rfl, by rw [map_same ht]; exact Aft.ofExt I (x1.trans x3)⟩
  · have x14 := x1.trans x4
    obtain ⟨ok, rel⟩ := (I.ext x14).ok t (List.mem_of_getElem? ht)
    obtain ⟨y, hl, hy, hto0⟩ : ∃ y, look t.L v = some y ∧ y.a = fr ∧ to ≠ 0 := by
      unfold mGet at g
      cases hl : look t.L v with
      | none => rw [hl] at g; simp at g
      | some y =>
        rw [hl] at g
        simp only [Bool.not_true, Bool.false_or, Bool.or_eq_false_iff, bne_eq_false_iff_eq, beq_eq_false_iff_ne, ne_eq] at g
        exact ⟨y, rfl, by omega, by omega⟩
    have eg : mGet t.L v = (y, true) := by unfold mGet; rw [hl]
    rw [eg]
    have hyL := (look_some rel.srt).1 hl
    obtain ⟨i0, hi0, hie, hia⟩ := (rel.mem y).2 hyL.1
    have hwy : y.wf := by rw [← hie]; exact ok.g.wf i0 hi0
    have hb := ok.bnd
    refine (put_c (e := ⟨y.h, to, y.v, y.k⟩) ok ⟨hwy.1, hto, hwy.2.2.1, hwy.2.2.2⟩).mono ?_
    rintro r h5 ⟨f5, q', B', s', hq, ok5, pr⟩
    obtain ⟨e5, rel5⟩ := put_plain rel ok.g hb.1 hb.2.1 ok.room pr
    have et : tPut m t.L ⟨y.h, to, y.v, y.k⟩ = ((y, true, 0), putS t.L ⟨y.h, to, y.v, y.k⟩) := by
      unfold tPut
      rw [if_neg hto0]
      have : look t.L y.h = some y := by rw [hyL.2]; exact hl
      simp only [this]
    rw [et] at e5 rel5
    have em : mMove t.L v fr to = (true, putS t.L ⟨y.h, to, y.v, y.k⟩) := by unfold mMove; rw [hl]; simp only; rw [if_pos ⟨hy, hto0⟩]
    rw [em]
    subst e5
    exact ⟨_, _, _, _, _, _, rfl, rfl, Aft.mk' I x14 ht f5 hq ok5 rel5 (Fr.refl (fun _ => False) _) fun b g => g.elim⟩

/-- What a stripe has. -/
def ent (Ls : List (List Ent)) (n : Int) : List Ent := if 0 ≤ n then Ls.getD n.toNat [] else []
theorem ent_out {n : Int} (hn : n < 0 ∨ (Ls.length : Int) ≤ n) : ent Ls n = [] := by
  unfold ent
  split
  · rw [List.getD_eq_getElem?_getD, List.getElem?_eq_none (by omega)]; rfl
  · rfl
theorem sidx_i (I : Idx W h x m Ts) (n : Int) : ∃ a, HC Try.prog 44 #[.pointer (some ⟨x, 0, none⟩), .int .i64 n] h (fun r h' => r = .pointer a ∧ h' = h) ∧ TOpt h a (ent (Ts.map Tb.L) n) ∧
    (0 ≤ n → n < Ts.length → ∃ t, Ts[n.toNat]? = some t ∧ a = some ⟨t.p, 0, none⟩ ∧ ent (Ts.map Tb.L) n = t.L) := by
  obtain ⟨la, lc, c0, cs⟩ := I.c0
  by_cases hin : 0 ≤ n ∧ n < Ts.length
  · have hlt : n.toNat < Ts.length := by omega
    have ht := List.getElem?_eq_getElem hlt
    obtain ⟨b, o, e, d⟩ := cs _ _ ht
    have ee : ent (Ts.map Tb.L) n = Ts[n.toNat].L := by
      unfold ent
      rw [if_pos hin.1, List.getD_eq_getElem?_getD, List.getElem?_map, ht]; rfl
    obtain ⟨ok, rel⟩ := I.ok _ (List.mem_of_getElem? ht)
    refine ⟨some ⟨Ts[n.toNat].p, 0, none⟩, f44_sh _ _ _ _ ⟨false, ⟨fun g => ?_, fun _ => ⟨_, stripes_i I, ?_⟩⟩, fun g => (by cases g), fun _ => ⟨x, 0, rfl, _, _, _, c0, b, o, e, by omega, by omega, _, d, rfl, rfl⟩⟩, .inr ⟨_, _, _, m, _, rfl, ok, by rw [ee]; exact rel⟩, fun _ _ => ⟨_, ht, rfl, ee⟩⟩
    · have := of_decide_eq_true g; omega
    · exact (decide_eq_false (by omega)).symm
  · refine ⟨none, f44_sh _ _ _ _ ⟨true, ⟨fun _ => rfl, fun g => ⟨_, stripes_i I, ?_⟩⟩, fun _ => ⟨rfl, rfl⟩, fun g => (by cases g)⟩, .inl ⟨rfl, ent_out (by rw [List.length_map]; omega)⟩, fun h1 h2 => absurd ⟨h1, h2⟩ hin⟩
    have := of_decide_eq_false g
    exact (decide_eq_true (by omega)).symm
theorem len_i (I : Idx W h x m Ts) (n : Int) : HC Try.prog 23 #[.pointer (some ⟨x, 0, none⟩), .int .i64 n] h fun r h' => r = .int .i64 ((ent (Ts.map Tb.L) n).length : Int) ∧ h' = h := by
  obtain ⟨a, hc, ht, _⟩ := sidx_i I n
  refine f23_sh _ _ _ _ ⟨a, hc, _, ?_, rfl, rfl⟩
  rcases ht with ⟨rfl, h2⟩ | ⟨p, q, B, m, s, rfl, h2, h3⟩
  · rw [h2]; exact len_no h
  · rw [← h3.len h2.g]
    exact (len_c h2).mono fun v h' ⟨e1, e2⟩ => ⟨e2, e1⟩
theorem all_i (I : Idx W h x m Ts) (n : Int) : HC Try.prog 18 #[.pointer (some ⟨x, 0, none⟩), .int .i64 n] h fun v h' => Ext h h' ∧ ∃ tb a, v = .func (.func 55) #[] #[ptr tb 0] ∧ h.size ≤ tb ∧
    h'[tb]? = some (.cells #[.pointer a] 70 (0, 0)) ∧ TOpt h a (ent (Ts.map Tb.L) n) ∧ (0 ≤ n → n < Ts.length → ∃ t, Ts[n.toNat]? = some t ∧ a = some ⟨t.p, 0, none⟩) := by
  obtain ⟨a, hc, ht, hx⟩ := sidx_i I n
  refine f18_sh _ _ _ _ ⟨a, hc, (seq_c ht).mono ?_⟩
  rintro v h1 ⟨x1, tb, rfl, lo, r1⟩
  exact ⟨_, rfl, x1, tb, a, rfl, lo, r1, ht, fun h1 h2 => let ⟨t, k1, k2, _⟩ := hx h1 h2; ⟨t, k1, k2⟩⟩

/-! ### a new one -/
structure Bld (h0 h : Heap) (nb m : Nat) (Us : List Tb) : Prop where
  ex : ∃ a c, h[nb]? = some (.cells #[.slice a Us.length c] 61 (0, 0)) ∧ Sl ePtr h a c (Us.map Tb.p) ∧ Own ePtr.k 70 h0.size h a c ∧ ∀ b, blkA a b → b ≠ nb ∧ ∀ t ∈ Us, ¬ PQ t.p t.q b
  lo : h0.size ≤ nb
  nx : ∀ t ∈ Us, ¬ PQ t.p t.q nb
  ok : ∀ t ∈ Us, TabOK h t.p t.q t.B m t.s ∧ Rel t.B t.s t.L
  wt : ∀ t ∈ Us, h0.size ≤ t.p ∧ h0.size ≤ t.q
  sep : Us.Pairwise fun t u => ∀ b, PQ t.p t.q b → ¬ PQ u.p u.q b
  x : Ext h0 h
theorem aPtr : AppT Try.prog 59 70 ePtr.k 8 := ⟨by kernel_rfl, by kernel_rfl, by kernel_rfl, ⟨.pointer none, [.pointer none], by unfold zeroB; kernel_rfl, rfl, rfl⟩, by decide⟩
def fresh (h0 h : Heap) (b : Nat) : Prop := h0.size ≤ b ∧ b < h.size
theorem Bld.has {h0 h : Heap} {nb m : Nat} {Us : List Tb} (b : Bld h0 h nb m Us) (hl : 1 ≤ Us.length ∧ Us.length ≤ 64) : Has (fresh h0 h) h nb m (Us.map Tb.L) := by
  obtain ⟨a, c, r, s, w, hb⟩ := b.ex
  refine ⟨Us, ⟨⟨a, c, r, s, fun z hz => ⟨w.low hz, (hb z hz).2⟩⟩, ⟨b.lo, row_lt r⟩, b.nx, b.ok, fun t ht => ⟨⟨(b.wt t ht).1, (b.ok t ht).1.lt.1⟩, ⟨(b.wt t ht).2, (b.ok t ht).1.lt.2⟩⟩, b.sep, hl, fun z hz => hz.2⟩, rfl⟩
theorem Bld.push {h0 h h3 h4 : Heap} {nb m nb1 : Nat} {Us : List Tb} {a0 : Option Addr} {c0 n0 : Nat} (b : Bld h0 h nb m Us) (hc : hcell h nb 0 = some (.slice a0 n0 c0)) (x3 : Ext h h3) {t : Tb} (lp : h.size ≤ t.p) (lq : h.size ≤ t.q) (ok : TabOK h3 t.p t.q t.B m t.s) (rel : Rel t.B t.s t.L)
    (hl : Us.length < 64) (e1 : nb1 = h3.size) (e4 : h4 = h3.push (.cells #[ptr t.p 0] 70)) {K : Heap → Prop} (hk : ∀ h6, Bld h0 h6 nb m (Us ++ [t]) → K h6) :
    HAppend Try.prog 59 59 (.slice a0 n0 c0) (.slice (some ⟨nb1, 0, none⟩) 1 1) h4 fun vv h5 => ∃ ap : Option Addr, ∃ ap_n ap_c : Nat, vv = (.slice ap ap_n ap_c) ∧
      (HW h5 nb 0 ∧ ∀ h6, h6 = hset h5 nb 0 (.slice ap ap_n ap_c) → K h6) := by
  obtain ⟨a, c, r, s, w, hb⟩ := b.ex
  rw [hcell_row r] at hc
  obtain ⟨rfl, rfl, rfl⟩ : a = a0 ∧ Us.length = n0 ∧ c = c0 := by simpa using hc
  have x4 : Ext h3 h4 := by rw [e4]; exact Ext.push _ _
  have hrow : h4[nb1]? = some (.cells ([t.p].flatMap ePtr.enc).toArray 70 (0, 0)) := by rw [e4]; exact push_new e1
  have x34 := x3.trans x4
  have s3 := x3.size
  have s4 := x4.size
  have s0 := b.x.size
  refine app_at (L2 := [t.p]) aPtr (s.ext x34) (w.ext x34) (List.length_map _).symm (Sl.lit (L := [t.p]) hrow) rfl (by omega) (by show (Us.length + 1) * 8 ≤ _; omega) ?_
  intro a' c' h5 f5 s5 w5 b5
  have hnl := row_lt r
  have hna : ¬ blkA a nb := fun g => (hb nb g).1 rfl
  have r5 := f5.row (x34.row r) hna
  have s5' := f5.size
  have ha'nb : ∀ z, blkA a' z → z ≠ nb := fun z hz g => by
    rcases b5 z hz with k | k
    · exact (hb z k).1 g
    · omega
  refine ⟨_, _, _, rfl, HW_row r5 (by simp), ?_⟩
  rintro h6 e6
  have f6 : Fr (fun z => z = nb) h5 h6 := fr_hset_of e6
  have r6 : h6[nb]? = some (.cells #[.slice a' (Us.length + 1) c'] 61 (0, 0)) := by rw [e6, hset_row r5]; rfl
  clear e6
  have hold : ∀ u ∈ Us, ∀ z, PQ u.p u.q z → z < h.size := fun u hu z g => by
    have := (b.ok u hu).1.lt
    rcases g with rfl | rfl
    · exact this.1
    · exact this.2
  have ht3 := ok.lt
  refine hk h6 ⟨⟨a', c', by rw [List.length_append]; exact r6, ?_, w5.fr f6 fun z hz => ha'nb z hz, fun z hz => ⟨ha'nb z hz, fun u hu g => ?_⟩⟩, b.lo, fun u hu g => ?_, fun u hu => ?_, fun u hu => ?_, ?_, ?_⟩
  · rw [List.map_append]; exact s5.fr f6 fun z hz => ha'nb z hz
  · rcases List.mem_append.1 hu with k | k
    · rcases b5 z hz with j | j
      · exact (hb z j).2 u k g
      · have := hold u k z g; omega
    · have e := List.mem_singleton.1 k
      subst e
      rcases b5 z hz with j | j
      · have := (w.low j).2
        rcases g with rfl | rfl <;> omega
      · rcases g with rfl | rfl <;> omega
  · rcases List.mem_append.1 hu with k | k
    · exact b.nx u k g
    · have e := List.mem_singleton.1 k
      subst e
      rcases g with g | g <;> omega
  · rcases List.mem_append.1 hu with k | k
    · obtain ⟨k1, k2⟩ := b.ok u k
      have hu' := hold u k
      refine ⟨((k1.ext x34).fr f5 (fun g => (hb _ g).2 u k (.inl rfl)) (fun g => (hb _ g).2 u k (.inr rfl))).fr f6 (fun g => b.nx u k (.inl g.symm)) (fun g => b.nx u k (.inr g.symm)), k2⟩
    · have e := List.mem_singleton.1 k
      subst e
      refine ⟨((ok.ext x4).fr f5 (fun g => ?_) (fun g => ?_)).fr f6 (by omega) (by omega), rel⟩
      · have := (w.low g).2; omega
      · have := (w.low g).2; omega
  · rcases List.mem_append.1 hu with k | k
    · exact b.wt u k
    · have e := List.mem_singleton.1 k
      subst e
      exact ⟨by omega, by omega⟩
  · refine List.pairwise_append.2 ⟨b.sep, List.pairwise_singleton _ _, fun u hu w' hw' z g1 g2 => ?_⟩
    have e := List.mem_singleton.1 hw'
    subst e
    have := hold u hu z g1
    rcases g2 with rfl | rfl <;> omega
  · have k1 : Ext h0 h5 := (w.ext x34).grown (b.x.trans x34) f5
    have hlo := b.lo
    exact ((k1.fr (fun z => z = nb)).trans f6 fun _ _ g => g).ext fun i hi g => by omega
theorem Bld.start {h0 h1 : Heap} {nb m : Nat} (e1 : nb = h0.size) (e2 : h1 = h0.push (.cells #[.slice none 0 0] 61)) : Bld h0 h1 nb m [] :=
  ⟨⟨none, 0, by rw [e2]; exact push_new e1, Sl.nil _ _, Own.nil _ _ _ _, fun b hb => (blkA_none hb).elim⟩, by omega, fun t ht => (by cases ht), fun t ht => (by cases ht), fun t ht => (by cases ht), List.Pairwise.nil, by rw [e2]; exact Ext.push _ _⟩
theorem Bld.ext {h0 h h' : Heap} {nb m : Nat} {Us : List Tb} (b : Bld h0 h nb m Us) (x : Ext h h') : Bld h0 h' nb m Us := by
  obtain ⟨a, c, r, s, w, hb⟩ := b.ex
  exact ⟨⟨a, c, x.row r, s.ext x, w.ext x, hb⟩, b.lo, b.nx, fun t ht => ⟨(b.ok t ht).1.ext x, (b.ok t ht).2⟩, b.wt, b.sep, b.x.trans x⟩

def newOK (n bits most : Int) : Prop := 1 ≤ n ∧ n ≤ 64 ∧ 2 ≤ bits ∧ bits ≤ most ∧ most ≤ 16
theorem new_i (n bits most : Int) (h : Heap) : HC Try.prog 25 #[.int .i64 n, .int .i64 bits, .int .i64 most] h fun v h' => Ext h h' ∧
    ((newOK n bits most ∧ ∃ x, v = .tuple #[ptr x 0, .int .i64 0] ∧ Has (fresh h h') h' x most.toNat (List.replicate n.toNat [])) ∨
      (¬ newOK n bits most ∧ v = .tuple #[.pointer none, .int .i64 (if n < 1 ∨ 64 < n then 1 else 110)])) := by
  unfold newOK
  refine f25_sh _ _ _ _ _ ⟨fun g => ?_, fun g => ?_⟩
  · simp only [Bool.or_eq_true, decide_eq_true_eq] at g
    exact ⟨Ext.refl _, .inr ⟨by omega, by rw [if_pos (by omega)]⟩⟩
  simp only [Bool.or_eq_false_iff, decide_eq_false_iff_not] at g
  intro nb h1 e1 e2
  refine ⟨fun v h2 => ∃ (k : Nat) (Us : List Tb), v = k ∧ (k : Int) ≤ n ∧ Bld h h2 nb most.toNat Us ∧ Us.length = k ∧ Us.map Tb.L = List.replicate k [] ∧ (0 < k → newOK n bits most), fun v _ => n.toNat - v.toNat, ⟨0, [], rfl, by omega, Bld.start e1 e2, rfl, rfl, fun g => by omega⟩, ?_⟩
  rintro _ h2 ⟨k, Us, rfl, hk, bd, hl, hm, hok⟩
  refine ⟨fun hlt => ?_, fun hge => ?_⟩
  · have hkn := of_decide_eq_true hlt
    by_cases hv : bits < 2 ∨ most < bits ∨ 16 < most
    · refine (new_no hv h2).mono ?_
      rintro _ h3 ⟨rfl, rfl⟩
      refine ⟨_, _, rfl, fun _ => ⟨bd.x, .inr ⟨by omega, by rw [if_neg (by omega)]⟩⟩, fun g => by simp at g⟩
    · obtain ⟨B, rfl⟩ : ∃ B : Nat, bits = B := ⟨bits.toNat, by omega⟩
      obtain ⟨mm, rfl⟩ : ∃ mm : Nat, most = mm := ⟨most.toNat, by omega⟩
      refine (new_c (bits := B) (most := mm) (by omega) (by omega) (by omega) h2).mono ?_
      rintro _ h3 ⟨x3, p, q, rfl, lp, lq, ok⟩
      refine ⟨_, _, rfl, fun g => by simp at g, fun _ => ?_⟩
      obtain ⟨a, c, r, s, w, hb⟩ := (bd.ext x3).ex
      refine ⟨a, Us.length, c, by rw [hcell_row r]; rfl, fun nb1 h4 e3 e4 => ?_⟩
      obtain ⟨a2, c2, r2, _⟩ := bd.ex
      have hc : hcell h2 nb 0 = some (.slice a Us.length c) := by
        have hr2 := x3.row r2
        rw [r] at hr2
        cases hr2
        rw [hcell_row r2]; rfl
      refine Bld.push (t := ⟨p, q, B, fun _ => z0, []⟩) (K := fun h6 => (∃ (k_1 : Nat) (Us : List Tb), IntKind.i64.wrap ((k : Int) + 1) = k_1 ∧ (k_1 : Int) ≤ n ∧ Bld h h6 nb (mm : Int).toNat Us ∧ Us.length = k_1 ∧ Us.map Tb.L = List.replicate k_1 [] ∧ (0 < k_1 → newOK n B mm)) ∧ n.toNat - (IntKind.i64.wrap ((k : Int) + 1)).toNat < n.toNat - (k : Int).toNat) bd hc x3 lp lq ok (rel_empty _) (by omega) e3 e4 fun h6 b6 => ?_
      rw [wadd k (by omega)]
      exact ⟨⟨k + 1, Us ++ [⟨p, q, B, fun _ => z0, []⟩], rfl, by omega, b6, by simp [hl], by rw [List.map_append, hm, List.replicate_succ']; rfl, fun _ => by unfold newOK; omega⟩, by simp only [Int.toNat_natCast]; omega⟩
  · have hkn : (k : Int) = n := by have := of_decide_eq_false hge; omega
    refine ⟨bd.x, .inl ⟨?_, nb, rfl, ?_⟩⟩
    · have := hok (by omega); unfold newOK at this; exact this
    · have := bd.has (by omega)
      rw [hm] at this
      have e : n.toNat = k := by omega
      rw [e]; exact this
end
end Ix
end Go.Proofs.Ytkecmljalcfhoaa
