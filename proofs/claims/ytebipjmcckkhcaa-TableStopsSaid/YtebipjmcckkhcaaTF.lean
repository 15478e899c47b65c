/-
A step on both tables.
-/
import Derived.Test.YtebipjmcckkhcaaTE
namespace Go.Proofs.Ytebipjmcckkhcaa
open Go RH

theorem ev0_eq : ev0 = entV z0 := rfl
theorem ent_eq (y z : Ent) : ((y.h : Int) == z.h && ((y.a : Int) == z.a && ((y.v : Int) == z.v && ((y.k : Int) == z.k && true)))) = decide (y = z) := by
  obtain ⟨y1, y2, y3, y4⟩ := y
  obtain ⟨z1, z2, z3, z4⟩ := z
  rw [Bool.eq_iff_iff]
  simp
  omega

section
variable {h : Heap} {p q B m : Nat} {s : RH.Sl} {L : List Ent}

def Tup3 (v : Value) : Prop := ∃ (o : Ent) (b : Bool) (n : Int), v = .tuple #[.agg #[.int .u64 o.h, .int .u64 o.a, .int .u64 o.v, .int .u8 o.k], .bool b, .int .i64 n]
def Tup2 (v : Value) : Prop := ∃ (o : Ent) (b : Bool), v = .tuple #[.agg #[.int .u64 o.h, .int .u64 o.a, .int .u64 o.v, .int .u8 o.k], .bool b]
theorem PutR.tup {e : Ent} {B' : Nat} {s' : RH.Sl} {v : Value} (p : PutR B m s e B' s' v) : Tup3 v := by
  cases p with
  | arg => exact ⟨z0, false, 1, rfl⟩
  | had o => exact ⟨o, true, 0, rfl⟩
  | full => exact ⟨z0, false, 2, rfl⟩
  | new => exact ⟨z0, false, 0, rfl⟩

theorem put_same {e : Ent} {B' B2 : Nat} {s' : RH.Sl} {L' : List Ent} {v v' : Value} (rel : Rel B s L) (g : RGood (2 ^ B) B s) (pr : PutR B m s e B' s' v) (pl : PutL B m L e B2 L' v') (hs : Srt L') : v = v' ∧ B' = B2 ∧ Rel B' s' L' := by
  have hlen := rel.len g
  cases pr with
  | arg ha hB hs' =>
    cases pl with
    | arg _ hB2 hL => subst hB; subst hB2; subst hs'; subst hL; exact ⟨rfl, rfl, rel⟩
    | had _ h _ _ _ _ => exact absurd ha h
    | full h _ _ _ _ _ => exact absurd ha h
    | new h _ _ _ => exact absurd ha h
  | had o ha ho hoh hB hm =>
    have hoL := (rel.mem o).1 ho
    cases pl with
    | arg h _ _ => exact absurd h ha
    | had o' _ ho' hoh' hB2 hm' =>
      have := rel.srt.eq hoL ho' (hoh.trans hoh'.symm)
      subst this; subst hB; subst hB2
      exact ⟨rfl, rfl, hs, fun y => by rw [hm y, hm' y, rel.mem y]⟩
    | full _ hno _ _ _ _ => exact absurd hoh (hno o hoL)
    | new _ hno _ _ => exact absurd hoh (hno o hoL)
  | full ha hno hBm hf hB hs' =>
    cases pl with
    | arg h _ _ => exact absurd h ha
    | had o' _ ho' hoh' _ _ => exact absurd hoh' (hno o' ((rel.mem o').2 ho'))
    | full _ _ _ _ hB2 hL => subst hB; subst hB2; subst hs'; subst hL; exact ⟨rfl, rfl, rel⟩
    | new _ _ hc _ =>
      rw [hlen] at hf
      rw [if_pos hf] at hc; omega
  | new ha hno hc hm hcnt =>
    cases pl with
    | arg h _ _ => exact absurd h ha
    | had o' _ ho' hoh' _ _ => exact absurd hoh' (hno o' ((rel.mem o').2 ho'))
    | full _ _ hBm hf _ _ =>
      rw [hlen, if_pos hf] at hc; omega
    | new _ _ hc' hm' =>
      rw [hlen] at hc
      have hBB : B' = B2 := by
        by_cases hf : 7 * 2 ^ B < 8 * (L.length + 1)
        · rw [if_pos hf] at hc hc'; omega
        · rw [if_neg hf] at hc hc'; omega
      exact ⟨rfl, hBB, hs, fun y => by rw [hm y, hm' y, rel.mem y]⟩

/-- Both tables. -/
structure Two (N : Nat) (h : Heap) (p q x : Nat) (a : Option Addr) (c B m : Nat) (s : RH.Sl) (L : List Ent) : Prop where
  t : TabOK h p q B m s
  r : RT N h x a c B m L
  rel : Rel B s L
  lop : N ≤ p
  loq : N ≤ q
  ne : ∀ b, RS x a b → ¬ PQ p q b
def SS (p q x : Nat) (a : Option Addr) (b : Nat) : Prop := PQ p q b ∨ RS x a b

variable {N x c : Nat} {a : Option Addr}
theorem Two.fr (T : Two N h p q x a c B m s L) {h' : Heap} {S : Nat → Prop} (f : Fr S h h') (hn : ∀ b, SS p q x a b → ¬ S b) : Two N h' p q x a c B m s L :=
  ⟨T.t.fr f (hn p (.inl (.inl rfl))) (hn q (.inl (.inr rfl))), T.r.fr f fun b hb => hn b (.inr hb), T.rel, T.lop, T.loq, T.ne⟩
theorem Two.ext (T : Two N h p q x a c B m s L) {h' : Heap} (f : Ext h h') : Two N h' p q x a c B m s L := T.fr (f.fr (fun _ => False)) fun _ _ h => h
theorem Two.lt (T : Two N h p q x a c B m s L) {b : Nat} (hb : SS p q x a b) : N ≤ b ∧ b < h.size := by
  rcases hb with (rfl | rfl) | hb
  · exact ⟨T.lop, T.t.lt.1⟩
  · exact ⟨T.loq, T.t.lt.2⟩
  · exact T.r.lt hb

/-- What a step leaves. -/
def Stp (N : Nat) (h : Heap) (p q x : Nat) (a : Option Addr) (m : Nat) (h' : Heap) : Prop :=
  Fr (SS p q x a) h h' ∧ ∃ q' a' c' B' s' L', Two N h' p q' x a' c' B' m s' L' ∧ ∀ b, SS p q' x a' b → SS p q x a b ∨ h.size ≤ b
theorem Stp.ofExt (T : Two N h p q x a c B m s L) {h' : Heap} (e : Ext h h') : Stp N h p q x a m h' := ⟨e.fr _, q, a, c, B, s, L, T.ext e, fun _ hb => .inl hb⟩
theorem Stp.mk' (T : Two N h p q x a c B m s L) {h1 h2 h4 h5 h7 : Heap} {q' c' B' B2 : Nat} {a' : Option Addr} {s' : RH.Sl} {L' : List Ent} (e1 : Ext h h1) (f2 : Fr (PQ p q) h1 h2) (t2 : TabOK h2 p q' B' m s') (hq : q' = q ∨ h1.size ≤ q')
    (e4 : Ext h2 h4) (f5 : Fr (RS x a) h4 h5) (t5 : RT N h5 x a' c' B2 m L') (hb : ∀ b, RS x a' b → RS x a b ∨ h4.size ≤ b) (e7 : Ext h5 h7) (hB : B' = B2) (rel : Rel B' s' L') : Stp N h p q x a m h7 := by
  subst hB
  have s1 := e1.size
  have s2 := f2.size
  have s4 := e4.size
  have hpl := T.t.lt
  have hq2 := t2.lt
  have np : ¬ RS x a p := fun g => T.ne _ g (.inl rfl)
  have nq : ¬ RS x a q' := fun g => by
    rcases hq with e | e
    · subst e; exact T.ne _ g (.inr rfl)
    · have := T.r.lt g; omega
  have hne : ∀ b, RS x a' b → ¬ PQ p q' b := fun b g1 g2 => by
    rcases hb b g1 with g | g
    · rcases g2 with rfl | rfl
      · exact np g
      · exact nq g
    · rcases g2 with rfl | rfl <;> omega
  refine ⟨?_, q', a', c', B', s', L', ⟨((t2.ext e4).fr f5 np nq).ext e7, t5.ext e7, rel, T.lop, ?_, hne⟩, fun b g => ?_⟩
  · have k1 : Fr (SS p q x a) h h2 := (e1.fr _).trans f2 fun _ _ g => .inl g
    have k2 : Fr (SS p q x a) h h5 := (k1.trans (e4.fr (fun _ => False)) fun _ _ g => g.elim).trans f5 fun _ _ g => .inr g
    exact k2.trans (e7.fr (fun _ => False)) fun _ _ g => g.elim
  · rcases hq with e | e
    · rw [e]; exact T.loq
    · have := T.lop; omega
  · rcases g with (rfl | rfl) | g
    · exact .inl (.inl (.inl rfl))
    · rcases hq with e | e
      · rw [e]; exact .inl (.inl (.inr rfl))
      · exact .inr (by omega)
    · rcases hb b g with g | g
      · exact .inl (.inr g)
      · exact .inr (by omega)

set_option maxHeartbeats 8000000 in
theorem step_c (T : Two N h p q x a c B m s L) (k : Int) {e : Ent} (hw : e.wf) : HC Try.prog 22 #[ptr p 0, ptr x 0, .agg #[.int .i64 k, .int .u64 e.h, .int .u64 e.a, .int .u64 e.v, .int .u8 e.k]] h fun v h' => v = .bool true ∧ Stp N h p q x a m h' := by
  have hpl := T.t.lt
  have hsm := T.r.small
  have hpq : ∀ {o}, h.size ≤ o → ¬ PQ p q o := fun lo g => by rcases g with rfl | rfl <;> omega
  have hrs : ∀ {o}, h.size ≤ o → ¬ RS x a o := fun lo g => by have := T.r.lt g; omega
  have rfr : ∀ {h1 h2}, Ext h h1 → Fr (PQ p q) h1 h2 → RT N h2 x a c B m L := fun e1 f => (T.r.ext e1).fr f T.ne
  refine f22_sh _ _ _ _ _ _ _ _ _ _ _ ⟨fun _ => ?_, fun _ => ⟨fun _ => ?_, fun _ => ⟨fun _ => ?_, fun _ => ⟨fun _ => ?_, fun _ => ⟨fun _ => ?_, fun _ => ⟨fun _ => ?_, fun _ => ?_⟩⟩⟩⟩⟩⟩
  · intro o h1 lo1 lt1 x1
    have hs1 := x1.size
    refine (put_c (T.t.ext x1) hw).mono ?_
    rintro v h2 ⟨f2, q', B', s', hq, t2, pr⟩
    obtain ⟨oe, ob, on, ev⟩ := pr.tup
    refine ⟨f2.kp (by simpa using hpq lo1), _, _, _, _, _, _, ev, fun av h4 lo4 lt4 x4 => ?_⟩
    have hs2 := f2.size
    refine (put_r ((rfr x1 f2).ext x4) hw).mono ?_
    rintro v' h5 ⟨f5, a', c', B2, L', t5, hb, pl⟩
    obtain ⟨e1, e2, e3⟩ := put_same T.rel T.t.g pr pl t5.srt
    refine ⟨f5.kp (by simpa using ⟨hrs lo1, hrs (by omega)⟩), _, _, _, _, _, _, e1.symm.trans ev, fun h7 x7 => ⟨?_, Stp.mk' T x1 f2 t2 hq x4 f5 t5 hb x7 e2 e3⟩⟩
    simp
  · intro o h1 lo1 lt1 x1
    have hs1 := x1.size
    refine (get_c (T.t.ext x1) hw.1).mono ?_
    rintro v h2 ⟨x2, hv⟩
    have ht : Tup2 v := by
      rcases hv with ⟨y, _, _, rfl⟩ | ⟨_, rfl⟩
      · exact ⟨y, true, rfl⟩
      · exact ⟨z0, false, rfl⟩
    obtain ⟨oe, ob, ev⟩ := ht
    refine ⟨x2.kp _, _, _, _, _, _, ev, fun av h4 lo4 lt4 x4 => ?_⟩
    refine (get_r (T.r.ext (x1.trans (x2.trans x4))) e.h).mono ?_
    rintro v' h5 ⟨x5, hv'⟩
    have e1 : v = v' := by
      rcases hv with ⟨y, hy, hyh, rfl⟩ | ⟨hno, rfl⟩ <;> rcases hv' with ⟨z, hz, hzh, rfl⟩ | ⟨hno', rfl⟩
      · have := T.rel.srt.eq ((T.rel.mem y).1 hy) hz (hyh.trans hzh.symm)
        subst this; rfl
      · exact absurd hyh (hno' y ((T.rel.mem y).1 hy))
      · exact absurd hzh (hno z ((T.rel.mem z).2 hz))
      · rfl
    refine ⟨x5.kp _, _, _, _, _, _, e1.symm.trans ev, fun h7 x7 => ⟨by simp, Stp.ofExt T (x1.trans (x2.trans (x4.trans (x5.trans x7))))⟩⟩
  · intro o h1 lo1 lt1 x1
    have hs1 := x1.size
    refine (remove_c (T.t.ext x1) hw.1).mono ?_
    rintro v h2 ⟨f2, s', t2, hv⟩
    have ht : Tup2 v := by
      rcases hv with ⟨y, _, _, rfl, _⟩ | ⟨_, rfl, _⟩
      · exact ⟨y, true, rfl⟩
      · exact ⟨z0, false, rfl⟩
    obtain ⟨oe, ob, ev⟩ := ht
    refine ⟨f2.kp (by simpa using hpq lo1), _, _, _, _, _, ev, fun av h4 lo4 lt4 x4 => ?_⟩
    have hs2 := f2.size
    refine (remove_r ((rfr x1 f2).ext x4) e.h).mono ?_
    rintro v' h5 ⟨f5, a', c', L', t5, hb, hv'⟩
    have e1 : v = v' ∧ Rel B s' L' := by
      rcases hv with ⟨y, hy, hyh, rfl, hm⟩ | ⟨hno, rfl, hs'⟩ <;> rcases hv' with ⟨z, hz, hzh, rfl, hm'⟩ | ⟨hno', rfl, hL'⟩
      · have := T.rel.srt.eq ((T.rel.mem y).1 hy) hz (hyh.trans hzh.symm)
        subst this
        exact ⟨rfl, t5.srt, fun w => by rw [hm w, hm' w, T.rel.mem w]⟩
      · exact absurd hyh (hno' y ((T.rel.mem y).1 hy))
      · exact absurd hzh (hno z ((T.rel.mem z).2 hz))
      · subst hs'; subst hL'; exact ⟨rfl, T.rel⟩
    refine ⟨f5.kp (by simpa using ⟨hrs lo1, hrs (by omega)⟩), _, _, _, _, _, e1.1.symm.trans ev, fun h7 x7 => ⟨by simp, Stp.mk' T x1 f2 t2 (.inl rfl) x4 f5 t5 hb x7 rfl e1.2⟩⟩
  · refine ⟨Fr (PQ p q), fit_fr _, fun o h1 lo1 lt1 x1 => ⟨fun hx f => f.kp (by simpa using hpq lo1), ?_⟩⟩
    refine (hit_c (T.t.ext x1) hw.1).mono ?_
    rintro v h2 ⟨f2, hv⟩
    have f2' : Fr (PQ p q) h1 h2 := f2.mono fun _ _ g => .inr g
    obtain ⟨ob, s', ev, t2, hob⟩ : ∃ ob s', v = .bool ob ∧ TabOK h2 p q B m s' ∧ ((∃ y, InT (2 ^ B) s y ∧ y.h = e.h ∧ ob = true ∧ ∀ w, InT (2 ^ B) s' w ↔ (InT (2 ^ B) s w ∧ w ≠ y) ∨ w = ⟨y.h, y.a, y.v, if y.k < 255 then y.k + 1 else y.k⟩) ∨ ((∀ y, InT (2 ^ B) s y → y.h ≠ e.h) ∧ ob = false ∧ s' = s)) := by
      rcases hv with ⟨y, s', hy, hyh, rfl, t', hm⟩ | ⟨hno, rfl, t'⟩
      · exact ⟨true, s', rfl, t', .inl ⟨y, hy, hyh, rfl, hm⟩⟩
      · exact ⟨false, s, rfl, t', .inr ⟨hno, rfl, rfl⟩⟩
    refine ⟨f2', f2'.kp (by simpa using hpq lo1), _, ev, ?_⟩
    refine (hit_r (rfr x1 f2') e.h).mono ?_
    rintro v' h5 ⟨f5, L', t5, hv'⟩
    have e1 : v' = .bool ob ∧ Rel B s' L' := by
      rcases hob with ⟨y, hy, hyh, rfl, hm⟩ | ⟨hno, rfl, hs'⟩ <;> rcases hv' with ⟨z, hz, hzh, rfl, hm'⟩ | ⟨hno', rfl, hL'⟩
      · have := T.rel.srt.eq ((T.rel.mem y).1 hy) hz (hyh.trans hzh.symm)
        subst this
        exact ⟨rfl, t5.srt, fun w => by rw [hm w, hm' w, T.rel.mem w]⟩
      · exact absurd hyh (hno' y ((T.rel.mem y).1 hy))
      · exact absurd hzh (hno z ((T.rel.mem z).2 hz))
      · subst hs'; subst hL'; exact ⟨rfl, T.rel⟩
    exact ⟨_, e1.1, by simp, Stp.mk' T x1 f2' t2 (.inl rfl) (Ext.refl _) f5 t5 (fun b g => .inl g) (Ext.refl _) rfl e1.2⟩
  · intro h1 x1
    refine (layout_n (T.t.ext x1)).mono ?_
    rintro _ h2 ⟨a1, c1, rfl, x2, s2, w2⟩
    refine ⟨_, _, _, rfl, (layout_r (T.r.ext (x1.trans x2))).mono ?_⟩
    rintro _ h3 ⟨x3, b2, s', rfl, lo2, at2, g', r'⟩
    have hle := T.t.le
    have heq := T.rel.uniq (by have := T.t.bnd; omega) r' T.t.g g' (by have := T.r.len; have := pow4 T.r.b2; omega)
    have hcmp := same_r (s2.ext x3) (at2.sl (Nat.le_refl _)) (by rw [lay_len]; omega)
    have hdec : decide (lay (2 ^ B) s = lay (2 ^ B) s') = true := decide_eq_true heq
    rw [hdec, lay_len, lay_len] at hcmp
    rw [lay_len]
    have w3 := w2.ext x3
    have s3 := s2.ext x3
    refine ⟨_, _, _, rfl, true, hcmp, fun i h26 => ∃ k : Nat, i = k ∧ k ≤ 2 ^ B ∧ Ext h1 h26 ∧ Own eEnt.k 31 h1.size h26 a1 c1 ∧ ∀ j, j < 2 ^ B → ∃ b o z, a1 = some ⟨b, o, none⟩ ∧ hcell h26 b (o + j * 4 + 1) = some (.int .u64 z),
      fun i _ => 2 ^ B - i.toNat, ⟨0, rfl, Nat.zero_le _, x2.trans x3, w3, fun j hj => ?_⟩, ?_⟩
    · obtain ⟨b, o, e, d⟩ := s3.at (lay_get _ s hj)
      exact ⟨b, o, _, e, d.2.1⟩
    rintro _ h26 ⟨k, rfl, hk, x26, w26, hcl⟩
    refine ⟨fun hlt => ?_, fun _ => ⟨rfl, Stp.ofExt T (x1.trans x26)⟩⟩
    have hkl := lt_of_dec hlt
    obtain ⟨b, o, z, e, hz⟩ := hcl k hkl
    subst e
    obtain ⟨cs, hrow, hcs, hlo⟩ := w26.row
    have hc1 := s2.le
    rw [lay_len] at hc1
    have ek : eEnt.k = 4 := rfl
    rw [ek] at hcs
    refine ⟨b, o, rfl, by omega, by omega, z, hz, HW_row hrow (by omega), ?_⟩
    rintro h27 rfl
    rw [wadd k (by omega)]
    refine ⟨⟨k + 1, rfl, hkl, ext_hset rfl x26 hlo, Own.hsets w26 b (o + k * 4 + 1) [.int .u64 (IntKind.u64.wrap (z + 1))], fun j hj => ?_⟩, by simp only [Int.toNat_natCast]; omega⟩
    obtain ⟨b', o', z', e', hz'⟩ := hcl j hj
    cases e'
    by_cases hjk : j = k
    · subst hjk
      refine ⟨b, o, IntKind.u64.wrap (z + 1), rfl, ?_⟩
      have hb : o + j * 4 + 1 < cs.size := by omega
      rw [Int.toNat_natCast, hcell_row (hset_row hrow), Array.getElem?_setIfInBounds]; simp [hb]
    · exact ⟨b, o, z', rfl, by rw [hcell_hset_ne (by simp only [Int.toNat_natCast]; omega)]; exact hz'⟩
  · refine ⟨fun j h28 => j = true ∧ Ext h h28, ⟨Ext, ⟨fun _ _ x => x, fun _ _ _ => Ext.trans⟩, fun h1 x1 => ?_⟩, ?_⟩
    · have T1 := T.ext x1
      refine ⟨_, _, _, fun hx f => (T1.ext f).r.c2, (len_c T1.t).mono ?_⟩
      rintro _ h2 ⟨rfl, rfl⟩
      refine ⟨Ext.refl _, _, rfl, fun _ => ?_, fun g => ?_⟩
      · refine (longest_c T1.t).mono ?_
        rintro _ h3 ⟨rfl, x3⟩
        refine ⟨_, rfl, (longest_r (T1.ext x3).r T.t.g T.rel).mono ?_⟩
        rintro _ h4 ⟨rfl, x4⟩
        exact ⟨_, rfl, by simp, x1.trans (x3.trans x4)⟩
      · rw [T.rel.len T.t.g] at g; simp at g
    · rintro _ h28 ⟨rfl, x28⟩
      exact ⟨rfl, Stp.ofExt T x28⟩
  · refine ⟨Ext, ⟨fun _ _ x => x, fun _ _ _ => Ext.trans⟩, fun h1 x1 => ?_⟩
    have T1 := T.ext x1
    refine ⟨_, _, _, fun hx f => (T1.ext f).r.c2, (all_c T1.t T.rel (by omega)).mono ?_⟩
    rintro _ h2 ⟨a1, c1, rfl, x2, s2, w2⟩
    refine ⟨x2, _, _, _, rfl, true, fun h33 x33 => ?_, rfl, Stp.ofExt T (x1.trans x2)⟩
    have := same_r (s2.ext x33) (T1.ext (x2.trans x33)).r.sl (by omega)
    rw [decide_eq_true rfl] at this
    exact this
end
end Go.Proofs.Ytebipjmcckkhcaa
