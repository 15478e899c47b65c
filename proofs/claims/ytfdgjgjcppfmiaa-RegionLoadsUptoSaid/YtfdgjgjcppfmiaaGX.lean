/-
The laws of the manager of regions, over heaps: every call; going over sealed ones may be stopped.
-/
import Derived.Test.YtfdgjgjcppfmiaaGW
import Derived.Test.YtfdgjgjcppfmiaaQD
namespace Go.Proofs.Ytfdgjgjcppfmiaa
namespace Mg
open Go

structure Op where
  kind : Int
  n : Int
  task : Int
def eOp : Elt Op := ⟨3, fun o => [.int .i64 o.kind, .int .i64 o.n, .int .i64 o.task], fun _ => rfl, fun x v hv => by simp at hv; rcases hv with rfl | rfl | rfl <;> rfl⟩

/-- A manager of our own. -/
def Solo (h0 h : Heap) (p : Nat) (S : Rg) : Prop := ∃ W, HasM W h p S ∧ (∀ b, W b → h0.size ≤ b) ∧ Ext h0 h
theorem Solo.step {h0 h h' : Heap} {p : Nat} {S' : Rg} {W : Nat → Prop} (hw : ∀ b, W b → h0.size ≤ b) (x : Ext h0 h) (a : AftM W h p S' h') : Solo h0 h' p S' :=
  ⟨_, a.2, fun b g => g.elim (hw b) fun g => by have := x.size; omega, ((x.fr _).trans a.1 fun _ _ s => s).ext fun b hb s => by have := hw b s; omega⟩

set_option maxHeartbeats 1600000 in
theorem lives_c (h : Heap) : HC Try.prog 9 #[] h fun v h' => v = .bool true ∧ Ext h h' := by
  refine f9_sh _ _ ((new_m 2 h).mono ?_)
  rintro _ h1 ⟨x1, ⟨_, q⟩ | ⟨_, p, rfl, H1⟩⟩
  · exact absurd (by decide) q
  have w0 : WF 0 (S0 2) := wf_S0 (by decide)
  refine ⟨_, _, rfl, fun g => by simp at g, fun _ => ?_⟩
  have so : Solo h h1 p (S0 2) := ⟨_, H1, fun b g => g.1, x1⟩
  obtain ⟨W, ⟨ra, fa, qc, fc, mb, kv, Ds, M⟩, hw, _⟩ := so
  refine (open_m M w0).mono ?_
  rintro _ h2 ⟨rfl, a2⟩
  obtain ⟨W2, ⟨_, _, _, _, _, _, _, M2⟩, hw2, x2⟩ := Solo.step hw x1 a2
  have w2 := wf_open w0
  generalize e2 : (mOpen (S0 2)).2 = S2 at *
  refine ⟨_, _, _, rfl, fun j h' => j = true ∧ Ext h h', ⟨fun _ => ⟨fun _ => ⟨fun _ => (pin_m M2 w2 0).mono ?_, fun g => by exact absurd g (by decide)⟩, fun g => by exact absurd g (by decide)⟩, fun g => by exact absurd g (by decide)⟩, ?_⟩
  · rintro _ h4 ⟨rfl, a4⟩
    obtain ⟨W4, ⟨_, _, _, _, _, _, _, M4⟩, hw4, x4⟩ := Solo.step hw2 x2 a4
    have w4 := wf_pin w2 0
    have e4 : (mPin S2 0).1 = true := by rw [← e2]; decide
    refine ⟨_, rfl, fun _ => (seal_m M4 w4).mono ?_, fun g => by rw [e4] at g; cases g⟩
    rintro _ h5 ⟨rfl, a5⟩
    obtain ⟨W5, ⟨_, _, _, _, _, _, _, M5⟩, hw5, x5⟩ := Solo.step hw4 x4 a5
    have w5 := wf_seal w4
    have e5 : (mSeal (mPin S2 0).2).1 = 0 := by rw [← e2]; decide
    refine ⟨_, rfl, fun _ => (mark_m M5 w5 0).mono ?_, fun g => by rw [e5] at g; simp at g⟩
    rintro _ h6 ⟨rfl, a6⟩
    obtain ⟨W6, ⟨_, _, _, _, _, _, _, M6⟩, hw6, x6⟩ := Solo.step hw5 x5 a6
    have w6 := wf_mark w5 0
    have e6 : (mMark (mSeal (mPin S2 0).2).2 0).1 = 0 := by rw [← e2]; decide
    refine ⟨_, rfl, fun _ => (pin_m M6 w6 0).mono ?_, fun g => by rw [e6] at g; simp at g⟩
    rintro _ h7 ⟨rfl, a7⟩
    obtain ⟨W7, ⟨_, _, _, _, _, _, _, M7⟩, hw7, x7⟩ := Solo.step hw6 x6 a7
    have w7 := wf_pin w6 0
    have e7 : (mPin (mMark (mSeal (mPin S2 0).2).2 0).2 0).1 = false := by rw [← e2]; decide
    refine ⟨_, rfl, fun _ => (free_m M7 w7 0).mono ?_, fun g => by rw [e7] at g; simp at g⟩
    rintro _ h8 ⟨rfl, a8⟩
    obtain ⟨W8, _, hw8, x8⟩ := Solo.step hw7 x7 a8
    have e8 : (mFree (mPin (mMark (mSeal (mPin S2 0).2).2 0).2 0).2 0).1 = 92 := by rw [← e2]; decide
    exact ⟨_, rfl, by rw [e8]; rfl, x8⟩
  · rintro _ h3 ⟨rfl, x3⟩
    exact ⟨rfl, x3⟩

theorem pair_new {h1 h2 h3 : Heap} {p x : Nat} {S : Rg} (H : HasM (fresh h1 h2) h2 p S) (x2 : Ext h1 h2) (G : HasR (fresh h2 h3) h3 x S) (x3 : Ext h2 h3) : Pair h1.size h3 p x S :=
  ⟨_, _, H.ext x3, G, fun b g q => by have := g.2; have := q.1; omega, fun b g => g.1, fun b g => by have := g.1; have := x2.size; omega⟩

section
variable {h : Heap} {a : Option Addr} {c : Nat} {L : List Op}
set_option maxHeartbeats 1600000 in
theorem law_plays {n : Int} (s : Sl eOp h a c L) (hl : L.length ≤ 1048576) : HC Try.prog 5 #[.int .i64 n, .slice a L.length c] h fun v h' => v = .bool true ∧ Ext h h' := by
  refine f5_sh _ _ _ _ _ _ ((lives_c h).mono ?_)
  rintro _ h1 ⟨rfl, x1⟩
  refine ⟨_, rfl, fun g => (by cases g), fun _ => (new_m n h1).mono ?_⟩
  rintro v h2 ⟨x2, hm⟩
  have hr := new_r n h2
  rcases hm with ⟨rfl, hn⟩ | ⟨hn, p, rfl, H⟩
  · refine ⟨_, _, rfl, hr.mono ?_⟩
    rintro _ h3 ⟨x3, ⟨rfl, _⟩ | ⟨q, _⟩⟩
    · exact ⟨_, _, rfl, fun g => by simp at g, fun _ => ⟨fun _ => ⟨rfl, x1.trans (x2.trans x3)⟩, fun g => by simp at g⟩⟩
    · exact absurd q hn
  refine ⟨_, _, rfl, hr.mono ?_⟩
  rintro _ h3 ⟨x3, ⟨_, q⟩ | ⟨_, x, rfl, G⟩⟩
  · exact absurd hn q
  have P3 := pair_new H x2 G x3
  refine ⟨_, _, rfl, fun g => by simp at g, fun _ => ⟨fun g => by simp at g, fun _ => ⟨fun i h4 => ∃ (k : Nat) (S : Rg), i = k ∧ k ≤ L.length ∧ Pair h1.size h4 p x S ∧ WF k S ∧ Ext h1 h4, fun i _ => L.length - i.toNat, ⟨0, _, rfl, Nat.zero_le _, P3, wf_S0 (by omega), x2.trans x3⟩, ?_⟩⟩⟩
  rintro _ h4 ⟨k, S, rfl, hk, P4, w4, x4⟩
  refine ⟨fun hlt => ?_, fun hge => ?_⟩
  · have hkl := lt_of_dec hlt
    obtain ⟨b, o, e, d⟩ := (s.ext (x1.trans x4)).at (List.getElem?_eq_getElem hkl)
    refine ⟨b, o, e, by omega, by omega, _, _, _, d.1, d.2.1, d.2.2.1, (step_c P4 w4 (by omega) _ _ _).mono ?_⟩
    rintro _ h5 ⟨rfl, S', P5, w5, _, f5⟩
    refine ⟨_, rfl, fun g => (by cases g), fun _ => ?_⟩
    rw [wadd k (by omega)]
    exact ⟨⟨k + 1, S', rfl, hkl, P5, w5, ((x4.fr _).trans f5 fun _ _ s => s).ext fun b hb g => by omega⟩, by simp only [Int.toNat_natCast]; omega⟩
  · refine (looks_c P4 w4 (by omega)).mono ?_
    rintro _ h6 ⟨rfl, _, f6⟩
    exact ⟨_, rfl, rfl, x1.trans (((x4.fr _).trans f6 fun _ _ s => s).ext fun b hb g => by omega)⟩

set_option maxHeartbeats 6400000 in
theorem law_stops {n most : Int} (s : Sl eOp h a c L) (hl : L.length ≤ 1048576) : HC Try.prog 6 #[.int .i64 n, .slice a L.length c, .int .i64 most] h fun v h' => v = .bool true ∧ Ext h h' := by
  refine f6_sh _ _ _ _ _ _ _ fun mo h1 e1 eh1 => (lives_c h1).mono ?_
  have x1 : Ext h h1 := by rw [eh1]; exact Ext.push _ _
  have r1 : h1[mo]? = some (.cells #[.int .i64 most] 3 (0, 0)) := by rw [eh1]; exact push_new e1
  clear eh1
  rintro _ h2 ⟨rfl, x2⟩
  refine ⟨_, rfl, fun g => (by cases g), fun _ => (new_m n h2).mono ?_⟩
  rintro v h4 ⟨x4, hm⟩
  have hr := new_r n h4
  have x02 := x1.trans x2
  rcases hm with ⟨rfl, hn⟩ | ⟨hn, p, rfl, H⟩
  · refine ⟨_, _, rfl, hr.mono ?_⟩
    rintro _ h5 ⟨x5, ⟨rfl, _⟩ | ⟨q, _⟩⟩
    · exact ⟨_, _, rfl, fun _ h6 sh => ⟨rfl, shut_ext (x02.trans (x4.trans x5)) sh⟩, fun g => by simp at g⟩
    · exact absurd q hn
  refine ⟨_, _, rfl, hr.mono ?_⟩
  rintro _ h5 ⟨x5, ⟨_, q⟩ | ⟨_, x, rfl, G⟩⟩
  · exact absurd hn q
  have P5 := pair_new H x4 G x5
  have s1 := x1.size
  have s2 := x2.size
  refine ⟨_, _, rfl, fun g => by simp at g, fun _ => ⟨fun _ i h7 => ∃ (k : Nat) (S : Rg), i = k ∧ k ≤ L.length ∧ Pair h2.size h7 p x S ∧ WF k S ∧ Ext h2 h7, fun _ i _ => L.length - i.toNat, ⟨0, _, rfl, Nat.zero_le _, P5, wf_S0 (by omega), x4.trans x5⟩, ?_⟩⟩
  rintro vb _ h7 ⟨k, S, rfl, hk, P7, w7, x7⟩
  refine ⟨fun hlt => ?_, fun hge => ?_⟩
  · have hkl := lt_of_dec hlt
    obtain ⟨b, o, e, d⟩ := (s.ext (x02.trans x7)).at (List.getElem?_eq_getElem hkl)
    refine ⟨b, o, e, by omega, by omega, _, _, _, d.1, d.2.1, d.2.2.1, (step_c P7 w7 (by omega) _ _ _).mono ?_⟩
    rintro _ h8 ⟨rfl, S', P8, w8, _, f8⟩
    refine ⟨_, rfl, fun g => (by cases g), fun _ => ?_⟩
    rw [wadd k (by omega)]
    exact ⟨⟨k + 1, S', rfl, hkl, P8, w8, ((x7.fr _).trans f8 fun _ _ s => s).ext fun b hb g => by omega⟩, by simp only [Int.toNat_natCast]; omega⟩
  obtain ⟨W, V, hM, hR, hd, hW, hV⟩ := id P7
  obtain ⟨_, _, _, _, _, _, _, R7⟩ := hR
  refine (sealed_r R7 w7).mono ?_
  rintro _ h10 ⟨Ls, hLs, wa, wc, rfl, x10, sw, _⟩
  refine ⟨_, _, _, rfl, fun wb h11 e11 eh11 => ?_⟩
  have x11 : Ext h10 h11 := by rw [eh11]; exact Ext.push _ _
  have r11 : h11[wb]? = some (.cells #[.slice none 0 0] 50 (0, 0)) := by rw [eh11]; exact push_new e11
  clear eh11
  refine ⟨HW_row r11 (by simp), fun h12 e12 nb h13 e13 eh13 => ?_⟩
  have r12 : h12[wb]? = some (.cells #[.slice wa Ls.length wc] 50 (0, 0)) := by rw [e12, hset_row r11]; rfl
  have x12 : Ext h10 h12 := ext_hset e12 x11 (by omega)
  clear e12
  have x13 : Ext h12 h13 := by rw [eh13]; exact Ext.push _ _
  have r13 : h13[nb]? = some (.cells #[.int .i64 0] 3 (0, 0)) := by rw [eh13]; exact push_new e13
  clear eh13
  refine ⟨HW_row r13 (by simp), fun h14 e14 => ?_⟩
  have s10 := x10.size
  have s12 := x12.size
  have s7 := x7.size
  have r14 : h14[nb]? = some (.cells #[.int .i64 0] 3 (0, 0)) := by rw [e14, hset_row r13]; rfl
  have x14 : Ext h12 h14 := ext_hset e14 x13 (by omega)
  clear e14
  have lnb := row_lt r14
  have hlen : Ls.length ≤ 256 := by have := sealedTo_len (S := S) (n := S.I.length); have := w7.n; rw [hLs.perm.length_eq]; omega
  -- what the going over leaves
  let Lv : Nat → Heap → Prop := fun k h' => k ≤ Ls.length ∧ Ext h12 h' ∧ h'[nb]? = some (.cells #[.int .i64 k] 3 (0, 0))
  refine ⟨fun h15 => ∃ k, Lv k h15 ∧ (k = Ls.length ∨ most ≤ (k : Int)), (iter_m p h14).mono ?_, ?_⟩
  · rintro _ h16 ⟨x16, cb, rfl, locb, rcb⟩
    refine ⟨_, rfl, fun Lp l h17 y stay el x17 z17 L17 hyld => ?_⟩
    have s16 := x16.size
    have s17 := x17.size
    have lcb := row_lt rcb
    obtain ⟨ra, fa, qc, fc, mb, kv, Ds, M17⟩ := hM.ext (x10.trans (x12.trans (x14.trans (x16.trans x17))))
    refine range_sealed (OUT := fun pend h20 => (pend = none ∧ _) ∨ (pend = some (.exit 2) ∧ _)) stay el z17 L17 M17 w7 (by rw [hcell_row (x17.row rcb)]; rfl) (by omega)
      (fun L' Z k h' => Lv k h' ∧ ¬ Z nb) (fun L' Z h' => ∃ k, Lv k h' ∧ most ≤ (k : Int)) (.exit 2)
      (fun L' h3 hL' x3 => ⟨⟨Nat.zero_le _, x14.trans (x16.trans (x17.trans x3)), (x16.trans (x17.trans x3)).row r14⟩, fun g => by rcases g with g | g <;> omega⟩)
      (fun L' Z k h3 h4 zl ⟨⟨hk', x3, r3⟩, zn⟩ f => ⟨⟨hk', ((x3.fr _).trans f fun _ _ s => s).ext fun b hb s => by have := x14.size; omega, f.row r3 fun s => zn (s ▸ zl)⟩, zn⟩)
      (fun L' Z h3 h4 zl ⟨k, ⟨hk', x3, r3⟩, hm⟩ f => ⟨k, ⟨hk', ((x3.fr _).trans f fun _ _ s => s).ext fun b hb s => by have := x14.size; omega, f.row r3 fun s => by omega⟩, hm⟩)
      ?_ ?_ ?_
    · intro L' Z k hkL h18 K18 hL' zl zlt lp18 ⟨⟨hk', x18, r18⟩, zn⟩ hK hQ
      have eL := hL'.eq hLs
      subst eL
      refine hyld _ h18 K18 lp18 ⟨lp18, fun h21 o21 lp21 => ?_⟩
      have hl18 := zlt l zl
      have hln : nb ≠ l := fun s => zn (s ▸ zl)
      have r21 := o21.fr.row r18 hln
      have x21 : Ext h12 h21 := ((x18.fr _).trans o21.fr fun _ _ s => s).ext fun b hb s => by have := x14.size; omega
      have hs21 := o21.size
      have rm21 : h21[mo]? = some (.cells #[.int .i64 most] 3 (0, 0)) := (x2.trans (x7.trans (x10.trans (x12.trans x21)))).row r1
      have rw21 : h21[wb]? = some (.cells #[.slice wa L'.length wc] 50 (0, 0)) := x21.row r12
      obtain ⟨b, o, e, d⟩ := (sw.ext (x12.trans x21)).at (List.getElem?_eq_getElem hkL)
      refine ⟨decide (most ≤ (k : Int)), ⟨(k : Int), by rw [hcell_row r21]; rfl, most, by rw [hcell_row rm21]; rfl, fun g => ?_, fun g => ⟨wa, L'.length, wc, by rw [hcell_row rw21]; rfl, fun g2 => ?_, fun _ => ⟨b, o, e, by omega, by omega, _, d.1, ?_⟩⟩⟩, fun g => ?_, fun g => ?_⟩
      · have := of_decide_eq_true g
        exact decide_eq_true (by omega)
      · have := of_decide_eq_true g2; omega
      · have := of_decide_eq_false g
        rw [decide_eq_false (by omega)]; simp
      · exact ⟨lp21, fun h22 o22 lp22 => hQ h22 ⟨k, ⟨hk', ((x21.fr _).trans o22.fr fun _ _ s => s).ext fun b hb s => by have := x14.size; omega, o22.fr.row r21 hln⟩, of_decide_eq_true g⟩ lp22 ((o21.fr.trans o22.fr fun _ _ s => s).mono fun _ _ s => .inr s)⟩
      · refine ⟨_, by rw [hcell_row r21]; rfl, HW_row r21 (by simp), fun h23 e23 => ?_⟩
        have f23 := fr_hset_of e23
        have r23 : h23[nb]? = some (.cells #[.int .i64 ((k + 1 : Nat) : Int)] 3 (0, 0)) := by rw [e23, hset_row r21, wadd k (by omega)]; rfl
        refine ⟨stay _ _ _ _ lp21 (f23.block l (by omega) (Ne.symm hln)), fun h24 o24 lp24 => hK h24 ⟨⟨hkL, (((x21.fr (fun b => b = nb ∨ b = l)).trans f23 fun _ _ s => .inl s).trans o24.fr fun _ _ s => .inr s).ext fun b hb s => by have := x14.size; rcases s with s | s <;> omega, o24.fr.row r23 hln⟩, zn⟩ lp24 ?_⟩
        exact ((o21.fr.mono fun _ _ s => .inr s).trans f23 fun b _ s => .inl fun q => zn (s ▸ q)).trans o24.fr fun _ _ s => .inr s
    · rintro L' Z h20 hL' _ ⟨lv, _⟩
      have eL := hL'.eq hLs
      subst eL
      exact .inl ⟨rfl, _, lv, .inl rfl⟩
    · rintro L' Z h20 hL' _ ⟨k, lv, hm⟩
      exact .inr ⟨rfl, k, lv, .inr hm⟩
  · rintro h15 ⟨k, ⟨hk', x15, r15⟩, hend⟩
    have rm15 : h15[mo]? = some (.cells #[.int .i64 most] 3 (0, 0)) := (x2.trans (x7.trans (x10.trans (x12.trans x15)))).row r1
    have rw15 : h15[wb]? = some (.cells #[.slice wa Ls.length wc] 50 (0, 0)) := x15.row r12
    refine ⟨false, ⟨_, by rw [hcell_row r15]; rfl, _, by rw [hcell_row rm15]; rfl, fun g => ⟨_, _, _, by rw [hcell_row rw15]; rfl, ?_⟩, fun _ => rfl⟩, fun g => (by cases g), fun _ => (looks_c (P7.ext (x10.trans (x12.trans x15))) w7 (by omega)).mono ?_⟩
    · have := of_decide_eq_true g
      rw [decide_eq_false (by omega)]
    · rintro _ h26 ⟨rfl, _, f26⟩
      refine ⟨_, rfl, fun h27 sh => ⟨rfl, shut_ext (((x02.trans (x7.trans (x10.trans (x12.trans x15)))).fr _ |>.trans f26 fun _ _ s => s).ext fun b hb g => by omega) sh⟩⟩
end
end Mg
end Go.Proofs.Ytfdgjgjcppfmiaa
