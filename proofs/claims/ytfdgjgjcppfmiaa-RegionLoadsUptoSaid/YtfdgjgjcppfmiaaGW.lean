/-
A call of both managers; both stand the same.
-/
import Derived.Test.YtfdgjgjcppfmiaaGV
namespace Go.Proofs.Ytfdgjgjcppfmiaa
namespace Mg
open Go

theorem shut_ext {h h5 h6 : Heap} (x : Ext h h5) (s : Shut' h.size h5 h6) : Ext h h6 := ⟨by rw [s.size]; exact x.size, fun b hb => (s.low hb).trans (x.block b hb)⟩
theorem sl_shut {α : Type} {E : Elt α} {h h' : Heap} {N : Nat} {a : Option Addr} {c : Nat} {L : List α} (s : Sl E h a c L) (sh : Shut' N h h') : Sl E h' a c L :=
  ⟨s.le, s.ex.imp id fun ⟨b, o, e, hc⟩ => ⟨b, o, e, fun i y hy => HCells.mk fun j v hv => shut_cell sh ((hc i y hy).get hv)⟩⟩
theorem own_shut {k : Nat} {T : TypeId} {M N : Nat} {h h' : Heap} {a : Option Addr} {c : Nat} (w : Own k T M h a c) (sh : Shut' N h h') : Own k T M h' a c :=
  w.imp id fun ⟨b, o, cs, e, h1, h2, h3⟩ => ⟨b, o, cs, e, h1, sh.row h2 (by simp), h3⟩

section
variable {W V : Nat → Prop} {h h' : Heap} {p x : Nat} {S : Rg} {ra fa la qa da : Option Addr} {qc fc mb lc dc : Nat} {kv : List (Int × Value)} {Ds : List Dr} {K N : Nat}

theorem iter_m (p : Nat) (h : Heap) : HC Try.prog 16 #[ptr p 0] h fun v h' => Ext h h' ∧ ∃ cb, v = .func (.func 34) #[] #[ptr cb 0] ∧ h.size ≤ cb ∧ h'[cb]? = some (.cells #[ptr p 0] 24 (0, 0)) :=
  f16_sh _ _ _ _ fun m h1 e1 eh => ⟨by rw [eh]; exact Ext.push _ _, m, rfl, by omega, by rw [eh]; exact push_new e1⟩

set_option maxHeartbeats 1600000 in
theorem sealed_c (H : HasM W h p S) (w : WF K S) : HC Try.prog 28 #[ptr p 0] h fun v h' => ∃ L, Seal S S.I.length L ∧ New eI 3 h h' v L := by
  refine f28_sh _ _ _ _ fun lb h1 e1 eh1 => (iter_m p h1).mono ?_
  have x1 : Ext h h1 := by rw [eh1]; exact Ext.push _ _
  have r1 : h1[lb]? = some (.cells #[.slice none 0 0] 50 (0, 0)) := by rw [eh1]; exact push_new e1
  clear eh1
  rintro _ h2 ⟨x2, cb, rfl, locb, rcb⟩
  refine ⟨_, rfl, fun Lp l h3 y stay el x3 z3 L3 hyld => ?_⟩
  have s1 := x1.size
  have s2 := x2.size
  have s3 := x3.size
  obtain ⟨ra, fa, qc, fc, mb, kv, Ds, M⟩ := H.ext (x1.trans (x2.trans x3))
  have lcb := row_lt rcb
  have llb := row_lt r1
  have r3 := (x2.trans x3).row r1
  have hlen : ∀ {L}, Seal S S.I.length L → L.length ≤ 256 := fun {L} hL => by
    have := sealedTo_len (S := S) (n := S.I.length); have := w.n; rw [hL.perm.length_eq]; omega
  refine range_sealed (OUT := fun pend h6 => pend = none ∧ _) stay el z3 L3 M w (by rw [hcell_row (x3.row rcb)]; rfl) (by omega)
    (fun L Z k h' => Ext h h' ∧ ∃ a c, h'[lb]? = some (.cells #[.slice a k c] 50 (0, 0)) ∧ Sl eI h' a c (L.take k) ∧ k ≤ L.length ∧ Own eI.k 3 h.size h' a c ∧ ¬ Z lb ∧ ∀ b, blkA a b → ¬ Z b) (fun _ _ _ => False) .skip
    (fun L h4 hL x4 => ⟨x1.trans (x2.trans (x3.trans x4)), none, 0, x4.row r3, Sl.nil _ _, Nat.zero_le _, Own.nil _ _ _ _, fun g => by rcases g with g | g <;> omega, fun b g => (blkA_none g).elim⟩)
    (fun L Z k h4 h5 zl ⟨x4, a, c, r4, s4, hk, w4, z1, z2⟩ f => ⟨((x4.fr _).trans f fun _ _ s => s).ext fun b hb s => by omega, a, c, f.row r4 (fun s => z1 (s ▸ zl)), s4.fr f fun b g s => z2 b g (s ▸ zl), hk, w4.fr f fun b g s => z2 b g (s ▸ zl), z1, z2⟩)
    (fun _ _ _ _ _ g _ => g) ?_ ?_ (fun _ _ _ _ _ g => g.elim)
  · intro L Z k hk h15 K15 hL zl zlt lp15 ⟨x15, a, c, r15, s15, _, w15, z1, z2⟩ hK _
    refine hyld _ h15 K15 lp15 ⟨lp15, fun h7 o7 lp7 => ?_⟩
    have hs7 := o7.size
    have r7 := o7.fr.row r15 fun s => z1 (s ▸ zl)
    have s7 := s15.fr o7.fr fun b g s => z2 b g (s ▸ zl)
    have w7 := w15.fr o7.fr fun b g s => z2 b g (s ▸ zl)
    have x7 : Ext h h7 := ((x15.fr _).trans o7.fr fun _ _ s => s).ext fun b hb s => by omega
    have htl : (L.take k).length = k := by rw [List.length_take]; omega
    refine ⟨a, k, c, by rw [hcell_row r7]; rfl, fun nb h8 en eh => ?_⟩
    refine app_one (x := L[k]) aI en eh rfl x7 s7 w7 htl.symm (by have := hlen hL; omega) fun a' c' h9 x9 f9 s9 w9 b9 => ⟨_, _, _, rfl, ?_⟩
    have r9 := f9.row r7 (own_ne w7 r7 (by decide))
    refine ⟨HW_row r9 (by simp), fun h10 e10 => ?_⟩
    have f10 := fr_hset_of e10
    have r10 : h10[lb]? = some (.cells #[.slice a' (k + 1) c'] 50 (0, 0)) := by rw [e10, hset_row r9]; rfl
    have n9 : ∀ b, blkA a' b → ¬ b = lb := fun b g q => own_ne w9 r9 (by decide) (q ▸ g)
    have hl : l ≠ lb := fun q => z1 (q ▸ zl)
    have hla : ¬ blkA a l := fun q => z2 l q zl
    have hl15 := zlt l zl
    have lp10 := stay _ _ _ _ (stay _ _ _ _ lp7 (f9.block l (by omega) hla)) (f10.block l (by have := f9.size; omega) hl)
    have z2' : ∀ b, blkA a' b → ¬ Z b := fun b g q => by
      rcases b9 b g with s | s
      · exact z2 b s q
      · have := zlt b q; omega
    have f1510 : Fr (fun b => ¬ Z b ∨ b = l) h15 h10 := ((o7.fr.mono fun _ _ s => .inr s).trans (f9.mono fun b _ s => .inl (z2 b s)) fun _ _ s => s).trans f10 fun b _ s => .inl (fun q => z1 (s ▸ q))
    refine ⟨lp10, fun h11 o11 lp11 => hK h11 ⟨?_, a', c', o11.fr.row r10 (fun s => z1 (s ▸ zl)), ?_, hk, (w9.fr f10 n9).fr o11.fr fun b g s => z2' b g (s ▸ zl), z1, z2'⟩ lp11 (f1510.trans o11.fr fun _ _ s => .inr s)⟩
    · exact ((((x9.fr (fun b => b = lb ∨ b = l)).trans f10 fun _ _ s => .inl s).trans o11.fr fun _ _ s => .inr s)).ext fun b hb s => by rcases s with s | s <;> omega
    · rw [List.take_add_one, List.getElem?_eq_getElem hk]
      exact ((s9.fr f10 n9).fr o11.fr fun b g s => z2' b g (s ▸ zl))
  · rintro L Z h6 hL hs6 ⟨x6, a, c, r6, s6, _, w6, _, _⟩
    rw [List.take_length] at s6
    exact ⟨rfl, a, L.length, c, by rw [hcell_row r6]; rfl, fun h12 sh => ⟨L, hL, a, c, rfl, shut_ext x6 sh, sl_shut s6 sh, own_shut w6 sh⟩⟩

/-- Both managers, and the same in both. -/
def Pair (N : Nat) (h : Heap) (p x : Nat) (S : Rg) : Prop := ∃ W V, HasM W h p S ∧ HasR V h x S ∧ (∀ b, W b → ¬ V b) ∧ (∀ b, W b → N ≤ b) ∧ ∀ b, V b → N ≤ b
theorem Pair.ext (P : Pair N h p x S) (e : Ext h h') : Pair N h' p x S := let ⟨W, V, a, b, c⟩ := P; ⟨W, V, a.ext e, b.ext e, c⟩
theorem HasM.ne (H : HasM W h p S) : W p := let ⟨_, _, _, _, _, _, _, M⟩ := H; M.wp
theorem pair_step {S' : Rg} (hd : ∀ b, W b → ¬ V b) (hw : ∀ b, W b → N ≤ b) (hv : ∀ b, V b → N ≤ b) (lw : ∀ b, W b → b < h.size) (lv : ∀ b, V b → b < h.size) {h1 h2 h3 h4 : Heap} (hN : N ≤ h.size) (e1 : Ext h h1) (a2 : AftM W h1 p S' h2) (a3 : AftR V h2 x S' h3) (e4 : Ext h3 h4) :
    Pair N h4 p x S' ∧ Fr (fun b => N ≤ b) h h4 := by
  have s1 := e1.size
  have s2 := a2.1.size
  have s3 := a3.1.size
  refine ⟨⟨grown W h1 h2, grown V h2 h3, (a2.2.fr a3.1 fun b g q => ?_).ext e4, a3.2.ext e4, fun b g q => ?_, fun b g => ?_, fun b g => ?_⟩, (((e1.fr _).trans a2.1 fun b _ g => hw b g).trans a3.1 fun b _ g => hv b g).trans (e4.fr (fun _ => False)) fun _ _ g => g.elim⟩
  · rcases g with g | g
    · exact hd b g q
    · have := lv b q; omega
  · rcases g with g | g <;> rcases q with q | q
    · exact hd b g q
    · have := lw b g; omega
    · have := lv b q; omega
    · omega
  · rcases g with g | g
    · exact hw b g
    · omega
  · rcases g with g | g
    · exact hv b g
    · omega
theorem HasR.over (hr : HasR V h x S) (hd : ∀ b, W b → ¬ V b) {h1 h2 : Heap} (e1 : Ext h h1) (f : Fr W h1 h2) : HasR V h2 x S := (hr.ext e1).fr f fun b g q => hd b q g

set_option maxHeartbeats 6400000 in
theorem step_c (P : Pair N h p x S) (w : WF K S) (hk : K + 1 ≤ 2097152) (kind n t : Int) : HC Try.prog 18 #[ptr p 0, ptr x 0, .agg #[.int .i64 kind, .int .i64 n, .int .i64 t]] h fun v h' =>
    v = .bool true ∧ ∃ S', Pair N h' p x S' ∧ WF (K + 1) S' ∧ (8 ≤ kind → S' = S) ∧ Fr (fun b => N ≤ b) h h' := by
  have P0 := P
  obtain ⟨W, V, hm, hr, hd, hw, hv⟩ := P
  have lw := hm.lt
  have lv := hr.lt
  have hN : N ≤ h.size := by have := hw _ hm.ne; have := lw _ hm.ne; omega
  have w1 := w.up (Nat.le_succ K) hk
  have nw : ∀ {o}, h.size ≤ o → ¬ W o := fun lo g => by have := lw _ g; omega
  have nv : ∀ {o}, h.size ≤ o → ¬ V o := fun lo g => by have := lv _ g; omega
  have kn : ∀ {i : Int}, (kind == i) = true → kind = i := eq_of_beq
  refine f18_sh _ _ _ _ _ _ _ _ _ ⟨fun g => ?_, fun _ => ⟨fun g => ?_, fun _ => ⟨fun g => ?_, fun _ => ⟨fun g => ?_, fun _ => ⟨fun g => ?_, fun _ => ⟨fun g => ?_, fun _ => ⟨fun g => ?_, fun _ => ⟨fun g => ?_, fun _ => ⟨fun g => ?_, fun _ => ⟨fun g => ?_, fun _ => ?_⟩⟩⟩⟩⟩⟩⟩⟩⟩⟩
  · intro o h1 lo1 lt1 x1
    obtain ⟨_, _, _, _, _, _, _, M⟩ := hm.ext x1
    refine (open_m M w).mono ?_
    rintro _ h2 ⟨rfl, a2⟩
    obtain ⟨_, _, _, _, _, _, _, R⟩ := hr.over hd x1 a2.1
    refine ⟨a2.1.kp (by simpa using nw lo1), _, _, _, rfl, (open_r R w).mono ?_⟩
    rintro _ h3 ⟨rfl, a3⟩
    obtain ⟨q1, q2⟩ := pair_step hd hw hv lw lv hN x1 a2 a3 (Ext.refl _)
    exact ⟨a3.1.kp (by simpa using nv lo1), _, _, _, rfl, by simp, _, q1, (wf_open w).up (Nat.le_succ K) hk, fun q => by have := kn g; omega, q2⟩
  · intro o h1 lo1 lt1 x1
    obtain ⟨_, _, _, _, _, _, _, M⟩ := hm.ext x1
    refine (seal_m M w).mono ?_
    rintro _ h2 ⟨rfl, a2⟩
    obtain ⟨_, _, _, _, _, _, _, R⟩ := hr.over hd x1 a2.1
    refine ⟨a2.1.kp (by simpa using nw lo1), _, rfl, (seal_r R w).mono ?_⟩
    rintro _ h3 ⟨rfl, a3⟩
    obtain ⟨q1, q2⟩ := pair_step hd hw hv lw lv hN x1 a2 a3 (Ext.refl _)
    exact ⟨a3.1.kp (by simpa using nv lo1), _, rfl, by simp, _, q1, (wf_seal w).up (Nat.le_succ K) hk, fun q => by have := kn g; omega, q2⟩
  · refine ⟨Fr W, fit_frm _, fun o h1 lo1 lt1 x1 => ⟨fun hx f => f.kp (by simpa using nw lo1), ?_⟩⟩
    obtain ⟨_, _, _, _, _, _, _, M⟩ := hm.ext x1
    refine (mark_m M w n).mono ?_
    rintro _ h2 ⟨rfl, a2⟩
    obtain ⟨_, _, _, _, _, _, _, R⟩ := hr.over hd x1 a2.1
    refine ⟨a2.1, a2.1.kp (by simpa using nw lo1), _, rfl, (mark_r R w n).mono ?_⟩
    rintro _ h3 ⟨rfl, a3⟩
    obtain ⟨q1, q2⟩ := pair_step hd hw hv lw lv hN x1 a2 a3 (Ext.refl _)
    exact ⟨a3.1.kp (by simpa using nv lo1), _, rfl, by simp, _, q1, (wf_mark w n).up (Nat.le_succ K) hk, fun q => by have := kn g; omega, q2⟩
  · intro o h1 lo1 lt1 x1
    obtain ⟨_, _, _, _, _, _, _, M⟩ := hm.ext x1
    refine (drain_m M w t n).mono ?_
    rintro _ h2 ⟨rfl, a2⟩
    obtain ⟨_, _, _, _, _, _, _, R⟩ := hr.over hd x1 a2.1
    refine ⟨a2.1.kp (by simpa using nw lo1), _, _, rfl, (drain_r R w t n).mono ?_⟩
    rintro _ h3 ⟨rfl, a3⟩
    obtain ⟨q1, q2⟩ := pair_step hd hw hv lw lv hN x1 a2 a3 (Ext.refl _)
    exact ⟨a3.1.kp (by simpa using nv lo1), _, _, rfl, by simp, _, q1, wf_drain w hk t n, fun q => by have := kn g; omega, q2⟩
  · refine ⟨Fr W, fit_frm _, fun o h1 lo1 lt1 x1 => ⟨fun hx f => f.kp (by simpa using nw lo1), ?_⟩⟩
    obtain ⟨_, _, _, _, _, _, _, M⟩ := hm.ext x1
    refine (free_m M w n).mono ?_
    rintro _ h2 ⟨rfl, a2⟩
    obtain ⟨_, _, _, _, _, _, _, R⟩ := hr.over hd x1 a2.1
    refine ⟨a2.1, a2.1.kp (by simpa using nw lo1), _, rfl, (free_r R w n).mono ?_⟩
    rintro _ h3 ⟨rfl, a3⟩
    obtain ⟨q1, q2⟩ := pair_step hd hw hv lw lv hN x1 a2 a3 (Ext.refl _)
    exact ⟨a3.1.kp (by simpa using nv lo1), _, rfl, by simp, _, q1, (wf_free w n).up (Nat.le_succ K) hk, fun q => by have := kn g; omega, q2⟩
  · refine ⟨Fr W, fit_frm _, fun o h1 lo1 lt1 x1 => ⟨fun hx f => f.kp (by simpa using nw lo1), ?_⟩⟩
    obtain ⟨_, _, _, _, _, _, _, M⟩ := hm.ext x1
    refine (pin_m M w n).mono ?_
    rintro _ h2 ⟨rfl, a2⟩
    obtain ⟨_, _, _, _, _, _, _, R⟩ := hr.over hd x1 a2.1
    refine ⟨a2.1, a2.1.kp (by simpa using nw lo1), _, rfl, (pin_r R w n).mono ?_⟩
    rintro _ h3 ⟨rfl, a3⟩
    obtain ⟨q1, q2⟩ := pair_step hd hw hv lw lv hN x1 a2 a3 (Ext.refl _)
    exact ⟨a3.1.kp (by simpa using nv lo1), _, rfl, by simp, _, q1, (wf_pin w n).up (Nat.le_succ K) hk, fun q => by have := kn g; omega, q2⟩
  · intro o h1 lo1 lt1 x1
    obtain ⟨_, _, _, _, _, _, _, M⟩ := hm.ext x1
    refine (unpin_m M w n).mono ?_
    rintro _ h2 ⟨⟨a, c, rfl, sa, ha⟩, a2⟩
    obtain ⟨_, _, _, _, _, _, _, R⟩ := hr.over hd x1 a2.1
    refine ⟨a2.1.kp (by simpa using nw lo1), _, _, _, _, rfl, (unpin_r R w n).mono ?_⟩
    rintro _ h3 ⟨⟨b, d, rfl, sb⟩, a3⟩
    obtain ⟨q1, q2⟩ := pair_step hd hw hv lw lv hN x1 a2 a3 (Ext.refl _)
    have hlen : (mUnpin S n).1.1.length ≤ 2097152 := by
      unfold mUnpin
      split
      · simp
      · rename_i hi
        simp only [Decidable.not_not] at hi
        have := w.drk hi
        have := w.kk
        split
        · simp
        · split
          · simp only; omega
          · simp
    exact ⟨a3.1.kp (by simpa using nv lo1), _, _, _, _, rfl, true, ⟨_, same_ints (sa.fr a3.1 fun b g q => hd b (ha b g) q) sb (by omega), fun _ => by simp, fun g => by simp at g⟩, rfl, _, q1, (wf_unpin w n).up (Nat.le_succ K) hk, fun q => by have := kn g; omega, q2⟩
  · intro o h1 lo1 lt1 x1
    obtain ⟨_, _, _, _, _, _, _, M⟩ := hm.ext x1
    refine (info_m M w n).mono ?_
    rintro _ h22 ⟨rfl, x22⟩
    obtain ⟨la, _, _, lc, _, _, _, R⟩ := hr.ext (x1.trans x22)
    obtain ⟨rb, ro, rfl⟩ := R.la_some w
    have fin : ∀ {h24 : Heap}, Ext h22 h24 → ∃ S', Pair N h24 p x S' ∧ WF (K + 1) S' ∧ (8 ≤ kind → S' = S) ∧ Fr (fun b => N ≤ b) h h24 := fun x24 => ⟨S, P0.ext (x1.trans (x22.trans x24)), w1, fun _ => rfl, (x1.trans (x22.trans x24)).fr _⟩
    refine ⟨x22.kp _, _, _, _, _, _, rfl, decide (¬ S.inn n), ⟨fun g => ?_, fun g => ⟨_, _, _, by rw [hcell_row R.row]; rfl, ?_⟩⟩, fun g h24 x24 => ⟨?_, fin x24⟩, fun g => ⟨true, ⟨fun _ => ⟨_, _, _, by rw [hcell_row R.row]; rfl, rb, ro, rfl, ?_⟩, fun g2 => ?_⟩, fun h24 x24 => ⟨rfl, fin x24⟩⟩⟩
    · have := of_decide_eq_true g
      exact decide_eq_true fun hi => by have := hi.1; omega
    · have := of_decide_eq_false g
      rw [Bool.eq_iff_iff]; simp only [decide_eq_true_eq]; unfold Rg.inn; omega
    · have hi : ¬ S.inn n := of_decide_eq_true g
      rw [if_neg hi, decide_eq_false hi]
      rfl
    · have hi : S.inn n := by simpa using g
      have d := R.cell hi
      refine ⟨hi.1, hi.2, _, _, _, _, d.1, d.2.1, d.2.2.1, d.2.2.2.1, ?_⟩
      rw [if_pos hi]; simp
    · have hi : S.inn n := by simpa using g
      rw [decide_eq_true hi] at g2; cases g2
  · refine ⟨Ext, ⟨fun _ _ x => x, fun _ _ _ => Ext.trans⟩, fun h1 x1 => ?_⟩
    obtain ⟨_, _, _, _, _, _, _, M⟩ := hm.ext x1
    obtain ⟨_, _, _, _, _, _, _, R⟩ := hr.ext x1
    refine ⟨_, _, _, fun hx x' => by rw [hcell_row (x'.row R.row)]; rfl, (frees_m M w).mono ?_⟩
    rintro _ h25 ⟨a, c, rfl, x25, s25, _⟩
    refine ⟨x25, _, _, _, rfl, _, fun h26 x26 => same_ints (s25.ext x26) (R.sq.ext (x25.trans x26)) (by have := w.qlen; omega), by simp, S, P0.ext (x1.trans x25), w1, fun _ => rfl, (x1.trans x25).fr _⟩
  · intro h1 x1
    refine (sealed_c (hm.ext x1) w).mono ?_
    rintro _ h27 ⟨L, hL, a, c, rfl, x27, s27, _⟩
    obtain ⟨_, _, _, _, _, _, _, R⟩ := hr.ext (x1.trans x27)
    refine ⟨_, _, _, rfl, (sealed_r R w).mono ?_⟩
    rintro _ h28 ⟨L', hL', b, d, rfl, x28, s28, _⟩
    have e := hL.eq hL'
    have hlen : L.length ≤ 256 := by have := sealedTo_len (S := S) (n := S.I.length); have := w.n; rw [hL.perm.length_eq]; omega
    exact ⟨_, _, _, rfl, _, same_ints (s27.ext x28) s28 (by omega), by simp [e], S, P0.ext (x1.trans (x27.trans x28)), w1, fun _ => rfl, (x1.trans (x27.trans x28)).fr _⟩
  · refine ⟨true, fun h1 x1 => ?_, fun h1 x1 => ⟨rfl, S, P0.ext x1, w1, fun _ => rfl, x1.fr _⟩⟩
    obtain ⟨_, _, _, _, _, _, _, M⟩ := hm.ext x1
    obtain ⟨_, _, _, _, _, _, _, R⟩ := hr.ext x1
    exact ⟨_, fun h30 x30 => last_m (M.ext x30) w, _, by rw [hcell_row R.row]; rfl, fun _ => ⟨_, fun h29 x29 => current_m (M.ext x29) w, _, by rw [hcell_row R.row]; rfl, by simp⟩, fun g => by simp at g⟩

theorem looks_c (P : Pair N h p x S) (w : WF K S) (hk : K + 1 ≤ 2097152) : HC Try.prog 19 #[ptr p 0, ptr x 0] h fun v h' => v = .bool true ∧ Pair N h' p x S ∧ Fr (fun b => N ≤ b) h h' := by
  have hn := w.n
  have st : ∀ {h1 : Heap} (_ : Pair N h1 p x S) (kind n : Int), 8 ≤ kind → HC Try.prog 18 #[ptr p 0, ptr x 0, .agg #[.int .i64 kind, .int .i64 n, .int .i64 0]] h1 fun v h' => v = .bool true ∧ Pair N h' p x S ∧ Fr (fun b => N ≤ b) h1 h' := fun P1 kind n h8 => by
    refine (step_c P1 w hk kind n 0).mono ?_
    rintro _ h' ⟨rfl, S', P', _, e, f⟩
    rw [e h8] at P'
    exact ⟨rfl, P', f⟩
  refine f19_sh _ _ _ _ _ _ ⟨fun i h1 => -1 ≤ i ∧ i ≤ S.I.length + 1 ∧ Pair N h1 p x S ∧ Fr (fun b => N ≤ b) h h1, fun i _ => (S.I.length + 1 - i).toNat, ⟨by omega, by omega, P, Fr.refl _ _⟩, ?_⟩
  rintro i h1 ⟨i0, i1, P1, f1⟩
  obtain ⟨_, V, _, hr, _⟩ := id P1
  obtain ⟨_, _, _, _, _, _, _, R⟩ := hr
  refine ⟨_, _, _, by rw [hcell_row R.row]; rfl, fun hlt => ?_, fun hge => ?_⟩
  · have := of_decide_eq_true hlt
    refine (st P1 8 i (by decide)).mono ?_
    rintro _ h2 ⟨rfl, P2, f2⟩
    refine ⟨true, rfl, fun g => (by cases g), fun _ => ?_⟩
    rw [w64 (by omega) (by omega)]
    exact ⟨⟨by omega, by omega, P2, f1.trans f2 fun _ _ s => s⟩, by show ((S.I.length : Int) + 1 - (i + 1)).toNat < ((S.I.length : Int) + 1 - i).toNat; omega⟩
  · refine ⟨fun j h3 => j = true ∧ Pair N h3 p x S ∧ Fr (fun b => N ≤ b) h h3, (st P1 9 0 (by decide)).mono ?_, ?_⟩
    · rintro _ h4 ⟨rfl, P4, f4⟩
      refine ⟨true, rfl, fun _ => (st P4 10 0 (by decide)).mono ?_, fun g => by cases g⟩
      rintro _ h5 ⟨rfl, P5, f5⟩
      refine ⟨true, rfl, fun _ => (st P5 11 0 (by decide)).mono ?_, fun g => by cases g⟩
      rintro _ h6 ⟨rfl, P6, f6⟩
      exact ⟨true, rfl, rfl, P6, ((f1.trans f4 fun _ _ s => s).trans f5 fun _ _ s => s).trans f6 fun _ _ s => s⟩
    · rintro _ h3 ⟨rfl, P3, f3⟩
      exact ⟨rfl, P3, f3⟩
end
end Mg
end Go.Proofs.Ytfdgjgjcppfmiaa
