/-
The index: forked, purged.
-/
import Derived.Test.YtkecmljalcfhoaaIC
namespace Go.Proofs.Ytkecmljalcfhoaa
namespace Ix
open Go RH

section
variable {W : Nat → Prop} {h : Heap} {x m : Nat} {Ts : List Tb} {Ls : List (List Ent)}

theorem fork_i (I : Idx W h x m Ts) : HC Try.prog 20 #[.pointer (some ⟨x, 0, none⟩)] h fun v h' => Ext h h' ∧ ∃ y, v = ptr y 0 ∧ Has (fresh h h') h' y m (Ts.map Tb.L) := by
  have hlen := I.len
  obtain ⟨la, lc, c0, cs⟩ := I.c0
  obtain ⟨b0, o0, rfl, _⟩ := cs 0 _ (List.getElem?_eq_getElem (show 0 < Ts.length by omega))
  refine f20_sh _ _ _ ⟨false, ⟨fun g => by simp at g, fun _ => ⟨x, 0, rfl, _, _, _, c0, rfl⟩⟩, fun g => (by cases g), fun _ nb h1 e1 e2 => ?_⟩
  have b1 := Bld.start (m := m) e1 e2
  refine ⟨x, 0, rfl, _, _, _, b1.x.cell c0, fun v h2 => ∃ (k : Nat) (Us : List Tb), v = k ∧ k ≤ Ts.length ∧ Bld h h2 nb m Us ∧ Us.length = k ∧ Us.map Tb.L = (Ts.map Tb.L).take k, fun v _ => Ts.length - v.toNat, ⟨0, [], rfl, by omega, b1, rfl, rfl⟩, ?_⟩
  rintro _ h2 ⟨k, Us, rfl, hk, bd, hl, hm⟩
  refine ⟨fun hlt => ?_, fun hge => ?_⟩
  · have hkl := lt_of_dec hlt
    have I2 := I.ext bd.x
    have ht := List.getElem?_eq_getElem hkl
    obtain ⟨b, o, e, d⟩ := cs _ _ ht
    obtain ⟨ok, rel⟩ := I2.ok _ (List.mem_of_getElem? ht)
    obtain ⟨a, c, r, s, w, hb⟩ := bd.ex
    refine ⟨b, o, e, by omega, by omega, _, bd.x.cell d, Ext, ⟨fun _ _ x => x, fun _ _ _ => Ext.trans⟩, a, Us.length, c, fun hx x' => by rw [hcell_row (x'.row r)]; rfl, (fork_c ok).mono ?_⟩
    rintro _ h3 ⟨x3, p', q', rfl, lp, lq, ok'⟩
    refine ⟨x3, _, rfl, fun nb1 h4 e3 e4 => ?_⟩
    have hc : hcell h2 nb 0 = some (.slice a Us.length c) := by rw [hcell_row r]; rfl
    refine Bld.push (t := ⟨p', q', Ts[k].B, Ts[k].s, Ts[k].L⟩) (K := fun h6 => (∃ (k_1 : Nat) (Us : List Tb), IntKind.i64.wrap ((k : Int) + 1) = k_1 ∧ k_1 ≤ Ts.length ∧ Bld h h6 nb m Us ∧ Us.length = k_1 ∧ Us.map Tb.L = (Ts.map Tb.L).take k_1) ∧ Ts.length - (IntKind.i64.wrap ((k : Int) + 1)).toNat < Ts.length - (k : Int).toNat) bd hc x3 lp lq ok' rel (by omega) e3 e4 fun h6 b6 => ?_
    rw [wadd k (by omega)]
    refine ⟨⟨k + 1, _, rfl, hkl, b6, by simp [hl], ?_⟩, by simp only [Int.toNat_natCast]; omega⟩
    rw [List.map_append, hm, List.take_add_one, List.getElem?_map, ht]; rfl
  · have hkl : k = Ts.length := by have := ge_of_dec hge; omega
    refine ⟨bd.x, nb, rfl, ?_⟩
    have := bd.has (by omega)
    rw [hm, hkl, List.take_of_length_le (by simp)] at this
    exact this

/-! ### purge -/
def gone (r : Int) (e : Ent) : Bool := decide (0 ≤ r ∧ ((e.a / 281474976710656 : Nat) : Int) = r)
def mPurge (L : List Ent) (r : Int) : Nat × List Ent := ((L.filter (gone r)).length, L.filter fun e => !gone r e)
theorem mid_del {A C : List Ent} {o : Ent} (h : Srt (A ++ o :: C)) : delS (A ++ o :: C) o.h = A ++ C := by
  unfold delS
  have h3 := List.pairwise_append.1 h
  have h4 := List.pairwise_cons.1 h3.2.1
  rw [List.filter_append, List.filter_cons, if_neg (by simp)]
  congr 1
  · exact List.filter_eq_self.2 fun y hy => by have := h3.2.2 y hy o (by simp); simp; omega
  · exact List.filter_eq_self.2 fun y hy => by have := h4.1 y hy; simp; omega
/-- What is left behind k entries. -/
def lft (r : Int) (L : List Ent) (k : Nat) : List Ent := ((L.take k).filter fun e => !gone r e) ++ L.drop k
theorem lft_srt {r : Int} {L : List Ent} (hL : Srt L) (k : Nat) : Srt (lft r L k) := by
  have h := hL
  rw [← List.take_append_drop k L] at h
  have h3 := List.pairwise_append.1 h
  exact List.pairwise_append.2 ⟨h3.1.filter _, h3.2.1, fun a ha b hb => h3.2.2 a (List.mem_filter.1 ha).1 b hb⟩
theorem lft_step {r : Int} {L : List Ent} {k : Nat} (hk : k < L.length) : lft r L k = ((L.take k).filter fun e => !gone r e) ++ L[k] :: L.drop (k + 1) := by
  unfold lft
  rw [← List.getElem_cons_drop hk]
theorem fil_take {p : Ent → Bool} {L : List Ent} {k : Nat} (hk : k < L.length) : (L.take (k + 1)).filter p = (L.take k).filter p ++ if p L[k] then [L[k]] else [] := by
  rw [List.take_add_one, List.getElem?_eq_getElem hk, List.filter_append]
  congr 1
  simp [List.filter_cons]
theorem fdiv48 (n : Nat) : Int.fdiv (n : Int) (2 ^ min (Int.toNat 48) 64) = ((n / 281474976710656 : Nat) : Int) := by
  have e : ((2 : Int) ^ min (Int.toNat 48) 64) = ((281474976710656 : Nat) : Int) := by decide
  rw [e, fdiv_nat]

set_option maxHeartbeats 8000000 in
theorem purge_i (I : Idx W h x m Ts) (n r : Int) (hr : r ≤ 9223372036854775807) : HC Try.prog 19 #[.pointer (some ⟨x, 0, none⟩), .int .i64 n, .int .i64 r] h fun v h' =>
    v = .int .i64 ((mPurge (ent (Ts.map Tb.L) n) r).1 : Int) ∧ Aft W h x m (if 0 ≤ n ∧ n < Ts.length then (Ts.map Tb.L).set n.toNat (mPurge (ent (Ts.map Tb.L) n) r).2 else Ts.map Tb.L) h' := by
  refine f19_sh _ _ _ _ _ fun rb h1 e1 eh1 => ?_
  have x1 : Ext h h1 := by rw [eh1]; exact Ext.push _ _
  have r1 : h1[rb]? = some (.cells #[.int .i64 r] 3 (0, 0)) := by rw [eh1]; exact push_new e1
  clear eh1
  obtain ⟨a, hidx, hopt, hin⟩ := sidx_i (I.ext x1) n
  refine ⟨a, hidx, fun tb h2 e2 eh2 => ?_⟩
  have x2 : Ext h1 h2 := by rw [eh2]; exact Ext.push _ _
  have r2 : h2[tb]? = some (.cells #[.pointer none] 70 (0, 0)) := by rw [eh2]; exact push_new e2
  clear eh2
  refine ⟨HW_row r2 (by simp), ?_⟩
  rintro h3 e3
  have hs1 := x1.size
  have hs2 := x2.size
  have r3 : h3[tb]? = some (.cells #[.pointer a] 70 (0, 0)) := by rw [e3, hset_row r2]; rfl
  have x3 : Ext h1 h3 := ext_hset e3 x2 (by omega)
  clear e3
  intro nb h4 e4 eh4
  have x4 : Ext h3 h4 := by rw [eh4]; exact Ext.push _ _
  have r4 : h4[nb]? = some (.cells #[.int .i64 0] 3 (0, 0)) := by rw [eh4]; exact push_new e4
  clear eh4
  have hs3 := x3.size
  have hs4 := x4.size
  refine ⟨HW_row r4 (by simp), ?_⟩
  rintro h5 e5
  have r5 : h5[nb]? = some (.cells #[.int .i64 0] 3 (0, 0)) := by rw [e5, hset_row r4]; rfl
  have x35 : Ext h3 h5 := ext_hset e5 x4 (by omega)
  clear e5
  have x5 : Ext h1 h5 := x3.trans x35
  have hs35 := x35.size
  have rt5 := x35.row r3
  have rr5 := x5.row r1
  have htl := row_lt r3
  have hnl := row_lt r5
  have hrl := row_lt r1
  have opt5 := hopt.ext x5
  generalize hLL : ent (Ts.map Tb.L) n = L at *
  refine ⟨a, by rw [hcell_row rt5]; rfl, (seq_c opt5).mono ?_⟩
  rintro _ h6 ⟨x6, cb, rfl, lcb, rcb⟩
  have hcbl := row_lt rcb
  have hs6 := x6.size
  refine ⟨_, rfl, fun Lp l h7 y stay el x7 z7 L7 hyld => ?_⟩
  have opt7 := opt5.ext (x6.trans x7)
  have hs7 := x7.size
  have hlen := opt7.len
  have x17 := x5.trans (x6.trans x7)
  have x07 := x1.trans x17
  have rt7 := (x6.trans x7).row rt5
  have rn7 := (x6.trans x7).row r5
  have rr7 := (x6.trans x7).row rr5
  -- the blocks of the stripe's table
  let tq : Nat → Prop := fun b => ∃ t, 0 ≤ n ∧ n < Ts.length ∧ Ts[n.toNat]? = some t ∧ PQ t.p t.q b
  have htq : ∀ b, tq b → b < h.size ∧ W b := fun b ⟨t, _, _, k1, k2⟩ => by
    have hw := I.wt t (List.mem_of_getElem? k1)
    rcases k2 with rfl | rfl
    · exact ⟨I.lt _ hw.1, hw.1⟩
    · exact ⟨I.lt _ hw.2, hw.2⟩
  let Tk : Nat → Heap → Prop := fun k h => (¬ (0 ≤ n ∧ n < Ts.length) ∧ L = []) ∨ ∃ t s', 0 ≤ n ∧ n < Ts.length ∧ Ts[n.toNat]? = some t ∧ a = some ⟨t.p, 0, none⟩ ∧ TabOK h t.p t.q t.B m s' ∧ Rel t.B s' (lft r L k)
  let Sx : Nat → Prop := fun b => tq b ∨ b = nb ∨ b = l
  have tk0 : Tk 0 h7 := by
    by_cases hi : 0 ≤ n ∧ n < Ts.length
    · obtain ⟨t, k1, k2, k3⟩ := hin hi.1 hi.2
      obtain ⟨ok, rel⟩ := (I.ext x07).ok t (List.mem_of_getElem? k1)
      refine .inr ⟨t, t.s, hi.1, hi.2, k1, k2, ok, ?_⟩
      have : lft r L 0 = t.L := by unfold lft; simp [k3]
      rw [this]; exact rel
    · exact .inl ⟨hi, by rw [← hLL]; exact ent_out (by rw [List.length_map]; omega)⟩
  have tkfr : ∀ {k h' h'' S}, Tk k h' → Fr S h' h'' → (∀ b, tq b → ¬ S b) → Tk k h'' := by
    intro k h' h'' S t f hn
    rcases t with t | ⟨t, s', k1, k2, k3, k4, k5, k6⟩
    · exact .inl t
    · exact .inr ⟨t, s', k1, k2, k3, k4, k5.fr f (hn _ ⟨t, k1, k2, k3, .inl rfl⟩) (hn _ ⟨t, k1, k2, k3, .inr rfl⟩), k6⟩
  refine go_over opt7 (by rw [hcell_row (x7.row rcb)]; rfl) fun h8 x8 => ?_
  have hs8 := x8.size
  let Keep : Nat → Heap → Prop := fun k h => Tk k h ∧ h[nb]? = some (.cells #[.int .i64 (((L.take k).filter (gone r)).length : Int)] 3 (0, 0)) ∧ Fr Sx h7 h
  have fin : ∀ h9, Keep L.length h9 → Lp .ready none h9 → ∃ (st : LoopState) (pend : Option Code), Lp st pend h9 ∧ st ≠ .busy ∧ ∀ h10, Only l h9 h10 → Lp .exhausted pend h10 → pend = none ∧ ∃ x_7 : Int, hcell h10 nb 0 = some (.int .i64 x_7) ∧
      (∀ h18, Shut' (Array.size h) h10 h18 → Value.int .i64 x_7 = .int .i64 ((mPurge L r).1 : Int) ∧ Aft W h x m (if 0 ≤ n ∧ n < Ts.length then (Ts.map Tb.L).set n.toNat (mPurge L r).2 else Ts.map Tb.L) h18) := by
    rintro h9 ⟨tk, rn, f9⟩ lp
    refine ⟨.ready, none, lp, by simp, fun h10 o10 _ => ⟨rfl, _, by rw [hcell_row (o10.fr.row rn (by omega))]; rfl, fun h18 s18 => ⟨by rw [List.take_length]; rfl, ?_⟩⟩⟩
    have tk10 := tkfr tk o10.fr fun b hb g => by have := (htq b hb).1; omega
    have f10 : Fr Sx h7 h10 := f9.trans o10.fr fun _ _ g => .inr (.inr g)
    have f18 : Fr (fun b => h.size ≤ b) h10 h18 := s18.fr
    rcases tk10 with ⟨hni, hL⟩ | ⟨t, s', k1, k2, k3, k4, k5, k6⟩
    · rw [if_neg hni]
      have e18 : Ext h h18 := (((x07.fr (fun _ => False)).trans f10 fun b hb g => by
        rcases g with ⟨t, q1, q2, _⟩ | g | g
        · exact absurd ⟨q1, q2⟩ hni
        · omega
        · omega).trans f18 fun b hb g => by omega).ext fun _ _ g => g
      exact Aft.ofExt I e18
    · rw [if_pos ⟨k1, k2⟩]
      have hl' : lft r L L.length = (mPurge L r).2 := by unfold lft mPurge; simp
      rw [hl'] at k6
      have fh : Fr (PQ t.p t.q) h h18 := ((x07.fr _).trans f10 fun b hb g => by
        rcases g with ⟨t2, _, _, q3, q4⟩ | g | g
        · rw [k3] at q3; cases q3; exact q4
        · omega
        · omega).trans f18 fun b hb g => by omega
      have ht := I.wt t (List.mem_of_getElem? k3)
      exact Aft.mk' (h1 := h) (h2 := h18) I (Ext.refl _) k3 fh (.inl rfl) (k5.fr f18 (fun g => by have := I.lt _ ht.1; omega) (fun g => by have := I.lt _ ht.2; omega)) k6 (Fr.refl (fun _ => False) _) fun b g => g.elim
  have x78 : Ext h7 h8 := x8
  refine ⟨fun k h9 => Lp .ready none h9 ∧ Keep k h9, ⟨stay _ _ _ _ L7 (x8.block l (by omega)), tkfr tk0 (x8.fr (fun _ => False)) (fun _ _ g => g), x8.row (by simpa using rn7), x8.fr _⟩, ?_, fun h9 _ j9 => fin h9 j9.2 j9.1⟩
  rintro k hk h9 f9 ⟨lp9, kp9⟩ h10 x10
  have hs9 := f9.size
  have hs10 := x10.size
  have lp10 := stay _ _ _ _ lp9 (x10.block l (by omega))
  refine hyld _ _ _ _ h10 _ lp10 fun eb h11 ee e11 => ?_
  have r11 : h11[eb]? = some (.cells #[.int .u64 0, .int .u64 0, .int .u64 0, .int .u8 0] 31 (0, 0)) := by rw [e11]; exact push_new ee
  have x11 : Ext h10 h11 := by rw [e11]; exact Ext.push _ _
  refine ⟨HWs_row r11 (by simp), ?_⟩
  rintro h12 e12
  have r12 : h12[eb]? = some (.cells #[.int .u64 L[k].h, .int .u64 L[k].a, .int .u64 L[k].v, .int .u8 L[k].k] 31 (0, 0)) := by rw [e12, hsets_row _ r11]; rfl
  have x12 : Ext h10 h12 := ext_hsets e12 x11 (by omega)
  clear e12 e11
  have hs12 := x12.size
  refine ⟨stay _ _ _ _ lp10 (x12.block l (by omega)), fun h13 o13 lp13 => ?_⟩
  have hs13 := o13.size
  have x912 := x10.trans x12
  obtain ⟨tk9, rn9, fr9⟩ := kp9
  have tk13 : Tk k h13 := tkfr (tkfr tk9 (x912.fr (fun _ => False)) (fun _ _ g => g)) o13.fr fun b hb g => by have := (htq b hb).1; omega
  have rn13 := o13.fr.row (x912.row rn9) (by omega)
  have fr13 : Fr Sx h7 h13 := (fr9.trans (x912.fr (fun _ => False)) fun _ _ g => g.elim).trans o13.fr fun _ _ g => .inr (.inr g)
  have r13 := o13.fr.row r12 (by omega)
  have f1013 : Fr (Yw h7 h8) h10 h13 := (x12.fr _).trans o13.fr fun i hi g => .inl (by omega)
  have notS : ∀ b, h.size ≤ b → b ≠ nb → b ≠ l → ¬ Sx b := fun b hb h1 h2 g => by
    rcases g with g | g | g
    · have := (htq b g).1; omega
    · exact h1 g
    · exact h2 g
  have rr13 := fr13.row rr7 (notS rb (by omega) (by omega) (by omega))
  have rt13 := fr13.row rt7 (notS tb (by omega) (by omega) (by omega))
  refine ⟨!gone r L[k], ⟨r, by rw [hcell_row rr13]; rfl, fun g => ?_, fun g => ⟨_, by rw [hcell_row r13]; rfl, ?_⟩⟩, fun g => ?_, fun g => ?_⟩
  · have := of_decide_eq_true g
    unfold gone; rw [decide_eq_false (by omega)]; rfl
  · have h0 := of_decide_eq_false g
    rw [fdiv48, wu64 (by omega) (by omega)]
    unfold gone
    rw [Bool.eq_iff_iff]
    simp only [Bool.not_eq_true', decide_eq_false_iff_not, bne_iff_ne, ne_eq]
    omega
  · have hg : gone r L[k] = false := by simpa using g
    have hl : lft r L (k + 1) = lft r L k := by
      rw [lft_step hk]; unfold lft; rw [fil_take hk, hg]; simp
    refine ⟨lp13, fun h14 o14 lp14 => ⟨f1013.trans o14.fr fun i hi g => .inl (by omega), true, rfl, (fun g => by cases g), fun _ => ⟨lp14, ?_, ?_, fr13.trans o14.fr fun _ _ g => .inr (.inr g)⟩⟩⟩
    · have : Tk (k + 1) h13 := by
        rcases tk13 with q | ⟨t, s', k1, k2, k3, k4, k5, k6⟩
        · exact .inl q
        · exact .inr ⟨t, s', k1, k2, k3, k4, k5, by rw [hl]; exact k6⟩
      exact tkfr this o14.fr fun b hb g => by have := (htq b hb).1; omega
    · rw [fil_take hk, hg]
      have := o14.fr.row rn13 (by omega)
      simpa using this
  · have hg : gone r L[k] = true := by simpa using g
    rcases tk13 with ⟨_, q⟩ | ⟨t, s', k1, k2, k3, k4, k5, k6⟩
    · rw [q] at hk; simp at hk
    have hmem : L[k] ∈ lft r L k := by rw [lft_step hk]; exact List.mem_append.2 (.inr (List.mem_cons_self ..))
    obtain ⟨i0, hi0, hie, hia⟩ := (k6.mem _).2 hmem
    have hwk : (L[k]).wf := by rw [← hie]; exact k5.g.wf i0 hi0
    subst k4
    refine ⟨_, by rw [hcell_row rt13]; rfl, _, by rw [hcell_row r13]; rfl, (remove_c k5 hwk.1).mono ?_⟩
    rintro v h15 ⟨f15, s2, ok15, rr⟩
    obtain ⟨ev, rel15⟩ := rem_plain k6 rr
    have hdel : mDel (lft r L k) L[k].h = ((L[k], true), lft r L (k + 1)) := by
      unfold mDel
      rw [(look_some k6.srt).2 ⟨hmem, rfl⟩]
      have : delS (lft r L k) L[k].h = lft r L (k + 1) := by
        have hs := lft_srt (r := r) (opt7.srt) k
        rw [lft_step hk] at hs ⊢
        rw [mid_del hs]
        unfold lft; rw [fil_take hk, hg]; simp
      rw [this]
    rw [hdel] at ev rel15
    subst ev
    have ht := I.wt t (List.mem_of_getElem? k3)
    have ht1 := I.lt _ ht.1
    have ht2 := I.lt _ ht.2
    have hpq : ∀ b, PQ t.p t.q b → b < h.size := fun b g => by rcases g with rfl | rfl <;> assumption
    have hs15 := f15.size
    have rn15 := f15.row rn13 fun g => by have := hpq nb g; omega
    refine ⟨_, _, _, _, _, rfl, _, by rw [hcell_row rn15]; rfl, HW_row rn15 (by simp), ?_⟩
    rintro h16 e16
    have f16 := fr_hset_of e16
    have hcount : (((L.take k).filter (gone r)).length : Nat) ≤ 65536 := Nat.le_trans (List.length_filter_le _ _) (by rw [List.length_take]; omega)
    have r16 : h16[nb]? = some (.cells #[.int .i64 (((L.take (k + 1)).filter (gone r)).length : Int)] 3 (0, 0)) := by
      rw [e16, hset_row rn15, wadd _ (by omega), fil_take hk, hg]
      simp
    clear e16
    have hs16 := f16.size
    refine ⟨stay _ _ _ _ lp13 ?_, fun h17 o17 lp17 => ?_⟩
    · rw [f16.block l (by omega) (by omega), f15.block l (by omega) fun g => by have := hpq l g; omega]
    have hs17 := o17.size
    refine ⟨((f1013.trans f15 fun i hi g => .inl (by have := hpq i g; omega)).trans f16 fun i hi g => .inl (by omega)).trans o17.fr fun i hi g => .inl (by omega), true, rfl, (fun g => by cases g), fun _ => ⟨lp17, ?_, o17.fr.row r16 (by omega), ?_⟩⟩
    · have k16 : Tk (k + 1) h16 := .inr ⟨t, s2, k1, k2, k3, rfl, ok15.fr f16 (by omega) (by omega), rel15⟩
      exact tkfr k16 o17.fr fun b hb g => by have := (htq b hb).1; omega
    · exact ((fr13.trans f15 fun i hi g => .inl ⟨t, k1, k2, k3, g⟩).trans f16 fun i hi g => .inr (.inl g)).trans o17.fr fun i hi g => .inr (.inr g)
end
end Ix
end Go.Proofs.Ytkecmljalcfhoaa
