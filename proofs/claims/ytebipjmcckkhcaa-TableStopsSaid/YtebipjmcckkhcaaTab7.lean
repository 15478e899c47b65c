/-
Every call leaves the table lying right.
-/
import Derived.Test.YtebipjmcckkhcaaTab6
namespace Go.Proofs.Ytebipjmcckkhcaa
open Go RH

section
variable {h : Heap} {p q B m : Nat} {s : Sl}

theorem hm_expr {B x : Nat} (hb2 : 2 ≤ B) (hb : B ≤ 16) (hx : x < 18446744073709551616) :
    IntKind.i64.wrap (Int.fdiv (x : Int) (2 ^ min (Int.toNat (IntKind.i64.wrap (64 - (B : Int)))) 64)) = (hm B x : Int) := by
  have hlt := hm_lt (N := 2 ^ B) rfl (by omega : B ≤ 64) hx
  have hle := pow_le hb
  rw [w64 (x := 64 - (B : Int)) (by omega) (by omega)]
  have e1 : min (Int.toNat (64 - (B : Int))) 64 = 64 - B := by omega
  have e2 : ((2 : Int) ^ (64 - B)) = ((2 ^ (64 - B) : Nat) : Int) := by norm_cast
  rw [e1, e2, fdiv_nat]
  unfold hm at hlt ⊢
  generalize x / 2 ^ (64 - B) = y at *
  rw [w64 (by omega) (by omega)]

theorem df_expr {N i m : Nat} (hi : i < N) (hm : m < N) (hN : N ≤ 65536) :
    Int.tmod (IntKind.i64.wrap ((IntKind.i64.wrap ((i : Int) - (m : Int))) + (N : Int))) (N : Int) = (df N m i : Int) := by
  rw [w64 (x := (i : Int) - (m : Int)) (by omega) (by omega), w64 (by omega) (by omega)]
  unfold df
  split
  · have e : ((i : Int) - (m : Int) + (N : Int)) = ((i - m + N : Nat) : Int) := by omega
    rw [e, tmod_nat, Nat.add_mod_right, Nat.mod_eq_of_lt (by omega)]
  · have e : ((i : Int) - (m : Int) + (N : Int)) = ((i + N - m : Nat) : Int) := by omega
    rw [e, tmod_nat, Nat.mod_eq_of_lt (by omega)]

theorem pv_expr {N i : Nat} (hi : i < N) (h1 : 1 < N) (hN : N ≤ 65536) :
    Int.tmod (IntKind.i64.wrap ((IntKind.i64.wrap ((i : Int) - 1)) + (N : Int))) (N : Int) = (pv N i : Int) := by
  have := df_expr hi h1 hN
  rw [show ((1 : Nat) : Int) = 1 from rfl] at this
  rw [this]
  unfold df pv
  split <;> split <;> omega

set_option maxHeartbeats 4000000 in
theorem right_c {b cap : Nat} (x : EntsAt h b (2 ^ B) s) (g : RGood (2 ^ B) B s) (hb2 : 2 ≤ B) (hb : B ≤ 16) (hr : 8 * cntO s (2 ^ B) ≤ 7 * 2 ^ B) :
    HC Try.prog 12 #[.slice (some ⟨b, 0, none⟩) ((2 ^ B : Nat)) cap] h fun v h' => v = .bool true ∧ Ext h h' := by
  have hle := pow_le hb
  have h4 := pow4 hb2
  have hB64 : B ≤ 64 := by omega
  refine f12_sh _ _ _ _ _ ⟨fun bits => ∃ k : Nat, bits = k ∧ k ≤ B, fun bits => B - bits.toNat, ⟨0, rfl, Nat.zero_le _⟩, ?_⟩
  rintro _ ⟨k, rfl, hk⟩
  have hk0 : (0 : Int) ≤ (k : Int) := Int.natCast_nonneg _
  rw [pow2_wrap (by omega)]
  refine ⟨hk0, fun hlt => ?_, fun hge => ?_⟩
  · have hlt' : 2 ^ k < 2 ^ B := by have := of_decide_eq_true hlt; omega
    have hkB : k < B := (Nat.pow_lt_pow_iff_right (by omega)).1 hlt'
    rw [w64 (by omega) (by omega)]
    exact ⟨⟨k + 1, rfl, hkB⟩, by simp only; omega⟩
  have hkB : k = B := by
    have hge' : ¬ 2 ^ k < 2 ^ B := by have := of_decide_eq_false hge; omega
    have : ¬ k < B := fun h => hge' (Nat.pow_lt_pow_right (by omega) h)
    omega
  subst hkB
  clear hge hk
  refine ⟨false, ⟨fun h => by simp only [decide_eq_true_eq] at h; omega, fun _ => ⟨hk0, by simp⟩⟩, fun h => by simp at h, fun _ => ?_⟩
  refine ⟨fun full i h1 => ∃ n : Nat, i = n ∧ n ≤ 2 ^ k ∧ full = (cntO s n : Nat) ∧ Ext h h1, fun _ i _ => 2 ^ k - i.toNat, ⟨0, rfl, Nat.zero_le _, rfl, Ext.refl _⟩, ?_⟩
  rintro _ _ h1 ⟨n, rfl, hn, rfl, e1⟩
  have hn0 : (0 : Int) ≤ (n : Int) := Int.natCast_nonneg _
  have hcn := cnt_le s n
  refine ⟨fun hlt => ?_, fun hge => ?_⟩
  · have hnl : n < 2 ^ k := by have := of_decide_eq_true hlt; omega
    have hni : (n : Int) < ((2 ^ k : Nat) : Int) := by omega
    have x1 := x.ext e1
    have hw := g.wf n hnl
    have hN0 : ((2 ^ k : Nat) : Int) ≠ 0 := by omega
    have hsh : (0 : Int) ≤ IntKind.i64.wrap (64 - (k : Int)) := by rw [w64 (by omega) (by omega)]; omega
    refine ⟨fun full' h2 => full' = (cntO s (n + 1) : Nat) ∧ Ext h h2, ⟨b, 0, rfl, hn0, hni, _, x1.e1 hn0 hni, fun hz => ?_, fun hz => ?_⟩, ?_⟩
    · have ho : ¬ occd s n := by unfold occd; simpa using hz
      have hzz := g.zero n hnl ho
      refine ⟨hn0, hni, _, _, _, _, x1.e0 hn0 hni, x1.e1 hn0 hni, x1.e2 hn0 hni, x1.e3 hn0 hni, fun h => ?_, fun _ => ⟨?_, e1⟩⟩
      · simp only [Int.toNat_natCast] at h; rw [hzz] at h; simp [z0] at h
      · rw [cnt_split, if_neg ho]; rfl
    · have ho : occd s n := by unfold occd; simpa using hz
      have hcs : (cntO s (n + 1) : Nat) = cntO s n + 1 := by rw [cnt_split, if_pos ho]
      have hin : IntKind.i64.wrap ((cntO s n : Nat) + 1) = ((cntO s (n + 1) : Nat) : Int) := by rw [w64 (by omega) (by omega)]; omega
      refine ⟨hn0, hni, _, x1.e0 hn0 hni, hsh, hN0, ?_⟩
      simp only [Int.toNat_natCast]
      have hml := hm_lt (N := 2 ^ k) rfl hB64 hw.1
      simp only [hm_expr hb2 hb hw.1, df_expr hnl hml hle, pv_expr hnl (by omega : 1 < 2 ^ k) hle, hin]
      have hpl := pv_lt (N := 2 ^ k) hnl
      have hp0 : (0 : Int) ≤ (pv (2 ^ k) n : Int) := Int.natCast_nonneg _
      have hpi : (pv (2 ^ k) n : Int) < ((2 ^ k : Nat) : Int) := by omega
      refine ⟨fun _ => ⟨trivial, e1⟩, fun hne => ⟨hN0, hp0, hpi, _, _, _, _, x1.e0 hp0 hpi, x1.e1 hp0 hpi, x1.e2 hp0 hpi, x1.e3 hp0 hpi, ?_⟩⟩
      intro bb h3 eb e3
      have hbb : h1.size ≤ bb := by omega
      have r3 : h3[bb]? = some (.cells #[.int .u64 0, .int .u64 0, .int .u64 0, .int .u8 0] 31 (0, 0)) := by rw [e3]; exact push_new eb
      have e13 : Ext h1 h3 := by rw [e3]; exact Ext.push _ _
      clear eb e3
      refine ⟨HWs_row r3 (by simp), ?_⟩
      intro h4 e4
      simp only [Int.toNat_natCast] at e4
      have b4 : Box h4 bb (s (pv (2 ^ k) n)) := by rw [e4]; unfold Box; rw [hsets_row _ r3]; rfl
      have e14 : Ext h1 h4 := by
        rw [e4]
        exact ((e13.fr (fun b => b = bb)).trans (fr_hsets (fun b => b = bb) (fun _ => rfl)) (fun _ _ h => h)).ext (fun i hi h' => by omega)
      clear e4
      have hd : 0 < ds (2 ^ k) k n (s n).h := by
        have : df (2 ^ k) (hm k (s n).h) n ≠ 0 := fun h => by simp [h] at hne
        unfold ds; omega
      obtain ⟨k1, k2, k3⟩ := g.right n hnl ho hd
      have hwp := g.wf _ hpl
      refine ⟨_, b4.c1, fun h => ?_, fun _ => ⟨hN0, _, b4.c0, hsh, hN0, ?_⟩⟩
      · exact absurd (eq_of_beq h) (by unfold occd at k1; omega)
      have hmp := hm_lt (N := 2 ^ k) rfl hB64 hwp.1
      have hdl := df_lt hml hnl
      simp only [hm_expr hb2 hb hwp.1, df_expr hpl hmp hle, w64 (x := ((df (2 ^ k) (hm k (s n).h) n : Nat) : Int) - 1) (by omega) (by omega)]
      unfold ds at k2 k3 hd
      refine ⟨false, ⟨fun h => ?_, fun _ => ⟨fun heq => ?_, fun _ => rfl⟩⟩, fun h => by simp at h, fun _ => ⟨trivial, e1.trans e14⟩⟩
      · simp only [decide_eq_true_eq] at h; omega
      · have := eq_of_beq heq
        refine ⟨_, b4.c0, hn0, hni, _, (x1.ext e14).e0 hn0 hni, ?_⟩
        have := k3 (by omega)
        simp only [Int.toNat_natCast]
        exact (decide_eq_false (by omega)).symm
    · rintro _ h2 ⟨rfl, e2⟩
      rw [w64 (by omega) (by omega)]
      refine ⟨⟨n + 1, rfl, hnl, rfl, e2⟩, ?_⟩
      show 2 ^ k - Int.toNat ((n : Int) + 1) < 2 ^ k - Int.toNat (n : Int)
      omega
  · have hnn : n = 2 ^ k := by have := of_decide_eq_false hge; omega
    subst hnn
    rw [w64 (x := 8 * ((cntO s (2 ^ k) : Nat) : Int)) (by omega) (by omega), w64 (by omega) (by omega)]
    exact ⟨by rw [decide_eq_true (by omega)], e1⟩

/-- Ops in a row. -/
def OpsAt (h : Heap) (l : Option Addr) (n : Nat) (K : Nat → Int) (E : Nat → Ent) : Prop :=
  0 < n → ∃ b o, l = some ⟨b, o, none⟩ ∧ b < h.size ∧ ∀ i, i < n → (E i).wf ∧ hcell h b (o + i * 5) = some (.int .i64 (K i)) ∧ hcell h b (o + i * 5 + 1) = some (.int .u64 (E i).h) ∧
    hcell h b (o + i * 5 + 2) = some (.int .u64 (E i).a) ∧ hcell h b (o + i * 5 + 3) = some (.int .u64 (E i).v) ∧ hcell h b (o + i * 5 + 4) = some (.int .u8 (E i).k)

theorem hcell_ext {h h' : Heap} (he : Ext h h') {b o : Nat} (hb : b < h.size) : hcell h' b o = hcell h b o := by
  unfold hcell; rw [he.block b hb]

theorem OpsAt.ext {h h' : Heap} (he : Ext h h') {l : Option Addr} {n : Nat} {K : Nat → Int} {E : Nat → Ent} (x : OpsAt h l n K E) : OpsAt h' l n K E := by
  intro hn
  obtain ⟨b, o, e, hb, hx⟩ := x hn
  refine ⟨b, o, e, Nat.lt_of_lt_of_le hb he.size, fun i hi => ?_⟩
  have := hx i hi
  simp only [hcell_ext he hb]
  exact this

theorem law_right {bits most : Int} {l : Option Addr} {n c : Nat} {K : Nat → Int} {E : Nat → Ent} (hn : n ≤ 9223372036854775807) (x : OpsAt h l n K E) :
    HC Try.prog 3 #[.int .i64 bits, .int .i64 most, .slice l n c] h fun v h' => v = .bool true ∧ Ext h h' := by
  refine f3_sh _ _ _ _ _ _ _ ((lives_c h).mono ?_)
  rintro _ h1 ⟨rfl, e1⟩
  refine ⟨_, rfl, fun h => by simp at h, fun _ => ?_⟩
  by_cases hv : bits < 2 ∨ most < bits ∨ 16 < most
  · refine (new_no hv h1).mono ?_
    rintro _ h2 ⟨rfl, rfl⟩
    exact ⟨_, _, rfl, fun _ => ⟨rfl, e1⟩, fun h => by simp at h⟩
  obtain ⟨B, rfl⟩ : ∃ B : Nat, bits = B := ⟨bits.toNat, by omega⟩
  obtain ⟨m, rfl⟩ : ∃ m : Nat, most = m := ⟨most.toNat, by omega⟩
  refine (new_c (bits := B) (most := m) (by omega) (by omega) (by omega) h1).mono ?_
  rintro _ h2 ⟨e2, p, q, rfl, hp, hq, t2⟩
  have hs1 := e1.size
  refine ⟨_, _, rfl, fun h => by simp at h, fun _ => ?_⟩
  refine ⟨fun i h3 => ∃ k : Nat, i = k ∧ k ≤ n ∧ Ext h h3 ∧ ∃ q B s, h.size ≤ q ∧ TabOK h3 p q B m s, fun i _ => n - i.toNat, ⟨0, rfl, Nat.zero_le _, e1.trans e2, q, B, _, by omega, t2⟩, ?_⟩
  rintro _ h3 ⟨k, rfl, hk, e3, q, B, s, hq, t3⟩
  have hk0 : (0 : Int) ≤ (k : Int) := Int.natCast_nonneg _
  refine ⟨fun hlt => ?_, fun hge => ?_⟩
  · have hkn : k < n := by have := of_decide_eq_true hlt; omega
    obtain ⟨b, o, rfl, hb, hx⟩ := x.ext e3 (by omega)
    obtain ⟨hw, c0, c1, c2, c3, c4⟩ := hx k hkn
    refine ⟨b, o, rfl, hk0, by omega, _, _, _, _, _, c0, c1, c2, c3, c4, (does_c t3 _ hw).mono ?_⟩
    rintro _ h4 ⟨rfl, f4, q', B', s', hq', t4⟩
    have hs3 := e3.size
    have e4 : Ext h h4 := fr_new e3 (by omega) hq f4
    refine ⟨rfl, (layout_c t4).mono ?_⟩
    rintro _ h5 ⟨e5, b', cap', rfl, hb', x5⟩
    obtain ⟨h2', hbm', hm16'⟩ := t4.bnd
    refine ⟨_, _, _, rfl, (right_c x5 t4.g h2' (by omega) t4.room).mono ?_⟩
    rintro _ h6 ⟨rfl, e6⟩
    refine ⟨_, rfl, fun h => by simp at h, fun _ => ?_⟩
    rw [w64 (by omega) (by omega)]
    refine ⟨⟨k + 1, rfl, hkn, e4.trans (e5.trans e6), q', B', s', by omega, (t4.ext e5).ext e6⟩, ?_⟩
    show n - Int.toNat ((k : Int) + 1) < n - Int.toNat (k : Int)
    omega
  · refine (layout_c t3).mono ?_
    rintro _ h5 ⟨e5, b', cap', rfl, hb', x5⟩
    obtain ⟨h2', hbm', hm16'⟩ := t3.bnd
    refine ⟨_, _, _, rfl, (right_c x5 t3.g h2' (by omega) t3.room).mono ?_⟩
    rintro _ h6 ⟨rfl, e6⟩
    exact ⟨_, rfl, rfl, e3.trans (e5.trans e6)⟩

end
end Go.Proofs.Ytebipjmcckkhcaa
