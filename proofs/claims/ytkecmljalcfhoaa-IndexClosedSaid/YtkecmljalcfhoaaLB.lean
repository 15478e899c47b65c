/-
The law's 'all': a stripe has just these.
-/
import Derived.Test.YtkecmljalcfhoaaLA
namespace Go.Proofs.Ytkecmljalcfhoaa
namespace Ix
open Go RH

def L2 (a b z : Nat) : Prop := z = a ∨ z = b
def rdOf (h : Heap) (b : Nat) : Nat := match hcell h b 0 with | some (.int _ z) => z.toNat | _ => 0

set_option maxHeartbeats 16000000 in
theorem allIs_c {W V : Nat → Prop} {h : Heap} {x r m : Nat} {Ls : List (List Ent)} (hx : Has W h x m Ls) (hr : HasR V h r m Ls) (n stop : Int) :
    HC Try.prog 42 #[ptr x 0, ptr r 0, .int .i64 n, .int .i64 stop] h fun v h' => v = .bool true ∧ Ext h h' := by
  refine f42_sh _ _ _ _ _ _ _ _ fun sb h1 es eh1 nb h2 en eh2 => ?_
  have x1 : Ext h h1 := by rw [eh1]; exact Ext.push _ _
  have rs1 : h1[sb]? = some (.cells #[.int .i64 stop] 3 (0, 0)) := by rw [eh1]; exact push_new es
  have x2 : Ext h1 h2 := by rw [eh2]; exact Ext.push _ _
  have rn2 : h2[nb]? = some (.cells #[.bool false] 4 (0, 0)) := by rw [eh2]; exact push_new en
  clear eh1 eh2
  have hs1 := x1.size
  have hs2 := x2.size
  obtain ⟨ab, ao, ac, Rs, I2, hL⟩ := hr.ext (x1.trans x2)
  refine (entries_r I2 n).mono ?_
  rintro _ h3 ⟨wa, wc, rfl, x3, sw, ww⟩
  rw [hL] at sw ⊢
  refine ⟨_, _, _, rfl, fun wb h4 ew eh4 => ?_⟩
  have x4 : Ext h3 h4 := by rw [eh4]; exact Ext.push _ _
  have rw4 : h4[wb]? = some (.cells #[.slice none 0 0] 47 (0, 0)) := by rw [eh4]; exact push_new ew
  clear eh4
  refine ⟨HW_row rw4 (by simp), ?_⟩
  rintro h5 e5
  have hs3 := x3.size
  have hs4 := x4.size
  have rw5 : h5[wb]? = some (.cells #[.slice wa (ent Ls n).length wc] 47 (0, 0)) := by rw [e5, hset_row rw4]; rfl
  have x35 : Ext h3 h5 := ext_hset e5 x4 (by omega)
  clear e5
  have x5 : Ext h h5 := x1.trans (x2.trans (x3.trans x35))
  obtain ⟨Ts, I5, hT⟩ := hx.ext x5
  refine (all_i I5 n).mono ?_
  rintro _ h6 ⟨x6, tb, a, rfl, lotb, rtb, hopt, _⟩
  rw [hT] at hopt
  generalize ent Ls n = L at *
  have hlen := hopt.len
  refine ⟨_, rfl, fun rb h7 er eh7 => ?_⟩
  have x7 : Ext h6 h7 := by rw [eh7]; exact Ext.push _ _
  have rr7 : h7[rb]? = some (.cells #[.int .i64 0] 3 (0, 0)) := by rw [eh7]; exact push_new er
  clear eh7
  refine ⟨HW_row rr7 (by simp), ?_⟩
  rintro h8 e8
  have rr8 : h8[rb]? = some (.cells #[.int .i64 0] 3 (0, 0)) := by rw [e8, hset_row rr7]; rfl
  have x68 : Ext h6 h8 := ext_hset e8 x7 (by omega)
  clear e8
  -- what was there at h6
  have rs6 := (x2.trans (x3.trans (x35.trans x6))).row rs1
  have rn6 := (x3.trans (x35.trans x6)).row rn2
  have rw6 := x6.row rw5
  have sw6 := sw.ext (x35.trans x6)
  have hsl := row_lt rs1
  have hnl := row_lt rn2
  have hs5 := x35.size
  have hs6 := x6.size
  have hwl := row_lt rw5
  have htl := row_lt rtb
  have x06 := x5.trans x6
  refine ⟨fun b o h9 => ∃ rd : Nat, o = 0 ∧ h9[b]? = some (.cells #[.int .i64 rd] 3 (0, 0)) ∧ rd ≤ 2 ∧ h6.size ≤ b ∧ Ext h6 h9, fun b _ h9 => 2 - rdOf h9 b, ⟨0, rfl, rr8, by omega, by omega, x68⟩, ?_⟩
  rintro rb9 _ h9 ⟨rd, rfl, rr9, hrd, lrb, x9⟩
  have hrd9 : rdOf h9 rb9 = rd := by unfold rdOf; rw [hcell_row rr9]; rfl
  have hrl := row_lt rr9
  have hs9 := x9.size
  refine ⟨_, by rw [hcell_row rr9]; rfl, fun hlt => fun ib h10 ei eh10 => ?_, fun _ => ?_⟩
  · have hrd2 : rd < 2 := by have := of_decide_eq_true hlt; omega
    have x10 : Ext h9 h10 := by rw [eh10]; exact Ext.push _ _
    have ri10 : h10[ib]? = some (.cells #[.int .i64 0] 3 (0, 0)) := by rw [eh10]; exact push_new ei
    clear eh10
    refine ⟨HW_row ri10 (by simp), ?_⟩
    rintro h11 e11
    have ri11 : h11[ib]? = some (.cells #[.int .i64 0] 3 (0, 0)) := by rw [e11, hset_row ri10]; rfl
    have x911 : Ext h9 h11 := ext_hset e11 x10 (by omega)
    clear e11
    have hs11 := x911.size
    have hil := row_lt ri11
    have x611 := x9.trans x911
    -- what a heap keeps that differs from h11 in the count and the loop alone
    let A31 : Heap → Prop := fun h12 => ∃ cnt : Nat, h12[ib]? = some (.cells #[.int .i64 cnt] 3 (0, 0)) ∧ (cnt = L.length ∨ (rd = 0 ∧ (cnt : Int) = stop)) ∧ Ext h9 h12
    refine ⟨A31, fun Lp l h13 y stay el x13 z13 L13 hyld => ?_, ?_⟩
    · have hs13 := x13.size
      have opt13 := hopt.ext (x6.trans (x611.trans x13))
      have ri13 := x13.row ri11
      have x913 := x911.trans x13
      have x613 := x9.trans x913
      refine go_over opt13 (by rw [hcell_row (x613.row rtb)]; rfl) fun h14 x14 => ?_
      have hs14 := x14.size
      let Keep : Nat → Heap → Prop := fun k h => h[ib]? = some (.cells #[.int .i64 k] 3 (0, 0)) ∧ Fr (L2 ib l) h13 h
      have keepE : ∀ {k h'}, Keep k h' → Ext h9 h' := fun {k h'} g => ((x913.fr _).trans g.2 fun _ _ g => g).ext fun b hb g => by rcases g with g | g <;> omega
      have fin : ∀ (k : Nat) (h15 : Heap) (st : LoopState) (pend : Option Code), (pend = none ∨ pend = some (.exit 2)) → st ≠ .busy → (k = L.length ∨ (rd = 0 ∧ (k : Int) = stop)) → Keep k h15 → Lp st pend h15 →
          ∃ (st : LoopState) (pend : Option Code), Lp st pend h15 ∧ st ≠ .busy ∧ ∀ h16, Only l h15 h16 → Lp .exhausted pend h16 →
          ((pend = none ∧ (A31 h16)) ∨ (pend = some .ret ∧ (∃ res : Bool, hcell h16 nb 0 = some (.bool res) ∧ (∀ h25, Shut' (Array.size h) h16 h25 → (Value.bool res = .bool true ∧ Ext h h25)))) ∨ (pend = some (.exit 2) ∧ (A31 h16))) := by
        intro k h15 st pend hp hst hk kp lp
        refine ⟨st, pend, lp, hst, fun h16 o16 _ => ?_⟩
        have kp' : Keep k h16 := ⟨o16.fr.row kp.1 (by omega), kp.2.trans o16.fr fun _ _ g => .inr g⟩
        rcases hp with rfl | rfl
        · exact .inl ⟨rfl, k, kp'.1, hk, keepE kp'⟩
        · exact .inr (.inr ⟨rfl, k, kp'.1, hk, keepE kp'⟩)
      refine ⟨fun k h15 => Lp .ready none h15 ∧ Keep k h15, ⟨stay _ _ _ _ L13 (x14.block l (by omega)), x14.row ri13, x14.fr _⟩, ?_, fun h15 _ j15 => fin _ h15 _ none (.inl rfl) (by simp) (.inl rfl) j15.2 j15.1⟩
      rintro k hk h15 f15 ⟨lp15, kp15⟩ h17 x17
      have hs15 := f15.size
      have hs17 := x17.size
      have lp17 := stay _ _ _ _ lp15 (x17.block l (by omega))
      refine hyld _ _ _ _ h17 _ lp17 fun eb h18 ee e18 => ?_
      have r18 : h18[eb]? = some (.cells #[.int .u64 0, .int .u64 0, .int .u64 0, .int .u8 0] 31 (0, 0)) := by rw [e18]; exact push_new ee
      have x18 : Ext h17 h18 := by rw [e18]; exact Ext.push _ _
      refine ⟨HWs_row r18 (by simp), ?_⟩
      rintro h19 e19
      have r19 : h19[eb]? = some (.cells #[.int .u64 L[k].h, .int .u64 L[k].a, .int .u64 L[k].v, .int .u8 L[k].k] 31 (0, 0)) := by rw [e19, hsets_row _ r18]; rfl
      have x19 : Ext h17 h19 := ext_hsets e19 x18 (by omega)
      clear e19 e18
      have hs19 := x19.size
      refine ⟨stay _ _ _ _ lp17 (x19.block l (by omega)), fun h20 o20 lp20 => ?_⟩
      have hs20 := o20.size
      have kp20 : Keep k h20 := ⟨o20.fr.row ((x17.trans x19).row kp15.1) (by omega), (kp15.2.trans ((x17.trans x19).fr (fun _ => False)) fun _ _ g => g.elim).trans o20.fr fun _ _ g => .inr g⟩
      have r20 := o20.fr.row r19 (by omega)
      have f20 : Fr (Yw h13 h14) h17 h20 := (x19.fr _).trans o20.fr fun i hi g => .inl (by omega)
      have x620 := x9.trans (keepE kp20)
      obtain ⟨b, o, ea, d⟩ := (sw6.ext x620).at (List.getElem?_eq_getElem hk)
      refine ⟨false, ⟨(k : Int), by rw [hcell_row kp20.1]; rfl, wa, L.length, wc, by rw [hcell_row (x620.row rw6)]; rfl, fun g => ?_, fun _ => ⟨_, _, _, _, by rw [hcell_row r20]; rfl, by rw [hcell_row r20]; rfl, by rw [hcell_row r20]; rfl, by rw [hcell_row r20]; rfl, b, o, ea, by omega, by omega, _, _, _, _, d.1, d.2.1, d.2.2.1, d.2.2.2.1, by simp⟩⟩, fun g => (by cases g), fun _ => ?_⟩
      · have := of_decide_eq_true g; omega
      refine ⟨(k : Int), by rw [hcell_row kp20.1]; rfl, HW_row kp20.1 (by simp), ?_⟩
      rintro h22 e22
      have f22 := fr_hset_of e22
      have r22 : h22[ib]? = some (.cells #[.int .i64 ((k + 1 : Nat) : Int)] 3 (0, 0)) := by rw [e22, hset_row kp20.1, wadd k (by omega)]; rfl
      clear e22
      have hs22 := f22.size
      have kp22 : Keep (k + 1) h22 := ⟨r22, kp20.2.trans f22 fun _ _ g => .inl g⟩
      have lp22 := stay _ _ _ _ lp20 (f22.block l (by omega) (by omega))
      have f1722 : Fr (Yw h13 h14) h17 h22 := f20.trans f22 fun i hi g => .inl (by omega)
      have x922 := keepE kp22
      refine ⟨decide (rd = 0 ∧ ((k + 1 : Nat) : Int) = stop), ⟨(rd : Int), by rw [hcell_row (x922.row rr9)]; rfl, fun g => ⟨((k + 1 : Nat) : Int), by rw [hcell_row r22]; rfl, stop, by rw [hcell_row ((x9.trans x922).row rs6)]; rfl, ?_⟩, fun g => ?_⟩, fun g => ?_, fun g => ?_⟩
      · have h0 : rd = 0 := by have := eq_of_beq g; omega
        rw [Bool.eq_iff_iff]
        simp [h0]
      · have h0 : rd ≠ 0 := fun q => by rw [q] at g; simp at g
        exact decide_eq_false fun q => h0 q.1
      · have hst := of_decide_eq_true g
        exact ⟨lp22, fun h23 o23 lp23 => ⟨f1722.trans o23.fr fun i hi g => .inl (by omega), false, rfl, fun _ => fin (k + 1) h23 _ _ (.inr rfl) (by simp) (.inr hst) ⟨o23.fr.row r22 (by omega), kp22.2.trans o23.fr fun _ _ g => .inr g⟩ lp23, fun g => by cases g⟩⟩
      · exact ⟨lp22, fun h24 o24 lp24 => ⟨f1722.trans o24.fr fun i hi g => .inl (by omega), true, rfl, (fun g => by cases g), fun _ => ⟨lp24, o24.fr.row r22 (by omega), kp22.2.trans o24.fr fun _ _ g => .inr g⟩⟩⟩
    · rintro h12 ⟨cnt, ri12, hc, x12⟩
      have x612 := x9.trans x12
      have hs12 := x12.size
      refine ⟨false, ⟨(cnt : Int), by rw [hcell_row ri12]; rfl, wa, L.length, wc, by rw [hcell_row (x612.row rw6)]; rfl, fun g => ⟨(rd : Int), by rw [hcell_row (x12.row rr9)]; rfl, fun g2 => ?_, fun g2 => ⟨stop, by rw [hcell_row (x612.row rs6)]; rfl, ?_⟩⟩, fun _ => rfl⟩, fun g => (by cases g), fun _ => ⟨(rd : Int), by rw [hcell_row (x12.row rr9)]; rfl, fun rb2 h28 er2 eh28 => ?_⟩⟩
      · rcases hc with q | ⟨q, _⟩
        · rw [q] at g; simp at g
        · rw [q] at g2; simp at g2
      · rcases hc with q | ⟨_, q⟩
        · rw [q] at g; simp at g
        · rw [q]; simp
      · have x28 : Ext h12 h28 := by rw [eh28]; exact Ext.push _ _
        have r28 : h28[rb2]? = some (.cells #[.int .i64 0] 3 (0, 0)) := by rw [eh28]; exact push_new er2
        clear eh28
        refine ⟨HW_row r28 (by simp), ?_⟩
        rintro h29 e29
        have r29 : h29[rb2]? = some (.cells #[.int .i64 rd] 3 (0, 0)) := by rw [e29, hset_row r28]; rfl
        have x29 : Ext h12 h29 := ext_hset e29 x28 (by omega)
        clear e29
        refine ⟨(rd : Int), by rw [hcell_row r29]; rfl, HW_row r29 (by simp), ?_⟩
        rintro h30 e30
        have r30 : h30[rb2]? = some (.cells #[.int .i64 ((rd + 1 : Nat) : Int)] 3 (0, 0)) := by rw [e30, hset_row r29, wadd rd (by omega)]; rfl
        have x30 : Ext h12 h30 := ext_hset e30 x29 (by omega)
        clear e30
        have hrd30 : rdOf h30 rb2 = rd + 1 := by unfold rdOf; rw [hcell_row r30]; rfl
        refine ⟨⟨rd + 1, rfl, r30, by omega, by omega, x612.trans x30⟩, ?_⟩
        show 2 - rdOf h30 rb2 < 2 - rdOf h9 rb9
        rw [hrd30, hrd9]; omega
  · have rn9 := x9.row rn6
    refine ⟨HW_row rn9 (by simp), ?_⟩
    rintro h31 e31
    have r31 : h31[nb]? = some (.cells #[.bool true] 4 (0, 0)) := by rw [e31, hset_row rn9]; rfl
    have x31 : Ext h h31 := ext_hset e31 (x06.trans x9) (by omega)
    exact ⟨true, by rw [hcell_row r31]; rfl, fun h32 s32 => ⟨rfl, ⟨by rw [s32.size]; exact x31.size, fun b hb => (s32.low hb).trans (x31.block b hb)⟩⟩⟩
end Ix
end Go.Proofs.Ytkecmljalcfhoaa
