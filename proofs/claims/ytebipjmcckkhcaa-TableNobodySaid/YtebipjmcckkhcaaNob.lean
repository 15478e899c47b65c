/-
A nil table.
-/
import Derived.Test.YtebipjmcckkhcaaMaps
import Derived.Test.YtebipjmcckkhcaaShN
import Derived.Test.YtebipjmcckkhcaaShO
namespace Go.Proofs.Ytebipjmcckkhcaa
open Go RH

theorem made_no (h : Heap) : HC Try.prog 28 #[.pointer none] h fun v h' => v = .bool false ∧ h' = h := f28_shn _ _ ⟨rfl, rfl⟩
theorem find_no (x : Int) (h : Heap) : HC Try.prog 31 #[.pointer none, .int .u64 x] h fun v h' => v = .int .i64 (-1) ∧ h' = h :=
  f31_sh _ _ _ _ ⟨false, made_no h, fun _ => ⟨rfl, rfl⟩, fun h => by simp at h⟩
theorem layout_no (h : Heap) : HC Try.prog 13 #[.pointer none] h fun v h' => v = .slice none 0 0 ∧ h' = h :=
  f13_shn _ _ ⟨false, made_no h, fun _ => ⟨rfl, rfl⟩, fun h => by simp at h⟩
theorem len_no (h : Heap) : HC Try.prog 19 #[.pointer none] h fun v h' => v = .int .i64 0 ∧ h' = h :=
  f19_shn _ _ ⟨false, made_no h, fun _ => ⟨rfl, rfl⟩, fun h => by simp at h⟩
theorem longest_no (h : Heap) : HC Try.prog 26 #[.pointer none] h fun v h' => v = .int .i64 0 ∧ h' = h :=
  f26_shn _ _ ⟨false, made_no h, fun _ => ⟨rfl, rfl⟩, fun h => by simp at h⟩
theorem fork_no (h : Heap) : HC Try.prog 24 #[.pointer none] h fun v h' => v = .pointer none ∧ h' = h :=
  f24_shn _ _ ⟨false, made_no h, fun _ => ⟨rfl, rfl⟩, fun h => by simp at h⟩
theorem hit_no (x : Int) (h : Heap) : HC Try.prog 17 #[.pointer none, .int .u64 x] h fun v h' => v = .bool false ∧ h' = h :=
  f17_shn _ _ _ ((find_no x h).mono (by rintro _ h1 ⟨rfl, rfl⟩; exact ⟨_, rfl, fun _ => ⟨rfl, rfl⟩, fun h => by simp at h⟩))

theorem get_no (x : Int) (h : Heap) : HC Try.prog 15 #[.pointer none, .int .u64 x] h fun v h' => v = .tuple #[.agg #[.int .u64 0, .int .u64 0, .int .u64 0, .int .u8 0], .bool false] ∧ Ext h h' := by
  refine f15_shn _ _ _ ?_
  intro nb h1 eb e1
  obtain ⟨hw, mk⟩ := mk_box eb e1
  have x1 : Ext h h1 := by rw [e1]; exact Ext.push _ _
  refine (find_no x h1).mono ?_
  rintro _ _ ⟨rfl, rfl⟩
  refine ⟨_, rfl, fun _ => ⟨hw, ?_⟩, fun h => by simp at h⟩
  intro h3 e3
  obtain ⟨b3, x3, _, _⟩ := mk z0 h3 e3
  exact ⟨_, _, _, _, b3.c0, b3.c1, b3.c2, b3.c3, rfl, x3⟩
theorem remove_no (x : Int) (h : Heap) : HC Try.prog 16 #[.pointer none, .int .u64 x] h fun v h' => v = .tuple #[.agg #[.int .u64 0, .int .u64 0, .int .u64 0, .int .u8 0], .bool false] ∧ Ext h h' := by
  refine f16_shn _ _ _ ?_
  intro nb h1 eb e1
  obtain ⟨hw, mk⟩ := mk_box eb e1
  refine (find_no x h1).mono ?_
  rintro _ _ ⟨rfl, rfl⟩
  refine ⟨_, rfl, fun _ => ⟨hw, ?_⟩, fun h => by simp at h⟩
  intro h3 e3
  obtain ⟨b3, x3, _, _⟩ := mk z0 h3 e3
  exact ⟨_, _, _, _, b3.c0, b3.c1, b3.c2, b3.c3, rfl, x3⟩
theorem put_no (a b c d : Int) (h : Heap) : HC Try.prog 14 #[.pointer none, .agg #[.int .u64 a, .int .u64 b, .int .u64 c, .int .u8 d]] h fun v h' => v = .tuple #[.agg #[.int .u64 0, .int .u64 0, .int .u64 0, .int .u8 0], .bool false, .int .i64 6] ∧ Ext h h' := by
  refine f14_shn _ _ _ _ _ _ ?_
  intro eb h1 e1 e2 nb h2 e3 e4
  have x1 : Ext h h1 := by rw [e2]; exact Ext.push _ _
  obtain ⟨hw, mk⟩ := mk_box e3 e4
  refine ⟨false, made_no h2, fun _ => ⟨hw, ?_⟩, fun h => by simp at h⟩
  intro h3 e3
  obtain ⟨b3, x3, _, _⟩ := mk z0 h3 e3
  exact ⟨_, _, _, _, b3.c0, b3.c1, b3.c2, b3.c3, rfl, x1.trans x3⟩

/-! ### nothing to go over -/
theorem index_0 (f : Value) (h : Heap) : HC Try.prog 49 #[.slice none 0 0, f] h fun v h' => v = .int .i64 (-1) ∧ h' = h := by
  refine f49_sh _ _ _ _ _ _ ⟨fun i h1 => i = 0 ∧ h1 = h, fun _ _ => 0, ⟨rfl, rfl⟩, ?_⟩
  rintro _ _ ⟨rfl, rfl⟩
  exact ⟨fun h => by simp at h, fun _ => ⟨rfl, rfl⟩⟩
theorem delete_0 (f : Value) (h : Heap) : HC Try.prog 42 #[.slice none 0 0, f] h fun v h' => v = .slice none 0 0 ∧ h' = h := by
  refine f42_sh _ _ _ _ _ _ ((index_0 f h).mono ?_)
  rintro _ _ ⟨rfl, rfl⟩
  exact ⟨_, rfl, fun _ => ⟨rfl, rfl⟩, fun h => by simp at h⟩
theorem ins_0 (f : Value) (h : Heap) : HC Try.prog 53 #[.slice none 0 0, .int .i64 0, .int .i64 0, f] h fun v h' => v = .tuple #[] ∧ h' = h := by
  refine f53_sh _ _ _ _ _ _ _ _ ⟨fun i h1 => i = 1 ∧ h1 = h, fun _ _ => 0, ⟨by rw [w64 (by omega) (by omega)]; rfl, rfl⟩, ?_⟩
  rintro _ _ ⟨rfl, rfl⟩
  exact ⟨fun h => by simp at h, fun _ => ⟨rfl, rfl⟩⟩
theorem len64_0 (h : Heap) : HC Try.prog 62 #[.int .u64 0] h fun v h' => v = .int .i64 0 ∧ h' = h := by
  refine f62_sh _ _ _ ⟨0, 0, ⟨fun h => by simp at h, fun _ => ⟨rfl, rfl⟩⟩, 0, 0, ⟨fun h => by simp at h, fun _ => ⟨rfl, rfl⟩⟩, 0, 0, ⟨fun h => by simp at h, fun _ => ⟨rfl, rfl⟩⟩, by decide, 0, by kernel_rfl, ?_, rfl⟩
  rfl
theorem sort_0 (f : Value) (h : Heap) : HC Try.prog 43 #[.slice none 0 0, f] h fun v h' => v = .tuple #[] ∧ h' = h := by
  refine f43_sh _ _ _ _ _ _ ?_
  have e : IntKind.u64.wrap ((0 : Nat) : Int) = 0 := by decide
  rw [e]
  refine f51_sh _ _ _ ((len64_0 h).mono ?_)
  rintro _ h ⟨rfl, rfl⟩
  refine ⟨_, rfl, _, rfl, f50_sh _ _ _ _ _ _ _ _ _ ⟨fun a b _ _ _ h1 => a = 0 ∧ b = 0 ∧ h1 = h, fun _ _ _ _ _ _ => 0, ⟨rfl, rfl, rfl⟩, ?_⟩⟩
  rintro _ _ _ _ _ h ⟨rfl, rfl, rfl⟩
  refine ⟨fun _ => (ins_0 f h).mono ?_, fun h => absurd h (by decide)⟩
  rintro _ _ ⟨rfl, rfl⟩
  exact ⟨rfl, rfl, rfl, rfl⟩

theorem all_no (h : Heap) : HC Try.prog 18 #[.pointer none] h fun v h' => v = .slice none 0 0 ∧ Ext h h' := by
  refine f18_shn _ _ ?_
  intro l h1 el e1
  have x1 : Ext h h1 := by rw [e1]; exact Ext.push _ _
  have c1 : hcell h1 l 0 = some (.slice none 0 0) := by rw [hcell_row (by rw [e1]; exact push_new el)]; rfl
  refine f23_shn _ _ ?_
  intro t h2 et e2
  have x2 : Ext h1 h2 := by rw [e2]; exact Ext.push _ _
  have c2 : hcell h2 t 0 = some (.pointer none) := by rw [hcell_row (by rw [e2]; exact push_new et)]; rfl
  refine ⟨_, rfl, ?_⟩
  intro Lp l1 h3 y stay el1 x3 z3 L3 _
  refine ⟨41, [], [.pointer (some ⟨t, 0, none⟩)], rfl, fun _ _ => Try.call41 _ _, ?_⟩
  refine f41_sh y t 0 h3 _ ⟨_, x3.cell c2, (layout_no h3).mono ?_⟩
  rintro _ h3 ⟨rfl, rfl⟩
  refine ⟨_, _, _, rfl, (delete_0 _ h3).mono ?_⟩
  rintro _ h3 ⟨rfl, rfl⟩
  refine ⟨_, _, _, rfl, (sort_0 _ h3).mono ?_⟩
  rintro _ h3 ⟨rfl, rfl⟩
  refine ⟨rfl, fun i h4 => i = 0 ∧ h4 = h3, fun _ _ => 0, ⟨rfl, rfl⟩, ?_⟩
  rintro _ h3 ⟨rfl, rfl⟩
  refine ⟨fun h => by simp at h, fun _ => ⟨.ready, none, L3, by simp, ?_⟩⟩
  intro h6 o6 L6
  have l1lt : l < h1.size := hcell_lt c1
  have hs2 := x2.size
  refine ⟨rfl, none, 0, 0, ?_, ?_⟩
  · have hb := o6.block l (by omega)
    have := (x3.cell (x2.cell c1))
    unfold hcell at this ⊢
    rw [hb]; exact this
  · intro h14 s14
    refine ⟨rfl, ?_⟩
    have x13 := x1.trans (x2.trans x3)
    refine ⟨by rw [s14.size, o6.size]; exact x13.size, fun b hb => ?_⟩
    have hbl : b ≠ l1 := by have := x1.size; omega
    rw [s14.low hb, o6.block b hbl]
    exact x13.block b hb

set_option maxHeartbeats 4000000 in
theorem law_nobody (a b c d : Int) (h : Heap) : HC Try.prog 8 #[.agg #[.int .u64 a, .int .u64 b, .int .u64 c, .int .u8 d]] h fun v h' => v = .bool true ∧ Ext h h' := by
  refine f8_shn _ _ _ _ _ _ ?_
  intro o h1 eo e1
  have r1 : h1[o]? = some (.cells #[.int .u64 a, .int .u64 b, .int .u64 c, .int .u8 d] 31 (0, 0)) := by rw [e1]; exact push_new eo
  have x1 : Ext h h1 := by rw [e1]; exact Ext.push _ _
  have c0 : hcell h1 o 0 = some (.int .u64 a) := by rw [hcell_row r1]; rfl
  have c1 : hcell h1 o 1 = some (.int .u64 b) := by rw [hcell_row r1]; rfl
  have c2 : hcell h1 o 2 = some (.int .u64 c) := by rw [hcell_row r1]; rfl
  have c3 : hcell h1 o 3 = some (.int .u8 d) := by rw [hcell_row r1]; rfl
  refine ⟨_, _, _, _, c0, c1, c2, c3, (put_no a b c d h1).mono ?_⟩
  rintro _ h2 ⟨rfl, x2⟩
  refine ⟨_, _, _, _, _, _, rfl, ?_⟩
  intro ba h3 eb eh
  obtain ⟨hw3, mk3⟩ := mk_box eb eh
  refine ⟨hw3, ?_⟩
  intro h4 e4
  obtain ⟨b4, x4, _, _⟩ := mk3 z0 h4 e4
  refine ⟨_, x4.cell (x2.cell c0), (get_no a h4).mono ?_⟩
  rintro _ h5 ⟨rfl, x5⟩
  refine ⟨_, _, _, _, _, rfl, ?_⟩
  intro bb h6 eb eh
  obtain ⟨hw6, mk6⟩ := mk_box eb eh
  refine ⟨hw6, ?_⟩
  intro h7 e7
  obtain ⟨b7, x7, _, _⟩ := mk6 z0 h7 e7
  have x47 := x5.trans x7
  refine ⟨_, x47.cell (x4.cell (x2.cell c0)), (remove_no a h7).mono ?_⟩
  rintro _ h8 ⟨rfl, x8⟩
  refine ⟨_, _, _, _, _, rfl, ?_⟩
  intro bc h9 eb eh
  obtain ⟨hw9, mk9⟩ := mk_box eb eh
  refine ⟨hw9, ?_⟩
  intro h10 e10
  obtain ⟨b10, x10, _, _⟩ := mk9 z0 h10 e10
  have x710 := x8.trans x10
  refine ⟨fun j h' => j = true ∧ Ext h h', (lives_c h10).mono ?_, ?_⟩
  · rintro _ h12 ⟨rfl, x12⟩
    have xall : Ext h h12 := x1.trans (x2.trans (x4.trans (x47.trans (x710.trans x12))))
    have b4' := b4.ext (x47.trans (x710.trans x12))
    have b7' := b7.ext (x710.trans x12)
    have b10' := b10.ext x12
    refine ⟨_, rfl, fun _ => ⟨_, _, _, _, b4'.c0, b4'.c1, b4'.c2, b4'.c3, fun _ => ⟨fun _ => ⟨fun _ => ⟨_, _, _, _, b7'.c0, b7'.c1, b7'.c2, b7'.c3, fun _ => ⟨fun _ => ⟨_, _, _, _, b10'.c0, b10'.c1, b10'.c2, b10'.c3, fun _ => ⟨fun _ =>
      ⟨_, (x710.trans x12).cell (x47.cell (x4.cell (x2.cell c0))), (hit_no a h12).mono ?_⟩, fun h => by simp at h⟩, fun h => by simp [z0] at h⟩, fun h => by simp at h⟩, fun h => by simp [z0] at h⟩, fun h => by simp at h⟩, fun h => by simp at h⟩, fun h => by simp [z0] at h⟩, fun h => by simp at h⟩
    rintro _ h13 ⟨rfl, rfl⟩
    refine ⟨_, rfl, fun _ => (len_no h13).mono ?_, fun h => by simp at h⟩
    rintro _ h13 ⟨rfl, rfl⟩
    refine ⟨_, rfl, fun _ => (longest_no h13).mono ?_, fun h => by simp at h⟩
    rintro _ h13 ⟨rfl, rfl⟩
    refine ⟨_, rfl, fun _ => (layout_no h13).mono ?_, fun h => by simp at h⟩
    rintro _ h13 ⟨rfl, rfl⟩
    refine ⟨_, _, _, rfl, fun _ => (all_no h13).mono ?_, fun h => by simp at h⟩
    rintro _ h17 ⟨rfl, x17⟩
    refine ⟨_, _, _, rfl, fun _ => (fork_no h17).mono ?_, fun h => by simp at h⟩
    rintro _ h17 ⟨rfl, rfl⟩
    exact ⟨_, rfl, rfl, xall.trans x17⟩
  · rintro j h11 ⟨rfl, x11⟩
    exact ⟨rfl, x11⟩

end Go.Proofs.Ytebipjmcckkhcaa
