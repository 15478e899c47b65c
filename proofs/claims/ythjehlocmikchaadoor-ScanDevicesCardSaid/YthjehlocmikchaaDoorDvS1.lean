import Derived.Test.YthjehlocmikchaaDoorDvDeq
import Derived.Test.YthjehlocmikchaaDoorDvTA
namespace Go.Proofs.YthjehlocmikchaaDoor
namespace Sc
open Go
structure Geo where
 page : Int
 pages : Int
 regs : Int
 al : Int
def p2 : List Int := [1, 2, 4, 8, 16, 32, 64, 128, 256, 512, 1024, 2048, 4096]
def pw (n lo hi : Int) : Prop := n ∈ p2 ∧ lo ≤ n ∧ n ≤ hi
instance (n lo hi : Int) : Decidable (pw n lo hi) := by unfold pw; infer_instance
def Gok (g : Geo) : Prop := pw g.page 16 4096 ∧ (1 ≤ g.pages ∧ g.pages ≤ 64) ∧ (2 ≤ g.regs ∧ g.regs ≤ 256) ∧ pw g.al 1 g.page ∧ 128 ≤ g.page * g.pages ∧ g.page * g.pages * g.regs ≤ 1048576 ∧ g.al + 48 ≤ g.page * g.pages
instance (g : Geo) : Decidable (Gok g) := by unfold Gok; infer_instance
def Geo.sz (g : Geo) : Int := g.page * g.pages
def Geo.dev (g : Geo) : Int := g.page * g.pages * g.regs
theorem pw_lt {n lo hi : Int} (h : pw n lo hi) : 1 ≤ n ∧ n ≤ 4096 := by
 have := h.1
 simp only [p2, List.mem_cons, List.not_mem_nil, or_false] at this
 omega
theorem land_pred : (List.range 4097).all (fun n => (n == 0) || (((n &&& (n - 1)) == 0) == decide ((n : Int) ∈ p2))) = true := by kernel_rfl
theorem bv64 {n : Int} (h0 : 0 ≤ n) (h1 : n < 18446744073709551616) : (BitVec.ofInt 64 n).toNat = n.toNat := by
 rw [BitVec.toNat_ofInt]
 have : n % ((2 : Nat) ^ 64 : Nat) = n := Int.emod_eq_of_lt h0 (by omega)
 rw [this]
theorem band64 {a b : Int} (ha : 0 ≤ a) (hb : 0 ≤ b) (ha1 : a < 9223372036854775808) (hb1 : b < 9223372036854775808) : iband .i64 a b = ((a.toNat &&& b.toNat : Nat) : Int) := by
 unfold iband
 show IntKind.i64.wrap ((BitVec.ofInt 64 a &&& BitVec.ofInt 64 b).toNat : Int) = _
 rw [BitVec.toNat_and, bv64 ha (by omega), bv64 hb (by omega)]
 have : a.toNat &&& b.toNat ≤ a.toNat := Nat.and_le_left
 rw [w64 (by omega) (by omega)]
theorem power_bits {n : Int} (h0 : 1 ≤ n) (h1 : n ≤ 4096) : (iband .i64 n (IntKind.i64.wrap (n - 1)) == 0) = decide (n ∈ p2) := by
 rw [w64 (by omega) (by omega), band64 (by omega) (by omega) (by omega) (by omega)]
 have h := List.all_eq_true.1 land_pred n.toNat (List.mem_range.2 (by omega))
 have e : (n.toNat : Int) = n := by omega
 have e2 : (n - 1).toNat = n.toNat - 1 := by omega
 rw [e2]
 rw [e] at h
 have h3 : (n.toNat == 0) = false := by simp; omega
 rw [h3, Bool.false_or] at h
 have h4 := eq_of_beq h
 rw [← h4]
 rw [Bool.eq_iff_iff]
 simp only [beq_iff_eq]
 omega
end Sc
end Go.Proofs.YthjehlocmikchaaDoor
namespace Go.Proofs.YthjehlocmikchaaDoor
namespace Sc
open Go
abbrev Geo.v (g : Geo) : Value := .agg #[.int .i64 g.page, .int .i64 g.pages, .int .i64 g.regs, .int .i64 g.al]
theorem power_m {n lo hi : Int} (hl : 1 ≤ lo) (hh : hi ≤ 4096) (h : Heap) : HC Tryd.prog 81 #[.int .i64 n, .int .i64 lo, .int .i64 hi] h fun v h' => v = .bool (decide (pw n lo hi)) ∧ h' = h := by
 refine f81_sh _ _ _ _ _ ⟨?_, rfl⟩
 congr 1
 by_cases h1 : n ≥ lo
 ·by_cases h2 : n ≤ hi
  ·rw [power_bits (by omega) (by omega), Bool.eq_iff_iff]
   simp [pw, h1, h2]
  ·rw [Bool.eq_iff_iff]; simp [pw, h2]
 ·have e1 : decide (n ≥ lo) = false := decide_eq_false h1
  rw [e1, Bool.false_and]; symm
  exact decide_eq_false fun q => h1 q.2.1
theorem p2_next {p : Int} (h : p ∈ p2) : (p * 2 = 8192 ∨ p * 2 ∈ p2) ∧ 1 ≤ p ∧ p ≤ 4096 ∧ ∀ q ∈ p2, p < q → p * 2 ≤ q := by
 simp only [p2, List.mem_cons, List.not_mem_nil, or_false] at h ⊢
 refine ⟨by omega, by omega, by omega, fun q hq hpq => by omega⟩
theorem power_r {n lo hi : Int} (hl : lo ∈ p2) (hh : hi ≤ 4096) (h : Heap) : HC Tryd.prog 41 #[.int .i64 n, .int .i64 lo, .int .i64 hi] h fun v h' => v = .bool (decide (pw n lo hi)) ∧ h' = h := by
 refine f41_sh _ _ _ _ _ ⟨fun p => (p = 8192 ∨ p ∈ p2) ∧ lo ≤ p ∧ ∀ q ∈ p2, lo ≤ q → q < p → n ≠ q, fun p => (8192 - p).toNat, ⟨.inr hl, Int.le_refl _, fun q _ h1 h2 => by omega⟩, ?_⟩
 rintro p ⟨hp, hlp, hall⟩
 refine ⟨fun g => ?_, fun g => ⟨?_, rfl⟩⟩
 ·have hle := of_decide_eq_true g
  have hp2 : p ∈ p2 := hp.resolve_left (by omega)
  obtain ⟨h1, h2, h3, h4⟩ := p2_next hp2
  refine ⟨fun e => ⟨?_, rfl⟩, fun e => ?_⟩
  ·have := eq_of_beq e; subst this
   congr 1; symm; exact decide_eq_true ⟨hp2, hlp, hle⟩
  ·have hne : n ≠ p := by simpa using e
   rw [w64 (by omega) (by omega)]
   refine ⟨⟨h1, by omega, fun q hq hlq hqp => ?_⟩, by show (8192 - p * 2).toNat < (8192 - p).toNat; omega⟩
   rcases Int.lt_trichotomy q p with c | c | c
   ·exact hall q hq hlq c
   ·subst c; exact hne
   ·have := h4 q hq c; omega
 ·have hgt := of_decide_eq_false g
  congr 1; symm
  refine decide_eq_false fun ⟨m1, m2, m3⟩ => hall n m1 m2 (by omega) rfl
theorem not_ok {g : Geo} (h : ¬ Gok g) : (if Gok g then (0 : Int) else 20) = 20 := if_neg h
theorem check_m (g : Geo) (h : Heap) : HC Tryd.prog 59 #[g.v] h fun v h' => v = .int .i64 (if Gok g then 0 else 20) ∧ Ext h h' := by
 have key : ∀ {a b : Bool}, (b = true ↔ ¬ (pw g.page 16 4096 ∧ (1 ≤ g.pages ∧ g.pages ≤ 64) ∧ (2 ≤ g.regs ∧ g.regs ≤ 256))) → a = b → (a = true ↔ ¬ (pw g.page 16 4096 ∧ (1 ≤ g.pages ∧ g.pages ≤ 64) ∧ (2 ≤ g.regs ∧ g.regs ≤ 256))) := fun h1 h2 => h2 ▸ h1
 let b0 : Bool := !decide (pw g.page 16 4096 ∧ (1 ≤ g.pages ∧ g.pages ≤ 64) ∧ (2 ≤ g.regs ∧ g.regs ≤ 256))
 refine f59_sh _ _ _ _ _ _ ⟨b0, fun _ h1 _ _ x1 => ⟨_, power_m (by decide) (by decide) h1, fun e => ?_, fun e => ⟨fun e2 => ?_, fun e2 => ⟨fun e3 => ?_, fun e3 => ?_⟩⟩⟩, fun e h1 x1 => ⟨?_, x1⟩, fun e _ h1 _ _ x1 => ?_⟩
 ·rw [e]; simp only [Bool.not_eq_true', decide_eq_false_iff_not] at e; simp [b0, e]
 ·simp only [Bool.not_eq_false', decide_eq_true_eq] at e
  simp only [Bool.or_eq_true, decide_eq_true_eq] at e2
  have h1 : (decide (g.pages < 1) || decide (g.pages > 64)) = true := by simp; omega
  rw [h1]
  simp only [b0, Bool.not_eq_true', decide_eq_false_iff_not]
  intro q; omega
 ·have e3 := of_decide_eq_true e3
  simp only [b0, Bool.not_eq_true', decide_eq_false_iff_not]
  intro q; omega
 ·have e3 := of_decide_eq_false e3
  simp only [Bool.not_eq_false', decide_eq_true_eq] at e
  simp only [Bool.or_eq_false_iff, decide_eq_false_iff_not] at e2
  rw [Bool.eq_iff_iff]; simp only [b0, Bool.not_eq_true', decide_eq_false_iff_not, decide_eq_true_eq]
  constructor
  ·intro q; by_cases h1 : g.regs > 256
   ·exact h1
   ·exact absurd ⟨e, by omega, by omega⟩ q
  ·intro q; intro h1; omega
 ·simp only [b0, Bool.not_eq_true', decide_eq_false_iff_not] at e
  rw [not_ok fun q => e ⟨q.1, q.2.1, q.2.2.1⟩]
 ·simp only [b0, Bool.not_eq_false', decide_eq_true_eq] at e
  obtain ⟨a1, a2, a3⟩ := e
  have p1 := pw_lt a1
  have m1 : g.page * g.pages ≤ 4096 * 64 := Int.mul_le_mul p1.2 a2.2 (by omega) (by omega)
  have m0 : 0 ≤ g.page * g.pages := Int.mul_nonneg (by omega) (by omega)
  have m2 : g.page * g.pages * g.regs ≤ 4096 * 64 * 256 := Int.mul_le_mul m1 a3.2 (by omega) (by omega)
  have m3 : 0 ≤ g.page * g.pages * g.regs := Int.mul_nonneg m0 (by omega)
  refine ⟨_, power_m (by decide) p1.2 h1, fun e => ?_, fun e => ?_⟩
  ·simp only [Bool.not_eq_true', decide_eq_false_iff_not] at e
   rw [not_ok fun q => e q.2.2.2.1]
   exact ⟨rfl, x1⟩
  ·simp only [Bool.not_eq_false', decide_eq_true_eq] at e
   have p3 := pw_lt e
   have hmax : 0 ≤ (if g.al > 32 then g.al else 32) ∧ (if g.al > 32 then g.al else 32) ≤ 4096 := by split <;> omega
   rw [w64 (x := g.page * g.pages) (by omega) (by omega), w64 (x := g.page * g.pages * g.regs) (by omega) (by omega), w64 (x := (if g.al > 32 then g.al else 32) + 24) (by omega) (by omega), w64 (x := (if g.al > 32 then g.al else 32) + 24 + 24) (by omega) (by omega)]
   refine ⟨fun c => ?_, fun c => ?_⟩
   ·simp only [Bool.or_eq_true, decide_eq_true_eq] at c
    rw [not_ok fun ⟨_, _, _, _, q1, q2, q3⟩ => by split at c <;> omega]
    exact ⟨rfl, x1⟩
   ·simp only [Bool.or_eq_false_iff, decide_eq_false_iff_not] at c
    rw [if_pos ⟨a1, a2, a3, e, by omega, by omega, by split at c <;> omega⟩]
    exact ⟨rfl, x1⟩
theorem check_r (g : Geo) (h : Heap) : HC Tryd.prog 16 #[g.v] h fun v h' => v = .int .i64 (if Gok g then 0 else 20) ∧ Ext h h' := by
 let P : Prop := pw g.page 16 4096 ∧ (1 ≤ g.pages ∧ g.pages ≤ 64) ∧ (2 ≤ g.regs ∧ g.regs ≤ 256) ∧ pw g.al 1 g.page
 have dP : Decidable P := by unfold P; infer_instance
 let b0 : Bool := !decide P
 have no : ¬ P → true = b0 := fun q => by simp [b0, q]
 refine f16_sh _ _ _ _ _ _ ⟨b0, fun _ h1 _ _ x1 => ⟨_, power_r (by decide) (by decide) h1, fun e => ?_, fun e => ⟨fun e2 => ?_, fun e2 => ⟨fun e3 => ?_, fun e3 => ⟨fun e4 => ?_, fun e4 => ⟨fun e5 => ?_, fun e5 => ?_⟩⟩⟩⟩⟩, fun e h1 x1 => ⟨?_, x1⟩, fun e => ?_⟩
 ·simp only [Bool.not_eq_true', decide_eq_false_iff_not] at e; exact (no fun q => e q.1).symm
 ·have := of_decide_eq_true e2; exact (no fun q => by have := q.2.1; omega).symm
 ·have := of_decide_eq_true e3; exact (no fun q => by have := q.2.1; omega).symm
 ·have := of_decide_eq_true e4; exact (no fun q => by have := q.2.2.1; omega).symm
 ·have := of_decide_eq_true e5; exact (no fun q => by have := q.2.2.1; omega).symm
 ·simp only [Bool.not_eq_false', decide_eq_true_eq] at e
  refine ⟨_, power_r (by decide) (pw_lt e).2 h1, ?_⟩
  have := of_decide_eq_false e2
  have := of_decide_eq_false e3
  have := of_decide_eq_false e4
  have := of_decide_eq_false e5
  simp only [b0]
  congr 1
  rw [Bool.eq_iff_iff]; simp only [decide_eq_true_eq]
  exact ⟨fun q => q.2.2.2, fun q => ⟨e, by omega, by omega, q⟩⟩
 ·simp only [b0, Bool.not_eq_true', decide_eq_false_iff_not] at e
  rw [not_ok fun q => e ⟨q.1, q.2.1, q.2.2.1, q.2.2.2.1⟩]
 ·simp only [b0, Bool.not_eq_false', decide_eq_true_eq] at e
  obtain ⟨a1, a2, a3, a4⟩ := e
  have p1 := pw_lt a1
  have p3 := pw_lt a4
  have m1 : g.page * g.pages ≤ 4096 * 64 := Int.mul_le_mul p1.2 a2.2 (by omega) (by omega)
  have m0 : 0 ≤ g.page * g.pages := Int.mul_nonneg (by omega) (by omega)
  have m2 : g.page * g.pages * g.regs ≤ 4096 * 64 * 256 := Int.mul_le_mul m1 a3.2 (by omega) (by omega)
  have m3 : 0 ≤ g.page * g.pages * g.regs := Int.mul_nonneg m0 (by omega)
  rw [w64 (x := g.page * g.pages) (by omega) (by omega), w64 (x := g.page * g.pages * g.regs) (by omega) (by omega), w64 (x := g.page * g.pages - 48) (by omega) (by omega)]
  refine ⟨fun c h1 x1 => ?_, fun c h1 x1 => ?_⟩
  ·simp only [Bool.or_eq_true, decide_eq_true_eq] at c
   rw [not_ok fun ⟨_, _, _, _, q1, q2, q3⟩ => by omega]
   exact ⟨rfl, x1⟩
  ·simp only [Bool.or_eq_false_iff, decide_eq_false_iff_not] at c
   rw [if_pos ⟨a1, a2, a3, a4, by omega, by omega, by omega⟩]
   exact ⟨rfl, x1⟩
theorem ok_bounds {g : Geo} (h : Gok g) : 128 ≤ g.sz ∧ g.sz ≤ 262144 ∧ 256 ≤ g.dev ∧ g.dev ≤ 1048576 ∧ 1 ≤ g.al ∧ g.al ≤ 4096 ∧ g.al + 48 ≤ g.sz ∧ 16 ≤ g.page ∧ g.page ≤ 4096 ∧ g.dev = g.sz * g.regs := by
 obtain ⟨a1, a2, a3, a4, a5, a6, a7⟩ := h
 have p1 := pw_lt a1
 have p3 := pw_lt a4
 have m1 : g.page * g.pages ≤ 4096 * 64 := Int.mul_le_mul p1.2 a2.2 (by omega) (by omega)
 have m2 : 128 * 2 ≤ g.page * g.pages * g.regs := Int.mul_le_mul a5 a3.1 (by omega) (by omega)
 exact ⟨a5, by unfold Geo.sz; omega, by unfold Geo.dev; omega, a6, p3.1, p3.2, a7, a1.2.1, p1.2, rfl⟩
theorem bytes_m (g : Geo) (h : Heap) : HC Tryd.prog 31 #[g.v] h fun v h' => v = (if Gok g then .tuple #[.int .i64 g.sz, .int .i64 g.dev, .int .i64 0] else .tuple #[.int .i64 0, .int .i64 0, .int .i64 20]) ∧ Ext h h' := by
 refine f31_sh _ _ _ _ _ _ fun _ h1 _ _ x1 => (check_m g h1).mono ?_
 rintro _ h2 ⟨rfl, x2⟩
 by_cases hg : Gok g
 ·have b := ok_bounds hg
  rw [if_pos hg, if_pos hg]
  have e1 : g.page * g.pages = g.sz := rfl
  have e2 : g.sz * g.regs = g.dev := rfl
  exact ⟨x2, _, rfl, fun e => by simp at e, fun _ => ⟨by rw [e1, w64 (x := g.sz) (by omega) (by omega), e2, w64 (x := g.dev) (by omega) (by omega)], x1.trans x2⟩⟩
 ·rw [if_neg hg, if_neg hg]
  exact ⟨x2, _, rfl, fun _ => ⟨rfl, x1.trans x2⟩, fun e => by simp at e⟩
theorem region_r {g : Geo} (hg : Gok g) (h : Heap) : HC Tryd.prog 45 #[g.v] h fun v h' => v = .int .i64 g.sz ∧ Ext h h' := by
 have b := ok_bounds hg
 exact f45_sh _ _ _ _ _ _ fun h1 x1 => ⟨by rw [w64 (x := g.page * g.pages) (by show -_ ≤ g.sz; omega) (by show g.sz ≤ _; omega)]; rfl, x1⟩
theorem device_r {g : Geo} (hg : Gok g) (h : Heap) : HC Tryd.prog 50 #[g.v] h fun v h' => v = .int .i64 g.dev ∧ Ext h h' := by
 have b := ok_bounds hg
 refine f50_sh _ _ _ _ _ _ fun h1 x1 => ⟨?_, x1⟩
 have e1 : g.page * g.pages = g.sz := rfl
 have e2 : g.sz * g.regs = g.dev := rfl
 rw [e1, w64 (x := g.sz) (by omega) (by omega), e2, w64 (x := g.dev) (by omega) (by omega)]
end Sc
end Go.Proofs.YthjehlocmikchaaDoor
namespace Go.Proofs.YthjehlocmikchaaDoor
namespace Sc
open Go
def upTo (n al : Int) : Int := (n + al - 1) / al * al
theorem p2_pow {x : Int} (h : x ∈ p2) : ∃ k : Nat, k ≤ 12 ∧ x = ((2 ^ k : Nat) : Int) := by
 simp only [p2, List.mem_cons, List.not_mem_nil, or_false] at h
 rcases h with h | h | h | h | h | h | h | h | h | h | h | h | h <;> subst h
 ·exact ⟨0, by decide, rfl⟩
 ·exact ⟨1, by decide, rfl⟩
 ·exact ⟨2, by decide, rfl⟩
 ·exact ⟨3, by decide, rfl⟩
 ·exact ⟨4, by decide, rfl⟩
 ·exact ⟨5, by decide, rfl⟩
 ·exact ⟨6, by decide, rfl⟩
 ·exact ⟨7, by decide, rfl⟩
 ·exact ⟨8, by decide, rfl⟩
 ·exact ⟨9, by decide, rfl⟩
 ·exact ⟨10, by decide, rfl⟩
 ·exact ⟨11, by decide, rfl⟩
 ·exact ⟨12, by decide, rfl⟩
theorem andNot_pow (a k : Nat) (ha : a < 2 ^ 64) (hk : k < 64) : a &&& (2 ^ 64 - 1 - (2 ^ k - 1)) = a / 2 ^ k * 2 ^ k := by
 have hp : 0 < 2 ^ k := Nat.two_pow_pos k
 have hl : 2 ^ k < 2 ^ 64 := Nat.pow_lt_pow_right (by decide) hk
 apply Nat.eq_of_testBit_eq; intro i
 have e : 2 ^ 64 - 1 - (2 ^ k - 1) = 2 ^ 64 - ((2 ^ k - 1) + 1) := by omega
 rw [Nat.testBit_and, e, Nat.testBit_two_pow_sub_succ (by omega), Nat.testBit_two_pow_sub_one, Nat.testBit_mul_two_pow, Nat.testBit_div_two_pow]
 by_cases h1 : k ≤ i
 ·have h2 : ¬ i < k := by omega
  simp only [h1, h2, decide_true, decide_false, Bool.not_false, Bool.and_true, Bool.true_and, ge_iff_le]
  rw [show i - k + k = i by omega]
  by_cases h3 : i < 64
  ·simp [h3]
  ·have : a.testBit i = false := Nat.testBit_lt_two_pow (Nat.lt_of_lt_of_le ha (Nat.pow_le_pow_right (by decide) (by omega)))
   rw [this]; simp
 ·have h2 : i < k := by omega
  simp [h1, h2]
theorem up_bits {n al : Int} (h0 : 0 ≤ n) (h1 : n ≤ 4398046511104) (ha : al ∈ p2) : ibandNot .i64 (IntKind.i64.wrap (IntKind.i64.wrap (n + al) - 1)) (IntKind.i64.wrap (al - 1)) = upTo n al := by
 obtain ⟨k, hk, rfl⟩ := p2_pow ha
 have hp : 0 < 2 ^ k := Nat.two_pow_pos k
 have hl : 2 ^ k ≤ 4096 := Nat.pow_le_pow_right (n := 2) (by decide) hk
 generalize hK : 2 ^ k = K at *
 rw [w64 (x := n + (K : Int)) (by omega) (by omega), w64 (x := n + (K : Int) - 1) (by omega) (by omega), w64 (x := (K : Int) - 1) (by omega) (by omega)]
 obtain ⟨m, rfl⟩ : ∃ m : Nat, n = m := ⟨n.toNat, by omega⟩
 have e1 : (BitVec.ofInt 64 ((m : Int) + K - 1)).toNat = m + K - 1 := by rw [bv64 (by omega) (by omega)]; omega
 have e2 : (BitVec.ofInt 64 ((K : Int) - 1)).toNat = K - 1 := by rw [bv64 (by omega) (by omega)]; omega
 have key : (BitVec.ofInt 64 ((m : Int) + K - 1) &&& ~~~ BitVec.ofInt 64 ((K : Int) - 1)).toNat = (m + K - 1) / K * K := by
  rw [BitVec.toNat_and, BitVec.toNat_not, e1, e2, ← hK]
  exact andNot_pow _ k (by rw [hK]; omega) (by omega)
 unfold ibandNot
 show IntKind.i64.wrap ((BitVec.ofInt 64 ((m : Int) + K - 1) &&& ~~~ BitVec.ofInt 64 ((K : Int) - 1)).toNat : Int) = _
 rw [key]
 have hle : (m + K - 1) / K * K ≤ m + K - 1 := Nat.div_mul_le_self _ _
 rw [w64 (by omega) (by omega)]
 unfold upTo
 have e3 : (m : Int) + (K : Int) - 1 = ((m + K - 1 : Nat) : Int) := by omega
 rw [e3]
 simp
theorem up_m {n al : Int} (h0 : 0 ≤ n) (h1 : n ≤ 4398046511104) (ha : al ∈ p2) (h : Heap) : HC Tryd.prog 63 #[.int .i64 n, .int .i64 al] h fun v h' => v = .int .i64 (upTo n al) ∧ h' = h :=
 f63_sh _ _ _ _ ⟨by rw [up_bits h0 h1 ha], rfl⟩
def upE (g : Geo) (n : Int) : Value := if Gok g then (if n < 0 ∨ n > g.dev then .tuple #[.int .i64 0, .int .i64 23] else .tuple #[.int .i64 (upTo n g.al), .int .i64 0]) else .tuple #[.int .i64 0, .int .i64 20]
theorem Up_m (g : Geo) (n : Int) (h : Heap) : HC Tryd.prog 33 #[g.v, .int .i64 n] h fun v h' => v = upE g n ∧ Ext h h' := by
 refine f33_sh _ _ _ _ _ _ _ fun _ h1 _ _ x1 => (bytes_m g h1).mono ?_
 rintro _ h2 ⟨rfl, x2⟩
 unfold upE
 by_cases hg : Gok g
 ·have b := ok_bounds hg
  rw [if_pos hg, if_pos hg]
  refine ⟨x2, _, _, _, rfl, fun e => by simp at e, fun _ => ⟨fun e => ?_, fun e => ?_⟩⟩
  ·simp only [Bool.or_eq_true, decide_eq_true_eq] at e
   rw [if_pos (by omega)]; exact ⟨rfl, x1.trans x2⟩
  ·simp only [Bool.or_eq_false_iff, decide_eq_false_iff_not] at e
   rw [if_neg (by omega)]
   exact ⟨_, up_m (by omega) (by omega) hg.2.2.2.1.1 h2, rfl, x1.trans x2⟩
 ·rw [if_neg hg, if_neg hg]
  exact ⟨x2, _, _, _, rfl, fun _ => ⟨rfl, x1.trans x2⟩, fun e => by simp at e⟩
theorem upTo_ge {n al : Int} (ha : 1 ≤ al) : n ≤ upTo n al ∧ upTo n al < n + al ∧ upTo n al % al = 0 := by
 unfold upTo
 have h1 := Int.emod_add_mul_ediv (n + al - 1) al
 have h2 := Int.emod_nonneg (n + al - 1) (show al ≠ 0 by omega)
 have h3 := Int.emod_lt_of_pos (n + al - 1) (show 0 < al by omega)
 have h4 : (n + al - 1) / al * al = al * ((n + al - 1) / al) := Int.mul_comm _ _
 exact ⟨by omega, by omega, Int.mul_emod_left _ _⟩
theorem upTo_first {n al m : Int} (ha : 1 ≤ al) (h1 : n ≤ m) (h2 : m ≤ upTo n al) (h3 : m % al = 0) : m = upTo n al := by
 obtain ⟨a, b, c⟩ := upTo_ge (n := n) ha
 obtain ⟨q, hq⟩ := Int.dvd_of_emod_eq_zero h3
 obtain ⟨r, hr⟩ := Int.dvd_of_emod_eq_zero c
 by_cases e : q = r
 ·rw [hq, hr, e]
 ·have h4 : q < r := by
   have : al * q ≤ al * r := by omega
   have := Int.le_of_mul_le_mul_left this (by omega)
   omega
  have : al * (q + 1) ≤ al * r := Int.mul_le_mul_of_nonneg_left (by omega) (by omega)
  rw [Int.mul_add] at this
  omega
theorem Up_r (g : Geo) (n : Int) (h : Heap) : HC Tryd.prog 38 #[g.v, .int .i64 n] h fun v h' => v = upE g n ∧ Ext h h' := by
 refine f38_sh _ _ _ _ _ _ _ fun _ h1 _ _ x1 => (check_r g h1).mono ?_
 rintro _ h2 ⟨rfl, x2⟩
 unfold upE
 by_cases hg : Gok g
 ·have b := ok_bounds hg
  rw [if_pos hg, if_pos hg]
  refine ⟨x2, _, rfl, fun e => by simp at e, fun _ => ⟨fun j h3 => Ext h2 h3 ∧ j = decide (n < 0 ∨ n > g.dev), ⟨fun e => ?_, fun e => ?_⟩, ?_⟩⟩
  ·have := of_decide_eq_true e
   exact ⟨Ext.refl _, by simp [this]⟩
  ·have := of_decide_eq_false e
   refine (device_r hg h2).mono ?_
   rintro _ h4 ⟨rfl, x4⟩
   exact ⟨x4, _, rfl, x4, by simp [this]⟩
  ·rintro j h3 ⟨x3, rfl⟩
   have xx := x1.trans (x2.trans x3)
   refine ⟨fun e => ?_, fun e => ?_⟩
   ·rw [if_pos (of_decide_eq_true e)]; exact ⟨rfl, xx⟩
   ·have hn := of_decide_eq_false e
    rw [if_neg hn]
    obtain ⟨a, b1, _⟩ := upTo_ge (n := n) (al := g.al) (by omega)
    refine ⟨fun m => n ≤ m ∧ m ≤ upTo n g.al, fun m => (upTo n g.al - m).toNat, ⟨Int.le_refl _, a⟩, ?_⟩
    rintro m ⟨m1, m2⟩
    have ht : Int.tmod m g.al = m % g.al := Int.tmod_eq_emod_of_nonneg (by omega)
    rw [ht]
    refine ⟨by omega, fun e => ?_, fun e => ?_⟩
    ·have hne : m ≠ upTo n g.al := fun q => by
      have := (upTo_ge (n := n) (al := g.al) (by omega)).2.2
      rw [← q] at this; rw [this] at e; simp at e
     rw [w64 (by omega) (by omega)]
     exact ⟨⟨by omega, by omega⟩, by show (upTo n g.al - (m + 1)).toNat < (upTo n g.al - m).toNat; omega⟩
    ·have h3 : m % g.al = 0 := by simpa using e
     rw [upTo_first (by omega) m1 m2 h3]; exact ⟨rfl, xx⟩
 ·rw [if_neg hg, if_neg hg]
  exact ⟨x2, _, rfl, fun _ => ⟨rfl, x1.trans x2⟩, fun e => by simp at e⟩
end Sc
end Go.Proofs.YthjehlocmikchaaDoor
namespace Go.Proofs.YthjehlocmikchaaDoor
namespace Sc
open Go
def U32 (x : Int) : Prop := 0 ≤ x ∧ x < 4294967296
theorem wrap32 (x : Int) : U32 (IntKind.u32.wrap x) := by
 unfold U32 IntKind.wrap
 simp only [IntKind.bits, IntKind.signed]
 constructor
 ·simp; omega
 ·simp; omega
theorem wu32 {x : Int} (h : U32 x) : IntKind.u32.wrap x = x := by
 unfold U32 at h
 unfold IntKind.wrap
 simp [IntKind.bits, IntKind.signed]; omega
theorem xor32 (a b : Int) : U32 (ibxor .u32 a b) := wrap32 _
theorem bv32 {n : Int} (h : U32 n) : (BitVec.ofInt 32 n).toNat = n.toNat := by
 obtain ⟨h0, h1⟩ := h
 rw [BitVec.toNat_ofInt]
 have : n % ((2 : Nat) ^ 32 : Nat) = n := Int.emod_eq_of_lt h0 (by omega)
 rw [this]
theorem xor_val {a b : Int} (ha : U32 a) (hb : U32 b) : ibxor .u32 a b = ((a.toNat ^^^ b.toNat : Nat) : Int) := by
 unfold ibxor
 show IntKind.u32.wrap ((BitVec.ofInt 32 a ^^^ BitVec.ofInt 32 b).toNat : Int) = _
 have hl : (BitVec.ofInt 32 a ^^^ BitVec.ofInt 32 b).toNat < 2 ^ 32 := (BitVec.ofInt 32 a ^^^ BitVec.ofInt 32 b).isLt
 rw [wu32 ⟨by omega, by omega⟩, BitVec.toNat_xor, bv32 ha, bv32 hb]
theorem not_not {x : Int} (h : U32 x) : ibxor .u32 4294967295 (ibxor .u32 4294967295 x) = x := by
 have hm : U32 4294967295 := ⟨by decide, by decide⟩
 rw [xor_val hm (xor32 _ _), xor_val hm h, Int.toNat_natCast, ← Nat.xor_assoc, Nat.xor_self, Nat.zero_xor]
 have := h.1; omega
theorem and_one {x : Int} (h : U32 x) : iband .u32 x 1 = x % 2 := by
 unfold iband
 show IntKind.u32.wrap ((BitVec.ofInt 32 x &&& BitVec.ofInt 32 1).toNat : Int) = _
 rw [BitVec.toNat_and, bv32 h, bv32 ⟨by decide, by decide⟩, show (1 : Int).toNat = 1 from rfl, Nat.and_one_is_mod]
 have := h.1
 rw [wu32 ⟨by omega, by omega⟩]
 omega
def stp (x : Int) : Int := bif (x % 2) == 1 then ibxor .u32 (x / 2) 2197175160 else x / 2
theorem stp32 {x : Int} (h : U32 x) : U32 (stp x) := by
 unfold stp
 cases (x % 2 == 1)
 ·have := h.1; have := h.2; exact ⟨by simp; omega, by simp; omega⟩
 ·exact xor32 _ _
def stpN : Nat → Int → Int
 | 0, x => x
 | n + 1, x => stp (stpN n x)
theorem stpN32 {x : Int} (h : U32 x) : ∀ n, U32 (stpN n x)
 | 0 => h
 | n + 1 => stp32 (stpN32 h n)
theorem shifted_m {x : Int} (hx : U32 x) (n : Nat) (hn : n ≤ 1000000) (h : Heap) : HC Tryd.prog 106 #[.int .u32 x, .int .i64 n] h fun v h' => v = .int .u32 (stpN n x) ∧ h' = h := by
 refine f106_sh _ _ _ _ ⟨fun y v => ∃ k : Nat, v = k ∧ k ≤ n ∧ y = stpN k x, fun _ v => n - v.toNat, ⟨0, rfl, Nat.zero_le _, rfl⟩, ?_⟩
 rintro _ _ ⟨k, rfl, hk, rfl⟩
 refine ⟨fun hlt y hy => ?_, fun hge => ?_⟩
 ·have hkn := lt_of_dec hlt
  rw [wadd k (by omega)]
  refine ⟨⟨k + 1, rfl, hkn, ?_⟩, by simp only [Int.toNat_natCast]; omega⟩
  rw [hy, and_one (stpN32 hx k)]
  have : Int.fdiv (stpN k x) (2 ^ min (Int.toNat 1) 32) = stpN k x / 2 := Int.fdiv_eq_ediv_of_nonneg _ (by decide)
  rw [this]; rfl
 ·have : k = n := by have := ge_of_dec hge; omega
  subst this; exact ⟨rfl, rfl⟩
def crcG (s : Int) (L : List Int) : Int := L.foldl (fun x b => stpN 8 (ibxor .u32 x b)) s
def crc (s : Int) (L : List Int) : Int := ibxor .u32 4294967295 (crcG (ibxor .u32 4294967295 s) L)
theorem crcG32 {s : Int} (h : U32 s) (L : List Int) : U32 (crcG s L) := by
 induction L generalizing s with
 | nil => exact h
 | cons b L ih => exact ih (stpN32 (xor32 _ _) 8)
theorem crc32 (s : Int) (L : List Int) : U32 (crc s L) := xor32 _ _
theorem crc_app (s : Int) (A B : List Int) : crc (crc s A) B = crc s (A ++ B) := by
 unfold crc
 rw [not_not (crcG32 (xor32 _ _) A)]
 unfold crcG
 rw [List.foldl_append]
theorem crcG_take {s : Int} {L : List Int} {k : Nat} (h : k < L.length) : crcG s (L.take (k + 1)) = stpN 8 (ibxor .u32 (crcG s (L.take k)) L[k]) := by
 unfold crcG
 rw [List.take_add_one, List.getElem?_eq_getElem h, List.foldl_append]; rfl
section
variable {h : Heap} {a : Option Addr} {c : Nat} {L : List Int}
theorem isB_at (hb : isB L) {k : Nat} (hk : k < L.length) : 0 ≤ L[k] ∧ L[k] < 256 := hb _ (List.getElem_mem hk)
theorem ext_m (s : Sl eB h a c L) (hb : isB L) (hl : L.length ≤ 1099511627776) (x : Int) : HC Tryd.prog 87 #[.int .u32 x, .slice a L.length c] h fun v h' => v = .int .u32 (crc x L) ∧ h' = h := by
 refine f87_sh _ _ _ _ _ _ ⟨fun y v => ∃ k : Nat, v = k ∧ k ≤ L.length ∧ y = crcG (ibxor .u32 4294967295 x) (L.take k), fun _ v => L.length - v.toNat, ⟨0, rfl, Nat.zero_le _, rfl⟩, ?_⟩
 rintro _ _ ⟨k, rfl, hk, rfl⟩
 refine ⟨fun hlt => ?_, fun hge => ?_⟩
 ·have hkl := lt_of_dec hlt
  obtain ⟨b, o, e, d⟩ := s.at (List.getElem?_eq_getElem hkl)
  have hB := isB_at hb hkl
  refine ⟨b, o, e, by omega, by omega, _, d.1, _, shifted_m (xor32 _ _) 8 (by decide) h, ?_⟩
  rw [wadd k (by omega), wu32 ⟨hB.1, by omega⟩]
  exact ⟨⟨k + 1, rfl, hkl, (crcG_take hkl).symm⟩, by simp only [Int.toNat_natCast]; omega⟩
 ·have hkl : k = L.length := by have := ge_of_dec hge; omega
  rw [hkl, List.take_length]; exact ⟨rfl, rfl⟩
theorem crc_m (s : Sl eB h a c L) (hb : isB L) (hl : L.length ≤ 1099511627776) : HC Tryd.prog 68 #[.slice a L.length c] h fun v h' => v = .int .u32 (crc 0 L) ∧ h' = h :=
 f68_sh _ _ _ _ _ ⟨_, ext_m s hb hl 0, rfl, rfl⟩
theorem ext_r (s : Sl eB h a c L) (hb : isB L) (hl : L.length ≤ 1099511627776) (x : Int) : HC Tryd.prog 72 #[.int .u32 x, .slice a L.length c] h fun v h' => v = .int .u32 (crc x L) ∧ h' = h := by
 refine f72_sh _ _ _ _ _ _ ⟨fun y v => ∃ k : Nat, v = k ∧ k ≤ L.length ∧ y = crcG (ibxor .u32 4294967295 x) (L.take k), fun _ v => L.length - v.toNat, ⟨0, rfl, Nat.zero_le _, rfl⟩, ?_⟩
 rintro _ _ ⟨k, rfl, hk, rfl⟩
 refine ⟨fun hlt => ?_, fun hge => ?_⟩
 ·have hkl := lt_of_dec hlt
  obtain ⟨b, o, e, d⟩ := s.at (List.getElem?_eq_getElem hkl)
  have hB := isB_at hb hkl
  refine ⟨b, o, e, by omega, by omega, _, d.1, ?_⟩
  rw [wu32 ⟨hB.1, by omega⟩]
  refine ⟨fun y v => ∃ j : Nat, v = j ∧ j ≤ 8 ∧ y = stpN j (ibxor .u32 (crcG (ibxor .u32 4294967295 x) (L.take k)) L[k]), fun _ v => 8 - v.toNat, ⟨0, rfl, Nat.zero_le _, rfl⟩, ?_⟩
  rintro _ _ ⟨j, rfl, hj, rfl⟩
  refine ⟨fun hlt2 y hy => ?_, fun hge2 => ?_⟩
  ·have hj8 : j < 8 := by have := of_decide_eq_true hlt2; omega
   rw [wadd j (by omega)]
   refine ⟨⟨j + 1, rfl, hj8, ?_⟩, by simp only [Int.toNat_natCast]; omega⟩
   rw [show stpN (j + 1) (ibxor .u32 (crcG (ibxor .u32 4294967295 x) (L.take k)) L[k]) = stp (stpN j (ibxor .u32 (crcG (ibxor .u32 4294967295 x) (L.take k)) L[k])) from rfl]
   have hu := stpN32 (xor32 (crcG (ibxor .u32 4294967295 x) (L.take k)) L[k]) j
   generalize stpN j (ibxor .u32 (crcG (ibxor .u32 4294967295 x) (L.take k)) L[k]) = z at *
   have h0 := hu.1
   have h1 := hu.2
   rw [hy, Int.tmod_eq_emod_of_nonneg h0, Int.tdiv_eq_ediv_of_nonneg h0, wu32 ⟨by omega, by omega⟩]; rfl
  ·have hj8 : j = 8 := by have := of_decide_eq_false hge2; omega
   subst hj8
   rw [wadd k (by omega)]
   exact ⟨⟨k + 1, rfl, hkl, (crcG_take hkl).symm⟩, by simp only [Int.toNat_natCast]; omega⟩
 ·have hkl : k = L.length := by have := ge_of_dec hge; omega
  rw [hkl, List.take_length]; exact ⟨rfl, rfl⟩
theorem crc_r (s : Sl eB h a c L) (hb : isB L) (hl : L.length ≤ 1099511627776) : HC Tryd.prog 44 #[.slice a L.length c] h fun v h' => v = .int .u32 (crc 0 L) ∧ h' = h :=
 f44_sh _ _ _ _ _ ⟨_, ext_r s hb hl 0, rfl, rfl⟩
end
def le : List Int → Int
 | [] => 0
 | b :: L => b + 256 * le L
theorem le_nonneg {L : List Int} (hb : isB L) : 0 ≤ le L ∧ le L < 256 ^ L.length := by
 induction L with
 | nil => exact ⟨Int.le_refl _, by decide⟩
 | cons b L ih =>
  obtain ⟨h0, h1⟩ := ih fun x hx => hb x (List.mem_cons_of_mem _ hx)
  have := hb b (by simp)
  simp only [le, List.length_cons]
  rw [Int.pow_succ]
  omega
theorem le_app (A B : List Int) : le (A ++ B) = le A + 256 ^ A.length * le B := by
 induction A with
 | nil => simp [le]
 | cons a A ih =>
  simp only [List.cons_append, le, ih, List.length_cons]
  rw [Int.pow_succ, Int.mul_add, ← Int.mul_assoc, Int.add_assoc, Int.mul_comm 256 (256 ^ A.length)]
theorem le_take {L : List Int} {k : Nat} (hk : k < L.length) : le (L.take (k + 1)) = le (L.take k) + 256 ^ k * L[k] := by
 rw [List.take_add_one, List.getElem?_eq_getElem hk, le_app]
 rw [List.length_take, Nat.min_eq_left (by omega)]
 simp [le]
theorem isB_take {L : List Int} (hb : isB L) (k : Nat) : isB (L.take k) := fun x hx => hb x (List.mem_of_mem_take hx)
theorem isB_drop {L : List Int} (hb : isB L) (k : Nat) : isB (L.drop k) := fun x hx => hb x (List.mem_of_mem_drop hx)
theorem isB_app {A B : List Int} (ha : isB A) (hb : isB B) : isB (A ++ B) := fun x hx => (List.mem_append.1 hx).elim (ha x) (hb x)
theorem pow256 (k : Nat) : (256 : Int) ^ k = ((2 ^ (8 * k) : Nat) : Int) := by
 rw [Nat.pow_mul]; simp
theorem or_add {n b : Int} {k : Nat} (hk : k < 8) (h0 : 0 ≤ n) (h1 : n < 256 ^ k) (hb : 0 ≤ b ∧ b < 256) : ibor .u64 n (b * 2 ^ (8 * k)) = n + 256 ^ k * b := by
 rw [pow256] at h1 ⊢
 have hp : 0 < 2 ^ (8 * k) := Nat.two_pow_pos _
 have hle : 2 ^ (8 * k) ≤ 2 ^ 56 := Nat.pow_le_pow_right (by decide) (by omega)
 generalize hK : 2 ^ (8 * k) = K at *
 have e0 : (2 : Int) ^ (8 * k) = (K : Int) := by rw [← hK]; simp
 rw [e0]
 obtain ⟨m, rfl⟩ : ∃ m : Nat, n = m := ⟨n.toNat, by omega⟩
 obtain ⟨c, rfl⟩ : ∃ c : Nat, b = c := ⟨b.toNat, by omega⟩
 have hc : c < 256 := by omega
 have hm : m < K := by omega
 have hck : c * K ≤ 255 * K := Nat.mul_le_mul_right _ (by omega)
 have e1 : (c : Int) * (K : Int) = ((c * K : Nat) : Int) := by simp
 rw [e1]
 unfold ibor
 show IntKind.u64.wrap ((BitVec.ofInt 64 (m : Int) ||| BitVec.ofInt 64 ((c * K : Nat) : Int)).toNat : Int) = _
 have e2 : (m ||| c * K) = c * K + m := by
  rw [Nat.or_comm, Nat.mul_comm c K, ← hK, ← Nat.two_pow_add_eq_or_of_lt (by rw [hK]; exact hm)]
 rw [BitVec.toNat_or, bv64 (by omega) (by omega), bv64 (by omega) (by omega), Int.toNat_natCast, Int.toNat_natCast, e2]
 rw [wu64 (by omega) (by omega)]
 have e3 : (K : Int) * (c : Int) = ((c * K : Nat) : Int) := by rw [Int.mul_comm]; simp
 rw [e3]; omega
section
variable {h : Heap} {a : Option Addr} {c : Nat} {L : List Int}
theorem number_m (s : Sl eB h a c L) (hb : isB L) (hl : L.length ≤ 8) : HC Tryd.prog 60 #[.slice a L.length c] h fun v h' => v = .int .u64 (le L) ∧ h' = h := by
 refine f60_sh _ _ _ _ _ ⟨fun y v => ∃ k : Nat, v = k ∧ k ≤ L.length ∧ y = le (L.take k), fun _ v => L.length - v.toNat, ⟨0, rfl, Nat.zero_le _, rfl⟩, ?_⟩
 rintro _ _ ⟨k, rfl, hk, rfl⟩
 refine ⟨fun hlt => ?_, fun hge => ?_⟩
 ·have hkl := lt_of_dec hlt
  obtain ⟨b, o, e, d⟩ := s.at (List.getElem?_eq_getElem hkl)
  have hB := isB_at hb hkl
  have e8 : IntKind.i64.wrap (8 * (k : Int)) = ((8 * k : Nat) : Int) := by rw [w64 (by omega) (by omega)]; simp
  have hn := le_nonneg (isB_take hb k)
  rw [List.length_take, Nat.min_eq_left hk] at hn
  refine ⟨b, o, e, by omega, by omega, _, d.1, by rw [e8]; omega, ?_⟩
  rw [wadd k (by omega), e8, Int.toNat_natCast, wu64 (x := L[k]) hB.1 (by omega), Nat.min_eq_left (show 8 * k ≤ 64 by omega)]
  have hw : IntKind.u64.wrap (L[k] * 2 ^ (8 * k)) = L[k] * 2 ^ (8 * k) := by
   have hle : (2 : Nat) ^ (8 * k) ≤ 2 ^ 56 := Nat.pow_le_pow_right (by decide) (by omega)
   have e0 : (2 : Int) ^ (8 * k) = ((2 ^ (8 * k) : Nat) : Int) := by simp
   have hp : 0 < 2 ^ (8 * k) := Nat.two_pow_pos _
   rw [e0]
   generalize 2 ^ (8 * k) = K at *
   have h1 : L[k] * (K : Int) ≤ 255 * (K : Int) := Int.mul_le_mul_of_nonneg_right (by omega) (by omega)
   have h0 : 0 ≤ L[k] * (K : Int) := Int.mul_nonneg hB.1 (by omega)
   exact wu64 h0 (by omega)
  rw [hw, or_add (by omega) hn.1 hn.2 hB]
  exact ⟨⟨k + 1, rfl, hkl, (le_take hkl).symm⟩, by simp only [Int.toNat_natCast]; omega⟩
 ·have hkl : k = L.length := by have := ge_of_dec hge; omega
  rw [hkl, List.take_length]; exact ⟨rfl, rfl⟩
theorem number_r (s : Sl eB h a c L) (hb : isB L) (hl : L.length ≤ 1099511627776) (p n : Nat) (hn : n ≤ 8) (hp : p + n ≤ L.length) : HC Tryd.prog 69 #[.slice a L.length c, .int .i64 p, .int .i64 n] h fun v h' => v = .int .u64 (le ((L.drop p).take n)) ∧ h' = h := by
 refine f69_sh _ _ _ _ _ _ _ ⟨fun y v => ∃ k : Nat, v = (k : Int) - 1 ∧ k ≤ n ∧ y = le ((L.drop (p + k)).take (n - k)), fun _ v => (v + 1).toNat, ⟨n, by rw [w64 (by omega) (by omega)], Nat.le_refl _, by simp [le]⟩, ?_⟩
 rintro _ _ ⟨k, rfl, hk, rfl⟩
 refine ⟨fun hge => ?_, fun hlt => ?_⟩
 ·have hk1 : 1 ≤ k := by have := of_decide_eq_true hge; omega
  obtain ⟨j, rfl⟩ : ∃ j, k = j + 1 := ⟨k - 1, by omega⟩
  have hpl : p + j < L.length := by omega
  have e1 : IntKind.i64.wrap ((p : Int) + (((j + 1 : Nat) : Int) - 1)) = ((p + j : Nat) : Int) := by rw [w64 (by omega) (by omega)]; omega
  obtain ⟨b, o, e, d⟩ := s.at (List.getElem?_eq_getElem hpl)
  have hB := isB_at hb hpl
  have hn2 := le_nonneg (isB_take (isB_drop hb (p + (j + 1))) (n - (j + 1)))
  have hlen : ((L.drop (p + (j + 1))).take (n - (j + 1))).length = n - (j + 1) := by simp; omega
  rw [hlen] at hn2
  have hpw : (256 : Int) ^ (n - (j + 1)) ≤ 256 ^ 7 := by
   rw [pow256, pow256]
   have : 2 ^ (8 * (n - (j + 1))) ≤ 2 ^ (8 * 7) := Nat.pow_le_pow_right (by decide) (by omega)
   omega
  have h7 : (256 : Int) ^ 7 = 72057594037927936 := by decide
  rw [e1]
  refine ⟨b, o, e, by omega, by omega, L[p + j], by rw [Int.toNat_natCast]; exact d.1, ?_⟩
  have e2 : (L.drop (p + j)).take (n - j) = L[p + j] :: (L.drop (p + (j + 1))).take (n - (j + 1)) := by
   rw [List.drop_eq_getElem_cons hpl, show n - j = (n - (j + 1)) + 1 by omega, List.take_succ_cons]; rfl
  rw [wu64 (x := le ((L.drop (p + (j + 1))).take (n - (j + 1))) * 256) (by omega) (by omega), wu64 (x := L[p + j]) hB.1 (by omega), wu64 (by omega) (by omega)]
  rw [w64 (x := ((j + 1 : Nat) : Int) - 1 - 1) (by omega) (by omega)]
  refine ⟨⟨j, by omega, by omega, ?_⟩, by show (((j + 1 : Nat) : Int) - 1 - 1 + 1).toNat < (((j + 1 : Nat) : Int) - 1 + 1).toNat; omega⟩
  rw [e2]; simp only [le]; omega
 ·have hk0 : k = 0 := by have := of_decide_eq_false hlt; omega
  subst hk0
  exact ⟨by simp, rfl⟩
end
end Sc
end Go.Proofs.YthjehlocmikchaaDoor
