import Derived.Test.YthjehlocmikchaaDoorDvS1
import Derived.Test.YthjehlocmikchaaDoorDvTBb
namespace Go.Proofs.YthjehlocmikchaaDoor
namespace Sc
open Go
def tabL : List Int := [0, 1, 56, 2, 57, 49, 28, 3, 61, 58, 42, 50, 38, 29, 17, 4, 62, 47, 59, 36, 45, 43, 51, 22, 53, 39, 33, 30, 24, 18, 12, 5, 63, 55, 48, 27, 60, 41, 37, 16, 46, 35, 44, 21, 52, 32, 23, 11, 54, 26, 40, 15, 34, 20, 31, 10, 25, 14, 19, 9, 13, 8, 7, 6]
def Tab (h : Heap) : Prop := HCells h 2 0 (tabL.map (Value.int .u8))
theorem Tab.ext {h h' : Heap} (t : Tab h) (x : Ext h h') : Tab h' := HCells.mk fun _ _ hj => x.cell (HCells.get t hj)
theorem Tab.fr {h h' : Heap} {S : Nat → Prop} (t : Tab h) (f : Fr S h h') (hn : ¬ S 2) : Tab h' := HCells.fr f t hn
def lg (n : Int) : Int := (p2.idxOf n : Nat)
theorem lg_pow : ∀ k : Nat, k < 13 → lg ((2 ^ k : Nat) : Int) = k := by decide
def tzi (x : Int) : Int := Int.fdiv (IntKind.u64.wrap ((iband .u64 x (IntKind.u64.wrap (0 - x))) * 285870213051353865)) (2 ^ min (Int.toNat 58) 64)
theorem tz_tab : p2.all (fun x => decide (0 ≤ tzi x ∧ tzi x < 64) && (tabL[(tzi x).toNat]? == some (lg x)) && decide (lg x < 256 ∧ x < 18446744073709551616)) = true := by kernel_rfl
section
variable {h : Heap}
theorem tz64 {x : Int} (t : Tab h) (hx : x ∈ p2) : HC Tryd.prog 114 #[.int .u64 x] h fun v h' => v = .int .i64 (lg x) ∧ h' = h := by
 have := List.all_eq_true.1 tz_tab x hx
 simp only [Bool.and_eq_true, decide_eq_true_eq, beq_iff_eq] at this
 obtain ⟨⟨⟨h1, h2⟩, h3⟩, h4, h5⟩ := this
 refine f114_sh _ _ _ ⟨fun e => ?_, fun _ => ⟨h1, h2, lg x, ?_, ?_, rfl⟩⟩
 ·have := eq_of_beq e; subst this; exact absurd hx (by decide)
 ·show hcell h 2 (0 + (tzi x).toNat * 1) = _
  rw [Nat.mul_one]
  exact HCells.get t (by rw [List.getElem?_map, h3]; rfl)
 ·have : 0 ≤ lg x := Int.natCast_nonneg _
  rw [w64 (by omega) (by omega)]
theorem tz {x : Int} (t : Tab h) (hx : x ∈ p2) : HC Tryd.prog 104 #[.int .u64 x] h fun v h' => v = .int .i64 (lg x) ∧ h' = h :=
 f104_sh _ _ _ ⟨_, tz64 t hx, rfl, rfl⟩
theorem wrap8 {x : Int} (h : 0 ≤ x ∧ x < 256) : IntKind.u8.wrap x = x := by
 unfold IntKind.wrap
 simp [IntKind.bits, IntKind.signed]; omega
theorem lg_lt {x : Int} (hx : x ∈ p2) : 0 ≤ lg x ∧ lg x < 13 := by
 obtain ⟨k, hk, rfl⟩ := p2_pow hx
 rw [lg_pow k (by omega)]; omega
theorem log_m {x : Int} (t : Tab h) (hx : x ∈ p2) : HC Tryd.prog 103 #[.int .i64 x] h fun v h' => v = .int .u8 (lg x) ∧ h' = h := by
 have b := lg_lt hx
 have p := p2_next hx
 refine f103_sh _ _ _ ⟨_, ?_, by rw [wrap8 ⟨b.1, by omega⟩], rfl⟩
 rw [wu64 (by omega) (by omega)]
 exact tz t hx
theorem log_r {x : Int} (hx : x ∈ p2) (h : Heap) : HC Tryd.prog 42 #[.int .i64 x] h fun v h' => v = .int .u8 (lg x) ∧ h' = h := by
 obtain ⟨k, hk, rfl⟩ := p2_pow hx
 refine f42_sh _ _ _ ⟨fun n i => ∃ j : Nat, j ≤ k ∧ n = ((2 ^ (k - j) : Nat) : Int) ∧ i = j, fun _ i => k - i.toNat, ⟨0, Nat.zero_le _, rfl, rfl⟩, ?_⟩
 rintro _ _ ⟨j, hj, rfl, rfl⟩
 have hle : 2 ^ (k - j) ≤ 2 ^ 12 := Nat.pow_le_pow_right (by decide) (by omega)
 refine ⟨fun g => ?_, fun g => ?_⟩
 ·have hg := of_decide_eq_true g
  have hjk : j < k := by
   rcases Nat.lt_or_ge j k with c | c
   ·exact c
   ·have : k - j = 0 := by omega
    rw [this] at hg; simp at hg
  rw [wadd j (by omega), Int.tdiv_eq_ediv_of_nonneg (by omega)]
  have e : ((2 ^ (k - j) : Nat) : Int) / 2 = ((2 ^ (k - (j + 1)) : Nat) : Int) := by
   have : 2 ^ (k - j) = 2 ^ (k - (j + 1)) * 2 := by rw [← Nat.pow_succ]; congr 1; omega
   rw [this]; omega
  have hle2 : 2 ^ (k - (j + 1)) ≤ 2 ^ 12 := Nat.pow_le_pow_right (by decide) (by omega)
  rw [e, w64 (by omega) (by omega)]
  exact ⟨⟨j + 1, hjk, rfl, rfl⟩, by simp only [Int.toNat_natCast]; omega⟩
 ·have hg := of_decide_eq_false g
  have hjk : j = k := by
   rcases Nat.lt_or_ge j k with c | c
   ·have : 2 ^ 1 ≤ 2 ^ (k - j) := Nat.pow_le_pow_right (by decide) (by omega)
    omega
   ·omega
  subst hjk
  rw [lg_pow j (by omega), wrap8 (by omega)]; exact ⟨rfl, rfl⟩
end
def leb : Nat → Int → List Int
 | 0, _ => []
 | k + 1, n => (n % 256) :: leb k (n / 256)
theorem leb_len : ∀ (k : Nat) (n : Int), (leb k n).length = k
 | 0, _ => rfl
 | k + 1, n => by simp [leb, leb_len k]
theorem leb_isB : ∀ (k : Nat) (n : Int), isB (leb k n)
 | 0, _ => fun x hx => by cases hx
 | k + 1, n => fun x hx => by
  rcases List.mem_cons.1 hx with rfl | hx
  ·omega
  ·exact leb_isB k _ x hx
theorem leb_succ : ∀ (k : Nat) (n : Int), leb (k + 1) n = leb k n ++ [n / 256 ^ k % 256]
 | 0, n => by simp [leb]
 | k + 1, n => by
  rw [leb, leb_succ k (n / 256), leb]
  have : n / 256 / 256 ^ k = n / 256 ^ (k + 1) := by
   rw [Int.ediv_ediv_of_nonneg (by decide), Int.pow_succ, Int.mul_comm]
  rw [this]; rfl
abbrev tB : TypeId := 5
theorem aB : AppT Tryd.prog 25 tB eB.k 1 := ⟨by kernel_rfl, by kernel_rfl, by kernel_rfl, ⟨.int .u8 0, [.int .u8 0], by unfold zeroB; kernel_rfl, rfl, rfl⟩, by decide⟩
def Gr (N : Nat) (h : Heap) (a : Option Addr) (v : Value) (h' : Heap) (L' : List Int) : Prop :=
 ∃ a' c', v = .slice a' L'.length c' ∧ Fr (blkA a) h h' ∧ Sl eB h' a' c' L' ∧ OwnF eB.k tB N h' a' c' ∧ ∀ b, blkA a' b → blkA a b ∨ h.size ≤ b
section
variable {h : Heap} {a : Option Addr} {c N : Nat} {L : List Int}
theorem fdiv_pow {n : Int} (k : Nat) (hk : k ≤ 8) : Int.fdiv n (2 ^ min (8 * k) 64) = n / 256 ^ k := by
 rw [Nat.min_eq_left (by omega), pow256, show (2 : Int) ^ (8 * k) = ((2 ^ (8 * k) : Nat) : Int) by simp]
 exact Int.fdiv_eq_ediv_of_nonneg _ (Int.natCast_nonneg _)
theorem u8_mod (x : Int) : IntKind.u8.wrap x = x % 256 := by unfold IntKind.wrap; simp [IntKind.bits, IntKind.signed]
theorem push_b {x : Int} (s : Sl eB h a c L) (w : OwnF eB.k tB N h a c) (hN : N ≤ h.size) (hl : L.length ≤ 1099511627776) {nb : Nat} {h2 : Heap} (e : nb = h.size) (eh : h2 = h.push (.cells #[.int .u8 x] tB)) {K : Value → Heap → Prop}
  (hk : ∀ a' c' h', Fr (blkA a) h h' → Sl eB h' a' c' (L ++ [x]) → OwnF eB.k tB N h' a' c' → (∀ b, blkA a' b → blkA a b ∨ h.size ≤ b) → K (.slice a' (L ++ [x]).length c') h') :
  HAppend Tryd.prog 25 25 (.slice a L.length c) (.slice (some ⟨nb, 0, none⟩) 1 1) h2 K := by
 have x2 : Ext h h2 := by rw [eh]; exact Ext.push _ _
 have r2 : h2[nb]? = some (.cells (([x] : List Int).flatMap eB.enc).toArray tB (0, 0)) := by rw [eh]; exact push_new e
 refine app_fz (L2 := [x]) aB (s.ext x2) (w.ext x2) (Sl.lit (L := [x]) r2) (Nat.le_trans hN x2.size) (by simp; omega) fun a' c' h' f s' w' b' => ?_
 have hs := x2.size
 have := hk a' c' h' ((x2.fr _).trans f fun _ _ g => g) s' w' fun b g => (b' b g).imp id fun q => by omega
 simpa using this
theorem put_m (s : Sl eB h a c L) (w : OwnF eB.k tB N h a c) (hN : N ≤ h.size) (hl : L.length ≤ 1073741824) (n : Int) (k : Nat) (hk : k ≤ 8) : HC Tryd.prog 83 #[.slice a L.length c, .int .u64 n, .int .i64 k] h fun v h' => Gr N h a v h' (L ++ leb k n) := by
 refine f83_sh _ _ _ _ _ _ _ ⟨fun a1 n1 c1 v h1 => ∃ j : Nat, v = j ∧ j ≤ k ∧ n1 = (L ++ leb j n).length ∧ Fr (blkA a) h h1 ∧ Sl eB h1 a1 c1 (L ++ leb j n) ∧ OwnF eB.k tB N h1 a1 c1 ∧ ∀ b, blkA a1 b → blkA a b ∨ h.size ≤ b, fun _ _ _ v _ => k - v.toNat,
  ⟨0, rfl, Nat.zero_le _, by simp [leb], Fr.refl _ _, by simpa [leb] using s, w, fun b g => .inl g⟩, ?_⟩
 rintro a1 _ c1 _ h1 ⟨j, rfl, hj, rfl, f1, s1, w1, b1⟩
 refine ⟨fun hlt => ?_, fun hge => ?_⟩
 ·have hjk := lt_of_dec hlt
  have hs1 := f1.size
  have e8 : IntKind.i64.wrap (8 * (j : Int)) = ((8 * j : Nat) : Int) := by rw [w64 (by omega) (by omega)]; simp
  rw [e8, Int.toNat_natCast, fdiv_pow j (by omega), u8_mod]
  refine ⟨by omega, fun nb h2 e2 eh2 => push_b s1 w1 (by omega) (by simp [leb_len]; omega) e2 eh2 fun a' c' h3 f3 s3 w3 b3 => ?_⟩
  rw [List.append_assoc, ← leb_succ] at s3 ⊢
  refine ⟨_, _, _, rfl, ?_⟩
  rw [wadd j (by omega)]
  refine ⟨⟨j + 1, rfl, hjk, rfl, f1.trans f3 fun b hb g => (b1 b g).elim id fun q => by omega, s3, w3, fun b g => ?_⟩, by simp only [Int.toNat_natCast]; omega⟩
  rcases b3 b g with q | q
  ·exact b1 b q
  ·exact .inr (by omega)
 ·have hjk : j = k := by have := ge_of_dec hge; omega
  subst hjk
  exact ⟨a1, c1, rfl, f1, s1, w1, b1⟩
theorem low_r (s : Sl eB h a c L) (w : OwnF eB.k tB N h a c) (hN : N ≤ h.size) (hl : L.length ≤ 1073741824) {n : Int} (hn : 0 ≤ n ∧ n < 18446744073709551616) (k : Nat) (hk : k ≤ 8) : HC Tryd.prog 43 #[.slice a L.length c, .int .u64 n, .int .i64 k] h fun v h' => Gr N h a v h' (L ++ leb k n) := by
 refine f43_sh _ _ _ _ _ _ _ ⟨fun a1 n1 c1 x v h1 => ∃ j : Nat, v = j ∧ j ≤ k ∧ x = n / 256 ^ j ∧ n1 = (L ++ leb j n).length ∧ Fr (blkA a) h h1 ∧ Sl eB h1 a1 c1 (L ++ leb j n) ∧ OwnF eB.k tB N h1 a1 c1 ∧ ∀ b, blkA a1 b → blkA a b ∨ h.size ≤ b, fun _ _ _ _ v _ => k - v.toNat,
  ⟨0, rfl, Nat.zero_le _, by simp, by simp [leb], Fr.refl _ _, by simpa [leb] using s, w, fun b g => .inl g⟩, ?_⟩
 rintro a1 _ c1 _ _ h1 ⟨j, rfl, hj, rfl, rfl, f1, s1, w1, b1⟩
 refine ⟨fun hlt => ?_, fun hge => ?_⟩
 ·have hjk := lt_of_dec hlt
  have hs1 := f1.size
  rw [u8_mod]
  refine fun nb h2 e2 eh2 => push_b s1 w1 (by omega) (by simp [leb_len]; omega) e2 eh2 fun a' c' h3 f3 s3 w3 b3 => ?_
  rw [List.append_assoc, ← leb_succ] at s3 ⊢
  refine ⟨_, _, _, rfl, ?_⟩
  have hp : (0 : Int) < 256 ^ j := by rw [pow256]; have := Nat.two_pow_pos (8 * j); omega
  have q0 : 0 ≤ n / 256 ^ j := Int.ediv_nonneg hn.1 (by omega)
  have q1 : n / 256 ^ j ≤ n := Int.ediv_le_self _ hn.1
  have e : IntKind.u64.wrap (Int.tdiv (n / 256 ^ j) 256) = n / 256 ^ (j + 1) := by
   rw [Int.tdiv_eq_ediv_of_nonneg q0, Int.ediv_ediv_of_nonneg (by omega), show (256 : Int) ^ j * 256 = 256 ^ (j + 1) from (Int.pow_succ 256 j).symm]
   have hp2 : (0 : Int) < 256 ^ (j + 1) := by rw [pow256]; have := Nat.two_pow_pos (8 * (j + 1)); omega
   have r0 : 0 ≤ n / 256 ^ (j + 1) := Int.ediv_nonneg hn.1 (by omega)
   have r1 : n / 256 ^ (j + 1) ≤ n := Int.ediv_le_self _ hn.1
   exact wu64 r0 (by omega)
  rw [wadd j (by omega), e]
  refine ⟨⟨j + 1, rfl, hjk, rfl, rfl, f1.trans f3 fun b hb g => (b1 b g).elim id fun q => by omega, s3, w3, fun b g => ?_⟩, by simp only [Int.toNat_natCast]; omega⟩
  rcases b3 b g with q | q
  ·exact b1 b q
  ·exact .inr (by omega)
 ·have hjk : j = k := by have := ge_of_dec hge; omega
  subst hjk
  exact ⟨a1, c1, rfl, f1, s1, w1, b1⟩
end
end Sc
end Go.Proofs.YthjehlocmikchaaDoor
namespace Go.Proofs.YthjehlocmikchaaDoor
namespace Sc
open Go
section
variable {h : Heap} {a : Option Addr} {c N : Nat} {L : List Int}
theorem Tab.lt {h : Heap} (t : Tab h) : 2 < h.size := by
 have h1 : hcell h 2 (0 + 0) = some (.int .u8 0) := HCells.get t rfl
 rcases Nat.lt_or_ge 2 h.size with c | c
 ·exact c
 ·have : h[2]? = none := Array.getElem?_eq_none c
  unfold hcell at h1; rw [this] at h1; cases h1
def Ob (N : Nat) (h : Heap) (v : Value) (L : List Int) : Prop := ∃ a c, v = .slice a L.length c ∧ Sl eB h a c L ∧ OwnF eB.k tB N h a c
theorem Gr.ob {h' : Heap} {v : Value} {L' : List Int} (w : OwnF eB.k tB N h a c) (g : Gr N h a v h' L') : Fr (fun b => N ≤ b) h h' ∧ Ob N h' v L' :=
 let ⟨a', c', e, f, s, w', _⟩ := g; ⟨f.mono fun _ _ q => (w.low q).1, a', c', e, s, w'⟩
theorem put_o (s : Sl eB h a c L) (w : OwnF eB.k tB N h a c) (hN : N ≤ h.size) (hl : L.length ≤ 1073741824) (n : Int) (k : Nat) (hk : k ≤ 8) : HC Tryd.prog 83 #[.slice a L.length c, .int .u64 n, .int .i64 k] h fun v h' => Fr (fun b => N ≤ b) h h' ∧ Ob N h' v (L ++ leb k n) :=
 (put_m s w hN hl n k hk).mono fun _ _ g => g.ob w
theorem low_o (s : Sl eB h a c L) (w : OwnF eB.k tB N h a c) (hN : N ≤ h.size) (hl : L.length ≤ 1073741824) {n : Int} (hn : 0 ≤ n ∧ n < 18446744073709551616) (k : Nat) (hk : k ≤ 8) : HC Tryd.prog 43 #[.slice a L.length c, .int .u64 n, .int .i64 k] h fun v h' => Fr (fun b => N ≤ b) h h' ∧ Ob N h' v (L ++ leb k n) :=
 (low_r s w hN hl hn k hk).mono fun _ _ g => g.ob w
theorem app_o {a2 : Option Addr} {c2 : Nat} {L2 : List Int} (s : Sl eB h a c L) (w : OwnF eB.k tB N h a c) (s2 : Sl eB h a2 c2 L2) (hN : N ≤ h.size) (hl : L.length + L2.length ≤ 1073741824) {K : Value → Heap → Prop}
  (hk : ∀ v h', Fr (fun b => N ≤ b) h h' → Ob N h' v (L ++ L2) → K v h') : HAppend Tryd.prog 25 25 (.slice a L.length c) (.slice a2 L2.length c2) h K :=
 app_fz aB s w s2 hN (by omega) fun a' c' h' f s' w' _ => hk _ h' (f.mono fun _ _ q => (w.low q).1) ⟨a', c', by simp, s', w'⟩
theorem lit_mark {h1 h2 : Heap} {nb : Nat} {L : List Int} (hN : N ≤ nb) (r : h1[nb]? = some (.cells (L.flatMap eB.enc).toArray tB (0, 0))) (e : h2 = hfrz h1 nb (L.flatMap eB.enc).toArray.size) :
  Fr (fun b => b = nb) h1 h2 ∧ Sl eB h2 (some ⟨nb, 0, none⟩) L.length L ∧ OwnF eB.k tB N h2 (some ⟨nb, 0, none⟩) L.length := by
 have r2 : h2[nb]? = some (.cells (L.flatMap eB.enc).toArray tB ((L.flatMap eB.enc).toArray.size, (L.flatMap eB.enc).toArray.size + 1)) := by rw [e]; exact hfrz_row r
 refine ⟨by rw [e]; exact fr_hfrz _ fun _ => rfl, Sl.of_row r2 (Nat.le_refl _) fun j v hv => by rw [Nat.zero_add, List.getElem?_toArray]; exact hv, .inr ⟨nb, 0, _, _, rfl, hN, r2, ?_, .inl (Nat.le_refl _)⟩⟩
 have := flat_len eB L
 simp only [List.size_toArray, this, Nat.zero_add]; exact Nat.le_refl _
def shp (g : Geo) : List Int := [lg g.page, g.pages - 1, lg g.al]
theorem shape_m {g : Geo} (hg : Gok g) (t : Tab h) : HC Tryd.prog 82 #[g.v] h fun v h' => Ext h h' ∧ ∃ a c, v = .slice a (shp g).length c ∧ Sl eB h' a c (shp g) := by
 refine f82_sh _ _ _ _ _ _ fun _ h1 _ _ x1 => ⟨_, fun h4 x4 => log_m (t.ext (x1.trans x4)) hg.1.1, _, fun h3 x3 => log_m (t.ext (x1.trans x3)) hg.2.2.2.1.1, fun nb h2 e2 eh2 => ?_⟩
 have hp := hg.2.1
 rw [w64 (by omega) (by omega), wrap8 (by omega)] at eh2
 have x2 : Ext h1 h2 := by rw [eh2]; exact Ext.push _ _
 have r2 : h2[nb]? = some (.cells ((shp g).flatMap eB.enc).toArray tB (0, 0)) := by rw [eh2]; exact push_new e2
 exact ⟨x1.trans x2, some ⟨nb, 0, none⟩, 3, rfl, Sl.lit (L := shp g) r2⟩
theorem summed_m (s : Sl eB h a c L) (w : OwnF eB.k tB N h a c) (hN : N ≤ h.size) (hb : isB L) (hl : L.length ≤ 1073741824) : HC Tryd.prog 84 #[.slice a L.length c] h fun v h' => Fr (fun b => N ≤ b) h h' ∧ Ob N h' v (L ++ leb 4 (crc 0 L)) := by
 refine f84_sh _ _ _ _ _ ⟨_, crc_m s hb (by omega), ?_⟩
 have u := crc32 0 L
 rw [wu64 (x := crc 0 L) u.1 (by have := u.2; omega)]
 refine (put_o s w hN hl _ 4 (by decide)).mono ?_
 rintro v h1 ⟨f, a', c', rfl, s', w'⟩
 exact ⟨_, _, _, rfl, f, a', c', rfl, s', w'⟩
structure Hd where
 ep : Int
 sq : Int
 rg : Int
abbrev Hd.v (x : Hd) : Value := .agg #[.int .u64 x.ep, .int .u64 x.sq, .int .i64 x.rg]
def hdOk (g : Geo) (x : Hd) : Prop := 0 ≤ x.rg ∧ x.rg < g.regs ∧ x.sq ≠ 0
instance (g : Geo) (x : Hd) : Decidable (hdOk g x) := by unfold hdOk; infer_instance
def headB (g : Geo) (x : Hd) : List Int := [67, 76, 82, 72] ++ [1] ++ shp g ++ leb 8 x.ep ++ leb 8 x.sq ++ leb 4 x.rg
def encH (g : Geo) (x : Hd) : List Int := headB g x ++ leb 4 (crc 0 (headB g x))
theorem shp_isB {g : Geo} (hg : Gok g) : isB (shp g) := fun x hx => by
 have h1 := lg_lt hg.1.1
 have h2 := lg_lt hg.2.2.2.1.1
 have h3 := hg.2.1
 simp only [shp, List.mem_cons, List.not_mem_nil, or_false] at hx
 omega
theorem headB_isB {g : Geo} (hg : Gok g) (x : Hd) : isB (headB g x) := by
 unfold headB
 refine isB_app (isB_app (isB_app (isB_app (isB_app ?_ ?_) (shp_isB hg)) (leb_isB _ _)) (leb_isB _ _)) (leb_isB _ _)
 ·intro y hy; simp at hy; omega
 ·intro y hy; simp at hy; omega
theorem encH_isB {g : Geo} (hg : Gok g) (x : Hd) : isB (encH g x) := isB_app (headB_isB hg x) (leb_isB _ _)
theorem headB_len (g : Geo) (x : Hd) : (headB g x).length = 28 := by simp [headB, shp, leb_len]
theorem encH_len (g : Geo) (x : Hd) : (encH g x).length = 32 := by simp [encH, headB_len, leb_len]
def TellH (g : Geo) (x : Hd) (h : Heap) (v : Value) (h' : Heap) : Prop := Ext h h' ∧
 if Gok g then (if hdOk g x then ∃ a c, v = .tuple #[.slice a (encH g x).length c, .int .i64 0] ∧ Sl eB h' a c (encH g x) else v = .tuple #[.slice none 0 0, .int .i64 1]) else v = .tuple #[.slice none 0 0, .int .i64 20]
theorem tell_no {g : Geo} {x : Hd} {h' : Heap} (hn : ¬ Gok g) (e : Ext h h') : TellH g x h (.tuple #[.slice none 0 0, .int .i64 20]) h' := ⟨e, by rw [if_neg hn]⟩
theorem tell_bad {g : Geo} {x : Hd} {h' : Heap} (hg : Gok g) (hn : ¬ hdOk g x) (e : Ext h h') : TellH g x h (.tuple #[.slice none 0 0, .int .i64 1]) h' := ⟨e, by rw [if_pos hg, if_neg hn]⟩
theorem tell_ok {g : Geo} {x : Hd} {h' : Heap} {a : Option Addr} {c : Nat} (hg : Gok g) (ok : hdOk g x) (e : Ext h h') (s : Sl eB h' a c (encH g x)) : TellH g x h (.tuple #[.slice a (encH g x).length c, .int .i64 0]) h' := ⟨e, by rw [if_pos hg, if_pos ok]; exact ⟨a, c, rfl, s⟩⟩
theorem bad_hd {g : Geo} {x : Hd} (e : ((decide (x.rg < 0)) || ((decide (x.rg ≥ g.regs)) || (x.sq == 0))) = true) : ¬ hdOk g x := by
 simp only [Bool.or_eq_true, decide_eq_true_eq, beq_iff_eq] at e
 rintro ⟨h1, h2, h3⟩; omega
theorem good_hd {g : Geo} {x : Hd} (e : ((decide (x.rg < 0)) || ((decide (x.rg ≥ g.regs)) || (x.sq == 0))) = false) : hdOk g x := by
 simp only [Bool.or_eq_false_iff, decide_eq_false_iff_not, beq_eq_false_iff_ne] at e
 exact ⟨by omega, by omega, e.2.2⟩
set_option maxHeartbeats 1600000 in
theorem encHead_m (g : Geo) (x : Hd) (t : Tab h) : HC Tryd.prog 61 #[g.v, x.v] h fun v h' => TellH g x h v h' := by
 refine f61_sh _ _ _ _ _ _ _ _ _ fun gb hb h2 lo1 lt1 lo2 lt2 x2 => (check_m g h2).mono ?_
 rintro _ h3 ⟨rfl, x3⟩
 by_cases hn : ¬ Gok g
 ·rw [if_neg hn]
  exact ⟨x3, _, rfl, fun _ => tell_no hn (x2.trans x3), fun e => by simp at e⟩
 have hg : Gok g := Decidable.not_not.1 hn
 rw [if_pos hg]
 refine ⟨x3, _, rfl, fun e => by simp at e, fun _ => ⟨fun e => ?_, fun e => ?_⟩⟩
 ·exact tell_bad hg (bad_hd e) (x2.trans x3)
 have ok := good_hd e
 intro nb h4 e4 eh4
 have x4 : Ext h3 h4 := by rw [eh4]; exact Ext.push _ _
 have r4 : h4[nb]? = some (.cells (([67, 76, 82, 72] : List Int).flatMap eB.enc).toArray tB (0, 0)) := by rw [eh4]; exact push_new e4
 clear eh4
 refine ⟨_, _, r4, fun h5 e5 => ?_⟩
 obtain ⟨f5, s5, w5⟩ := lit_mark (N := h3.size) (by omega) r4 e5
 clear e5
 have s2 := x2.size
 have s3 := x3.size
 have s4 := x4.size
 have kp : ∀ {ha hb' : Heap} {Z : Nat → Prop} (f : Fr Z ha hb') (hz : ∀ b, Z b → h3.size ≤ b) (l : List Nat) (hl : ∀ b ∈ l, b < h2.size), Kp l ha hb' := fun f hz l hl => f.kp fun b hb q => by have := hl b hb; have := hz b q; omega
 have ls : ∀ b ∈ [gb, hb], b < h2.size := fun b hb => by simp at hb; rcases hb with rfl | rfl <;> assumption
 have l1 : ∀ b ∈ [hb], b < h2.size := fun b hb => ls b (by simp at hb; simp [hb])
 refine ⟨kp f5 (fun b q => by omega) _ ls, fun nb1 h6 e6 eh6 => ?_⟩
 have x6 : Ext h5 h6 := by rw [eh6]; exact Ext.push _ _
 have r6 : h6[nb1]? = some (.cells (([1] : List Int).flatMap eB.enc).toArray tB (0, 0)) := by rw [eh6]; exact push_new e6
 clear eh6
 have s5' := f5.size
 have s6 := x6.size
 have F5 : Fr (fun b => h3.size ≤ b) h3 h6 := ((x4.fr _).trans f5 fun b _ q => by omega).trans (x6.fr (fun _ => False)) fun _ _ q => q.elim
 refine app_o (L := [67, 76, 82, 72]) (L2 := [1]) (s5.ext x6) (w5.ext x6) (Sl.lit (L := [1]) r6) (by omega) (by decide) ?_
 rintro _ h7 f7 ⟨a7, c7, rfl, s7, w7⟩
 have t7 : Tab h7 := (t.ext (x2.trans x3)).fr (F5.trans f7 fun _ _ q => q) (fun q => by have := t.lt; omega)
 refine ⟨kp f7 (fun b q => q) _ ls, a7, _, c7, rfl, (shape_m hg t7).mono ?_⟩
 rintro _ h8 ⟨x8, a8, c8, rfl, s8⟩
 have s7' := f7.size
 have s8' := x8.size
 refine ⟨x8, _, _, _, rfl, app_o (s7.ext x8) (w7.ext x8) s8 (by omega) (by simp [shp]) ?_⟩
 rintro _ h9 f9 ⟨a9, c9, rfl, s9, w9⟩
 have s9' := f9.size
 refine ⟨kp f9 (fun b q => q) _ l1, _, _, _, rfl, (put_o s9 w9 (by omega) (by simp [shp]) x.ep 8 (by decide)).mono ?_⟩
 rintro _ h10 ⟨f10, a10, c10, rfl, s10, w10⟩
 have s10' := f10.size
 refine ⟨kp f10 (fun b q => q) _ l1, _, _, _, rfl, (put_o s10 w10 (by omega) (by simp [shp, leb_len]) x.sq 8 (by decide)).mono ?_⟩
 rintro _ h11 ⟨f11, a11, c11, rfl, s11, w11⟩
 have s11' := f11.size
 have hr := ok.1
 have hr2 := ok.2.1
 have hr3 := hg.2.2.1
 rw [wu64 (x := x.rg) hr (by omega)]
 refine ⟨kp f11 (fun b q => q) _ l1, _, _, _, rfl, (put_o s11 w11 (by omega) (by simp [shp, leb_len]) x.rg 4 (by decide)).mono ?_⟩
 rintro _ h12 ⟨f12, a12, c12, rfl, s12, w12⟩
 have s12' := f12.size
 refine ⟨_, _, _, rfl, (summed_m s12 w12 (by omega) (headB_isB hg x) (by simp [shp, leb_len])).mono ?_⟩
 rintro _ h13 ⟨f13, a13, c13, rfl, s13, w13⟩
 refine ⟨_, _, _, rfl, tell_ok hg ok ?_ s13⟩
 have F : Fr (fun b => h3.size ≤ b) h3 h13 := ((((((F5.trans f7 fun _ _ q => q).trans (x8.fr (fun _ => False)) fun _ _ q => q.elim).trans f9 fun _ _ q => q).trans f10 fun _ _ q => q).trans f11 fun _ _ q => q).trans f12 fun _ _ q => q).trans f13 fun _ _ q => q
 exact (((x2.trans x3).fr _).trans F fun _ _ q => q).ext fun b hb q => by omega
end
end Sc
end Go.Proofs.YthjehlocmikchaaDoor
namespace Go.Proofs.YthjehlocmikchaaDoor
namespace Sc
open Go
theorem fit_frm (S : Nat → Prop) : Fit (Fr S) := ⟨fun _ _ x => x.fr S, fun _ _ _ f g => f.trans g fun _ _ s => s⟩
section
variable {h : Heap}
set_option maxHeartbeats 3200000 in
theorem encHead_r (g : Geo) (x : Hd) (he : 0 ≤ x.ep ∧ x.ep < 18446744073709551616) (hq : 0 ≤ x.sq ∧ x.sq < 18446744073709551616) (h : Heap) : HC Tryd.prog 17 #[g.v, x.v] h fun v h' => TellH g x h v h' := by
 refine f17_sh _ _ _ _ _ _ _ _ _ fun gb hb h2 lo1 lt1 lo2 lt2 x2 => (check_r g h2).mono ?_
 rintro _ h3 ⟨rfl, x3⟩
 by_cases hn : ¬ Gok g
 ·rw [if_neg hn]
  exact ⟨x3, _, rfl, fun _ => tell_no hn (x2.trans x3), fun e => by simp at e⟩
 have hg : Gok g := Decidable.not_not.1 hn
 rw [if_pos hg]
 refine ⟨x3, _, rfl, fun e => by simp at e, fun _ => ⟨fun e => ?_, fun e => ?_⟩⟩
 ·exact tell_bad hg (bad_hd e) (x2.trans x3)
 have ok := good_hd e
 have s2 := x2.size
 have s3 := x3.size
 have hp := hg.2.1
 have kp : ∀ {ha hb' : Heap} (f : Fr (fun b => h3.size ≤ b) ha hb') (l : List Nat) (hl : ∀ b ∈ l, b < h2.size), Kp l ha hb' := fun f l hl => f.kp fun b hb q => by have := hl b hb; omega
 have ls : ∀ b ∈ [gb, hb], b < h2.size := fun b hb => by simp at hb; rcases hb with rfl | rfl <;> assumption
 have l1 : ∀ b ∈ [hb], b < h2.size := fun b hb => ls b (by simp at hb; simp [hb])
 have l0 : ∀ b ∈ [gb], b < h2.size := fun b hb => ls b (by simp at hb; simp [hb])
 have e8 : IntKind.u8.wrap (IntKind.i64.wrap (g.pages - 1)) = g.pages - 1 := by rw [w64 (by omega) (by omega), wrap8 (by omega)]
 rw [e8]
 let M : List Int := [67, 76, 82, 72]
 let A : List Int := [1, lg g.page, g.pages - 1, lg g.al]
 have fin : ∀ {ha : Heap} {p q : Nat} {K : Value → Heap → Prop}, Fr (fun b => h3.size ≤ b) h3 ha → Sl eB ha (some ⟨p, 0, none⟩) 4 M → OwnF eB.k tB h3.size ha (some ⟨p, 0, none⟩) 4 → Sl eB ha (some ⟨q, 0, none⟩) 4 A →
   (∀ v h', Fr (fun b => h3.size ≤ b) ha h' → Fr (fun b => h3.size ≤ b) h3 h' → Ob h3.size h' v (M ++ A) → K v h') → HAppend Tryd.prog 25 25 (.slice (some ⟨p, 0, none⟩) 4 4) (.slice (some ⟨q, 0, none⟩) 4 4) ha K := fun F s w s' hk =>
  app_o (L := M) (L2 := A) s w s' F.size (by simp [M, A]) fun v h' f o => hk v h' f (F.trans f fun _ _ q => q) o
 refine ⟨fun b n c h4 => Fr (fun b => h3.size ≤ b) h3 h4 ∧ Ob h3.size h4 (.slice b n c) (M ++ A), ⟨Fr (fun b => h3.size ≤ b), fit_frm _, fun hx f => kp f _ l0, _, fun h17 _ => log_r hg.1.1 h17, fun hx f => kp f _ l0, fun hx f => kp f _ l0, _, fun h16 _ => log_r hg.2.2.2.1.1 h16, ?_, ?_⟩, ?_⟩
 ·intro nb h5 e5 eh5
  have x5 : Ext h3 h5 := by rw [eh5]; exact Ext.push _ _
  have r5 : h5[nb]? = some (.cells (M.flatMap eB.enc).toArray tB (0, 0)) := by rw [eh5]; exact push_new e5
  clear eh5
  have s5 := x5.size
  refine ⟨⟨_, _, r5, fun h6 e6 => ?_⟩, fun nb1 h9 e9 eh9 => ?_⟩
  ·obtain ⟨f6, sl6, w6⟩ := lit_mark (N := h3.size) (by omega) r5 e6
   have f6' : Fr (fun b => h3.size ≤ b) h5 h6 := f6.mono fun b _ q => by omega
   have s6 := f6.size
   refine ⟨f6', kp f6' _ ls, fun nb1 h7 e7 eh7 => ?_⟩
   have x7 : Ext h6 h7 := by rw [eh7]; exact Ext.push _ _
   have r7 : h7[nb1]? = some (.cells (A.flatMap eB.enc).toArray tB (0, 0)) := by rw [eh7]; exact push_new e7
   clear eh7
   refine fin (((x5.fr _).trans f6' fun _ _ q => q).trans (x7.fr (fun _ => False)) fun _ _ q => q.elim) (sl6.ext x7) (w6.ext x7) (Sl.lit (L := A) r7) ?_
   rintro _ h8 f8 F8 ⟨a8, c8, rfl, s8, w8⟩
   exact ⟨kp f8 _ l1, _, _, _, rfl, F8, a8, c8, rfl, s8, w8⟩
  ·have x9 : Ext h5 h9 := by rw [eh9]; exact Ext.push _ _
   have r9 : h9[nb1]? = some (.cells (A.flatMap eB.enc).toArray tB (0, 0)) := by rw [eh9]; exact push_new e9
   clear eh9
   have s9 := x9.size
   have l5 := row_lt r5
   refine ⟨_, _, x9.row r5, fun h10 e10 => ?_⟩
   obtain ⟨f10, sl10, w10⟩ := lit_mark (N := h3.size) (by omega) (x9.row r5) e10
   have f10' : Fr (fun b => h3.size ≤ b) h9 h10 := f10.mono fun b _ q => by omega
   refine ⟨f10', kp f10' _ ls, fin (((x5.trans x9).fr _).trans f10' fun _ _ q => q) sl10 w10 (Sl.lit (L := A) (f10.row r9 (by omega))) ?_⟩
   rintro _ h11 f11 F11 ⟨a11, c11, rfl, s11, w11⟩
   exact ⟨kp f11 _ l1, _, _, _, rfl, F11, a11, c11, rfl, s11, w11⟩
 ·intro nb h12 e12 eh12
  have x12 : Ext h3 h12 := by rw [eh12]; exact Ext.push _ _
  have r12 : h12[nb]? = some (.cells (A.flatMap eB.enc).toArray tB (0, 0)) := by rw [eh12]; exact push_new e12
  clear eh12
  have s12 := x12.size
  intro nb1 h13 e13 eh13
  have x13 : Ext h12 h13 := by rw [eh13]; exact Ext.push _ _
  have r13 : h13[nb1]? = some (.cells (M.flatMap eB.enc).toArray tB (0, 0)) := by rw [eh13]; exact push_new e13
  clear eh13
  have l12 := row_lt r12
  refine ⟨_, _, r13, fun h14 e14 => ?_⟩
  obtain ⟨f14, sl14, w14⟩ := lit_mark (N := h3.size) (by omega) r13 e14
  have f14' : Fr (fun b => h3.size ≤ b) h13 h14 := f14.mono fun b _ q => by omega
  refine ⟨f14', kp f14' _ ls, fin (((x12.trans x13).fr _).trans f14' fun _ _ q => q) sl14 w14 (Sl.lit (L := A) (f14.row (x13.row r12) (by omega))) ?_⟩
  rintro _ h15 f15 F15 ⟨a15, c15, rfl, s15, w15⟩
  exact ⟨kp f15 _ l1, _, _, _, rfl, F15, a15, c15, rfl, s15, w15⟩
 ·rintro b n c h4 ⟨F4, a4, c4, e4, s4, w4⟩
  cases e4
  have hs4 := F4.size
  have hr := ok.1
  have hr2 := ok.2.1
  have hr3 := hg.2.2.1
  refine ⟨Fr (fun b => h3.size ≤ b), fit_frm _, fun hx f => kp f _ l1, fun hx f => kp f _ l1, (low_o s4 w4 hs4 (by simp [M, A]) he 8 (by decide)).mono ?_⟩
  rintro _ h18 ⟨f18, a18, c18, rfl, s18, w18⟩
  have hs18 := f18.size
  refine ⟨f18, kp f18 _ l1, _, _, _, rfl, (low_o s18 w18 (by omega) (by simp [M, A, leb_len]) hq 8 (by decide)).mono ?_⟩
  rintro _ h19 ⟨f19, a19, c19, rfl, s19, w19⟩
  have hs19 := f19.size
  rw [wu64 (x := x.rg) hr (by omega)]
  refine ⟨f19, kp f19 _ l1, _, _, _, rfl, (low_o s19 w19 (by omega) (by simp [M, A, leb_len]) ⟨hr, by omega⟩ 4 (by decide)).mono ?_⟩
  rintro _ h20 ⟨f20, a20, c20, rfl, s20, w20⟩
  have hs20 := f20.size
  have hB : isB (headB g x) := headB_isB hg x
  have u := crc32 0 (headB g x)
  refine ⟨_, _, _, rfl, _, crc_r s20 hB (by simp [M, A, leb_len]), ?_⟩
  have eH : M ++ A ++ leb 8 x.ep ++ leb 8 x.sq ++ leb 4 x.rg = headB g x := rfl
  rw [eH] at s20 ⊢
  rw [wu64 (x := crc 0 (headB g x)) u.1 (by have := u.2; omega)]
  refine (low_o s20 w20 (by omega) (by rw [headB_len]; decide) ⟨u.1, by have := u.2; omega⟩ 4 (by decide)).mono ?_
  rintro _ h21 ⟨f21, a21, c21, rfl, s21, w21⟩
  refine ⟨_, _, _, rfl, tell_ok hg ok ?_ s21⟩
  have F : Fr (fun b => h3.size ≤ b) h3 h21 := (((F4.trans f18 fun _ _ q => q).trans f19 fun _ _ q => q).trans f20 fun _ _ q => q).trans f21 fun _ _ q => q
  exact (((x2.trans x3).fr _).trans F fun _ _ q => q).ext fun b hb q => by omega
end
end Sc
end Go.Proofs.YthjehlocmikchaaDoor
namespace Go.Proofs.YthjehlocmikchaaDoor
namespace Sc
open Go
theorem ofL_eq {A B : List Int} (ha : isB A) (hb : isB B) : decide (ofL A = ofL B) = decide (A = B) := by
 rw [Bool.eq_iff_iff]; simp only [decide_eq_true_eq]
 exact ⟨fun e => by rw [← toL_ofL ha, ← toL_ofL hb, e], fun e => by rw [e]⟩
section
variable {h : Heap} {a b : Option Addr} {c d : Nat} {A B : List Int}
theorem eq_m (s : Sl eB h a c A) (s' : Sl eB h b d B) (ha : isB A) (hb : isB B) : HC Tryd.prog 62 #[.slice a A.length c, .slice b B.length d] h fun v h' => v = .bool (decide (A = B)) ∧ h' = h :=
 f62_sh _ _ _ _ _ _ _ _ ⟨_, s.byt, _, s'.byt, by rw [ofL_eq ha hb], rfl⟩
theorem same_b (s : Sl eB h a c A) (s' : Sl eB h b d B) (ha : isB A) (hb : isB B) : HC Tryd.prog 15 #[.slice a A.length c, .slice b B.length d] h fun v h' => v = .bool (decide (A = B)) ∧ h' = h :=
 f15_sh _ _ _ _ _ _ _ _ ⟨_, s.byt, _, s'.byt, by rw [ofL_eq ha hb], rfl⟩
theorem eq_r (s : Sl eB h a c A) (s' : Sl eB h b d B) (hl : A.length ≤ 1099511627776) : HC Tryd.prog 70 #[.slice a A.length c, .slice b B.length d] h fun v h' => v = .bool (decide (A = B)) ∧ h' = h := by
 refine f70_sh _ _ _ _ _ _ _ _ ⟨fun e => ?_, fun e => ?_⟩
 ·have : A ≠ B := fun q => by rw [q] at e; simp at e
  simp [this]
 have hln : A.length = B.length := by have e1 : (A.length : Int) = B.length := by simpa using e
                                      omega
 refine ⟨fun v => ∃ k : Nat, v = k ∧ k ≤ A.length ∧ A.take k = B.take k, fun v => A.length - v.toNat, ⟨0, rfl, Nat.zero_le _, by simp⟩, ?_⟩
 rintro _ ⟨k, rfl, hk, ht⟩
 refine ⟨fun hlt => ?_, fun hge => ?_⟩
 ·have hkl := lt_of_dec hlt
  obtain ⟨b1, o1, e1, d1⟩ := s.at (List.getElem?_eq_getElem hkl)
  obtain ⟨b2, o2, e2, d2⟩ := s'.at (List.getElem?_eq_getElem (show k < B.length by omega))
  refine ⟨b1, o1, e1, by omega, by omega, _, d1.1, b2, o2, e2, by omega, by omega, _, d2.1, fun g => ?_, fun g => ?_⟩
  ·have hne : A[k] ≠ B[k] := by simpa using g
   have : A ≠ B := fun q => hne (by subst q; rfl)
   simp [this]
  ·have he : A[k] = B[k] := by simpa using g
   rw [wadd k (by omega)]
   refine ⟨⟨k + 1, rfl, hkl, ?_⟩, by simp only [Int.toNat_natCast]; omega⟩
   rw [List.take_add_one, List.take_add_one, List.getElem?_eq_getElem hkl, List.getElem?_eq_getElem (show k < B.length by omega), ht, he]
 ·have hkl : k = A.length := by have := ge_of_dec hge; omega
  subst hkl
  rw [List.take_length, hln, List.take_length] at ht
  simp [ht]
end
def hdOf (L : List Int) : Hd := ⟨le ((L.drop 8).take 8), le ((L.drop 16).take 8), le ((L.drop 24).take 4)⟩
def headD (g : Geo) (L : List Int) : Option Hd := if Gok g ∧ 32 ≤ L.length ∧ hdOk g (hdOf L) ∧ encH g (hdOf L) = L.take 32 then some (hdOf L) else none
def z3 : Hd := ⟨0, 0, 0⟩
def tellD (g : Geo) (L : List Int) : Value := match headD g L with | some x => .tuple #[x.v, .int .i64 0] | none => .tuple #[z3.v, .int .i64 (if Gok g then 50 else 20)]
theorem tellD_no {g : Geo} {L : List Int} (hn : ¬ Gok g) : tellD g L = .tuple #[z3.v, .int .i64 20] := by
 unfold tellD headD; rw [if_neg (fun q => hn q.1), if_neg hn]
theorem tellD_bad {g : Geo} {L : List Int} (hg : Gok g) (hb : ¬ (32 ≤ L.length ∧ hdOk g (hdOf L) ∧ encH g (hdOf L) = L.take 32)) : tellD g L = .tuple #[z3.v, .int .i64 50] := by
 unfold tellD headD; rw [if_neg (fun q => hb q.2), if_pos hg]
theorem tellD_ok {g : Geo} {L : List Int} (hg : Gok g) (hb : 32 ≤ L.length ∧ hdOk g (hdOf L) ∧ encH g (hdOf L) = L.take 32) : tellD g L = .tuple #[(hdOf L).v, .int .i64 0] := by
 unfold tellD headD; rw [if_pos ⟨hg, hb⟩]
section
variable {h : Heap} {a : Option Addr} {c : Nat} {L : List Int}
theorem num_cut (s : Sl eB h a c L) (hb : isB L) {l r : Nat} (hlr : l ≤ r) (hr : r ≤ L.length) (h8 : r - l ≤ 8) {h1 : Heap} (x : Ext h h1) : HC Tryd.prog 60 #[.slice (slA a l 1 c) (r - l) (c - l)] h1 fun v h' => v = .int .u64 (le ((L.drop l).take (r - l))) ∧ h' = h1 := by
 have s1 := (s.ext x).cut hlr hr
 have e : (L.take r).drop l = (L.drop l).take (r - l) := List.drop_take
 rw [e] at s1
 have el : ((L.drop l).take (r - l)).length = r - l := by simp; omega
 have := number_m s1 (isB_take (isB_drop hb l) (r - l)) (by omega)
 rw [el] at this; exact this
theorem le_u64 {L : List Int} (hb : isB L) (hl : L.length ≤ 8) : 0 ≤ le L ∧ le L < 18446744073709551616 := by
 have h1 := le_nonneg hb
 have hpw : (256 : Int) ^ L.length ≤ 256 ^ 8 := by
  rw [pow256, pow256]
  have : 2 ^ (8 * L.length) ≤ 2 ^ (8 * 8) := Nat.pow_le_pow_right (by decide) (by omega)
  omega
 have h7 : (256 : Int) ^ 8 = 18446744073709551616 := by decide
 omega
theorem le_u32 {L : List Int} (hb : isB L) (hl : L.length ≤ 4) : 0 ≤ le L ∧ le L < 4294967296 := by
 have h1 := le_nonneg hb
 have hpw : (256 : Int) ^ L.length ≤ 256 ^ 4 := by
  rw [pow256, pow256]
  have : 2 ^ (8 * L.length) ≤ 2 ^ (8 * 4) := Nat.pow_le_pow_right (by decide) (by omega)
  omega
 have h7 : (256 : Int) ^ 4 = 4294967296 := by decide
 omega
theorem frpb {h h3 h4 : Heap} {pb : Nat} (x : Ext h h3) (lo : h.size ≤ pb) (f : Fr (fun i => i = pb) h3 h4) : Ext h h4 := ((x.fr _).trans f fun _ _ q => q).ext fun b hb q => by omega
theorem head_m (g : Geo) (t : Tab h) (s : Sl eB h a c L) (hb : isB L) : HC Tryd.prog 32 #[g.v, .slice a L.length c] h fun v h' => v = tellD g L ∧ Ext h h' := by
 refine f32_sh _ _ _ _ _ _ _ _ _ fun gb pb h2 _ _ lo lt x2 => (check_m g h2).mono ?_
 rintro _ h3 ⟨rfl, x3⟩
 have x23 := x2.trans x3
 by_cases hn : ¬ Gok g
 ·rw [if_neg hn, tellD_no hn]
  exact ⟨x3, _, rfl, fun _ h4 f4 => ⟨rfl, frpb x23 lo f4⟩, fun e => by simp at e⟩
 have hg : Gok g := Decidable.not_not.1 hn
 rw [if_pos hg]
 refine ⟨x3, _, rfl, fun e => by simp at e, fun _ => ⟨fun e h5 f5 => ?_, fun e => ?_⟩⟩
 ·have := of_decide_eq_true e
  rw [tellD_bad hg (fun q => by omega)]; exact ⟨rfl, frpb x23 lo f5⟩
 have hL : 32 ≤ L.length := by have := of_decide_eq_false e; omega
 have hc := s.le
 have r4 := le_u32 (L := (L.drop 24).take 4) (isB_take (isB_drop hb _) _) (by simp; omega)
 refine ⟨by omega, by omega, by omega, fun sl e1 => ⟨_, fun h13 x13 => by subst e1; exact num_cut s hb (by decide) (by omega) (by decide) (x23.trans x13), by omega, by omega, by omega, fun sl1 e1 => ⟨_, fun h12 x12 => by subst e1; exact num_cut s hb (by decide) (by omega) (by decide) (x23.trans x12), by omega, by omega, by omega, fun sl2 e1 => ⟨_, fun h11 x11 => by subst e1; exact num_cut s hb (by decide) (by omega) (by decide) (x23.trans x11), fun hv h7 _ _ x7 => ?_⟩⟩⟩⟩
 have ew : IntKind.i64.wrap (le ((L.drop (Int.toNat 24)).take (Int.toNat 28 - Int.toNat 24))) = (hdOf L).rg := by
  show IntKind.i64.wrap (le ((L.drop 24).take 4)) = _
  rw [w64 (by omega) (by omega)]; rfl
 rw [ew]
 have x7' := x23.trans x7
 refine (encHead_m g (hdOf L) (t.ext x7')).mono ?_
 rintro v h8 ⟨x8, hv⟩
 rw [if_pos hg] at hv
 have x8' := x7'.trans x8
 by_cases ok : hdOk g (hdOf L)
 ·rw [if_pos ok] at hv
  obtain ⟨a8, c8, rfl, s8⟩ := hv
  have s0 := (s.ext x8').cut (l := 0) (r := 32) (by decide) hL
  have el : ((L.take 32).drop 0).length = 32 := by simp; omega
  have e0 : (L.take 32).drop 0 = L.take 32 := rfl
  have he := eq_m s8 s0 (encH_isB hg _) (isB_drop (isB_take hb 32) 0)
  rw [el, e0] at he
  refine ⟨x8, _, _, _, _, rfl, !decide (encH g (hdOf L) = L.take 32), ⟨fun q => by simp at q, fun _ => ⟨by omega, by omega, by omega, fun sl3 e3 => ⟨_, by subst e3; exact he, rfl⟩⟩⟩, fun e h9 f9 => ?_, fun e h10 f10 => ?_⟩
  ·have hne : ¬ encH g (hdOf L) = L.take 32 := by simpa using e
   rw [tellD_bad hg (fun q => hne q.2.2)]
   exact ⟨rfl, frpb x8' lo f9⟩
  ·have heq : encH g (hdOf L) = L.take 32 := by simpa using e
   rw [tellD_ok hg ⟨hL, ok, heq⟩]
   exact ⟨rfl, frpb x8' lo f10⟩
 ·rw [if_neg ok] at hv
  subst hv
  refine ⟨x8, _, _, _, _, rfl, true, ⟨fun _ => rfl, fun q => by simp at q⟩, fun e h9 f9 => ?_, fun e => by cases e⟩
  rw [tellD_bad hg (fun q => ok q.2.1)]
  exact ⟨rfl, frpb x8' lo f9⟩
theorem head_r (g : Geo) (s : Sl eB h a c L) (hb : isB L) (hl : L.length ≤ 1099511627776) : HC Tryd.prog 37 #[g.v, .slice a L.length c] h fun v h' => v = tellD g L ∧ Ext h h' := by
 refine f37_sh _ _ _ _ _ _ _ _ _ fun gb pb h2 _ _ lo lt x2 => (check_r g h2).mono ?_
 rintro _ h3 ⟨rfl, x3⟩
 have x23 := x2.trans x3
 by_cases hn : ¬ Gok g
 ·rw [if_neg hn, tellD_no hn]
  exact ⟨x3, _, rfl, fun _ h4 f4 => ⟨rfl, frpb x23 lo f4⟩, fun e => by simp at e⟩
 have hg : Gok g := Decidable.not_not.1 hn
 rw [if_pos hg]
 refine ⟨x3, _, rfl, fun e => by simp at e, fun _ => ⟨fun e h5 f5 => ?_, fun e => ?_⟩⟩
 ·have := of_decide_eq_true e
  rw [tellD_bad hg (fun q => by omega)]; exact ⟨rfl, frpb x23 lo f5⟩
 have hL : 32 ≤ L.length := by have := of_decide_eq_false e; omega
 have hc := s.le
 have s3 := s.ext x23
 have r1 := le_u64 (L := (L.drop 8).take 8) (isB_take (isB_drop hb _) _) (by simp; omega)
 have r2 := le_u64 (L := (L.drop 16).take 8) (isB_take (isB_drop hb _) _) (by simp; omega)
 have r4 := le_u32 (L := (L.drop 24).take 4) (isB_take (isB_drop hb _) _) (by simp; omega)
 refine ⟨_, number_r s3 hb hl 8 8 (by decide) (by omega), _, number_r s3 hb hl 16 8 (by decide) (by omega), _, number_r s3 hb hl 24 4 (by decide) (by omega), fun hv h7 _ _ x7 => ?_⟩
 have ew : IntKind.i64.wrap (le ((L.drop 24).take 4)) = (hdOf L).rg := by rw [w64 (by omega) (by omega)]; rfl
 rw [ew]
 have x7' := x23.trans x7
 refine (encHead_r g (hdOf L) r1 r2 h7).mono ?_
 rintro v h8 ⟨x8, hv⟩
 rw [if_pos hg] at hv
 have x8' := x7'.trans x8
 by_cases ok : hdOk g (hdOf L)
 ·rw [if_pos ok] at hv
  obtain ⟨a8, c8, rfl, s8⟩ := hv
  have s0 := (s.ext x8').cut (l := 0) (r := 32) (by decide) hL
  have el : ((L.take 32).drop 0).length = 32 := by simp; omega
  have e0 : (L.take 32).drop 0 = L.take 32 := rfl
  have he := eq_r s8 s0 (by rw [encH_len]; decide)
  rw [el, e0] at he
  refine ⟨x8, _, _, _, _, rfl, !decide (encH g (hdOf L) = L.take 32), ⟨fun q => by simp at q, fun _ => ⟨by omega, by omega, by omega, fun sl3 e3 => ⟨_, by subst e3; exact he, rfl⟩⟩⟩, fun e h9 f9 => ?_, fun e h10 f10 => ?_⟩
  ·have hne : ¬ encH g (hdOf L) = L.take 32 := by simpa using e
   rw [tellD_bad hg (fun q => hne q.2.2)]
   exact ⟨rfl, frpb x8' lo f9⟩
  ·have heq : encH g (hdOf L) = L.take 32 := by simpa using e
   rw [tellD_ok hg ⟨hL, ok, heq⟩]
   exact ⟨rfl, frpb x8' lo f10⟩
 ·rw [if_neg ok] at hv
  subst hv
  refine ⟨x8, _, _, _, _, rfl, true, ⟨fun _ => rfl, fun q => by simp at q⟩, fun e h9 f9 => ?_, fun e => by cases e⟩
  rw [tellD_bad hg (fun q => ok q.2.1)]
  exact ⟨rfl, frpb x8' lo f9⟩
end
end Sc
end Go.Proofs.YthjehlocmikchaaDoor
namespace Go.Proofs.YthjehlocmikchaaDoor
namespace Sc
open Go
def fst0 (g : Geo) : Int := upTo 32 g.al
theorem fst_bounds {g : Geo} (hg : Gok g) : 32 ≤ fst0 g ∧ fst0 g ≤ 4127 ∧ fst0 g + 48 ≤ g.sz := by
 have b := ok_bounds hg
 obtain ⟨k, hk, ek⟩ := p2_pow hg.2.2.2.1.1
 have hu := upTo_ge (n := 32) (al := g.al) (by omega)
 unfold fst0
 refine ⟨by omega, by omega, ?_⟩
 by_cases h32 : g.al ≤ 32
 ·have : upTo 32 g.al = 32 := by
   have h3 : (32 : Int) % g.al = 0 := by
    have hm := hg.2.2.2.1.1
    simp only [p2, List.mem_cons, List.not_mem_nil, or_false] at hm
    rcases hm with h | h | h | h | h | h | h | h | h | h | h | h | h <;> first | (rw [h]; decide) | omega
   exact (upTo_first (by omega) (Int.le_refl _) hu.1 h3).symm
  rw [this]; have := b.1; omega
 ·have h3 : upTo 32 g.al = g.al := by
   refine (upTo_first (by omega) (by omega) ?_ (Int.emod_self)).symm
   have h4 := hu.2.2
   obtain ⟨q, hq⟩ := Int.dvd_of_emod_eq_zero h4
   have hq1 : 1 ≤ q := by
    rcases Int.lt_or_le q 1 with c | c
    ·have : g.al * q ≤ g.al * 0 := Int.mul_le_mul_of_nonneg_left (by omega) (by omega)
     rw [Int.mul_zero] at this; omega
    ·exact c
   have : g.al * 1 ≤ g.al * q := Int.mul_le_mul_of_nonneg_left hq1 (by omega)
   rw [Int.mul_one] at this; omega
  rw [h3]; omega
def roomOf (g : Geo) : Int := g.sz - 24 - fst0 g
theorem upE_32 {g : Geo} (hg : Gok g) : upE g 32 = .tuple #[.int .i64 (fst0 g), .int .i64 0] := by
 have b := ok_bounds hg
 unfold upE fst0
 rw [if_pos hg, if_neg (by omega)]
theorem room_m {g : Geo} (hg : Gok g) (h : Heap) : HC Tryd.prog 115 #[g.v] h fun v h' => v = .int .i64 (roomOf g) ∧ Ext h h' := by
 have b := ok_bounds hg
 have f := fst_bounds hg
 refine f115_sh _ _ _ _ _ _ fun _ h1 _ _ x1 => (bytes_m g h1).mono ?_
 rintro _ h2 ⟨rfl, x2⟩
 rw [if_pos hg]
 refine ⟨x2, _, _, _, rfl, (Up_m g 32 h2).mono ?_⟩
 rintro _ h3 ⟨rfl, x3⟩
 rw [upE_32 hg]
 refine ⟨x3, _, _, rfl, ?_, x1.trans (x2.trans x3)⟩
 rw [w64 (x := g.sz - 24) (by omega) (by omega), w64 (by omega) (by omega)]; rfl
def szE (g : Geo) (k v : Int) : Int := if ¬ Gok g then 20 else if k < 1 ∨ k > 255 then 54 else if v < 0 ∨ v > roomOf g - 24 - k then 55 else 0
def szV (g : Geo) (k v : Int) : Value := .tuple #[.int .i64 (if szE g k v = 0 then 24 + k + v else 0), .int .i64 (szE g k v)]
theorem szV_of {g : Geo} {k v e : Int} (h : szE g k v = e) (he : e ≠ 0) : szV g k v = .tuple #[.int .i64 0, .int .i64 e] := by unfold szV; rw [h, if_neg he]
theorem szV_ok {g : Geo} {k v : Int} (h : szE g k v = 0) : szV g k v = .tuple #[.int .i64 (24 + k + v), .int .i64 0] := by unfold szV; rw [h, if_pos rfl]
theorem size_m (g : Geo) (k v : Int) (h : Heap) : HC Tryd.prog 105 #[g.v, .int .i64 k, .int .i64 v] h fun r h' => r = szV g k v ∧ Ext h h' := by
 refine f105_sh _ _ _ _ _ _ _ _ fun _ h1 _ _ x1 => (check_m g h1).mono ?_
 rintro _ h2 ⟨rfl, x2⟩
 have x12 := x1.trans x2
 by_cases hn : ¬ Gok g
 ·rw [if_neg hn]
  exact ⟨x2, _, rfl, fun _ => ⟨(szV_of (by unfold szE; rw [if_pos hn]) (by decide)).symm, x12⟩, fun e => by simp at e⟩
 have hg : Gok g := Decidable.not_not.1 hn
 have b := ok_bounds hg
 have f := fst_bounds hg
 rw [if_pos hg]
 refine ⟨x2, _, rfl, fun e => by simp at e, fun _ => ⟨fun e => ?_, fun e => ?_⟩⟩
 ·simp only [Bool.or_eq_true, decide_eq_true_eq] at e
  exact ⟨(szV_of (by unfold szE; rw [if_neg hn, if_pos e]) (by decide)).symm, x12⟩
 ·simp only [Bool.or_eq_false_iff, decide_eq_false_iff_not] at e
  have hk : ¬ (k < 1 ∨ k > 255) := by omega
  refine ⟨fun j h3 => Ext h h3 ∧ j = decide (v < 0 ∨ v > roomOf g - 24 - k), ⟨fun e2 => ?_, fun e2 => ?_⟩, ?_⟩
  ·have := of_decide_eq_true e2
   exact ⟨x12, by simp [this]⟩
  ·have := of_decide_eq_false e2
   refine (room_m hg h2).mono ?_
   rintro _ h4 ⟨rfl, x4⟩
   refine ⟨x4, _, rfl, x12.trans x4, ?_⟩
   have hr : roomOf g = g.sz - 24 - fst0 g := rfl
   rw [w64 (x := roomOf g - 24) (by omega) (by omega), w64 (by omega) (by omega)]
   simp [this]
  ·rintro j h3 ⟨x3, rfl⟩
   refine ⟨fun e2 => ?_, fun e2 => ?_⟩
   ·exact ⟨(szV_of (by unfold szE; rw [if_neg hn, if_neg hk, if_pos (of_decide_eq_true e2)]) (by decide)).symm, x3⟩
   ·have hv := of_decide_eq_false e2
    have hr : roomOf g = g.sz - 24 - fst0 g := rfl
    rw [szV_ok (by unfold szE; rw [if_neg hn, if_neg hk, if_neg hv]), w64 (x := 24 + k) (by omega) (by omega), w64 (by omega) (by omega)]
    exact ⟨rfl, x3⟩
theorem size_r (g : Geo) (k v : Int) (h : Heap) : HC Tryd.prog 73 #[g.v, .int .i64 k, .int .i64 v] h fun r h' => r = szV g k v ∧ Ext h h' := by
 refine f73_sh _ _ _ _ _ _ _ _ fun _ h1 _ _ x1 => (check_r g h1).mono ?_
 rintro _ h2 ⟨rfl, x2⟩
 have x12 := x1.trans x2
 by_cases hn : ¬ Gok g
 ·rw [if_neg hn]
  exact ⟨x2, _, rfl, fun _ => ⟨(szV_of (by unfold szE; rw [if_pos hn]) (by decide)).symm, x12⟩, fun e => by simp at e⟩
 have hg : Gok g := Decidable.not_not.1 hn
 have b := ok_bounds hg
 have f := fst_bounds hg
 rw [if_pos hg]
 refine ⟨x2, _, rfl, fun e => by simp at e, fun _ => ⟨fun e => ?_, fun e => ?_⟩⟩
 ·simp only [Bool.or_eq_true, decide_eq_true_eq] at e
  exact ⟨(szV_of (by unfold szE; rw [if_neg hn, if_pos e]) (by decide)).symm, x12⟩
 ·simp only [Bool.or_eq_false_iff, decide_eq_false_iff_not] at e
  have hk : ¬ (k < 1 ∨ k > 255) := by omega
  refine (Up_r g 32 h2).mono ?_
  rintro _ h3 ⟨rfl, x3⟩
  rw [upE_32 hg]
  have hr : roomOf g = g.sz - 24 - fst0 g := rfl
  have e1 : g.page * g.pages = g.sz := rfl
  refine ⟨x3, _, _, rfl, ?_⟩
  rw [e1, w64 (x := g.sz) (by omega) (by omega), w64 (x := g.sz - fst0 g) (by omega) (by omega), w64 (x := g.sz - fst0 g - 24) (by omega) (by omega), w64 (x := g.sz - fst0 g - 24 - 24) (by omega) (by omega), w64 (x := g.sz - fst0 g - 24 - 24 - k) (by omega) (by omega)]
  have e3 : g.sz - fst0 g - 24 - 24 - k = roomOf g - 24 - k := by omega
  rw [e3]
  refine ⟨fun e2 => ?_, fun e2 => ?_⟩
  ·simp only [Bool.or_eq_true, decide_eq_true_eq] at e2
   exact ⟨(szV_of (by unfold szE; rw [if_neg hn, if_neg hk, if_pos e2]) (by decide)).symm, x12.trans x3⟩
  ·simp only [Bool.or_eq_false_iff, decide_eq_false_iff_not] at e2
   have hv : ¬ (v < 0 ∨ v > roomOf g - 24 - k) := by omega
   rw [szV_ok (by unfold szE; rw [if_neg hn, if_neg hk, if_neg hv]), w64 (x := 24 + k) (by omega) (by omega), w64 (by omega) (by omega)]
   exact ⟨rfl, x12.trans x3⟩
end Sc
end Go.Proofs.YthjehlocmikchaaDoor
