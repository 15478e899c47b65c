import Derived.Test.YthjehlocmikchaaDoorProg
import Derived.Test.YthjehlocmikchaaDoorDo1
import Derived.Test.YthjehlocmikchaaDoorDo2
import Derived.Test.YthjehlocmikchaaDoorDo3
namespace Go.Proofs.YthjehlocmikchaaDoor
namespace Sc
open Go
def tabL : List Int := [0, 1, 56, 2, 57, 49, 28, 3, 61, 58, 42, 50, 38, 29, 17, 4, 62, 47, 59, 36, 45, 43, 51, 22, 53, 39, 33, 30, 24, 18, 12, 5, 63, 55, 48, 27, 60, 41, 37, 16, 46, 35, 44, 21, 52, 32, 23, 11, 54, 26, 40, 15, 34, 20, 31, 10, 25, 14, 19, 9, 13, 8, 7, 6]
def Tab (h : Heap) : Prop := HCells h 2 0 (tabL.map (Value.int .u8))
theorem Tab.ext {h h' : Heap} (t : Tab h) (x : Ext h h') : Tab h' := HCells.mk fun _ _ hj => x.cell (HCells.get t hj)
theorem Tab.fr {h h' : Heap} {S : Nat → Prop} (t : Tab h) (f : Fr S h h') (hn : ¬ S 2) : Tab h' := HCells.fr f t hn
def lg (n : Int) : Int := (p2.idxOf n : Nat)
theorem lg_pow : ∀ k : Nat, k < 13 → lg ((2 ^ k : Nat) : Int) = k := by decide
def tzi (x : Int) : Int := Int.fdiv (IntKind.u64.wrap ((iband .u64 x (IntKind.u64.wrap (0 - x))) * 285870213051353865)) (2 ^ min (Int.toNat 58) 64)
theorem tz_tab : p2.all (fun x => decide (0 ≤ tzi x ∧ tzi x < 64) && (tabL[(tzi x).toNat]? == some (lg x)) && decide (lg x < 256 ∧ x < 18446744073709551616)) = true := by kernel_rfl
section
variable {h : Heap}
theorem tz64 {x : Int} (t : Tab h) (hx : x ∈ p2) : HC Tryd.prog 114 #[.int .u64 x] h fun v h' => v = .int .i64 (lg x) ∧ h' = h := by
 have := List.all_eq_true.1 tz_tab x hx
 simp only [Bool.and_eq_true, decide_eq_true_eq, beq_iff_eq] at this
 obtain ⟨⟨⟨h1, h2⟩, h3⟩, h4, h5⟩ := this
 refine f114_sh _ _ _ ⟨fun e => ?_, fun _ => ⟨h1, h2, lg x, ?_, ?_, rfl⟩⟩
 ·have := eq_of_beq e; subst this; exact absurd hx (by decide)
 ·show hcell h 2 (0 + (tzi x).toNat * 1) = _
  rw [Nat.mul_one]
  exact HCells.get t (by rw [List.getElem?_map, h3]; rfl)
 ·have : 0 ≤ lg x := Int.natCast_nonneg _
  rw [w64 (by omega) (by omega)]
theorem tz {x : Int} (t : Tab h) (hx : x ∈ p2) : HC Tryd.prog 104 #[.int .u64 x] h fun v h' => v = .int .i64 (lg x) ∧ h' = h :=
 f104_sh _ _ _ ⟨_, tz64 t hx, rfl, rfl⟩
theorem wrap8 {x : Int} (h : 0 ≤ x ∧ x < 256) : IntKind.u8.wrap x = x := by
 unfold IntKind.wrap
 simp [IntKind.bits, IntKind.signed]; omega
theorem lg_lt {x : Int} (hx : x ∈ p2) : 0 ≤ lg x ∧ lg x < 13 := by
 obtain ⟨k, hk, rfl⟩ := p2_pow hx
 rw [lg_pow k (by omega)]; omega
theorem log_m {x : Int} (t : Tab h) (hx : x ∈ p2) : HC Tryd.prog 103 #[.int .i64 x] h fun v h' => v = .int .u8 (lg x) ∧ h' = h := by
 have b := lg_lt hx
 have p := p2_next hx
 refine f103_sh _ _ _ ⟨_, ?_, by rw [wrap8 ⟨b.1, by omega⟩], rfl⟩
 rw [wu64 (by omega) (by omega)]
 exact tz t hx
theorem log_r {x : Int} (hx : x ∈ p2) (h : Heap) : HC Tryd.prog 42 #[.int .i64 x] h fun v h' => v = .int .u8 (lg x) ∧ h' = h := by
 obtain ⟨k, hk, rfl⟩ := p2_pow hx
 refine f42_sh _ _ _ ⟨fun n i => ∃ j : Nat, j ≤ k ∧ n = ((2 ^ (k - j) : Nat) : Int) ∧ i = j, fun _ i => k - i.toNat, ⟨0, Nat.zero_le _, rfl, rfl⟩, ?_⟩
 rintro _ _ ⟨j, hj, rfl, rfl⟩
 have hle : 2 ^ (k - j) ≤ 2 ^ 12 := Nat.pow_le_pow_right (by decide) (by omega)
 refine ⟨fun g => ?_, fun g => ?_⟩
 ·have hg := of_decide_eq_true g
  have hjk : j < k := by
   rcases Nat.lt_or_ge j k with c | c
   ·exact c
   ·have : k - j = 0 := by omega
    rw [this] at hg; simp at hg
  rw [wadd j (by omega), Int.tdiv_eq_ediv_of_nonneg (by omega)]
  have e : ((2 ^ (k - j) : Nat) : Int) / 2 = ((2 ^ (k - (j + 1)) : Nat) : Int) := by
   have : 2 ^ (k - j) = 2 ^ (k - (j + 1)) * 2 := by rw [← Nat.pow_succ]; congr 1; omega
   rw [this]; omega
  have hle2 : 2 ^ (k - (j + 1)) ≤ 2 ^ 12 := Nat.pow_le_pow_right (by decide) (by omega)
  rw [e, w64 (by omega) (by omega)]
  exact ⟨⟨j + 1, hjk, rfl, rfl⟩, by simp only [Int.toNat_natCast]; omega⟩
 ·have hg := of_decide_eq_false g
  have hjk : j = k := by
   rcases Nat.lt_or_ge j k with c | c
   ·have : 2 ^ 1 ≤ 2 ^ (k - j) := Nat.pow_le_pow_right (by decide) (by omega)
    omega
   ·omega
  subst hjk
  rw [lg_pow j (by omega), wrap8 (by omega)]; exact ⟨rfl, rfl⟩
end
def leb : Nat → Int → List Int
 | 0, _ => []
 | k + 1, n => (n % 256) :: leb k (n / 256)
theorem leb_len : ∀ (k : Nat) (n : Int), (leb k n).length = k
 | 0, _ => rfl
 | k + 1, n => by simp [leb, leb_len k]
theorem leb_isB : ∀ (k : Nat) (n : Int), isB (leb k n)
 | 0, _ => fun x hx => by cases hx
 | k + 1, n => fun x hx => by
  rcases List.mem_cons.1 hx with rfl | hx
  ·omega
  ·exact leb_isB k _ x hx
theorem leb_succ : ∀ (k : Nat) (n : Int), leb (k + 1) n = leb k n ++ [n / 256 ^ k % 256]
 | 0, n => by simp [leb]
 | k + 1, n => by
  rw [leb, leb_succ k (n / 256), leb]
  have : n / 256 / 256 ^ k = n / 256 ^ (k + 1) := by
   rw [Int.ediv_ediv_of_nonneg (by decide), Int.pow_succ, Int.mul_comm]
  rw [this]; rfl
abbrev tB : TypeId := 5
theorem aB : AppT Tryd.prog 25 tB eB.k 1 := ⟨by kernel_rfl, by kernel_rfl, by kernel_rfl, ⟨.int .u8 0, [.int .u8 0], by unfold zeroB; kernel_rfl, rfl, rfl⟩, by decide⟩
def Gr (N : Nat) (h : Heap) (a : Option Addr) (v : Value) (h' : Heap) (L' : List Int) : Prop :=
 ∃ a' c', v = .slice a' L'.length c' ∧ Fr (blkA a) h h' ∧ Sl eB h' a' c' L' ∧ OwnF eB.k tB N h' a' c' ∧ ∀ b, blkA a' b → blkA a b ∨ h.size ≤ b
section
variable {h : Heap} {a : Option Addr} {c N : Nat} {L : List Int}
theorem fdiv_pow {n : Int} (k : Nat) (hk : k ≤ 8) : Int.fdiv n (2 ^ min (8 * k) 64) = n / 256 ^ k := by
 rw [Nat.min_eq_left (by omega), pow256, show (2 : Int) ^ (8 * k) = ((2 ^ (8 * k) : Nat) : Int) by simp]
 exact Int.fdiv_eq_ediv_of_nonneg _ (Int.natCast_nonneg _)
theorem u8_mod (x : Int) : IntKind.u8.wrap x = x % 256 := by unfold IntKind.wrap; simp [IntKind.bits, IntKind.signed]
theorem push_b {x : Int} (s : Sl eB h a c L) (w : OwnF eB.k tB N h a c) (hN : N ≤ h.size) (hl : L.length ≤ 1099511627776) {nb : Nat} {h2 : Heap} (e : nb = h.size) (eh : h2 = h.push (.cells #[.int .u8 x] tB)) {K : Value → Heap → Prop}
  (hk : ∀ a' c' h', Fr (blkA a) h h' → Sl eB h' a' c' (L ++ [x]) → OwnF eB.k tB N h' a' c' → (∀ b, blkA a' b → blkA a b ∨ h.size ≤ b) → K (.slice a' (L ++ [x]).length c') h') :
  HAppend Tryd.prog 25 25 (.slice a L.length c) (.slice (some ⟨nb, 0, none⟩) 1 1) h2 K := by
 have x2 : Ext h h2 := by rw [eh]; exact Ext.push _ _
 have r2 : h2[nb]? = some (.cells (([x] : List Int).flatMap eB.enc).toArray tB (0, 0)) := by rw [eh]; exact push_new e
 refine app_fz (L2 := [x]) aB (s.ext x2) (w.ext x2) (Sl.lit (L := [x]) r2) (Nat.le_trans hN x2.size) (by simp; omega) fun a' c' h' f s' w' b' => ?_
 have hs := x2.size
 have := hk a' c' h' ((x2.fr _).trans f fun _ _ g => g) s' w' fun b g => (b' b g).imp id fun q => by omega
 simpa using this
theorem put_m (s : Sl eB h a c L) (w : OwnF eB.k tB N h a c) (hN : N ≤ h.size) (hl : L.length ≤ 1073741824) (n : Int) (k : Nat) (hk : k ≤ 8) : HC Tryd.prog 83 #[.slice a L.length c, .int .u64 n, .int .i64 k] h fun v h' => Gr N h a v h' (L ++ leb k n) := by
 refine f83_sh _ _ _ _ _ _ _ ⟨fun a1 n1 c1 v h1 => ∃ j : Nat, v = j ∧ j ≤ k ∧ n1 = (L ++ leb j n).length ∧ Fr (blkA a) h h1 ∧ Sl eB h1 a1 c1 (L ++ leb j n) ∧ OwnF eB.k tB N h1 a1 c1 ∧ ∀ b, blkA a1 b → blkA a b ∨ h.size ≤ b, fun _ _ _ v _ => k - v.toNat,
  ⟨0, rfl, Nat.zero_le _, by simp [leb], Fr.refl _ _, by simpa [leb] using s, w, fun b g => .inl g⟩, ?_⟩
 rintro a1 _ c1 _ h1 ⟨j, rfl, hj, rfl, f1, s1, w1, b1⟩
 refine ⟨fun hlt => ?_, fun hge => ?_⟩
 ·have hjk := lt_of_dec hlt
  have hs1 := f1.size
  have e8 : IntKind.i64.wrap (8 * (j : Int)) = ((8 * j : Nat) : Int) := by rw [w64 (by omega) (by omega)]; simp
  rw [e8, Int.toNat_natCast, fdiv_pow j (by omega), u8_mod]
  refine ⟨by omega, fun nb h2 e2 eh2 => push_b s1 w1 (by omega) (by simp [leb_len]; omega) e2 eh2 fun a' c' h3 f3 s3 w3 b3 => ?_⟩
  rw [List.append_assoc, ← leb_succ] at s3 ⊢
  refine ⟨_, _, _, rfl, ?_⟩
  rw [wadd j (by omega)]
  refine ⟨⟨j + 1, rfl, hjk, rfl, f1.trans f3 fun b hb g => (b1 b g).elim id fun q => by omega, s3, w3, fun b g => ?_⟩, by simp only [Int.toNat_natCast]; omega⟩
  rcases b3 b g with q | q
  ·exact b1 b q
  ·exact .inr (by omega)
 ·have hjk : j = k := by have := ge_of_dec hge; omega
  subst hjk
  exact ⟨a1, c1, rfl, f1, s1, w1, b1⟩
theorem low_r (s : Sl eB h a c L) (w : OwnF eB.k tB N h a c) (hN : N ≤ h.size) (hl : L.length ≤ 1073741824) {n : Int} (hn : 0 ≤ n ∧ n < 18446744073709551616) (k : Nat) (hk : k ≤ 8) : HC Tryd.prog 43 #[.slice a L.length c, .int .u64 n, .int .i64 k] h fun v h' => Gr N h a v h' (L ++ leb k n) := by
 refine f43_sh _ _ _ _ _ _ _ ⟨fun a1 n1 c1 x v h1 => ∃ j : Nat, v = j ∧ j ≤ k ∧ x = n / 256 ^ j ∧ n1 = (L ++ leb j n).length ∧ Fr (blkA a) h h1 ∧ Sl eB h1 a1 c1 (L ++ leb j n) ∧ OwnF eB.k tB N h1 a1 c1 ∧ ∀ b, blkA a1 b → blkA a b ∨ h.size ≤ b, fun _ _ _ _ v _ => k - v.toNat,
  ⟨0, rfl, Nat.zero_le _, by simp, by simp [leb], Fr.refl _ _, by simpa [leb] using s, w, fun b g => .inl g⟩, ?_⟩
 rintro a1 _ c1 _ _ h1 ⟨j, rfl, hj, rfl, rfl, f1, s1, w1, b1⟩
 refine ⟨fun hlt => ?_, fun hge => ?_⟩
 ·have hjk := lt_of_dec hlt
  have hs1 := f1.size
  rw [u8_mod]
  refine fun nb h2 e2 eh2 => push_b s1 w1 (by omega) (by simp [leb_len]; omega) e2 eh2 fun a' c' h3 f3 s3 w3 b3 => ?_
  rw [List.append_assoc, ← leb_succ] at s3 ⊢
  refine ⟨_, _, _, rfl, ?_⟩
  have hp : (0 : Int) < 256 ^ j := by rw [pow256]; have := Nat.two_pow_pos (8 * j); omega
  have q0 : 0 ≤ n / 256 ^ j := Int.ediv_nonneg hn.1 (by omega)
  have q1 : n / 256 ^ j ≤ n := Int.ediv_le_self _ hn.1
  have e : IntKind.u64.wrap (Int.tdiv (n / 256 ^ j) 256) = n / 256 ^ (j + 1) := by
   rw [Int.tdiv_eq_ediv_of_nonneg q0, Int.ediv_ediv_of_nonneg (by omega), show (256 : Int) ^ j * 256 = 256 ^ (j + 1) from (Int.pow_succ 256 j).symm]
   have hp2 : (0 : Int) < 256 ^ (j + 1) := by rw [pow256]; have := Nat.two_pow_pos (8 * (j + 1)); omega
   have r0 : 0 ≤ n / 256 ^ (j + 1) := Int.ediv_nonneg hn.1 (by omega)
   have r1 : n / 256 ^ (j + 1) ≤ n := Int.ediv_le_self _ hn.1
   exact wu64 r0 (by omega)
  rw [wadd j (by omega), e]
  refine ⟨⟨j + 1, rfl, hjk, rfl, rfl, f1.trans f3 fun b hb g => (b1 b g).elim id fun q => by omega, s3, w3, fun b g => ?_⟩, by simp only [Int.toNat_natCast]; omega⟩
  rcases b3 b g with q | q
  ·exact b1 b q
  ·exact .inr (by omega)
 ·have hjk : j = k := by have := ge_of_dec hge; omega
  subst hjk
  exact ⟨a1, c1, rfl, f1, s1, w1, b1⟩
end
end Sc
end Go.Proofs.YthjehlocmikchaaDoor
namespace Go.Proofs.YthjehlocmikchaaDoor
namespace Sc
open Go
section
variable {h : Heap} {a : Option Addr} {c N : Nat} {L : List Int}
theorem Tab.lt {h : Heap} (t : Tab h) : 2 < h.size := by
 have h1 : hcell h 2 (0 + 0) = some (.int .u8 0) := HCells.get t rfl
 rcases Nat.lt_or_ge 2 h.size with c | c
 ·exact c
 ·have : h[2]? = none := Array.getElem?_eq_none c
  unfold hcell at h1; rw [this] at h1; cases h1
def Ob (N : Nat) (h : Heap) (v : Value) (L : List Int) : Prop := ∃ a c, v = .slice a L.length c ∧ Sl eB h a c L ∧ OwnF eB.k tB N h a c
theorem Gr.ob {h' : Heap} {v : Value} {L' : List Int} (w : OwnF eB.k tB N h a c) (g : Gr N h a v h' L') : Fr (fun b => N ≤ b) h h' ∧ Ob N h' v L' :=
 let ⟨a', c', e, f, s, w', _⟩ := g; ⟨f.mono fun _ _ q => (w.low q).1, a', c', e, s, w'⟩
theorem put_o (s : Sl eB h a c L) (w : OwnF eB.k tB N h a c) (hN : N ≤ h.size) (hl : L.length ≤ 1073741824) (n : Int) (k : Nat) (hk : k ≤ 8) : HC Tryd.prog 83 #[.slice a L.length c, .int .u64 n, .int .i64 k] h fun v h' => Fr (fun b => N ≤ b) h h' ∧ Ob N h' v (L ++ leb k n) :=
 (put_m s w hN hl n k hk).mono fun _ _ g => g.ob w
theorem low_o (s : Sl eB h a c L) (w : OwnF eB.k tB N h a c) (hN : N ≤ h.size) (hl : L.length ≤ 1073741824) {n : Int} (hn : 0 ≤ n ∧ n < 18446744073709551616) (k : Nat) (hk : k ≤ 8) : HC Tryd.prog 43 #[.slice a L.length c, .int .u64 n, .int .i64 k] h fun v h' => Fr (fun b => N ≤ b) h h' ∧ Ob N h' v (L ++ leb k n) :=
 (low_r s w hN hl hn k hk).mono fun _ _ g => g.ob w
theorem app_o {a2 : Option Addr} {c2 : Nat} {L2 : List Int} (s : Sl eB h a c L) (w : OwnF eB.k tB N h a c) (s2 : Sl eB h a2 c2 L2) (hN : N ≤ h.size) (hl : L.length + L2.length ≤ 1073741824) {K : Value → Heap → Prop}
  (hk : ∀ v h', Fr (fun b => N ≤ b) h h' → Ob N h' v (L ++ L2) → K v h') : HAppend Tryd.prog 25 25 (.slice a L.length c) (.slice a2 L2.length c2) h K :=
 app_fz aB s w s2 hN (by omega) fun a' c' h' f s' w' _ => hk _ h' (f.mono fun _ _ q => (w.low q).1) ⟨a', c', by simp, s', w'⟩
theorem lit_mark {h1 h2 : Heap} {nb : Nat} {L : List Int} (hN : N ≤ nb) (r : h1[nb]? = some (.cells (L.flatMap eB.enc).toArray tB (0, 0))) (e : h2 = hfrz h1 nb (L.flatMap eB.enc).toArray.size) :
  Fr (fun b => b = nb) h1 h2 ∧ Sl eB h2 (some ⟨nb, 0, none⟩) L.length L ∧ OwnF eB.k tB N h2 (some ⟨nb, 0, none⟩) L.length := by
 have r2 : h2[nb]? = some (.cells (L.flatMap eB.enc).toArray tB ((L.flatMap eB.enc).toArray.size, (L.flatMap eB.enc).toArray.size + 1)) := by rw [e]; exact hfrz_row r
 refine ⟨by rw [e]; exact fr_hfrz _ fun _ => rfl, Sl.of_row r2 (Nat.le_refl _) fun j v hv => by rw [Nat.zero_add, List.getElem?_toArray]; exact hv, .inr ⟨nb, 0, _, _, rfl, hN, r2, ?_, .inl (Nat.le_refl _)⟩⟩
 have := flat_len eB L
 simp only [List.size_toArray, this, Nat.zero_add]; exact Nat.le_refl _
def shp (g : Geo) : List Int := [lg g.page, g.pages - 1, lg g.al]
theorem shape_m {g : Geo} (hg : Gok g) (t : Tab h) : HC Tryd.prog 82 #[g.v] h fun v h' => Ext h h' ∧ ∃ a c, v = .slice a (shp g).length c ∧ Sl eB h' a c (shp g) := by
 refine f82_sh _ _ _ _ _ _ fun _ h1 _ _ x1 => ⟨_, fun h4 x4 => log_m (t.ext (x1.trans x4)) hg.1.1, _, fun h3 x3 => log_m (t.ext (x1.trans x3)) hg.2.2.2.1.1, fun nb h2 e2 eh2 => ?_⟩
 have hp := hg.2.1
 rw [w64 (by omega) (by omega), wrap8 (by omega)] at eh2
 have x2 : Ext h1 h2 := by rw [eh2]; exact Ext.push _ _
 have r2 : h2[nb]? = some (.cells ((shp g).flatMap eB.enc).toArray tB (0, 0)) := by rw [eh2]; exact push_new e2
 exact ⟨x1.trans x2, some ⟨nb, 0, none⟩, 3, rfl, Sl.lit (L := shp g) r2⟩
theorem summed_m (s : Sl eB h a c L) (w : OwnF eB.k tB N h a c) (hN : N ≤ h.size) (hb : isB L) (hl : L.length ≤ 1073741824) : HC Tryd.prog 84 #[.slice a L.length c] h fun v h' => Fr (fun b => N ≤ b) h h' ∧ Ob N h' v (L ++ leb 4 (crc 0 L)) := by
 refine f84_sh _ _ _ _ _ ⟨_, crc_m s hb (by omega), ?_⟩
 have u := crc32 0 L
 rw [wu64 (x := crc 0 L) u.1 (by have := u.2; omega)]
 refine (put_o s w hN hl _ 4 (by decide)).mono ?_
 rintro v h1 ⟨f, a', c', rfl, s', w'⟩
 exact ⟨_, _, _, rfl, f, a', c', rfl, s', w'⟩
structure Hd where
 ep : Int
 sq : Int
 rg : Int
abbrev Hd.v (x : Hd) : Value := .agg #[.int .u64 x.ep, .int .u64 x.sq, .int .i64 x.rg]
def hdOk (g : Geo) (x : Hd) : Prop := 0 ≤ x.rg ∧ x.rg < g.regs ∧ x.sq ≠ 0
instance (g : Geo) (x : Hd) : Decidable (hdOk g x) := by unfold hdOk; infer_instance
def headB (g : Geo) (x : Hd) : List Int := [67, 76, 82, 72] ++ [1] ++ shp g ++ leb 8 x.ep ++ leb 8 x.sq ++ leb 4 x.rg
def encH (g : Geo) (x : Hd) : List Int := headB g x ++ leb 4 (crc 0 (headB g x))
theorem shp_isB {g : Geo} (hg : Gok g) : isB (shp g) := fun x hx => by
 have h1 := lg_lt hg.1.1
 have h2 := lg_lt hg.2.2.2.1.1
 have h3 := hg.2.1
 simp only [shp, List.mem_cons, List.not_mem_nil, or_false] at hx
 omega
theorem headB_isB {g : Geo} (hg : Gok g) (x : Hd) : isB (headB g x) := by
 unfold headB
 refine isB_app (isB_app (isB_app (isB_app (isB_app ?_ ?_) (shp_isB hg)) (leb_isB _ _)) (leb_isB _ _)) (leb_isB _ _)
 ·intro y hy; simp at hy; omega
 ·intro y hy; simp at hy; omega
theorem encH_isB {g : Geo} (hg : Gok g) (x : Hd) : isB (encH g x) := isB_app (headB_isB hg x) (leb_isB _ _)
theorem headB_len (g : Geo) (x : Hd) : (headB g x).length = 28 := by simp [headB, shp, leb_len]
theorem encH_len (g : Geo) (x : Hd) : (encH g x).length = 32 := by simp [encH, headB_len, leb_len]
def TellH (g : Geo) (x : Hd) (h : Heap) (v : Value) (h' : Heap) : Prop := Ext h h' ∧
 if Gok g then (if hdOk g x then ∃ a c, v = .tuple #[.slice a (encH g x).length c, .int .i64 0] ∧ Sl eB h' a c (encH g x) else v = .tuple #[.slice none 0 0, .int .i64 1]) else v = .tuple #[.slice none 0 0, .int .i64 20]
theorem tell_no {g : Geo} {x : Hd} {h' : Heap} (hn : ¬ Gok g) (e : Ext h h') : TellH g x h (.tuple #[.slice none 0 0, .int .i64 20]) h' := ⟨e, by rw [if_neg hn]⟩
theorem tell_bad {g : Geo} {x : Hd} {h' : Heap} (hg : Gok g) (hn : ¬ hdOk g x) (e : Ext h h') : TellH g x h (.tuple #[.slice none 0 0, .int .i64 1]) h' := ⟨e, by rw [if_pos hg, if_neg hn]⟩
theorem tell_ok {g : Geo} {x : Hd} {h' : Heap} {a : Option Addr} {c : Nat} (hg : Gok g) (ok : hdOk g x) (e : Ext h h') (s : Sl eB h' a c (encH g x)) : TellH g x h (.tuple #[.slice a (encH g x).length c, .int .i64 0]) h' := ⟨e, by rw [if_pos hg, if_pos ok]; exact ⟨a, c, rfl, s⟩⟩
theorem bad_hd {g : Geo} {x : Hd} (e : ((decide (x.rg < 0)) || ((decide (x.rg ≥ g.regs)) || (x.sq == 0))) = true) : ¬ hdOk g x := by
 simp only [Bool.or_eq_true, decide_eq_true_eq, beq_iff_eq] at e
 rintro ⟨h1, h2, h3⟩; omega
theorem good_hd {g : Geo} {x : Hd} (e : ((decide (x.rg < 0)) || ((decide (x.rg ≥ g.regs)) || (x.sq == 0))) = false) : hdOk g x := by
 simp only [Bool.or_eq_false_iff, decide_eq_false_iff_not, beq_eq_false_iff_ne] at e
 exact ⟨by omega, by omega, e.2.2⟩
set_option maxHeartbeats 1600000 in
theorem encHead_m (g : Geo) (x : Hd) (t : Tab h) : HC Tryd.prog 61 #[g.v, x.v] h fun v h' => TellH g x h v h' := by
 refine f61_sh _ _ _ _ _ _ _ _ _ fun gb hb h2 lo1 lt1 lo2 lt2 x2 => (check_m g h2).mono ?_
 rintro _ h3 ⟨rfl, x3⟩
 by_cases hn : ¬ Gok g
 ·rw [if_neg hn]
  exact ⟨x3, _, rfl, fun _ => tell_no hn (x2.trans x3), fun e => by simp at e⟩
 have hg : Gok g := Decidable.not_not.1 hn
 rw [if_pos hg]
 refine ⟨x3, _, rfl, fun e => by simp at e, fun _ => ⟨fun e => ?_, fun e => ?_⟩⟩
 ·exact tell_bad hg (bad_hd e) (x2.trans x3)
 have ok := good_hd e
 intro nb h4 e4 eh4
 have x4 : Ext h3 h4 := by rw [eh4]; exact Ext.push _ _
 have r4 : h4[nb]? = some (.cells (([67, 76, 82, 72] : List Int).flatMap eB.enc).toArray tB (0, 0)) := by rw [eh4]; exact push_new e4
 clear eh4
 refine ⟨_, _, r4, fun h5 e5 => ?_⟩
 obtain ⟨f5, s5, w5⟩ := lit_mark (N := h3.size) (by omega) r4 e5
 clear e5
 have s2 := x2.size
 have s3 := x3.size
 have s4 := x4.size
 have kp : ∀ {ha hb' : Heap} {Z : Nat → Prop} (f : Fr Z ha hb') (hz : ∀ b, Z b → h3.size ≤ b) (l : List Nat) (hl : ∀ b ∈ l, b < h2.size), Kp l ha hb' := fun f hz l hl => f.kp fun b hb q => by have := hl b hb; have := hz b q; omega
 have ls : ∀ b ∈ [gb, hb], b < h2.size := fun b hb => by simp at hb; rcases hb with rfl | rfl <;> assumption
 have l1 : ∀ b ∈ [hb], b < h2.size := fun b hb => ls b (by simp at hb; simp [hb])
 refine ⟨kp f5 (fun b q => by omega) _ ls, fun nb1 h6 e6 eh6 => ?_⟩
 have x6 : Ext h5 h6 := by rw [eh6]; exact Ext.push _ _
 have r6 : h6[nb1]? = some (.cells (([1] : List Int).flatMap eB.enc).toArray tB (0, 0)) := by rw [eh6]; exact push_new e6
 clear eh6
 have s5' := f5.size
 have s6 := x6.size
 have F5 : Fr (fun b => h3.size ≤ b) h3 h6 := ((x4.fr _).trans f5 fun b _ q => by omega).trans (x6.fr (fun _ => False)) fun _ _ q => q.elim
 refine app_o (L := [67, 76, 82, 72]) (L2 := [1]) (s5.ext x6) (w5.ext x6) (Sl.lit (L := [1]) r6) (by omega) (by decide) ?_
 rintro _ h7 f7 ⟨a7, c7, rfl, s7, w7⟩
 have t7 : Tab h7 := (t.ext (x2.trans x3)).fr (F5.trans f7 fun _ _ q => q) (fun q => by have := t.lt; omega)
 refine ⟨kp f7 (fun b q => q) _ ls, a7, _, c7, rfl, (shape_m hg t7).mono ?_⟩
 rintro _ h8 ⟨x8, a8, c8, rfl, s8⟩
 have s7' := f7.size
 have s8' := x8.size
 refine ⟨x8, _, _, _, rfl, app_o (s7.ext x8) (w7.ext x8) s8 (by omega) (by simp [shp]) ?_⟩
 rintro _ h9 f9 ⟨a9, c9, rfl, s9, w9⟩
 have s9' := f9.size
 refine ⟨kp f9 (fun b q => q) _ l1, _, _, _, rfl, (put_o s9 w9 (by omega) (by simp [shp]) x.ep 8 (by decide)).mono ?_⟩
 rintro _ h10 ⟨f10, a10, c10, rfl, s10, w10⟩
 have s10' := f10.size
 refine ⟨kp f10 (fun b q => q) _ l1, _, _, _, rfl, (put_o s10 w10 (by omega) (by simp [shp, leb_len]) x.sq 8 (by decide)).mono ?_⟩
 rintro _ h11 ⟨f11, a11, c11, rfl, s11, w11⟩
 have s11' := f11.size
 have hr := ok.1
 have hr2 := ok.2.1
 have hr3 := hg.2.2.1
 rw [wu64 (x := x.rg) hr (by omega)]
 refine ⟨kp f11 (fun b q => q) _ l1, _, _, _, rfl, (put_o s11 w11 (by omega) (by simp [shp, leb_len]) x.rg 4 (by decide)).mono ?_⟩
 rintro _ h12 ⟨f12, a12, c12, rfl, s12, w12⟩
 have s12' := f12.size
 refine ⟨_, _, _, rfl, (summed_m s12 w12 (by omega) (headB_isB hg x) (by simp [shp, leb_len])).mono ?_⟩
 rintro _ h13 ⟨f13, a13, c13, rfl, s13, w13⟩
 refine ⟨_, _, _, rfl, tell_ok hg ok ?_ s13⟩
 have F : Fr (fun b => h3.size ≤ b) h3 h13 := ((((((F5.trans f7 fun _ _ q => q).trans (x8.fr (fun _ => False)) fun _ _ q => q.elim).trans f9 fun _ _ q => q).trans f10 fun _ _ q => q).trans f11 fun _ _ q => q).trans f12 fun _ _ q => q).trans f13 fun _ _ q => q
 exact (((x2.trans x3).fr _).trans F fun _ _ q => q).ext fun b hb q => by omega
end
end Sc
end Go.Proofs.YthjehlocmikchaaDoor
namespace Go.Proofs.YthjehlocmikchaaDoor
namespace Sc
open Go
theorem fit_frm (S : Nat → Prop) : Fit (Fr S) := ⟨fun _ _ x => x.fr S, fun _ _ _ f g => f.trans g fun _ _ s => s⟩
section
variable {h : Heap}
set_option maxHeartbeats 3200000 in
theorem encHead_r (g : Geo) (x : Hd) (he : 0 ≤ x.ep ∧ x.ep < 18446744073709551616) (hq : 0 ≤ x.sq ∧ x.sq < 18446744073709551616) (h : Heap) : HC Tryd.prog 17 #[g.v, x.v] h fun v h' => TellH g x h v h' := by
 refine f17_sh _ _ _ _ _ _ _ _ _ fun gb hb h2 lo1 lt1 lo2 lt2 x2 => (check_r g h2).mono ?_
 rintro _ h3 ⟨rfl, x3⟩
 by_cases hn : ¬ Gok g
 ·rw [if_neg hn]
  exact ⟨x3, _, rfl, fun _ => tell_no hn (x2.trans x3), fun e => by simp at e⟩
 have hg : Gok g := Decidable.not_not.1 hn
 rw [if_pos hg]
 refine ⟨x3, _, rfl, fun e => by simp at e, fun _ => ⟨fun e => ?_, fun e => ?_⟩⟩
 ·exact tell_bad hg (bad_hd e) (x2.trans x3)
 have ok := good_hd e
 have s2 := x2.size
 have s3 := x3.size
 have hp := hg.2.1
 have kp : ∀ {ha hb' : Heap} (f : Fr (fun b => h3.size ≤ b) ha hb') (l : List Nat) (hl : ∀ b ∈ l, b < h2.size), Kp l ha hb' := fun f l hl => f.kp fun b hb q => by have := hl b hb; omega
 have ls : ∀ b ∈ [gb, hb], b < h2.size := fun b hb => by simp at hb; rcases hb with rfl | rfl <;> assumption
 have l1 : ∀ b ∈ [hb], b < h2.size := fun b hb => ls b (by simp at hb; simp [hb])
 have l0 : ∀ b ∈ [gb], b < h2.size := fun b hb => ls b (by simp at hb; simp [hb])
 have e8 : IntKind.u8.wrap (IntKind.i64.wrap (g.pages - 1)) = g.pages - 1 := by rw [w64 (by omega) (by omega), wrap8 (by omega)]
 rw [e8]
 let M : List Int := [67, 76, 82, 72]
 let A : List Int := [1, lg g.page, g.pages - 1, lg g.al]
 have fin : ∀ {ha : Heap} {p q : Nat} {K : Value → Heap → Prop}, Fr (fun b => h3.size ≤ b) h3 ha → Sl eB ha (some ⟨p, 0, none⟩) 4 M → OwnF eB.k tB h3.size ha (some ⟨p, 0, none⟩) 4 → Sl eB ha (some ⟨q, 0, none⟩) 4 A →
   (∀ v h', Fr (fun b => h3.size ≤ b) ha h' → Fr (fun b => h3.size ≤ b) h3 h' → Ob h3.size h' v (M ++ A) → K v h') → HAppend Tryd.prog 25 25 (.slice (some ⟨p, 0, none⟩) 4 4) (.slice (some ⟨q, 0, none⟩) 4 4) ha K := fun F s w s' hk =>
  app_o (L := M) (L2 := A) s w s' F.size (by simp [M, A]) fun v h' f o => hk v h' f (F.trans f fun _ _ q => q) o
 refine ⟨fun b n c h4 => Fr (fun b => h3.size ≤ b) h3 h4 ∧ Ob h3.size h4 (.slice b n c) (M ++ A), ⟨Fr (fun b => h3.size ≤ b), fit_frm _, fun hx f => kp f _ l0, _, fun h17 _ => log_r hg.1.1 h17, fun hx f => kp f _ l0, fun hx f => kp f _ l0, _, fun h16 _ => log_r hg.2.2.2.1.1 h16, ?_, ?_⟩, ?_⟩
 ·intro nb h5 e5 eh5
  have x5 : Ext h3 h5 := by rw [eh5]; exact Ext.push _ _
  have r5 : h5[nb]? = some (.cells (M.flatMap eB.enc).toArray tB (0, 0)) := by rw [eh5]; exact push_new e5
  clear eh5
  have s5 := x5.size
  refine ⟨⟨_, _, r5, fun h6 e6 => ?_⟩, fun nb1 h9 e9 eh9 => ?_⟩
  ·obtain ⟨f6, sl6, w6⟩ := lit_mark (N := h3.size) (by omega) r5 e6
   have f6' : Fr (fun b => h3.size ≤ b) h5 h6 := f6.mono fun b _ q => by omega
   have s6 := f6.size
   refine ⟨f6', kp f6' _ ls, fun nb1 h7 e7 eh7 => ?_⟩
   have x7 : Ext h6 h7 := by rw [eh7]; exact Ext.push _ _
   have r7 : h7[nb1]? = some (.cells (A.flatMap eB.enc).toArray tB (0, 0)) := by rw [eh7]; exact push_new e7
   clear eh7
   refine fin (((x5.fr _).trans f6' fun _ _ q => q).trans (x7.fr (fun _ => False)) fun _ _ q => q.elim) (sl6.ext x7) (w6.ext x7) (Sl.lit (L := A) r7) ?_
   rintro _ h8 f8 F8 ⟨a8, c8, rfl, s8, w8⟩
   exact ⟨kp f8 _ l1, _, _, _, rfl, F8, a8, c8, rfl, s8, w8⟩
  ·have x9 : Ext h5 h9 := by rw [eh9]; exact Ext.push _ _
   have r9 : h9[nb1]? = some (.cells (A.flatMap eB.enc).toArray tB (0, 0)) := by rw [eh9]; exact push_new e9
   clear eh9
   have s9 := x9.size
   have l5 := row_lt r5
   refine ⟨_, _, x9.row r5, fun h10 e10 => ?_⟩
   obtain ⟨f10, sl10, w10⟩ := lit_mark (N := h3.size) (by omega) (x9.row r5) e10
   have f10' : Fr (fun b => h3.size ≤ b) h9 h10 := f10.mono fun b _ q => by omega
   refine ⟨f10', kp f10' _ ls, fin (((x5.trans x9).fr _).trans f10' fun _ _ q => q) sl10 w10 (Sl.lit (L := A) (f10.row r9 (by omega))) ?_⟩
   rintro _ h11 f11 F11 ⟨a11, c11, rfl, s11, w11⟩
   exact ⟨kp f11 _ l1, _, _, _, rfl, F11, a11, c11, rfl, s11, w11⟩
 ·intro nb h12 e12 eh12
  have x12 : Ext h3 h12 := by rw [eh12]; exact Ext.push _ _
  have r12 : h12[nb]? = some (.cells (A.flatMap eB.enc).toArray tB (0, 0)) := by rw [eh12]; exact push_new e12
  clear eh12
  have s12 := x12.size
  intro nb1 h13 e13 eh13
  have x13 : Ext h12 h13 := by rw [eh13]; exact Ext.push _ _
  have r13 : h13[nb1]? = some (.cells (M.flatMap eB.enc).toArray tB (0, 0)) := by rw [eh13]; exact push_new e13
  clear eh13
  have l12 := row_lt r12
  refine ⟨_, _, r13, fun h14 e14 => ?_⟩
  obtain ⟨f14, sl14, w14⟩ := lit_mark (N := h3.size) (by omega) r13 e14
  have f14' : Fr (fun b => h3.size ≤ b) h13 h14 := f14.mono fun b _ q => by omega
  refine ⟨f14', kp f14' _ ls, fin (((x12.trans x13).fr _).trans f14' fun _ _ q => q) sl14 w14 (Sl.lit (L := A) (f14.row (x13.row r12) (by omega))) ?_⟩
  rintro _ h15 f15 F15 ⟨a15, c15, rfl, s15, w15⟩
  exact ⟨kp f15 _ l1, _, _, _, rfl, F15, a15, c15, rfl, s15, w15⟩
 ·rintro b n c h4 ⟨F4, a4, c4, e4, s4, w4⟩
  cases e4
  have hs4 := F4.size
  have hr := ok.1
  have hr2 := ok.2.1
  have hr3 := hg.2.2.1
  refine ⟨Fr (fun b => h3.size ≤ b), fit_frm _, fun hx f => kp f _ l1, fun hx f => kp f _ l1, (low_o s4 w4 hs4 (by simp [M, A]) he 8 (by decide)).mono ?_⟩
  rintro _ h18 ⟨f18, a18, c18, rfl, s18, w18⟩
  have hs18 := f18.size
  refine ⟨f18, kp f18 _ l1, _, _, _, rfl, (low_o s18 w18 (by omega) (by simp [M, A, leb_len]) hq 8 (by decide)).mono ?_⟩
  rintro _ h19 ⟨f19, a19, c19, rfl, s19, w19⟩
  have hs19 := f19.size
  rw [wu64 (x := x.rg) hr (by omega)]
  refine ⟨f19, kp f19 _ l1, _, _, _, rfl, (low_o s19 w19 (by omega) (by simp [M, A, leb_len]) ⟨hr, by omega⟩ 4 (by decide)).mono ?_⟩
  rintro _ h20 ⟨f20, a20, c20, rfl, s20, w20⟩
  have hs20 := f20.size
  have hB : isB (headB g x) := headB_isB hg x
  have u := crc32 0 (headB g x)
  refine ⟨_, _, _, rfl, _, crc_r s20 hB (by simp [M, A, leb_len]), ?_⟩
  have eH : M ++ A ++ leb 8 x.ep ++ leb 8 x.sq ++ leb 4 x.rg = headB g x := rfl
  rw [eH] at s20 ⊢
  rw [wu64 (x := crc 0 (headB g x)) u.1 (by have := u.2; omega)]
  refine (low_o s20 w20 (by omega) (by rw [headB_len]; decide) ⟨u.1, by have := u.2; omega⟩ 4 (by decide)).mono ?_
  rintro _ h21 ⟨f21, a21, c21, rfl, s21, w21⟩
  refine ⟨_, _, _, rfl, tell_ok hg ok ?_ s21⟩
  have F : Fr (fun b => h3.size ≤ b) h3 h21 := (((F4.trans f18 fun _ _ q => q).trans f19 fun _ _ q => q).trans f20 fun _ _ q => q).trans f21 fun _ _ q => q
  exact (((x2.trans x3).fr _).trans F fun _ _ q => q).ext fun b hb q => by omega
end
end Sc
end Go.Proofs.YthjehlocmikchaaDoor
namespace Go.Proofs.YthjehlocmikchaaDoor
namespace Sc
open Go
theorem ofL_eq {A B : List Int} (ha : isB A) (hb : isB B) : decide (ofL A = ofL B) = decide (A = B) := by
 rw [Bool.eq_iff_iff]; simp only [decide_eq_true_eq]
 exact ⟨fun e => by rw [← toL_ofL ha, ← toL_ofL hb, e], fun e => by rw [e]⟩
section
variable {h : Heap} {a b : Option Addr} {c d : Nat} {A B : List Int}
theorem eq_m (s : Sl eB h a c A) (s' : Sl eB h b d B) (ha : isB A) (hb : isB B) : HC Tryd.prog 62 #[.slice a A.length c, .slice b B.length d] h fun v h' => v = .bool (decide (A = B)) ∧ h' = h :=
 f62_sh _ _ _ _ _ _ _ _ ⟨_, s.byt, _, s'.byt, by rw [ofL_eq ha hb], rfl⟩
end
def hdOf (L : List Int) : Hd := ⟨le ((L.drop 8).take 8), le ((L.drop 16).take 8), le ((L.drop 24).take 4)⟩
def headD (g : Geo) (L : List Int) : Option Hd := if Gok g ∧ 32 ≤ L.length ∧ hdOk g (hdOf L) ∧ encH g (hdOf L) = L.take 32 then some (hdOf L) else none
def z3 : Hd := ⟨0, 0, 0⟩
def tellD (g : Geo) (L : List Int) : Value := match headD g L with | some x => .tuple #[x.v, .int .i64 0] | none => .tuple #[z3.v, .int .i64 (if Gok g then 50 else 20)]
theorem tellD_no {g : Geo} {L : List Int} (hn : ¬ Gok g) : tellD g L = .tuple #[z3.v, .int .i64 20] := by
 unfold tellD headD; rw [if_neg (fun q => hn q.1), if_neg hn]
theorem tellD_bad {g : Geo} {L : List Int} (hg : Gok g) (hb : ¬ (32 ≤ L.length ∧ hdOk g (hdOf L) ∧ encH g (hdOf L) = L.take 32)) : tellD g L = .tuple #[z3.v, .int .i64 50] := by
 unfold tellD headD; rw [if_neg (fun q => hb q.2), if_pos hg]
theorem tellD_ok {g : Geo} {L : List Int} (hg : Gok g) (hb : 32 ≤ L.length ∧ hdOk g (hdOf L) ∧ encH g (hdOf L) = L.take 32) : tellD g L = .tuple #[(hdOf L).v, .int .i64 0] := by
 unfold tellD headD; rw [if_pos ⟨hg, hb⟩]
section
variable {h : Heap} {a : Option Addr} {c : Nat} {L : List Int}
theorem num_cut (s : Sl eB h a c L) (hb : isB L) {l r : Nat} (hlr : l ≤ r) (hr : r ≤ L.length) (h8 : r - l ≤ 8) {h1 : Heap} (x : Ext h h1) : HC Tryd.prog 60 #[.slice (slA a l 1 c) (r - l) (c - l)] h1 fun v h' => v = .int .u64 (le ((L.drop l).take (r - l))) ∧ h' = h1 := by
 have s1 := (s.ext x).cut hlr hr
 have e : (L.take r).drop l = (L.drop l).take (r - l) := List.drop_take
 rw [e] at s1
 have el : ((L.drop l).take (r - l)).length = r - l := by simp; omega
 have := number_m s1 (isB_take (isB_drop hb l) (r - l)) (by omega)
 rw [el] at this; exact this
theorem le_u64 {L : List Int} (hb : isB L) (hl : L.length ≤ 8) : 0 ≤ le L ∧ le L < 18446744073709551616 := by
 have h1 := le_nonneg hb
 have hpw : (256 : Int) ^ L.length ≤ 256 ^ 8 := by
  rw [pow256, pow256]
  have : 2 ^ (8 * L.length) ≤ 2 ^ (8 * 8) := Nat.pow_le_pow_right (by decide) (by omega)
  omega
 have h7 : (256 : Int) ^ 8 = 18446744073709551616 := by decide
 omega
theorem le_u32 {L : List Int} (hb : isB L) (hl : L.length ≤ 4) : 0 ≤ le L ∧ le L < 4294967296 := by
 have h1 := le_nonneg hb
 have hpw : (256 : Int) ^ L.length ≤ 256 ^ 4 := by
  rw [pow256, pow256]
  have : 2 ^ (8 * L.length) ≤ 2 ^ (8 * 4) := Nat.pow_le_pow_right (by decide) (by omega)
  omega
 have h7 : (256 : Int) ^ 4 = 4294967296 := by decide
 omega
theorem frpb {h h3 h4 : Heap} {pb : Nat} (x : Ext h h3) (lo : h.size ≤ pb) (f : Fr (fun i => i = pb) h3 h4) : Ext h h4 := ((x.fr _).trans f fun _ _ q => q).ext fun b hb q => by omega
theorem head_m (g : Geo) (t : Tab h) (s : Sl eB h a c L) (hb : isB L) : HC Tryd.prog 32 #[g.v, .slice a L.length c] h fun v h' => v = tellD g L ∧ Ext h h' := by
 refine f32_sh _ _ _ _ _ _ _ _ _ fun gb pb h2 _ _ lo lt x2 => (check_m g h2).mono ?_
 rintro _ h3 ⟨rfl, x3⟩
 have x23 := x2.trans x3
 by_cases hn : ¬ Gok g
 ·rw [if_neg hn, tellD_no hn]
  exact ⟨x3, _, rfl, fun _ h4 f4 => ⟨rfl, frpb x23 lo f4⟩, fun e => by simp at e⟩
 have hg : Gok g := Decidable.not_not.1 hn
 rw [if_pos hg]
 refine ⟨x3, _, rfl, fun e => by simp at e, fun _ => ⟨fun e h5 f5 => ?_, fun e => ?_⟩⟩
 ·have := of_decide_eq_true e
  rw [tellD_bad hg (fun q => by omega)]; exact ⟨rfl, frpb x23 lo f5⟩
 have hL : 32 ≤ L.length := by have := of_decide_eq_false e; omega
 have hc := s.le
 have r4 := le_u32 (L := (L.drop 24).take 4) (isB_take (isB_drop hb _) _) (by simp; omega)
 refine ⟨by omega, by omega, by omega, fun sl e1 => ⟨_, fun h13 x13 => by subst e1; exact num_cut s hb (by decide) (by omega) (by decide) (x23.trans x13), by omega, by omega, by omega, fun sl1 e1 => ⟨_, fun h12 x12 => by subst e1; exact num_cut s hb (by decide) (by omega) (by decide) (x23.trans x12), by omega, by omega, by omega, fun sl2 e1 => ⟨_, fun h11 x11 => by subst e1; exact num_cut s hb (by decide) (by omega) (by decide) (x23.trans x11), fun hv h7 _ _ x7 => ?_⟩⟩⟩⟩
 have ew : IntKind.i64.wrap (le ((L.drop (Int.toNat 24)).take (Int.toNat 28 - Int.toNat 24))) = (hdOf L).rg := by
  show IntKind.i64.wrap (le ((L.drop 24).take 4)) = _
  rw [w64 (by omega) (by omega)]; rfl
 rw [ew]
 have x7' := x23.trans x7
 refine (encHead_m g (hdOf L) (t.ext x7')).mono ?_
 rintro v h8 ⟨x8, hv⟩
 rw [if_pos hg] at hv
 have x8' := x7'.trans x8
 by_cases ok : hdOk g (hdOf L)
 ·rw [if_pos ok] at hv
  obtain ⟨a8, c8, rfl, s8⟩ := hv
  have s0 := (s.ext x8').cut (l := 0) (r := 32) (by decide) hL
  have el : ((L.take 32).drop 0).length = 32 := by simp; omega
  have e0 : (L.take 32).drop 0 = L.take 32 := rfl
  have he := eq_m s8 s0 (encH_isB hg _) (isB_drop (isB_take hb 32) 0)
  rw [el, e0] at he
  refine ⟨x8, _, _, _, _, rfl, !decide (encH g (hdOf L) = L.take 32), ⟨fun q => by simp at q, fun _ => ⟨by omega, by omega, by omega, fun sl3 e3 => ⟨_, by subst e3; exact he, rfl⟩⟩⟩, fun e h9 f9 => ?_, fun e h10 f10 => ?_⟩
  ·have hne : ¬ encH g (hdOf L) = L.take 32 := by simpa using e
   rw [tellD_bad hg (fun q => hne q.2.2)]
   exact ⟨rfl, frpb x8' lo f9⟩
  ·have heq : encH g (hdOf L) = L.take 32 := by simpa using e
   rw [tellD_ok hg ⟨hL, ok, heq⟩]
   exact ⟨rfl, frpb x8' lo f10⟩
 ·rw [if_neg ok] at hv
  subst hv
  refine ⟨x8, _, _, _, _, rfl, true, ⟨fun _ => rfl, fun q => by simp at q⟩, fun e h9 f9 => ?_, fun e => by cases e⟩
  rw [tellD_bad hg (fun q => ok q.2.1)]
  exact ⟨rfl, frpb x8' lo f9⟩
end
end Sc
end Go.Proofs.YthjehlocmikchaaDoor
namespace Go.Proofs.YthjehlocmikchaaDoor
namespace Sc
open Go
def fst0 (g : Geo) : Int := upTo 32 g.al
theorem fst_bounds {g : Geo} (hg : Gok g) : 32 ≤ fst0 g ∧ fst0 g ≤ 4127 ∧ fst0 g + 48 ≤ g.sz := by
 have b := ok_bounds hg
 obtain ⟨k, hk, ek⟩ := p2_pow hg.2.2.2.1.1
 have hu := upTo_ge (n := 32) (al := g.al) (by omega)
 unfold fst0
 refine ⟨by omega, by omega, ?_⟩
 by_cases h32 : g.al ≤ 32
 ·have : upTo 32 g.al = 32 := by
   have h3 : (32 : Int) % g.al = 0 := by
    have hm := hg.2.2.2.1.1
    simp only [p2, List.mem_cons, List.not_mem_nil, or_false] at hm
    rcases hm with h | h | h | h | h | h | h | h | h | h | h | h | h <;> first | (rw [h]; decide) | omega
   exact (upTo_first (by omega) (Int.le_refl _) hu.1 h3).symm
  rw [this]; have := b.1; omega
 ·have h3 : upTo 32 g.al = g.al := by
   refine (upTo_first (by omega) (by omega) ?_ (Int.emod_self)).symm
   have h4 := hu.2.2
   obtain ⟨q, hq⟩ := Int.dvd_of_emod_eq_zero h4
   have hq1 : 1 ≤ q := by
    rcases Int.lt_or_le q 1 with c | c
    ·have : g.al * q ≤ g.al * 0 := Int.mul_le_mul_of_nonneg_left (by omega) (by omega)
     rw [Int.mul_zero] at this; omega
    ·exact c
   have : g.al * 1 ≤ g.al * q := Int.mul_le_mul_of_nonneg_left hq1 (by omega)
   rw [Int.mul_one] at this; omega
  rw [h3]; omega
def roomOf (g : Geo) : Int := g.sz - 24 - fst0 g
theorem upE_32 {g : Geo} (hg : Gok g) : upE g 32 = .tuple #[.int .i64 (fst0 g), .int .i64 0] := by
 have b := ok_bounds hg
 unfold upE fst0
 rw [if_pos hg, if_neg (by omega)]
theorem room_m {g : Geo} (hg : Gok g) (h : Heap) : HC Tryd.prog 115 #[g.v] h fun v h' => v = .int .i64 (roomOf g) ∧ Ext h h' := by
 have b := ok_bounds hg
 have f := fst_bounds hg
 refine f115_sh _ _ _ _ _ _ fun _ h1 _ _ x1 => (bytes_m g h1).mono ?_
 rintro _ h2 ⟨rfl, x2⟩
 rw [if_pos hg]
 refine ⟨x2, _, _, _, rfl, (Up_m g 32 h2).mono ?_⟩
 rintro _ h3 ⟨rfl, x3⟩
 rw [upE_32 hg]
 refine ⟨x3, _, _, rfl, ?_, x1.trans (x2.trans x3)⟩
 rw [w64 (x := g.sz - 24) (by omega) (by omega), w64 (by omega) (by omega)]; rfl
def szE (g : Geo) (k v : Int) : Int := if ¬ Gok g then 20 else if k < 1 ∨ k > 255 then 54 else if v < 0 ∨ v > roomOf g - 24 - k then 55 else 0
def szV (g : Geo) (k v : Int) : Value := .tuple #[.int .i64 (if szE g k v = 0 then 24 + k + v else 0), .int .i64 (szE g k v)]
theorem szV_of {g : Geo} {k v e : Int} (h : szE g k v = e) (he : e ≠ 0) : szV g k v = .tuple #[.int .i64 0, .int .i64 e] := by unfold szV; rw [h, if_neg he]
theorem szV_ok {g : Geo} {k v : Int} (h : szE g k v = 0) : szV g k v = .tuple #[.int .i64 (24 + k + v), .int .i64 0] := by unfold szV; rw [h, if_pos rfl]
theorem size_m (g : Geo) (k v : Int) (h : Heap) : HC Tryd.prog 105 #[g.v, .int .i64 k, .int .i64 v] h fun r h' => r = szV g k v ∧ Ext h h' := by
 refine f105_sh _ _ _ _ _ _ _ _ fun _ h1 _ _ x1 => (check_m g h1).mono ?_
 rintro _ h2 ⟨rfl, x2⟩
 have x12 := x1.trans x2
 by_cases hn : ¬ Gok g
 ·rw [if_neg hn]
  exact ⟨x2, _, rfl, fun _ => ⟨(szV_of (by unfold szE; rw [if_pos hn]) (by decide)).symm, x12⟩, fun e => by simp at e⟩
 have hg : Gok g := Decidable.not_not.1 hn
 have b := ok_bounds hg
 have f := fst_bounds hg
 rw [if_pos hg]
 refine ⟨x2, _, rfl, fun e => by simp at e, fun _ => ⟨fun e => ?_, fun e => ?_⟩⟩
 ·simp only [Bool.or_eq_true, decide_eq_true_eq] at e
  exact ⟨(szV_of (by unfold szE; rw [if_neg hn, if_pos e]) (by decide)).symm, x12⟩
 ·simp only [Bool.or_eq_false_iff, decide_eq_false_iff_not] at e
  have hk : ¬ (k < 1 ∨ k > 255) := by omega
  refine ⟨fun j h3 => Ext h h3 ∧ j = decide (v < 0 ∨ v > roomOf g - 24 - k), ⟨fun e2 => ?_, fun e2 => ?_⟩, ?_⟩
  ·have := of_decide_eq_true e2
   exact ⟨x12, by simp [this]⟩
  ·have := of_decide_eq_false e2
   refine (room_m hg h2).mono ?_
   rintro _ h4 ⟨rfl, x4⟩
   refine ⟨x4, _, rfl, x12.trans x4, ?_⟩
   have hr : roomOf g = g.sz - 24 - fst0 g := rfl
   rw [w64 (x := roomOf g - 24) (by omega) (by omega), w64 (by omega) (by omega)]
   simp [this]
  ·rintro j h3 ⟨x3, rfl⟩
   refine ⟨fun e2 => ?_, fun e2 => ?_⟩
   ·exact ⟨(szV_of (by unfold szE; rw [if_neg hn, if_neg hk, if_pos (of_decide_eq_true e2)]) (by decide)).symm, x3⟩
   ·have hv := of_decide_eq_false e2
    have hr : roomOf g = g.sz - 24 - fst0 g := rfl
    rw [szV_ok (by unfold szE; rw [if_neg hn, if_neg hk, if_neg hv]), w64 (x := 24 + k) (by omega) (by omega), w64 (by omega) (by omega)]
    exact ⟨rfl, x3⟩
theorem size_r (g : Geo) (k v : Int) (h : Heap) : HC Tryd.prog 73 #[g.v, .int .i64 k, .int .i64 v] h fun r h' => r = szV g k v ∧ Ext h h' := by
 refine f73_sh _ _ _ _ _ _ _ _ fun _ h1 _ _ x1 => (check_r g h1).mono ?_
 rintro _ h2 ⟨rfl, x2⟩
 have x12 := x1.trans x2
 by_cases hn : ¬ Gok g
 ·rw [if_neg hn]
  exact ⟨x2, _, rfl, fun _ => ⟨(szV_of (by unfold szE; rw [if_pos hn]) (by decide)).symm, x12⟩, fun e => by simp at e⟩
 have hg : Gok g := Decidable.not_not.1 hn
 have b := ok_bounds hg
 have f := fst_bounds hg
 rw [if_pos hg]
 refine ⟨x2, _, rfl, fun e => by simp at e, fun _ => ⟨fun e => ?_, fun e => ?_⟩⟩
 ·simp only [Bool.or_eq_true, decide_eq_true_eq] at e
  exact ⟨(szV_of (by unfold szE; rw [if_neg hn, if_pos e]) (by decide)).symm, x12⟩
 ·simp only [Bool.or_eq_false_iff, decide_eq_false_iff_not] at e
  have hk : ¬ (k < 1 ∨ k > 255) := by omega
  refine (Up_r g 32 h2).mono ?_
  rintro _ h3 ⟨rfl, x3⟩
  rw [upE_32 hg]
  have hr : roomOf g = g.sz - 24 - fst0 g := rfl
  have e1 : g.page * g.pages = g.sz := rfl
  refine ⟨x3, _, _, rfl, ?_⟩
  rw [e1, w64 (x := g.sz) (by omega) (by omega), w64 (x := g.sz - fst0 g) (by omega) (by omega), w64 (x := g.sz - fst0 g - 24) (by omega) (by omega), w64 (x := g.sz - fst0 g - 24 - 24) (by omega) (by omega), w64 (x := g.sz - fst0 g - 24 - 24 - k) (by omega) (by omega)]
  have e3 : g.sz - fst0 g - 24 - 24 - k = roomOf g - 24 - k := by omega
  rw [e3]
  refine ⟨fun e2 => ?_, fun e2 => ?_⟩
  ·simp only [Bool.or_eq_true, decide_eq_true_eq] at e2
   exact ⟨(szV_of (by unfold szE; rw [if_neg hn, if_neg hk, if_pos e2]) (by decide)).symm, x12.trans x3⟩
  ·simp only [Bool.or_eq_false_iff, decide_eq_false_iff_not] at e2
   have hv : ¬ (v < 0 ∨ v > roomOf g - 24 - k) := by omega
   rw [szV_ok (by unfold szE; rw [if_neg hn, if_neg hk, if_neg hv]), w64 (x := 24 + k) (by omega) (by omega), w64 (by omega) (by omega)]
   exact ⟨rfl, x12.trans x3⟩
end Sc
end Go.Proofs.YthjehlocmikchaaDoor
namespace Go.Proofs.YthjehlocmikchaaDoor
namespace Sc
open Go
structure Rc where
 kind : Int
 ver : Int
 key : ByteArray
 val : ByteArray
abbrev Rc.v (r : Rc) : Value := .agg #[.int .i64 r.kind, .int .u64 r.ver, .string r.key, .string r.val]
def kindOk (r : Rc) : Prop := r.kind = 1 ∨ (r.kind = 2 ∧ r.val.size = 0)
instance (r : Rc) : Decidable (kindOk r) := by unfold kindOk; infer_instance
def encE (g : Geo) (r : Rc) : Int := if ¬ Gok g then 20 else if ¬ kindOk r then 52 else szE g r.key.size r.val.size
def recA (salt : Int) (r : Rc) : List Int := [r.kind, 0] ++ leb 2 r.key.size ++ leb 4 r.val.size ++ leb 8 r.ver ++ leb 4 salt
def body (r : Rc) : List Int := toL r.key ++ toL r.val
def encR (salt : Int) (r : Rc) : List Int := recA salt r ++ leb 4 (crc 0 (recA salt r ++ body r)) ++ body r
theorem toL_app (a b : ByteArray) : toL (a ++ b) = toL a ++ toL b := by
 unfold toL
 rw [← List.map_append]
 congr 1
theorem body_isB (r : Rc) : isB (body r) := isB_app (toL_isB _) (toL_isB _)
theorem recA_isB {salt : Int} {r : Rc} (k : kindOk r) : isB (recA salt r) := by
 unfold recA
 refine isB_app (isB_app (isB_app (isB_app ?_ (leb_isB _ _)) (leb_isB _ _)) (leb_isB _ _)) (leb_isB _ _)
 intro y hy
 simp only [List.mem_cons, List.not_mem_nil, or_false] at hy
 rcases k with k | k <;> omega
theorem encR_isB {salt : Int} {r : Rc} (k : kindOk r) : isB (encR salt r) := isB_app (isB_app (recA_isB k) (leb_isB _ _)) (body_isB r)
theorem recA_len (salt : Int) (r : Rc) : (recA salt r).length = 20 := by simp [recA, leb_len]
theorem body_len (r : Rc) : (body r).length = r.key.size + r.val.size := by simp [body, toL_len]
theorem encR_len (salt : Int) (r : Rc) : (encR salt r).length = 24 + r.key.size + r.val.size := by
 unfold encR
 rw [List.length_append, List.length_append, recA_len, leb_len, body_len]; omega
def TellR (g : Geo) (salt : Int) (r : Rc) (h : Heap) (v : Value) (h' : Heap) : Prop := Ext h h' ∧
 if encE g r = 0 then ∃ a c, v = .tuple #[.slice a (encR salt r).length c, .int .i64 0] ∧ Sl eB h' a c (encR salt r) else v = .tuple #[.slice none 0 0, .int .i64 (encE g r)]
theorem tellR_no {g : Geo} {salt : Int} {r : Rc} {h h' : Heap} {e : Int} (h1 : encE g r = e) (he : e ≠ 0) (x : Ext h h') : TellR g salt r h (.tuple #[.slice none 0 0, .int .i64 e]) h' := ⟨x, by rw [h1, if_neg he]⟩
theorem tellR_ok {g : Geo} {salt : Int} {r : Rc} {h h' : Heap} {a : Option Addr} {c n : Nat} (h1 : encE g r = 0) (x : Ext h h') (s : Sl eB h' a c (encR salt r)) (hn : n = (encR salt r).length) : TellR g salt r h (.tuple #[.slice a n c, .int .i64 0]) h' := ⟨x, by rw [if_pos h1]; exact ⟨a, c, by rw [hn], s⟩⟩
theorem size0 (b : ByteArray) : b = ByteArray.empty ↔ b.size = 0 := by
 constructor
 ·rintro rfl; rfl
 ·intro h; apply ba_ext; exact (List.eq_nil_of_length_eq_zero (by rw [Array.length_toList]; exact h)).trans rfl
theorem kind_b (k : Int) (p : Prop) [Decidable p] : (bif k != 1 then (k != 2) || ((k == 2) && (!decide p)) else (k == 2) && (!decide p)) = !decide (k = 1 ∨ (k = 2 ∧ p)) := by
 by_cases h1 : k = 1
 ·subst h1; simp
 ·by_cases h2 : k = 2
  ·subst h2; simp
  ·simp [h1, h2]
theorem kind_m {k : Int} {v : ByteArray} {r : Rc} (e1 : r.kind = k) (e2 : r.val = v) : (bif k != 1 then (k != 2) || ((k == 2) && (!decide (v = ByteArray.empty))) else (k == 2) && (!decide (v = ByteArray.empty))) = !decide (kindOk r) := by
 subst e1; subst e2
 unfold kindOk
 have h4 : decide (r.val = ByteArray.empty) = decide (r.val.size = 0) := by rw [Bool.eq_iff_iff]; simp only [decide_eq_true_eq]; exact size0 r.val
 rw [h4]
 exact kind_b r.kind (r.val.size = 0)
theorem kind_r {k : Int} {v : ByteArray} {r : Rc} (e1 : r.kind = k) (e2 : r.val = v) : (bif k != 1 then (k != 2) || ((k == 2) && (decide ((v.size : Int) > 0))) else (k == 2) && (decide ((v.size : Int) > 0))) = !decide (kindOk r) := by
 subst e1; subst e2
 unfold kindOk
 have h4 : decide ((r.val.size : Int) > 0) = !decide (r.val.size = 0) := by rw [Bool.eq_iff_iff]; simp only [decide_eq_true_eq, Bool.not_eq_true', decide_eq_false_iff_not]; omega
 rw [h4]
 exact kind_b r.kind (r.val.size = 0)
theorem sz_bounds {g : Geo} {k v : Int} (h : szE g k v = 0) : Gok g ∧ 1 ≤ k ∧ k ≤ 255 ∧ 0 ≤ v ∧ v ≤ 262144 ∧ 24 + k + v ≤ roomOf g := by
 unfold szE at h
 split at h
 ·cases h
 ·rename_i hg
  have hg := Decidable.not_not.1 hg
  have b := ok_bounds hg
  have f := fst_bounds hg
  have hr : roomOf g = g.sz - 24 - fst0 g := rfl
  split at h
  ·cases h
  ·split at h
   ·cases h
   ·exact ⟨hg, by omega, by omega, by omega, by omega, by omega⟩
section
variable {h : Heap}
theorem app_so {a : Option Addr} {c N : Nat} {L : List Int} {x : ByteArray} (s : Sl eB h a c L) (w : OwnF eB.k tB N h a c) (hN : N ≤ h.size) (hl : L.length + x.size ≤ 1073741824) {K : Value → Heap → Prop}
  (hk : ∀ v h', Fr (fun b => N ≤ b) h h' → Ob N h' v (L ++ toL x) → K v h') : HAppend Tryd.prog 25 9 (.slice a L.length c) (.string x) h K :=
 app_str aB (by kernel_rfl) s w hN (by omega) fun a' c' h' f s' w' _ => hk _ h' (f.mono fun _ _ q => (w.low q).1) ⟨a', c', by simp [toL_len], s', w'⟩
set_option maxHeartbeats 3200000 in
theorem encode_m (g : Geo) {salt : Int} (hs : U32 salt) (r : Rc) (h : Heap) : HC Tryd.prog 86 #[g.v, .int .u32 salt, r.v] h fun v h' => TellR g salt r h v h' := by
 refine f86_sh _ _ _ _ _ _ _ _ _ _ _ fun gb rb h2 lo1 lt1 lo2 lt2 x2 => (check_m g h2).mono ?_
 rintro _ h3 ⟨rfl, x3⟩
 have x23 := x2.trans x3
 by_cases hn : ¬ Gok g
 ·rw [if_neg hn]
  exact ⟨x3, _, rfl, fun _ => tellR_no (by unfold encE; rw [if_pos hn]) (by decide) x23, fun e => by simp at e⟩
 have hg : Gok g := Decidable.not_not.1 hn
 rw [if_pos hg, kind_m (r := r) rfl rfl]
 refine ⟨x3, _, rfl, fun e => by simp at e, fun _ => ⟨fun e => ?_, fun e => ?_⟩⟩
 ·have hk : ¬ kindOk r := by simpa using e
  exact tellR_no (by unfold encE; rw [if_neg hn, if_pos hk]) (by decide) x23
 have hk : kindOk r := by simpa using e
 have eE : encE g r = szE g r.key.size r.val.size := by unfold encE; rw [if_neg hn, if_neg (fun q => q hk)]
 refine (size_m g _ _ h3).mono ?_
 rintro _ h4 ⟨rfl, x4⟩
 have x24 := x23.trans x4
 refine ⟨x4, _, _, rfl, fun e => ?_, fun e => ?_⟩
 ·have : szE g r.key.size r.val.size ≠ 0 := by simpa using e
  exact tellR_no eE this x24
 have hz : szE g r.key.size r.val.size = 0 := by simpa using e
 obtain ⟨_, k1, k2, v1, v2, _⟩ := sz_bounds hz
 have hkv : 0 ≤ r.kind ∧ r.kind < 256 := by rcases hk with q | q <;> omega
 rw [wrap8 hkv]
 intro nb h5 e5 eh5
 have x5 : Ext h4 h5 := by rw [eh5]; exact Ext.push _ _
 have r5 : h5[nb]? = some (.cells (([r.kind, 0] : List Int).flatMap eB.enc).toArray tB (0, 0)) := by rw [eh5]; exact push_new e5
 clear eh5
 have s2 := x2.size
 have s3 := x3.size
 have s4 := x4.size
 have s5 := x5.size
 have kp : ∀ {ha hb' : Heap} (f : Fr (fun b => h4.size ≤ b) ha hb'), Kp [rb] ha hb' := fun f => f.kp fun b hb q => by simp at hb; omega
 rw [wu64 (x := (r.key.size : Int)) (by omega) (by omega), wu64 (x := (r.val.size : Int)) (by omega) (by omega), wu64 (x := salt) hs.1 (by have := hs.2; omega)]
 refine (put_o (L := [r.kind, 0]) (N := h4.size) (Sl.lit (L := [r.kind, 0]) r5) (Own.lit (L := [r.kind, 0]) r5 (by omega)).fz s5 (by simp) _ 2 (by decide)).mono ?_
 rintro _ h6 ⟨f6, a6, c6, rfl, s6, w6⟩
 have t6 := f6.size
 refine ⟨kp f6, _, _, _, rfl, (put_o s6 w6 (by omega) (by simp [leb_len]) _ 4 (by decide)).mono ?_⟩
 rintro _ h7 ⟨f7, a7, c7, rfl, s7, w7⟩
 have t7 := f7.size
 refine ⟨kp f7, _, _, _, rfl, (put_o s7 w7 (by omega) (by simp [leb_len]) _ 8 (by decide)).mono ?_⟩
 rintro _ h8 ⟨f8, a8, c8, rfl, s8, w8⟩
 have t8 := f8.size
 refine ⟨kp f8, _, _, _, rfl, (put_o s8 w8 (by omega) (by simp [leb_len]) _ 4 (by decide)).mono ?_⟩
 rintro _ h9 ⟨f9, a9, c9, rfl, s9, w9⟩
 have t9 := f9.size
 have eA : [r.kind, 0] ++ leb 2 r.key.size ++ leb 4 r.val.size ++ leb 8 r.ver ++ leb 4 salt = recA salt r := rfl
 rw [eA] at s9 ⊢
 have hbody : toL (r.key ++ r.val) = body r := toL_app _ _
 have hbs : (r.key ++ r.val).size = r.key.size + r.val.size := by rw [← toL_len, hbody, body_len]
 refine ⟨kp f9, _, _, _, rfl, by omega, _, crc_m s9 (recA_isB hk) (by rw [recA_len]; decide), by rw [hbs]; omega, fun nb1 cap h10 e10 hc1 hc2 eh10 => ?_⟩
 have x10 : Ext h9 h10 := by rw [eh10]; exact Ext.push _ _
 have r10 := push_new (h := h9) (o := .cells ((toL (r.key ++ r.val)).map (Value.int .u8) ++ List.replicate (cap - (r.key ++ r.val).size) (Value.int .u8 0)).toArray 5 (cap, cap + 1)) e10
 rw [← eh10] at r10
 clear eh10
 have s10 : Sl eB h10 (some ⟨nb1, 0, none⟩) cap (body r) := by
  refine Sl.of_row r10 (by rw [body_len, ← hbs]; exact hc1) fun j v hv => ?_
  rw [flatB] at hv
  rw [Nat.zero_add, List.getElem?_toArray, hbody, List.getElem?_append_left (List.getElem?_eq_some_iff.1 hv).1]; exact hv
 have u := crc32 (crc 0 (recA salt r)) (body r)
 rw [crc_app] at u
 have he := ext_m s10 (body_isB r) (by rw [body_len]; omega) (crc 0 (recA salt r))
 rw [crc_app, body_len, ← hbs] at he
 refine ⟨_, he, ?_⟩
 rw [wu64 (x := crc 0 (recA salt r ++ body r)) u.1 (by have := u.2; omega)]
 refine (put_o (s9.ext x10) (w9.ext x10) (by have := x10.size; omega) (by rw [recA_len]; decide) _ 4 (by decide)).mono ?_
 rintro _ h11 ⟨f11, a11, c11, rfl, s11, w11⟩
 have t10 := x10.size
 have t11 := f11.size
 refine ⟨_, _, _, rfl, app_so s11 w11 (by omega) (by rw [List.length_append, recA_len, leb_len, hbs]; omega) ?_⟩
 rintro _ h12 f12 ⟨a12, c12, rfl, s12, w12⟩
 rw [hbody] at s12
 refine ⟨_, _, _, rfl, tellR_ok (eE.trans hz) ?_ s12 (by rw [hbody]; rfl)⟩
 have F : Fr (fun b => h4.size ≤ b) h4 h12 := (((((((x5.fr _).trans f6 fun _ _ q => q).trans f7 fun _ _ q => q).trans f8 fun _ _ q => q).trans f9 fun _ _ q => q).trans (x10.fr (fun _ => False)) fun _ _ q => q.elim).trans f11 fun _ _ q => q).trans f12 fun _ _ q => q
 exact ((x24.fr _).trans F fun _ _ q => q).ext fun b hb q => by omega
end
end Sc
end Go.Proofs.YthjehlocmikchaaDoor
namespace Go.Proofs.YthjehlocmikchaaDoor
namespace Sc
open Go
set_option maxHeartbeats 3200000 in
theorem encode_r (g : Geo) {salt : Int} (hs : U32 salt) (r : Rc) (hv : 0 ≤ r.ver ∧ r.ver < 18446744073709551616) (h : Heap) : HC Tryd.prog 46 #[g.v, .int .u32 salt, r.v] h fun v h' => TellR g salt r h v h' := by
 refine f46_sh _ _ _ _ _ _ _ _ _ _ _ fun gb rb h2 lo1 lt1 lo2 lt2 x2 => (check_r g h2).mono ?_
 rintro _ h3 ⟨rfl, x3⟩
 have x23 := x2.trans x3
 by_cases hn : ¬ Gok g
 ·rw [if_neg hn]
  exact ⟨x3, _, rfl, fun _ => tellR_no (by unfold encE; rw [if_pos hn]) (by decide) x23, fun e => by simp at e⟩
 have hg : Gok g := Decidable.not_not.1 hn
 rw [if_pos hg, kind_r (r := r) rfl rfl]
 refine ⟨x3, _, rfl, fun e => by simp at e, fun _ => ⟨fun e => ?_, fun e => ?_⟩⟩
 ·have hk : ¬ kindOk r := by simpa using e
  exact tellR_no (by unfold encE; rw [if_neg hn, if_pos hk]) (by decide) x23
 have hk : kindOk r := by simpa using e
 have eE : encE g r = szE g r.key.size r.val.size := by unfold encE; rw [if_neg hn, if_neg (fun q => q hk)]
 refine (size_r g _ _ h3).mono ?_
 rintro _ h4 ⟨rfl, x4⟩
 have x24 := x23.trans x4
 refine ⟨x4, _, _, rfl, fun e => ?_, fun e => ?_⟩
 ·have : szE g r.key.size r.val.size ≠ 0 := by simpa using e
  exact tellR_no eE this x24
 have hz : szE g r.key.size r.val.size = 0 := by simpa using e
 obtain ⟨_, k1, k2, v1, v2, _⟩ := sz_bounds hz
 have hkv : 0 ≤ r.kind ∧ r.kind < 256 := by rcases hk with q | q <;> omega
 rw [wrap8 hkv]
 intro nb h5 e5 eh5
 have x5 : Ext h4 h5 := by rw [eh5]; exact Ext.push _ _
 have r5 : h5[nb]? = some (.cells (([r.kind, 0] : List Int).flatMap eB.enc).toArray tB (0, 0)) := by rw [eh5]; exact push_new e5
 clear eh5
 have s2 := x2.size
 have s3 := x3.size
 have s4 := x4.size
 have s5 := x5.size
 let T : Heap → Heap → Prop := Fr fun b => h4.size ≤ b
 have kp : ∀ {ha hb' : Heap} (f : Fr (fun b => h4.size ≤ b) ha hb'), Kp [rb] ha hb' := fun f => f.kp fun b hb q => by simp at hb; omega
 rw [wu64 (x := (r.key.size : Int)) (by omega) (by omega), wu64 (x := (r.val.size : Int)) (by omega) (by omega), wu64 (x := salt) hs.1 (by have := hs.2; omega)]
 refine ⟨T, fit_frm _, fun hx f => kp f, fun hx f => kp f, (low_o (L := [r.kind, 0]) (N := h4.size) (Sl.lit (L := [r.kind, 0]) r5) (Own.lit (L := [r.kind, 0]) r5 (by omega)).fz s5 (by simp) ⟨by omega, by omega⟩ 2 (by decide)).mono ?_⟩
 rintro _ h6 ⟨f6, a6, c6, rfl, s6, w6⟩
 have t6 := f6.size
 refine ⟨f6, kp f6, _, _, _, rfl, (low_o s6 w6 (by omega) (by simp [leb_len]) ⟨by omega, by omega⟩ 4 (by decide)).mono ?_⟩
 rintro _ h7 ⟨f7, a7, c7, rfl, s7, w7⟩
 have t7 := f7.size
 refine ⟨f7, kp f7, _, _, _, rfl, (low_o s7 w7 (by omega) (by simp [leb_len]) hv 8 (by decide)).mono ?_⟩
 rintro _ h8 ⟨f8, a8, c8, rfl, s8, w8⟩
 have t8 := f8.size
 refine ⟨kp f8, _, _, _, rfl, (low_o s8 w8 (by omega) (by simp [leb_len]) ⟨hs.1, by have := hs.2; omega⟩ 4 (by decide)).mono ?_⟩
 rintro _ h9 ⟨f9, a9, c9, rfl, s9, w9⟩
 have t9 := f9.size
 have eA : [r.kind, 0] ++ leb 2 r.key.size ++ leb 4 r.val.size ++ leb 8 r.ver ++ leb 4 salt = recA salt r := rfl
 rw [eA] at s9 ⊢
 refine ⟨kp f9, _, _, _, rfl, T, fit_frm _, fun hx f => kp f, fun hx f => kp f, fun nb1 h10 e10 eh10 => ?_⟩
 have x10 : Ext h9 h10 := by rw [eh10]; exact Ext.push _ _
 have r10 : h10[nb1]? = some (.cells (([] : List Int).flatMap eB.enc).toArray tB (0, 0)) := by rw [eh10]; exact push_new e10
 clear eh10
 have t10 := x10.size
 refine app_o (L := []) (N := h9.size) (Sl.lit (L := []) r10) (Own.lit (L := []) r10 (by omega)).fz (s9.ext x10) (by omega) (by rw [recA_len]; decide) ?_
 rintro _ h11 f11 ⟨a11, c11, rfl, s11, w11⟩
 have t11 := f11.size
 have f11' : Fr (fun b => h4.size ≤ b) h10 h11 := f11.mono fun b _ q => by omega
 have hks : r.key.size ≤ 255 := by omega
 have hvs : r.val.size ≤ 262144 := by omega
 refine ⟨f11', kp f11', _, _, _, rfl, app_so s11 w11 (by omega) (by rw [List.length_append, recA_len]; simp; omega) ?_⟩
 rintro _ h12 f12 ⟨a12, c12, rfl, s12, w12⟩
 have t12 := f12.size
 have f12' : Fr (fun b => h4.size ≤ b) h11 h12 := f12.mono fun b _ q => by omega
 refine ⟨f12', kp f12', _, _, _, rfl, app_so s12 w12 (by omega) (by rw [List.length_append, List.length_append, recA_len, toL_len]; simp; omega) ?_⟩
 rintro _ h13 f13 ⟨a13, c13, rfl, s13, w13⟩
 have t13 := f13.size
 have f13' : Fr (fun b => h4.size ≤ b) h12 h13 := f13.mono fun b _ q => by omega
 have eB' : [] ++ recA salt r ++ toL r.key ++ toL r.val = recA salt r ++ body r := by simp [body]
 rw [eB'] at s13 ⊢
 have hB : isB (recA salt r ++ body r) := isB_app (recA_isB hk) (body_isB r)
 have u := crc32 0 (recA salt r ++ body r)
 refine ⟨kp f13', _, _, _, rfl, _, crc_r s13 hB (by rw [List.length_append, recA_len, body_len]; omega), ?_⟩
 rw [wu64 (x := crc 0 (recA salt r ++ body r)) u.1 (by have := u.2; omega)]
 -- the first part lies where it lay
 have low9 : ∀ b, blkA a9 b → b < h9.size := fun b g => (w9.low g).2
 have F913 : Fr (fun b => h9.size ≤ b) h9 h13 := (((x10.fr _).trans f11 fun _ _ q => q).trans f12 fun _ _ q => q).trans f13 fun _ _ q => q
 have s9' := s9.fr F913 fun b g q => by have := low9 b g; omega
 have w9' := w9.fr F913 fun b g q => by have := low9 b g; omega
 refine (low_o s9' w9' (by omega) (by rw [recA_len]; decide) ⟨u.1, by have := u.2; omega⟩ 4 (by decide)).mono ?_
 rintro _ h14 ⟨f14, a14, c14, rfl, s14, w14⟩
 have t14 := f14.size
 refine ⟨kp f14, _, _, _, rfl, T, fit_frm _, fun hx f => kp f, app_so s14 w14 (by omega) (by rw [List.length_append, recA_len, leb_len]; omega) ?_⟩
 rintro _ h15 f15 ⟨a15, c15, rfl, s15, w15⟩
 have t15 := f15.size
 refine ⟨f15, kp f15, _, _, _, rfl, app_so s15 w15 (by omega) (by rw [List.length_append, List.length_append, recA_len, leb_len, toL_len]; omega) ?_⟩
 rintro _ h16 f16 ⟨a16, c16, rfl, s16, w16⟩
 have eR : recA salt r ++ leb 4 (crc 0 (recA salt r ++ body r)) ++ toL r.key ++ toL r.val = encR salt r := by unfold encR body; simp only [List.append_assoc]
 rw [eR] at s16 ⊢
 refine ⟨_, _, _, rfl, tellR_ok (eE.trans hz) ?_ s16 rfl⟩
 have F1 : Fr (fun b => h4.size ≤ b) h4 h9 := (((((x5.fr _).trans f6 fun _ _ q => q).trans f7 fun _ _ q => q).trans f8 fun _ _ q => q).trans f9 fun _ _ q => q)
 have F2 : Fr (fun b => h4.size ≤ b) h4 h16 := (((F1.trans F913 fun b _ q => by omega).trans f14 fun _ _ q => q).trans f15 fun _ _ q => q).trans f16 fun _ _ q => q
 exact ((x24.fr _).trans F2 fun _ _ q => q).ext fun b hb q => by omega
end Sc
end Go.Proofs.YthjehlocmikchaaDoor
namespace Go.Proofs.YthjehlocmikchaaDoor
namespace Sc
open Go
def kL (R : List Int) : Nat := (le ((R.drop 2).take 2)).toNat
def vL (R : List Int) : Nat := (le ((R.drop 4).take 4)).toNat
def szR (R : List Int) : Nat := 24 + kL R + vL R
def rcOf (R : List Int) : Rc := ⟨R.getD 0 0, le ((R.drop 8).take 8), ofL ((R.drop 24).take (kL R)), ofL ((R.drop (24 + kL R)).take (vL R))⟩
def begOk (R : List Int) : Prop := 24 ≤ R.length ∧ szR R ≤ R.length
instance (R : List Int) : Decidable (begOk R) := by unfold begOk; infer_instance
abbrev z4 : Rc := ⟨0, 0, ByteArray.empty, ByteArray.empty⟩
def tellB (R : List Int) : Value := if begOk R then .tuple #[(rcOf R).v, .int .i64 (szR R), .bool true] else .tuple #[z4.v, .int .i64 0, .bool false]
theorem kL_eq {R : List Int} (hb : isB R) : le ((R.drop 2).take 2) = (kL R : Int) ∧ kL R < 65536 := by
 have h1 := le_nonneg (isB_take (isB_drop hb 2) 2)
 have h2 : ((R.drop 2).take 2).length ≤ 2 := by simp; omega
 have h3 : (256 : Int) ^ ((R.drop 2).take 2).length ≤ 256 ^ 2 := by
  rw [pow256, pow256]
  have : 2 ^ (8 * ((R.drop 2).take 2).length) ≤ 2 ^ (8 * 2) := Nat.pow_le_pow_right (by decide) (by omega)
  omega
 have h4 : (256 : Int) ^ 2 = 65536 := by decide
 unfold kL; omega
theorem vL_eq {R : List Int} (hb : isB R) : le ((R.drop 4).take 4) = (vL R : Int) ∧ vL R < 4294967296 := by
 have h1 := le_u32 (L := (R.drop 4).take 4) (isB_take (isB_drop hb 4) 4) (by simp; omega)
 unfold vL; omega
section
variable {h : Heap} {a : Option Addr} {c : Nat} {R : List Int}
theorem byt_cut (s : Sl eB h a c R) {l r : Nat} (hlr : l ≤ r) (hr : r ≤ R.length) {n : Nat} (hn : n = r - l) : Byt h (slA a l 1 c) n ((R.drop l).take n) := by
 subst hn
 have s1 := s.cut hlr hr
 have e : (R.take r).drop l = (R.drop l).take (r - l) := List.drop_take
 rw [e] at s1
 have := s1.byt
 have el : ((R.drop l).take (r - l)).length = r - l := by simp; omega
 rw [el] at this; exact this
theorem begun_m (s : Sl eB h a c R) (hb : isB R) (hl : R.length ≤ 1099511627776) : HC Tryd.prog 85 #[.slice a R.length c] h fun v h' => v = tellB R ∧ Ext h h' := by
 have hc := s.le
 refine f85_sh _ _ _ _ _ ⟨fun e h2 x2 => ?_, fun e => ?_⟩
 ·have := of_decide_eq_true e
  unfold tellB; rw [if_neg (fun q => by have := q.1; omega)]
  exact ⟨rfl, x2⟩
 have h24 : 24 ≤ R.length := by have := of_decide_eq_false e; omega
 obtain ⟨ek, kb⟩ := kL_eq hb
 obtain ⟨ev, vb⟩ := vL_eq hb
 refine ⟨by omega, by omega, by omega, fun sl e1 pb h1 lo lt x1 => ⟨(kL R : Int), fun h7 x7 => ?_, by omega, by omega, by omega, fun sl1 e2 => ⟨(vL R : Int), fun h6 x6 => ?_, ?_, ?_⟩⟩⟩
 ·subst e1
  have := num_cut s hb (l := 2) (r := 4) (by decide) (by omega) (by decide) (x1.trans x7)
  rw [ek] at this; exact this
 ·subst e2
  have := num_cut s hb (l := 4) (r := 8) (by decide) (by omega) (by decide) (x1.trans x6)
  rw [ev] at this; exact this
 all_goals rw [w64 (x := (kL R : Int)) (by omega) (by omega), w64 (x := (vL R : Int)) (by omega) (by omega), w64 (x := 24 + (kL R : Int)) (by omega) (by omega), w64 (x := 24 + (kL R : Int) + (vL R : Int)) (by omega) (by omega)]
 ·intro e3 h3 f3
  have := of_decide_eq_true e3
  unfold tellB; rw [if_neg (fun q => by have := q.2; unfold szR at this; omega)]
  exact ⟨rfl, frpb x1 lo f3⟩
 ·intro e3
  have h3 := of_decide_eq_false e3
  have hsz : szR R ≤ R.length := by unfold szR; omega
  have ok : begOk R := ⟨h24, hsz⟩
  unfold szR at hsz
  obtain ⟨b, o, ea, d⟩ := (s.ext x1).at (List.getElem?_eq_getElem (show 0 < R.length by omega))
  subst ea
  have hB := isB_at hb (show 0 < R.length by omega)
  have t1 : Int.toNat (24 + (kL R : Int)) = 24 + kL R := by omega
  have t2 : Int.toNat (24 + (kL R : Int) + (vL R : Int)) = 24 + kL R + vL R := by omega
  rw [t1, t2]
  refine ⟨b, o, rfl, by omega, by omega, R[0], d.1, by omega, by omega, by omega, fun sl2 e4 => ⟨le ((R.drop 8).take 8), fun h5 x5 => ?_, by omega, by omega, by omega, fun sl3 e5 => ⟨(R.drop 24).take (kL R), ?_, by omega, by omega, by omega, fun sl4 e6 => ⟨(R.drop (24 + kL R)).take (vL R), ?_, fun h4 f4 => ?_⟩⟩⟩⟩
  ·subst e4
   exact num_cut s hb (l := 8) (r := 16) (by decide) (by omega) (by decide) (x1.trans x5)
  ·subst e5
   have := byt_cut (s.ext x1) (l := 24) (r := 24 + kL R) (n := kL R) (by omega) (by omega) (by omega)
   rw [show (24 + kL R) - Int.toNat 24 = kL R by show 24 + kL R - 24 = _; omega]; exact this
  ·subst e6
   have := byt_cut (s.ext x1) (l := 24 + kL R) (r := 24 + kL R + vL R) (n := vL R) (by omega) (by omega) (by omega)
   rw [show 24 + kL R + vL R - (24 + kL R) = vL R by omega]; exact this
  ·unfold tellB; rw [if_pos ok]
   have e0 : R.getD 0 0 = R[0] := by rw [List.getD_eq_getElem?_getD, List.getElem?_eq_getElem (show 0 < R.length by omega)]; rfl
   rw [w64 (x := R[0]) (by omega) (by omega)]
   refine ⟨?_, frpb x1 lo f4⟩
   have e8 : ((szR R : Nat) : Int) = 24 + (kL R : Int) + (vL R : Int) := by unfold szR; omega
   rw [e8]
   unfold rcOf
   rw [e0]
end
end Sc
end Go.Proofs.YthjehlocmikchaaDoor
namespace Go.Proofs.YthjehlocmikchaaDoor
namespace Sc
open Go
def recOk (g : Geo) (salt : Int) (R : List Int) : Prop := begOk R ∧ encE g (rcOf R) = 0 ∧ encR salt (rcOf R) = R.take (szR R)
instance (g : Geo) (salt : Int) (R : List Int) : Decidable (recOk g salt R) := by unfold recOk; infer_instance
def decV (g : Geo) (salt : Int) (L : List Int) (p : Int) : Value :=
 if ¬ Gok g then .tuple #[z4.v, .int .i64 0, .int .i64 20] else if p < 0 ∨ p > L.length then .tuple #[z4.v, .int .i64 0, .int .i64 1] else
 if p = L.length ∨ L.getD p.toNat 0 = 255 then .tuple #[z4.v, .int .i64 0, .int .i64 53] else
 if recOk g salt (L.drop p.toNat) then .tuple #[(rcOf (L.drop p.toNat)).v, .int .i64 (szR (L.drop p.toNat)), .int .i64 0] else .tuple #[z4.v, .int .i64 0, .int .i64 52]
section
variable {h : Heap} {a : Option Addr} {c : Nat} {L : List Int}
theorem drop_sl (s : Sl eB h a c L) {p : Nat} (hp : p ≤ L.length) : Sl eB h (slA a p 1 c) (c - p) (L.drop p) := by
 have := s.cut (l := p) (r := L.length) hp (Nat.le_refl _)
 rw [List.take_length] at this; exact this
theorem getD_at {L : List Int} {k : Nat} (h : k < L.length) : L.getD k 0 = L[k] := by rw [List.getD_eq_getElem?_getD, List.getElem?_eq_getElem h]; rfl
theorem decode_m (g : Geo) {salt : Int} (hs : U32 salt) (s : Sl eB h a c L) (hb : isB L) (hl : L.length ≤ 1099511627776) (p : Int) : HC Tryd.prog 65 #[g.v, .int .u32 salt, .slice a L.length c, .int .i64 p] h fun v h' => v = decV g salt L p ∧ Ext h h' := by
 have hc := s.le
 refine f65_sh _ _ _ _ _ _ _ _ _ _ _ fun gb pb nb h4 log ltg lo lt lon ltn x4 => (check_m g h4).mono ?_
 rintro _ h5 ⟨rfl, x5⟩
 have x45 := x4.trans x5
 unfold decV
 by_cases hn : ¬ Gok g
 ·rw [if_neg hn]
  simp only [if_pos hn]
  exact ⟨x5, _, rfl, fun _ h6 f6 => ⟨rfl, frpb x45 lo f6⟩, fun e => by simp at e⟩
 have hg : Gok g := Decidable.not_not.1 hn
 rw [if_pos hg]
 simp only [if_neg hn]
 refine ⟨x5, _, rfl, fun e => by simp at e, fun _ => ⟨fun e h7 f7 => ?_, fun e => ?_⟩⟩
 ·simp only [Bool.or_eq_true, decide_eq_true_eq] at e
  rw [if_pos e]; exact ⟨rfl, frpb x45 lo f7⟩
 simp only [Bool.or_eq_false_iff, decide_eq_false_iff_not] at e
 have hp : ¬ (p < 0 ∨ p > L.length) := by omega
 simp only [if_neg hp]
 obtain ⟨q, rfl⟩ : ∃ q : Nat, p = q := ⟨p.toNat, by omega⟩
 have hq : q ≤ L.length := by omega
 simp only [Int.toNat_natCast]
 refine ⟨decide ((q : Int) = L.length ∨ L.getD q 0 = 255), ⟨fun e2 => ?_, fun e2 => ?_⟩, fun e2 h8 f8 => ?_, fun e2 => ?_⟩
 ·have : (q : Int) = L.length := by simpa using e2
  simp [this]
 ·have hne : ¬ (q : Int) = L.length := by simpa using e2
  have hql : q < L.length := by omega
  obtain ⟨b, o, ea, d⟩ := (s.ext x45).at (List.getElem?_eq_getElem hql)
  refine ⟨b, o, ea, by omega, by omega, L[q], d.1, ?_⟩
  rw [getD_at hql, Bool.eq_iff_iff]; simp only [decide_eq_true_eq, beq_iff_eq]
  exact ⟨fun q => q.resolve_left hne, .inr⟩
 ·rw [if_pos (of_decide_eq_true e2)]; exact ⟨rfl, frpb x45 lo f8⟩
 ·have hd := of_decide_eq_false e2
  simp only [if_neg hd]
  have hql : q < L.length := by omega
  have sR := drop_sl (s.ext x45) hq
  have hR : isB (L.drop q) := isB_drop hb q
  have hlen : (L.drop q).length = L.length - q := by simp
  refine ⟨by omega, by omega, by omega, fun sl esl => ?_⟩
  subst esl
  have hbeg := begun_m sR hR (by omega)
  rw [hlen] at hbeg
  refine hbeg.mono ?_
  rintro _ h9 ⟨rfl, x9⟩
  have x49 := x45.trans x9
  unfold tellB
  by_cases ok : begOk (L.drop q)
  ·rw [if_pos ok]
   refine ⟨x9.kp _, _, _, _, _, _, _, rfl, fun e => by simp at e, fun _ rb h11 lo11 lt11 x11 => (encode_m g hs (rcOf (L.drop q)) h11).mono ?_⟩
   rintro v h13 ⟨x13, hv⟩
   have xx := x49.trans (x11.trans x13)
   by_cases he : encE g (rcOf (L.drop q)) = 0
   ·rw [if_pos he] at hv
    obtain ⟨a13, c13, rfl, s13⟩ := hv
    have hz := ok.2
    rw [hlen] at hz
    have e3 : IntKind.i64.wrap ((q : Int) + (szR (L.drop q) : Int)) = ((q + szR (L.drop q) : Nat) : Int) := by rw [w64 (by omega) (by omega)]; omega
    have s0 := (s.ext xx).cut (l := q) (r := q + szR (L.drop q)) (by omega) (by omega)
    have e0 : (L.take (q + szR (L.drop q))).drop q = (L.drop q).take (szR (L.drop q)) := by rw [List.drop_take]; congr 1; omega
    rw [e0] at s0
    have hk : kindOk (rcOf (L.drop q)) := by
     unfold encE at he
     rw [if_neg hn] at he
     split at he
     ·cases he
     ·rename_i hk; exact Decidable.not_not.1 hk
    have hE := eq_m s13 s0 (encR_isB hk) (isB_take hR _)
    have el : ((L.drop q).take (szR (L.drop q))).length = szR (L.drop q) := by rw [List.length_take, hlen]; omega
    rw [el] at hE
    refine ⟨x13, _, _, _, _, rfl, !decide (encR salt (rcOf (L.drop q)) = (L.drop q).take (szR (L.drop q))), ⟨fun q => by simp at q, fun _ => ?_⟩, fun e h14 f14 => ?_, fun e h15 f15 => ?_⟩
    ·rw [e3]
     refine ⟨by omega, by omega, by omega, fun sl1 es => ⟨_, ?_, rfl⟩⟩
     subst es
     rw [Int.toNat_natCast, show q + szR (L.drop q) - q = szR (L.drop q) by omega]
     exact hE
    ·have hne : ¬ encR salt (rcOf (L.drop q)) = (L.drop q).take (szR (L.drop q)) := by simpa using e
     rw [if_neg (fun r : recOk g salt (L.drop q) => hne r.2.2)]
     exact ⟨rfl, frpb xx lo f14⟩
    ·have heq : encR salt (rcOf (L.drop q)) = (L.drop q).take (szR (L.drop q)) := by simpa using e
     rw [if_pos (show recOk g salt (L.drop q) from ⟨ok, he, heq⟩)]
     exact ⟨rfl, frpb xx lo f15⟩
   ·rw [if_neg he] at hv
    subst hv
    refine ⟨x13, _, _, _, _, rfl, true, ⟨fun _ => rfl, fun q => by simp [he] at q⟩, fun e h14 f14 => ?_, fun e => by cases e⟩
    rw [if_neg (fun r : recOk g salt (L.drop q) => he r.2.1)]
    exact ⟨rfl, frpb xx lo f14⟩
  ·rw [if_neg ok]
   refine ⟨x9.kp _, _, _, _, _, _, _, rfl, fun _ rb h11 lo11 lt11 x11 h12 f12 => ?_, fun e => by simp at e⟩
   rw [if_neg (fun r : recOk g salt (L.drop q) => ok r.1)]
   exact ⟨rfl, frpb (x49.trans x11) lo f12⟩
end
end Sc
end Go.Proofs.YthjehlocmikchaaDoor
namespace Go.Proofs.YthjehlocmikchaaDoor
namespace Sc
open Go
end Sc
end Go.Proofs.YthjehlocmikchaaDoor
namespace Go.Proofs.YthjehlocmikchaaDoor
namespace Sc
open Go
structure Ft where
 recs : Int
 used : Int
 salt : Int
 sum : Int
abbrev Ft.v (f : Ft) : Value := .agg #[.int .i64 f.recs, .int .i64 f.used, .int .u32 f.salt, .int .u32 f.sum]
def ftOk (g : Geo) (f : Ft) : Prop := (0 ≤ f.recs ∧ f.recs ≤ 2147483647) ∧ 32 ≤ f.used ∧ f.used ≤ g.sz - 24
instance (g : Geo) (f : Ft) : Decidable (ftOk g f) := by unfold ftOk; infer_instance
def ftVs (f : Ft) : List Int := [f.recs, f.used, f.salt, f.sum]
def ftP (f : Ft) (j : Nat) : List Int := [67, 76, 82, 70] ++ ((ftVs f).take j).flatMap (leb 4)
def ftB (f : Ft) : List Int := ftP f 4
def encF (f : Ft) : List Int := ftB f ++ leb 4 (crc 0 (ftB f))
theorem ftP_isB (f : Ft) (j : Nat) : isB (ftP f j) := by
 unfold ftP
 refine isB_app (fun y hy => by simp only [List.mem_cons, List.not_mem_nil, or_false] at hy; omega) fun y hy => ?_
 obtain ⟨z, _, hz⟩ := List.mem_flatMap.1 hy
 exact leb_isB 4 z y hz
theorem ftP_succ (f : Ft) {j : Nat} (hj : j < (ftVs f).length) : ftP f (j + 1) = ftP f j ++ leb 4 (ftVs f)[j] := by
 unfold ftP
 rw [List.take_add_one, List.getElem?_eq_getElem hj, List.flatMap_append, List.append_assoc]
 simp
theorem flat4 (V : List Int) : (V.flatMap (leb 4)).length = 4 * V.length := by
 induction V with
 | nil => rfl
 | cons x V ih => rw [List.flatMap_cons, List.length_append, ih, leb_len, List.length_cons]; omega
theorem ftP_len (f : Ft) {j : Nat} (hj : j ≤ 4) : (ftP f j).length = 4 + 4 * j := by
 unfold ftP
 rw [List.length_append, flat4, List.length_take]
 simp [ftVs]; omega
theorem encF_isB (f : Ft) : isB (encF f) := isB_app (ftP_isB f 4) (leb_isB _ _)
def TellF (g : Geo) (f : Ft) (h : Heap) (v : Value) (h' : Heap) : Prop := Ext h h' ∧
 if Gok g then (if ftOk g f then ∃ a c, v = .tuple #[.slice a (encF f).length c, .int .i64 0] ∧ Sl eB h' a c (encF f) else v = .tuple #[.slice none 0 0, .int .i64 1]) else v = .tuple #[.slice none 0 0, .int .i64 20]
theorem tellF_no {g : Geo} {x : Ft} {h h' : Heap} (hn : ¬ Gok g) (e : Ext h h') : TellF g x h (.tuple #[.slice none 0 0, .int .i64 20]) h' := ⟨e, by rw [if_neg hn]⟩
theorem tellF_bad {g : Geo} {x : Ft} {h h' : Heap} (hg : Gok g) (hn : ¬ ftOk g x) (e : Ext h h') : TellF g x h (.tuple #[.slice none 0 0, .int .i64 1]) h' := ⟨e, by rw [if_pos hg, if_neg hn]⟩
theorem tellF_ok {g : Geo} {x : Ft} {h h' : Heap} {a : Option Addr} {c : Nat} (hg : Gok g) (ok : ftOk g x) (e : Ext h h') (s : Sl eB h' a c (encF x)) : TellF g x h (.tuple #[.slice a (encF x).length c, .int .i64 0]) h' := ⟨e, by rw [if_pos hg, if_pos ok]; exact ⟨a, c, rfl, s⟩⟩
theorem ownf_ne {k N : Nat} {T T' : TypeId} {h : Heap} {a : Option Addr} {c p : Nat} {cs : Array Value} {fr : Nat × Nat} (w : OwnF k T N h a c) (hr : h[p]? = some (.cells cs T' fr)) (hT : T' ≠ T) : ¬ blkA a p := fun hb => by
 rcases w with ⟨e, _⟩ | ⟨b', o', cs', fr', e, _, r1, _⟩
 ·rw [e] at hb; exact blkA_none hb
 ·rw [e, blkA_some] at hb; subst hb; rw [hr] at r1; simp at r1; exact hT r1.2.1
theorem ft_cond {g : Geo} {f : Ft} : ((decide (f.recs < 0)) || ((decide (f.recs > 2147483647)) || ((decide (f.used < 32)) || (decide (f.used > g.sz - 24))))) = !decide (ftOk g f) := by
 rw [Bool.eq_iff_iff]
 simp only [Bool.or_eq_true, decide_eq_true_eq, Bool.not_eq_true', decide_eq_false_iff_not]
 unfold ftOk
 constructor
 ·intro q r; omega
 ·intro q
  by_cases h1 : f.recs < 0
  ·exact .inl h1
  ·by_cases h2 : f.recs > 2147483647
   ·exact .inr (.inl h2)
   ·by_cases h3 : f.used < 32
    ·exact .inr (.inr (.inl h3))
    ·refine .inr (.inr (.inr ?_))
     rcases Int.lt_or_le (g.sz - 24) f.used with c | c
     ·exact c
     ·exact absurd ⟨⟨by omega, by omega⟩, by omega, c⟩ q
set_option maxHeartbeats 1600000 in
theorem encFoot_m (g : Geo) (f : Ft) (hs : U32 f.salt) (hm : U32 f.sum) (h : Heap) : HC Tryd.prog 67 #[g.v, f.v] h fun v h' => TellF g f h v h' := by
 refine f67_sh _ _ _ _ _ _ _ _ _ _ fun gb fb h2 lo1 lt1 lo2 lt2 x2 => (check_m g h2).mono ?_
 rintro _ h3 ⟨rfl, x3⟩
 have x23 := x2.trans x3
 by_cases hn : ¬ Gok g
 ·rw [if_neg hn]
  exact ⟨x3, _, rfl, fun _ => tellF_no hn x23, fun e => by simp at e⟩
 have hg : Gok g := Decidable.not_not.1 hn
 have b := ok_bounds hg
 rw [if_pos hg]
 refine ⟨x3, _, rfl, fun e => by simp at e, fun _ => (bytes_m g h3).mono ?_⟩
 rintro _ h4 ⟨rfl, x4⟩
 rw [if_pos hg]
 have x24 := x23.trans x4
 refine ⟨x4, _, _, _, rfl, ?_⟩
 have ew : IntKind.i64.wrap (g.sz - 24) = g.sz - 24 := w64 (by omega) (by omega)
 simp only [ew]
 rw [ft_cond]
 refine ⟨fun e => ?_, fun e => ?_⟩
 ·exact tellF_bad hg (by simpa using e) x24
 have ok : ftOk g f := by simpa using e
 obtain ⟨⟨r0, r1⟩, u0, u1⟩ := ok
 have s2 := x2.size
 have s3 := x3.size
 have s4 := x4.size
 rw [wu64 (x := f.recs) (by omega) (by omega), wu64 (x := f.used) (by omega) (by omega), wu64 (x := f.salt) hs.1 (by have := hs.2; omega), wu64 (x := f.sum) hm.1 (by have := hm.2; omega)]
 intro nb h5 e5 eh5
 have x5 : Ext h4 h5 := by rw [eh5]; exact Ext.push _ _
 have r5 : h5[nb]? = some (.cells (([67, 76, 82, 70] : List Int).flatMap eB.enc).toArray tB (0, 0)) := by rw [eh5]; exact push_new e5
 clear eh5
 have s5 := x5.size
 refine ⟨_, _, r5, fun h6 e6 => ?_⟩
 obtain ⟨f6, sl6, w6⟩ := lit_mark (N := h4.size) (by omega) r5 e6
 have s6 := f6.size
 refine ⟨f6.kp fun q hq e => by simp at hq; omega, fun nb1 h7 e7 eh7 => ?_⟩
 have x7 : Ext h6 h7 := by rw [eh7]; exact Ext.push _ _
 have r7 : h7[nb1]? = some (.cells #[.int .u64 f.recs, .int .u64 f.used, .int .u64 f.salt, .int .u64 f.sum] 29 (0, 0)) := by rw [eh7]; exact push_new e7
 clear eh7
 have s7 := x7.size
 have F7 : Fr (fun b => h4.size ≤ b) h4 h7 := ((x5.fr _).trans f6 fun b _ q => by omega).trans (x7.fr (fun _ => False)) fun _ _ q => q.elim
 have l7 := row_lt r7
 refine ⟨fun a n c v h8 => ∃ j : Nat, v = j ∧ j ≤ 4 ∧ n = (ftP f j).length ∧ Fr (fun b => h4.size ≤ b) h4 h8 ∧ Sl eB h8 a c (ftP f j) ∧ OwnF eB.k tB h4.size h8 a c ∧ h8[nb1]? = some (.cells #[.int .u64 f.recs, .int .u64 f.used, .int .u64 f.salt, .int .u64 f.sum] 29 (0, 0)), fun _ _ _ v _ => 4 - v.toNat,
  ⟨0, rfl, by decide, rfl, F7, sl6.ext x7, w6.ext x7, r7⟩, ?_⟩
 rintro a _ c _ h8 ⟨j, rfl, hj, rfl, F8, s8, w8, r8⟩
 have t8 := F8.size
 refine ⟨fun hlt => ?_, fun hge => ?_⟩
 ·have hj4 : j < 4 := by have := of_decide_eq_true hlt; omega
  have hjl : j < (ftVs f).length := hj4
  refine ⟨by omega, by omega, (ftVs f)[j], ?_, (put_m s8 w8 t8 (by rw [ftP_len f hj]; omega) _ 4 (by decide)).mono ?_⟩
  ·rw [hcell_row r8]
   rcases (by omega : j = 0 ∨ j = 1 ∨ j = 2 ∨ j = 3) with q | q | q | q <;> subst q <;> rfl
  ·rintro _ h9 ⟨a9, c9, rfl, f9, s9, w9, _⟩
   rw [← ftP_succ f hjl] at s9 ⊢
   refine ⟨_, _, _, rfl, ?_⟩
   rw [wadd j (by omega)]
   exact ⟨⟨j + 1, rfl, hj4, rfl, F8.trans f9 fun b _ q => (w8.low q).1, s9, w9, f9.row r8 (ownf_ne w8 r8 (by decide))⟩, by simp only [Int.toNat_natCast]; omega⟩
 ·have hj4 : j = 4 := by have := of_decide_eq_false hge; omega
  subst hj4
  refine (summed_m s8 w8 t8 (ftP_isB f 4) (by rw [ftP_len f (Nat.le_refl _)]; decide)).mono ?_
  rintro _ h10 ⟨f10, a10, c10, rfl, s10, w10⟩
  refine ⟨_, _, _, rfl, tellF_ok hg ⟨⟨r0, r1⟩, u0, u1⟩ ?_ s10⟩
  exact ((x24.fr _).trans (F8.trans f10 fun _ _ q => q) fun _ _ q => q).ext fun b hb q => by omega
end Sc
end Go.Proofs.YthjehlocmikchaaDoor
namespace Go.Proofs.YthjehlocmikchaaDoor
namespace Sc
open Go
end Sc
end Go.Proofs.YthjehlocmikchaaDoor
namespace Go.Proofs.YthjehlocmikchaaDoor
namespace Sc
open Go
def ftL (L : List Int) : List Int := L.drop (L.length - 24)
def ftOf (L : List Int) : Ft := ⟨le (((ftL L).drop 4).take 4), le (((ftL L).drop 8).take 4), le (((ftL L).drop 12).take 4), le (((ftL L).drop 16).take 4)⟩
def footOk (g : Geo) (L : List Int) : Prop := (L.length : Int) = g.sz ∧ ftOk g (ftOf L) ∧ encF (ftOf L) = ftL L ∧ crc 0 (L.take (ftOf L).used.toNat) = (ftOf L).sum
instance (g : Geo) (L : List Int) : Decidable (footOk g L) := by unfold footOk; infer_instance
abbrev zF : Ft := ⟨0, 0, 0, 0⟩
def footV (g : Geo) (L : List Int) : Value := if ¬ Gok g then .tuple #[zF.v, .int .i64 20] else if footOk g L then .tuple #[(ftOf L).v, .int .i64 0] else .tuple #[zF.v, .int .i64 51]
section
variable {h : Heap} {a : Option Addr} {c : Nat} {L : List Int}
theorem ftOf_bounds (hb : isB L) : (0 ≤ (ftOf L).recs ∧ (ftOf L).recs < 4294967296) ∧ (0 ≤ (ftOf L).used ∧ (ftOf L).used < 4294967296) ∧ U32 (ftOf L).salt ∧ U32 (ftOf L).sum := by
 have hB : isB (ftL L) := isB_drop hb _
 have k : ∀ p, 0 ≤ le (((ftL L).drop p).take 4) ∧ le (((ftL L).drop p).take 4) < 4294967296 := fun p => le_u32 (isB_take (isB_drop hB p) 4) (by simp; omega)
 exact ⟨k 4, k 8, k 12, k 16⟩
theorem f1_m (s : Sl eB h a c L) (hb : isB L) {cb : Nat} {T : TypeId} (r : h[cb]? = some (.cells #[.slice a L.length c] T (0, 0))) {i : Nat} (hi : 4 * i + 4 ≤ L.length) (h8 : i ≤ 8) : HC Tryd.prog 66 #[.int .i64 i, ptr cb 0] h fun v h' => v = .int .u64 (le ((L.drop (4 * i)).take 4)) ∧ h' = h := by
 have hc := s.le
 have e1 : IntKind.i64.wrap (4 * (i : Int)) = ((4 * i : Nat) : Int) := by rw [w64 (by omega) (by omega)]; omega
 have e2 : IntKind.i64.wrap (((4 * i : Nat) : Int) + 4) = ((4 * i + 4 : Nat) : Int) := by rw [w64 (by omega) (by omega)]; omega
 refine f66_sh _ _ _ _ _ ⟨_, _, _, by rw [hcell_row r]; rfl, ?_⟩
 rw [e1, e2]
 refine ⟨by omega, by omega, by omega, fun sl es => ⟨_, ?_, rfl, rfl⟩⟩
 subst es
 have := num_cut s hb (l := 4 * i) (r := 4 * i + 4) (by omega) hi (by omega) (Ext.refl h)
 rw [show 4 * i + 4 - 4 * i = 4 by omega] at this
 rw [Int.toNat_natCast, Int.toNat_natCast, show 4 * i + 4 - 4 * i = 4 by omega]
 exact this
end
end Sc
end Go.Proofs.YthjehlocmikchaaDoor
namespace Go.Proofs.YthjehlocmikchaaDoor
namespace Sc
open Go
section
variable {h : Heap} {a : Option Addr} {c : Nat} {L : List Int}
set_option maxHeartbeats 3200000 in
theorem foot_m (g : Geo) (s : Sl eB h a c L) (hb : isB L) (hl : L.length ≤ 1099511627776) : HC Tryd.prog 35 #[g.v, .slice a L.length c] h fun v h' => v = footV g L ∧ Ext h h' := by
 have hc := s.le
 refine f35_sh _ _ _ _ _ _ _ _ _ fun gb pb h2 _ lt0 lo lt x2 => (check_m g h2).mono ?_
 rintro _ h3 ⟨rfl, x3⟩
 have x23 := x2.trans x3
 unfold footV
 by_cases hn : ¬ Gok g
 ·rw [if_neg hn]
  simp only [if_pos hn]
  exact ⟨x3, _, rfl, fun _ h4 f4 => ⟨rfl, frpb x23 lo f4⟩, fun e => by simp at e⟩
 have hg : Gok g := Decidable.not_not.1 hn
 rw [if_pos hg]
 simp only [if_neg hn]
 have b := ok_bounds hg
 refine ⟨x3, _, rfl, fun e => by simp at e, fun _ => (bytes_m g h3).mono ?_⟩
 rintro _ h5 ⟨rfl, x5⟩
 rw [if_pos hg]
 have x25 := x23.trans x5
 refine ⟨x5, _, _, _, rfl, fun e h6 f6 => ?_, fun e => ?_⟩
 ·have hne : ¬ (L.length : Int) = g.sz := by simpa using e
  rw [if_neg (fun r : footOk g L => hne r.1)]
  exact ⟨rfl, frpb x25 lo f6⟩
 have hL : (L.length : Int) = g.sz := by simpa using e
 have ew : IntKind.i64.wrap (g.sz - 24) = ((L.length - 24 : Nat) : Int) := by rw [w64 (by omega) (by omega)]; omega
 simp only [ew]
 have hs2 := x2.size
 have hs3 := x3.size
 have hs5 := x5.size
 refine ⟨by omega, by omega, by omega, fun sl es cb h7 e7 eh7 => ?_⟩
 have x7 : Ext h5 h7 := by rw [eh7]; exact Ext.push _ _
 have r7 : h7[cb]? = some (.cells #[.slice none 0 0] 25 (0, 0)) := by rw [eh7]; exact push_new e7
 clear eh7
 refine ⟨HW_row r7 (by simp), fun p hp => by simp at hp; omega, fun h8 e8 => ?_⟩
 have hlB : (ftL L).length = 24 := by unfold ftL; rw [List.length_drop]; omega
 have t1 : Int.toNat (L.length : Int) - Int.toNat ((L.length - 24 : Nat) : Int) = (ftL L).length := by rw [Int.toNat_natCast, Int.toNat_natCast, hlB]; omega
 rw [t1, Int.toNat_natCast] at e8
 rw [Int.toNat_natCast] at es
 have r8 : h8[cb]? = some (.cells #[.slice sl (ftL L).length (c - (L.length - 24))] 25 (0, 0)) := by rw [e8, hset_row r7]; rfl
 have x8 : Ext h5 h8 := ext_hset e8 x7 (by omega)
 clear e8
 have x28 := x25.trans x8
 have bd := ftOf_bounds hb
 have hB : isB (ftL L) := isB_drop hb _
 have sB : Sl eB h8 sl (c - (L.length - 24)) (ftL L) := by subst es; exact drop_sl (s.ext x28) (by omega)
 refine ⟨(ftOf L).recs, f1_m sB hB r8 (i := 1) (by omega) (by decide), (ftOf L).used, f1_m sB hB r8 (i := 2) (by omega) (by decide), (ftOf L).salt, f1_m sB hB r8 (i := 3) (by omega) (by decide), (ftOf L).sum, f1_m sB hB r8 (i := 4) (by omega) (by decide), fun fb h10 _ _ x10 => ?_⟩
 rw [w64 (x := (ftOf L).recs) (by omega) (by omega), w64 (x := (ftOf L).used) (by omega) (by omega), wu32 bd.2.2.1, wu32 bd.2.2.2]
 have x10' := x28.trans x10
 refine (encFoot_m g (ftOf L) bd.2.2.1 bd.2.2.2 h10).mono ?_
 rintro v h11 ⟨x11, hv⟩
 rw [if_pos hg] at hv
 have x11' := x10'.trans x11
 by_cases ok : ftOk g (ftOf L)
 ·rw [if_pos ok] at hv
  obtain ⟨a11, c11, rfl, s11⟩ := hv
  have hu := ok.2
  refine ⟨x11.kp _, _, _, _, _, rfl, !decide (encF (ftOf L) = ftL L ∧ crc 0 (L.take (ftOf L).used.toNat) = (ftOf L).sum), ⟨fun q => by simp at q, fun _ => ⟨_, _, _, by rw [hcell_row ((x10.trans x11).row r8)]; rfl, decide (encF (ftOf L) = ftL L), fun h13 x13 => ?_, fun q => ?_, fun q => ⟨by omega, by omega, by omega, fun sl1 es1 => ⟨crc 0 (L.take (ftOf L).used.toNat), fun h12 x12 => ?_, ?_⟩⟩⟩⟩, fun e h14 f14 => ?_, fun e h15 f15 => ?_⟩
  ·exact eq_m (s11.ext x13) (sB.ext (x10.trans (x11.trans x13))) (encF_isB _) hB
  ·have hne : ¬ encF (ftOf L) = ftL L := by simpa using q
   simp [hne]
  ·subst es1
   have := crc_m ((s.ext (x11'.trans x12)).cut (l := 0) (r := (ftOf L).used.toNat) (Nat.zero_le _) (by omega)) (isB_drop (isB_take hb _) 0) (by simp; omega)
   have el : (List.drop 0 (L.take (ftOf L).used.toNat)).length = (ftOf L).used.toNat := by simp; omega
   rw [el] at this
   exact this
  ·have heq : encF (ftOf L) = ftL L := by simpa using q
   rw [Bool.eq_iff_iff]; simp [heq]
  ·rw [Bool.not_eq_true'] at e
   have hne := of_decide_eq_false e
   rw [if_neg (fun r : footOk g L => hne r.2.2)]
   exact ⟨rfl, frpb x11' lo f14⟩
  ·rw [Bool.not_eq_false'] at e
   have heq := of_decide_eq_true e
   rw [if_pos (show footOk g L from ⟨hL, ok, heq⟩)]
   exact ⟨rfl, frpb x11' lo f15⟩
 ·rw [if_neg ok] at hv
  subst hv
  refine ⟨x11.kp _, _, _, _, _, rfl, true, ⟨fun _ => rfl, fun q => by simp at q⟩, fun e h14 f14 => ?_, fun e => by cases e⟩
  rw [if_neg (fun r : footOk g L => ok r.2.1)]
  exact ⟨rfl, frpb x11' lo f14⟩
end
end Sc
end Go.Proofs.YthjehlocmikchaaDoor
