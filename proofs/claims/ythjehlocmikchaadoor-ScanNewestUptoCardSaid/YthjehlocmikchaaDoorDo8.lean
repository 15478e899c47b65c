import Derived.Maps.RangeRun
import Derived.Test.YthjehlocmikchaaDoorProg
import Derived.Test.YthjehlocmikchaaDoorDo1
import Derived.Test.YthjehlocmikchaaDoorDo2
import Derived.Test.YthjehlocmikchaaDoorDo3
import Derived.Test.YthjehlocmikchaaDoorDo5
import Derived.Test.YthjehlocmikchaaDoorDo6
import Derived.Test.YthjehlocmikchaaDoorDo7
namespace Go.Proofs.YthjehlocmikchaaDoor
namespace Sc
open Go
structure Sw where
 rg : Int
 has : Bool
 ep : Int
 sq : Int
 hr : Int
 ra : Option Addr
 rn : Nat
 rc : Nat
 at_ : Int
 why : Int
 sealed_ : Bool
abbrev Sw.cs (x : Sw) : List Value := [.int .i64 x.rg, .bool x.has, .int .u64 x.ep, .int .u64 x.sq, .int .i64 x.hr, .slice x.ra x.rn x.rc, .int .i64 x.at_, .int .i64 x.why, .bool x.sealed_]
def eSw : Elt Sw := ⟨9, Sw.cs, fun _ => rfl, fun x v hv => by simp at hv; rcases hv with rfl | rfl | rfl | rfl | rfl | rfl | rfl | rfl | rfl <;> rfl⟩
instance : Inhabited Sw := ⟨⟨0, false, 0, 0, 0, none, 0, 0, 0, 0, false⟩⟩
def bfr (x y : Sw) : Bool := if x.has ≠ y.has then x.has else if x.sq ≠ y.sq then decide (x.sq < y.sq) else decide (x.rg < y.rg)
def ucmp (x y : Int) : Int := if x < y then -1 else if y < x then 1 else 0
def ordI (x y : Sw) : Int := if x.has ≠ y.has then (if x.has then -1 else 1) else if ucmp x.sq y.sq ≠ 0 then ucmp x.sq y.sq else ucmp x.rg y.rg
theorem ordI_bfr (x y : Sw) : ordI x y < 0 ↔ bfr x y = true := by
 unfold ordI bfr ucmp
 by_cases h1 : x.has ≠ y.has
 ·rw [if_pos h1, if_pos h1]; cases x.has <;> simp
 ·rw [if_neg h1, if_neg h1]
  by_cases h2 : x.sq < y.sq
  ·rw [if_pos h2, if_pos (by decide), if_pos (by omega)]; simp [h2]
  ·by_cases h3 : y.sq < x.sq
   ·rw [if_neg h2, if_pos h3, if_pos (by decide), if_pos (by omega)]; simp [h2]
   ·rw [if_neg h2, if_neg h3, if_neg (by decide), if_neg (show ¬ x.sq ≠ y.sq by omega)]
    simp only [decide_eq_true_eq]
    by_cases h4 : x.rg < y.rg
    ·rw [if_pos h4]; exact ⟨fun _ => h4, fun _ => by decide⟩
    ·rw [if_neg h4]
     refine ⟨fun q => ?_, fun q => absurd q h4⟩
     split at q <;> omega
theorem bfr_tr {x y z : Sw} (h1 : bfr x y = true) (h2 : bfr y z = true) : bfr x z = true := by
 unfold bfr at *
 by_cases a : x.has = y.has
 ·by_cases b : y.has = z.has
  ·have c : x.has = z.has := a.trans b
   rw [if_neg (not_not_intro a)] at h1
   rw [if_neg (not_not_intro b)] at h2
   rw [if_neg (not_not_intro c)]
   split at h1 <;> split at h2 <;> simp only [decide_eq_true_eq] at h1 h2 <;> (split <;> simp only [decide_eq_true_eq] <;> omega)
  ·rw [if_pos b] at h2
   rw [if_pos (by rw [a]; exact b), a]; exact h2
 ·rw [if_pos a] at h1
  have hy : y.has = false := by cases hy : y.has; rfl; rw [h1, hy] at a; exact absurd rfl a
  by_cases b : y.has = z.has
  ·rw [if_pos (by rw [← b]; exact a)]; exact h1
  ·rw [if_pos b, hy] at h2; cases h2
theorem bfr_asy {x y : Sw} (h1 : bfr x y = true) : bfr y x = false := by
 unfold bfr at *
 by_cases a : x.has = y.has
 ·rw [if_neg (not_not_intro a)] at h1
  rw [if_neg (not_not_intro a.symm)]
  split at h1 <;> simp only [decide_eq_true_eq] at h1 <;> (split <;> simp only [decide_eq_false_iff_not] <;> omega)
 ·rw [if_pos a] at h1
  rw [if_pos (Ne.symm a)]
  cases hy : y.has
  ·rfl
  ·rw [h1, hy] at a; exact absurd rfl a
theorem bfr_nt {x y z : Sw} (h1 : bfr x y = false) (h2 : bfr y z = false) : bfr x z = false := by
 unfold bfr at *
 by_cases a : x.has = y.has
 ·by_cases b : y.has = z.has
  ·have c : x.has = z.has := a.trans b
   rw [if_neg (not_not_intro a)] at h1
   rw [if_neg (not_not_intro b)] at h2
   rw [if_neg (not_not_intro c)]
   split at h1 <;> split at h2 <;> simp only [decide_eq_false_iff_not] at h1 h2 <;> (split <;> simp only [decide_eq_false_iff_not] <;> omega)
  ·rw [if_pos b] at h2
   rw [if_pos (by rw [a]; exact b), a]; exact h2
 ·rw [if_pos a] at h1
  have hy : y.has = true := by cases hy : y.has; rw [h1, hy] at a; exact absurd rfl a; rfl
  by_cases b : y.has = z.has
  ·rw [if_pos (by rw [← b]; exact a)]; exact h1
  ·rw [if_pos b, hy] at h2; cases h2
section
variable {h h' : Heap}
theorem before_r (x y : Sw) (h : Heap) : HC Tryd.prog 58 #[.agg x.cs.toArray, .agg y.cs.toArray] h fun v h' => v = .bool (bfr x y) ∧ Ext h h' := by
 refine f58_sh _ _ _ _ _ _ _ _ _ _ _ _ _ _ _ _ _ _ _ _ _ _ _ _ ⟨fun e h2 x2 => ⟨?_, x2⟩, fun e => ⟨fun e2 h2 x2 => ⟨?_, x2⟩, fun e2 h2 x2 => ⟨?_, x2⟩⟩⟩
 ·unfold bfr; rw [if_pos (by simpa using e)]
 ·unfold bfr; rw [if_neg (by simpa using e), if_pos (by simpa using e2)]
 ·unfold bfr; rw [if_neg (by simpa using e), if_neg (by simpa using e2)]
theorem cmpU_c (x y : Int) (h : Heap) : HC Tryd.prog 76 #[.int .u64 x, .int .u64 y] h fun v h' => v = .int .i64 (ucmp x y) ∧ h' = h := by
 unfold ucmp
 refine f76_sh _ _ _ _ (f90_sh _ _ _ ⟨_, rfl, f90_sh _ _ _ ⟨_, rfl, fun g => by simp at g, fun _ => ⟨fun g => by simp at g, fun _ => ⟨fun e => ⟨?_, rfl⟩, fun e => ⟨fun e2 => ⟨?_, rfl⟩, fun e2 => ⟨?_, rfl⟩⟩⟩⟩⟩⟩)
 ·rw [if_pos (of_decide_eq_true e)]
 ·rw [if_neg (of_decide_eq_false e), if_pos (of_decide_eq_true e2)]
 ·rw [if_neg (of_decide_eq_false e), if_neg (of_decide_eq_false e2)]
theorem cmpI_c (x y : Int) (h : Heap) : HC Tryd.prog 77 #[.int .i64 x, .int .i64 y] h fun v h' => v = .int .i64 (ucmp x y) ∧ h' = h := by
 unfold ucmp
 refine f77_sh _ _ _ _ (f91_sh _ _ _ ⟨_, rfl, f91_sh _ _ _ ⟨_, rfl, fun g => by simp at g, fun _ => ⟨fun g => by simp at g, fun _ => ⟨fun e => ⟨?_, rfl⟩, fun e => ⟨fun e2 => ⟨?_, rfl⟩, fun e2 => ⟨?_, rfl⟩⟩⟩⟩⟩⟩)
 ·rw [if_pos (of_decide_eq_true e)]
 ·rw [if_neg (of_decide_eq_false e), if_pos (of_decide_eq_true e2)]
 ·rw [if_neg (of_decide_eq_false e), if_neg (of_decide_eq_false e2)]
theorem order1_m (x y : Sw) (h : Heap) : HC Tryd.prog 54 #[.agg x.cs.toArray, .agg y.cs.toArray] h fun v h' => v = .int .i64 (ordI x y) ∧ Ext h h' := by
 refine f54_sh _ _ _ _ _ _ _ _ _ _ _ _ _ _ _ _ _ _ _ _ _ _ _ _ ⟨fun e => ⟨fun e2 h2 x2 => ⟨?_, x2⟩, fun e2 h2 x2 => ⟨?_, x2⟩⟩, fun e p q h2 _ _ _ _ x2 => ⟨_, fun h6 _ => cmpU_c _ _ h6, _, fun h5 _ => cmpI_c _ _ h5, fun nb h3 en e3 => ?_⟩⟩
 ·unfold ordI; rw [if_pos (by simpa using e), if_pos e2]
 ·unfold ordI; rw [if_pos (by simpa using e), if_neg (by rw [e2]; decide)]
 ·have x3 : Ext h2 h3 := by rw [e3]; exact Ext.push _ _
  have hrow : h3[nb]? = some (.cells #[.int .i64 (ucmp x.sq y.sq), .int .i64 (ucmp x.rg y.rg)] 3 (0, 0)) := by rw [e3]; exact push_new en
  have key : ∀ z, ordI x y = z → (Value.int .i64 z = .int .i64 (ordI x y) ∧ Ext h h3) := fun z hz => ⟨by rw [hz], x2.trans x3⟩
  have ho : ordI x y = if ucmp x.sq y.sq ≠ 0 then ucmp x.sq y.sq else ucmp x.rg y.rg := by unfold ordI; rw [if_neg (by simpa using e)]
  refine f75_sh _ _ _ _ _ ⟨fun v => v = 0 ∨ (v = 1 ∧ ucmp x.sq y.sq = 0) ∨ (v = 2 ∧ ucmp x.sq y.sq = 0 ∧ ucmp x.rg y.rg = 0), fun v => 3 - v.toNat, .inl rfl, ?_⟩
  rintro v hv
  refine ⟨fun g => ?_, fun g => ?_⟩
  ·have hlt := of_decide_eq_true g
   rcases hv with rfl | ⟨rfl, h1⟩ | ⟨rfl, _⟩
   ·refine ⟨nb, 0, rfl, by omega, hlt, _, by rw [hcell_row hrow]; rfl, fun g2 => ⟨_, rfl, key _ ?_⟩, fun g2 => ?_⟩
    ·rw [ho, if_pos (by simpa using g2)]
    ·rw [show IntKind.i64.wrap (0 + 1) = 1 from rfl]
     exact ⟨.inr (.inl ⟨rfl, by simpa using g2⟩), by decide⟩
   ·refine ⟨nb, 0, rfl, by omega, hlt, _, by rw [hcell_row hrow]; rfl, fun g2 => ⟨_, rfl, key _ ?_⟩, fun g2 => ?_⟩
    ·rw [ho, if_neg (by simpa using h1)]
    ·rw [show IntKind.i64.wrap (1 + 1) = 2 from rfl]
     exact ⟨.inr (.inr ⟨rfl, h1, by simpa using g2⟩), by decide⟩
   ·omega
  ·have hge := of_decide_eq_false g
   rcases hv with rfl | ⟨rfl, h1⟩ | ⟨rfl, h1, h2⟩
   ·omega
   ·omega
   ·refine ⟨_, rfl, key _ ?_⟩
    rw [ho, if_neg (by simpa using h1)]; exact h2
def ints (n : Nat) : List Int := (List.range n).map fun (i : Nat) => (i : Int)
theorem ints_len (n : Nat) : (ints n).length = n := by simp [ints]
theorem ints_succ (n : Nat) : ints (n + 1) = ints n ++ [(n : Int)] := by unfold ints; rw [List.range_succ, List.map_append]; rfl
theorem ints_mem {n : Nat} {x : Int} : x ∈ ints n ↔ 0 ≤ x ∧ x < n := by
 unfold ints
 rw [List.mem_map]
 constructor
 ·rintro ⟨i, hi, rfl⟩
  have := List.mem_range.1 hi; omega
 ·rintro ⟨h1, h2⟩
  exact ⟨x.toNat, List.mem_range.2 (by omega), by omega⟩
theorem ints_get {n p : Nat} (h : p < n) : (ints n)[p]? = some (p : Int) := by unfold ints; rw [List.getElem?_map, List.getElem?_range h]; rfl
theorem ints_get' {n p : Nat} {x : Int} (h : (ints n)[p]? = some x) : x = p ∧ p < n := by
 have hp := (List.getElem?_eq_some_iff.1 h).1
 rw [ints_len] at hp
 rw [ints_get hp] at h
 cases h; exact ⟨rfl, hp⟩
def atK (K : List Sw) (i : Int) : Sw := K.getD i.toNat default
def ltO (K : List Sw) (i j : Int) : Prop := bfr (atK K i) (atK K j) = true ∨ (bfr (atK K j) (atK K i) = false ∧ i < j)
structure IsOrd (K : List Sw) (L : List Int) : Prop where
 perm : L.Perm (ints K.length)
 up : L.Pairwise (ltO K)
theorem ltO_irr (K : List Sw) (i : Int) : ¬ ltO K i i := by
 rintro (h | h)
 ·have := bfr_asy h; rw [h] at this; cases this
 ·omega
theorem ltO_tr {K : List Sw} {i j k : Int} (h1 : ltO K i j) (h2 : ltO K j k) : ltO K i k := by
 have key : ∀ {x y z : Sw}, bfr y x = false → bfr y z = true → bfr x z = true := fun {x y z} a b => by
  cases c : bfr x z
  ·have := bfr_nt a c; rw [b] at this; cases this
  ·rfl
 have key2 : ∀ {x y z : Sw}, bfr x y = true → bfr z y = false → bfr x z = true := fun {x y z} a b => by
  cases c : bfr x z
  ·have := bfr_nt c b; rw [a] at this; cases this
  ·rfl
 rcases h1 with h1 | ⟨h1, l1⟩
 ·rcases h2 with h2 | ⟨h2, _⟩
  ·exact .inl (bfr_tr h1 h2)
  ·exact .inl (key2 h1 h2)
 ·rcases h2 with h2 | ⟨h2, l2⟩
  ·exact .inl (key h1 h2)
  ·exact .inr ⟨bfr_nt h2 h1, by omega⟩
theorem pw_eq {α : Type} {R : α → α → Prop} (irr : ∀ x, ¬ R x x) (tr : ∀ x y z, R x y → R y z → R x z) : ∀ {L M : List α}, L.Perm M → L.Pairwise R → M.Pairwise R → L = M
 | [], M, p, _, _ => (List.Perm.nil_eq p)
 | x :: L, M, p, hL, hM => by
  cases M with
  | nil => exact absurd (p.mem_iff.1 (by simp : x ∈ x :: L)) (by simp)
  | cons y M =>
   have hxy : x = y := by
    have h1 : x ∈ y :: M := p.mem_iff.1 (by simp)
    have h2 : y ∈ x :: L := p.mem_iff.2 (by simp)
    rcases List.mem_cons.1 h1 with e | h1
    ·exact e
    ·rcases List.mem_cons.1 h2 with e | h2
     ·exact e.symm
     ·exact absurd (tr _ _ _ ((List.pairwise_cons.1 hL).1 y h2) ((List.pairwise_cons.1 hM).1 x h1)) (irr x)
   subst hxy
   rw [pw_eq irr tr ((List.perm_cons x).1 p) (List.pairwise_cons.1 hL).2 (List.pairwise_cons.1 hM).2]
theorem IsOrd.eq {K : List Sw} {L M : List Int} (a : IsOrd K L) (b : IsOrd K M) : L = M := pw_eq (ltO_irr K) (fun _ _ _ => ltO_tr) (a.perm.trans b.perm.symm) a.up b.up
theorem IsOrd.mem {K : List Sw} {L : List Int} (a : IsOrd K L) {x : Int} : x ∈ L ↔ 0 ≤ x ∧ x < K.length := by rw [a.perm.mem_iff, ints_mem]
theorem IsOrd.len {K : List Sw} {L : List Int} (a : IsOrd K L) : L.length = K.length := by rw [a.perm.length_eq, ints_len]
theorem IsOrd.of {K K' : List Sw} {L : List Int} (a : IsOrd K L) (hl : K'.length = K.length) (hb : ∀ i j : Int, 0 ≤ i → i < K.length → 0 ≤ j → j < K.length → bfr (atK K' i) (atK K' j) = bfr (atK K i) (atK K j)) : IsOrd K' L := by
 refine ⟨by rw [hl]; exact a.perm, ?_⟩
 refine List.Pairwise.imp_of_mem ?_ a.up
 intro i j hi hj h
 obtain ⟨i1, i2⟩ := a.mem.1 hi
 obtain ⟨j1, j2⟩ := a.mem.1 hj
 unfold ltO at *
 rw [hb i j i1 i2 j1 j2, hb j i j1 j2 i1 i2]; exact h
abbrev tI : TypeId := 3
theorem aI : AppT Tryd.prog 71 tI Stb.eI.k 8 := ⟨by kernel_rfl, by kernel_rfl, by kernel_rfl, ⟨.int .i64 0, [.int .i64 0], by unfold zeroB; kernel_rfl, rfl, rfl⟩, by decide⟩
theorem atK_get {K : List Sw} {i : Int} (h0 : 0 ≤ i) (h1 : i < K.length) : K[i.toNat]? = some (atK K i) := by
 unfold atK; rw [List.getD_eq_getElem?_getD, List.getElem?_eq_getElem (by omega)]; rfl
theorem cbO : CallB Tryd.prog 53 := fun _ _ => Tryd.call53 _ _
variable {sa : Option Addr} {sc : Nat} {K : List Sw}
theorem less_m (s : Sl eSw h sa sc K) {lb : Nat} {T : TypeId} {fr : Nat × Nat} (r : h[lb]? = some (.cells #[.slice sa K.length sc] T fr)) {u v : Int} (hu : 0 ≤ u ∧ u < K.length) (hv : 0 ≤ v ∧ v < K.length) :
  HC Tryd.prog 53 #[.int .i64 u, .int .i64 v, ptr lb 0] h fun w h' => w = .int .i64 (ordI (atK K u) (atK K v)) ∧ Ext h h' := by
 obtain ⟨b, o, ea, d⟩ := s.at (atK_get hu.1 hu.2)
 obtain ⟨b', o', ea', d'⟩ := s.at (atK_get hv.1 hv.2)
 rw [ea] at ea'; cases ea'
 refine f53_sh _ _ _ _ _ _ ⟨_, _, _, by rw [hcell_row r]; rfl, b, o, ea, hu.1, hu.2, _, _, _, _, _, _, _, _, _, _, _, d.1, d.2.1, d.2.2.1, d.2.2.2.1, d.2.2.2.2.1, d.2.2.2.2.2.1, d.2.2.2.2.2.2.1, d.2.2.2.2.2.2.2.1, d.2.2.2.2.2.2.2.2.1, hv.1, hv.2, _, _, _, _, _, _, _, _, _, _, _, d'.1, d'.2.1, d'.2.2.1, d'.2.2.2.1, d'.2.2.2.2.1, d'.2.2.2.2.2.1, d'.2.2.2.2.2.2.1, d'.2.2.2.2.2.2.2.1, d'.2.2.2.2.2.2.2.2.1, (order1_m _ _ h).mono ?_⟩
 rintro _ h1 ⟨rfl, x1⟩
 exact ⟨_, rfl, rfl, x1⟩
theorem order_m (s : Sl eSw h sa sc K) (hl : K.length ≤ 17592186044415) : HC Tryd.prog 26 #[.slice sa K.length sc] h fun v h' => Ext h h' ∧ ∃ L a c, v = .slice a L.length c ∧ IsOrd K L ∧ Sl Stb.eI h' a c L ∧ Own Stb.eI.k tI h.size h' a c := by
 refine f26_sh _ _ _ _ _ fun lb h1 elb e1 => ?_
 have x1 : Ext h h1 := by rw [e1]; exact Ext.push _ _
 have r1 : h1[lb]? = some (.cells #[.slice sa K.length sc] 65 (0, 0)) := by rw [e1]; exact push_new elb
 have zs1 : h1.size = h.size + 1 := by rw [e1]; simp
 refine ⟨_, _, _, by rw [hcell_row r1]; rfl, fun a n c v h2 => ∃ k : Nat, v = k ∧ k ≤ K.length ∧ n = (ints k).length ∧ Ext h1 h2 ∧ Sl Stb.eI h2 a c (ints k) ∧ Own Stb.eI.k tI h1.size h2 a c, fun _ _ _ v _ => K.length - v.toNat, ⟨0, rfl, Nat.zero_le _, rfl, Ext.refl _, Sl.nil _ _, Own.nil _ _ _ _⟩, ?_⟩
 rintro a _ c _ h2 ⟨k, rfl, hk, rfl, x2, s2, w2⟩
 refine ⟨fun e nb h3 en e3 => ?_, fun e => ?_⟩
 ·have hlt := lt_of_dec e
  have hil := ints_len k
  refine app_one (x := (k : Int)) aI en e3 rfl x2 s2 w2 rfl (by omega) fun a' c' h4 x4 f4 s4 w4 _ => ⟨a', _, c', rfl, ?_⟩
  rw [wadd k (by omega)]
  rw [← ints_succ] at s4
  exact ⟨⟨k + 1, rfl, hlt, by rw [ints_len, ints_len], x4, s4, w4⟩, by simp only [Int.toNat_natCast]; omega⟩
 ·have hkn : k = K.length := by have := ge_of_dec e; omega
  subst hkn
  have sK2 := s.ext (x1.trans x2)
  have r2 := x2.row r1
  have hsa : ∀ b, blkA sa b → K.length = 0 ∨ b < h.size := fun b hb => by
   obtain ⟨x', ex, rfl⟩ := hb
   rcases Nat.eq_zero_or_pos K.length with h0 | h0
   ·exact .inl h0
   ·obtain ⟨b', o', e', hcs⟩ := s.addr h0
    rw [e'] at ex; cases ex
    exact .inr (hcell_lt ((hcs 0 _ (List.getElem?_eq_getElem h0)).get (j := 0) rfl))
  have na : ∀ {q}, q < h1.size → ¬ blkA a q := fun hq hb => by have := (w2.low hb).1; omega
  have C : Stb.Cmp Tryd.prog h2 a (.func (.func 53) #[] #[ptr lb 0]) (fun i j => ordI (atK K i) (atK K j)) (fun i => 0 ≤ i ∧ i < K.length) := by
   refine ⟨fun h3 f3 u v hu hv => .inl ⟨53, [], [ptr lb 0], rfl, cbO, ?_⟩, fun x y z _ _ _ h1 h2 => ?_, fun x y _ _ h1 h2 => ?_, fun x y z _ _ _ h1 h2 h3 => ?_⟩
   ·exact less_m (sK2.fr f3 fun b hb q => by
     rcases hsa b hb with h0 | h0
     ·omega
     ·exact na (by omega) q) (f3.row r2 (na (by omega))) hu hv
   ·simp only [ordI_bfr] at *; exact bfr_tr h1 h2
   ·simp only [ordI_bfr] at *
    rw [bfr_asy h1] at h2; cases h2
   ·simp only [ordI_bfr] at *
    have := bfr_nt (Bool.eq_false_iff.2 h1) (Bool.eq_false_iff.2 h2)
    rw [this] at h3; cases h3
  have hso := Stb.sort_stable C (L := ints K.length) s2 w2 (fun x hx => ints_mem.1 hx) (by rw [ints_len]; omega)
  refine hso.mono ?_
  rintro _ h5 ⟨rfl, f5, M, hp, hup, s5, w5⟩
  have hMl : (M.map Prod.fst).length = K.length := by rw [List.length_map, hp.length_eq, Stb.lbl_len, ints_len]
  have x5 : Ext h h5 := (((x1.trans x2).fr _).trans f5 fun _ _ q => q).ext fun b hb q => na (by omega) q
  refine ⟨rfl, x5, M.map Prod.fst, a, c, by rw [hMl, ints_len], ⟨?_, ?_⟩, s5, w5.down (by omega)⟩
  ·have := hp.map Prod.fst
   rw [Stb.lbl_fst] at this; exact this
  ·rw [List.pairwise_map]
   refine List.Pairwise.imp_of_mem ?_ hup
   intro x y hx hy hxy
   have hlab : ∀ z ∈ M, z.1 = (z.2 : Int) := fun z hz => by
    obtain ⟨p, hp1⟩ := List.mem_iff_getElem?.1 (hp.mem_iff.1 hz)
    obtain ⟨q1, q2⟩ := Stb.lbl_get hp1
    rw [(ints_get' q2).1, q1]
   rcases hxy.1 with q | ⟨q1, q2⟩
   ·exact .inl ((ordI_bfr _ _).1 q)
   ·refine .inr ⟨Bool.eq_false_iff.2 fun z => q1 ((ordI_bfr _ _).2 z), ?_⟩
    rw [hlab x hx, hlab y hy]; omega
set_option maxHeartbeats 1600000 in
theorem order_r (s : Sl eSw h sa sc K) (hl : K.length ≤ 17592186044415) : HC Tryd.prog 28 #[.slice sa K.length sc] h fun v h' => Ext h h' ∧ ∃ L a c, v = .slice a L.length c ∧ IsOrd K L ∧ Sl Stb.eI h' a c L ∧ Own Stb.eI.k tI h.size h' a c := by
 refine f28_sh _ _ _ _ _ ⟨fun a n c v h2 => ∃ (k : Nat) (L : List Int), v = k ∧ k ≤ K.length ∧ n = L.length ∧ L.Perm (ints k) ∧ L.Pairwise (ltO K) ∧ Ext h h2 ∧ Sl Stb.eI h2 a c L ∧ Own Stb.eI.k tI h.size h2 a c, fun _ _ _ v _ => K.length - v.toNat, ⟨0, [], rfl, Nat.zero_le _, rfl, List.Perm.refl _, List.Pairwise.nil, Ext.refl _, Sl.nil _ _, Own.nil _ _ _ _⟩, ?_⟩
 rintro a _ c _ h2 ⟨k, L, rfl, hk, rfl, hp, hup, x2, s2, w2⟩
 have hLl : L.length = k := by rw [hp.length_eq, ints_len]
 refine ⟨fun e nb h3 en e3 => ?_, fun e => ?_⟩
 rotate_left
 ·have hkn : k = K.length := by have := ge_of_dec e; omega
  subst hkn
  exact ⟨x2, L, a, c, rfl, ⟨hp, hup⟩, s2, w2⟩
 have hlt := lt_of_dec e
 refine app_one (x := (k : Int)) aI en e3 rfl x2 s2 w2 rfl (by omega) fun a' c' h4 x4 f4 s4 w4 _ => ⟨a', _, c', rfl, ?_⟩
 have hmem : ∀ x ∈ L, 0 ≤ x ∧ x < k := fun x hx => ints_mem.1 (hp.mem_iff.1 hx)
 have hsrt : Stb.Srt (ltO K) (L ++ [(k : Int)]) 0 L.length := fun p q x y _ h1 h2 hx hy => by
  rw [List.getElem?_append_left (by omega)] at hx hy
  obtain ⟨hp1, rfl⟩ := List.getElem?_eq_some_iff.1 hx
  obtain ⟨hq1, rfl⟩ := List.getElem?_eq_some_iff.1 hy
  exact List.pairwise_iff_getElem.1 hup p q hp1 hq1 h1
 have hnx : (((L.length + 1 : Nat) : Int)) - 1 = (L.length : Int) := by omega
 rw [w64 (x := ((L.length + 1 : Nat) : Int) - 1) (by omega) (by omega), hnx]
 refine ⟨fun j h5 => ∃ (j' : Nat) (X : List Int), j = j' ∧ j' ≤ L.length ∧ Ext h h5 ∧ Sl Stb.eI h5 a' c' X ∧ Own Stb.eI.k tI h.size h5 a' c' ∧ X.length = L.length + 1 ∧ X.Perm (L ++ [(k : Int)]) ∧ X[j']? = some (k : Int) ∧ Stb.Ins (ltO K) X 0 (L.length + 1) j' ∧ ∀ (p : Nat) y, p < L.length + 1 → p ≠ j' → X[p]? = some y → 0 ≤ y ∧ y < k, fun j _ => j.toNat,
  ⟨L.length, L ++ [(k : Int)], rfl, Nat.le_refl _, x4, s4, w4, by simp, List.Perm.refl _, by rw [List.getElem?_append_right (Nat.le_refl _), Nat.sub_self]; rfl, Stb.Ins.start hsrt, fun p y h1 h2 hy => by
   rw [List.getElem?_append_left (by omega)] at hy
   exact hmem y (List.mem_of_getElem? hy)⟩, ?_⟩
 rintro _ h5 ⟨j, X, rfl, hj, x5, s5, w5, lX, pX, hX, IX, mX⟩
 have fin : ∀ {h6 : Heap}, Ext h h6 → Sl Stb.eI h6 a' c' X → Own Stb.eI.k tI h.size h6 a' c' → (j = 0 ∨ ∃ y, X[j - 1]? = some y ∧ bfr (atK K k) (atK K y) = false) → ((∃ (k' : Nat) (L' : List Int), IntKind.i64.wrap ((k : Int) + 1) = k' ∧ k' ≤ K.length ∧ L.length + 1 = L'.length ∧ L'.Perm (ints k') ∧ L'.Pairwise (ltO K) ∧ Ext h h6 ∧ Sl Stb.eI h6 a' c' L' ∧ Own Stb.eI.k tI h.size h6 a' c') ∧ K.length - (IntKind.i64.wrap ((k : Int) + 1)).toNat < K.length - (k : Int).toNat) := fun {h6} x6 s6 w6 hc => by
  rw [wadd k (by omega)]
  refine ⟨⟨k + 1, X, rfl, hlt, lX.symm, ?_, ?_, x6, s6, w6⟩, by simp only [Int.toNat_natCast]; omega⟩
  ·rw [ints_succ]; exact pX.trans (hp.append_right _)
  ·have ord : Stb.Ord (ltO K) X := by
    refine ⟨ltO_irr K, fun _ _ _ => ltO_tr, fun p q x y hpq hx hy => ?_⟩
    have hne : x ≠ y := fun exy => by
     have hnd : X.Nodup := (pX.trans (hp.append_right _)).nodup_iff.2 (by
      rw [← ints_succ]; unfold ints
      rw [List.Nodup, List.pairwise_map]
      exact List.Pairwise.imp (fun h e => h (by omega)) (List.nodup_range (n := k + 1)))
     obtain ⟨hp1, rfl⟩ := List.getElem?_eq_some_iff.1 hx
     obtain ⟨hq1, rfl⟩ := List.getElem?_eq_some_iff.1 hy
     rcases Nat.lt_or_gt_of_ne hpq with g | g
     ·exact List.pairwise_iff_getElem.1 hnd p q hp1 hq1 g exy
     ·exact List.pairwise_iff_getElem.1 hnd q p hq1 hp1 g exy.symm
    unfold ltO
    cases h1 : bfr (atK K x) (atK K y)
    ·cases h2 : bfr (atK K y) (atK K x)
     ·rcases Int.lt_or_le x y with q | q
      ·exact .inl (.inr ⟨rfl, q⟩)
      ·exact .inr (.inr ⟨rfl, by omega⟩)
     ·exact .inr (.inl rfl)
    ·exact .inl (.inl rfl)
   have := Stb.Ins.done ord IX (by omega) (hc.imp (fun q => by omega) fun ⟨y, hy, hb⟩ => ⟨(k : Int), y, hX, hy, fun q => by
    rcases q with q | ⟨_, q⟩
    ·rw [hb] at q; cases q
    ·by_cases hj0 : j = 0
     ·subst hj0; rw [hX] at hy; cases hy; omega
     ·have := (mX (j - 1) y (by omega) (by omega) hy).2; omega⟩)
   rw [List.pairwise_iff_getElem]
   intro p q hp1 hq1 hpq
   exact this p q X[p] X[q] (Nat.zero_le _) hpq (by omega) (List.getElem?_eq_getElem hp1) (List.getElem?_eq_getElem hq1)
 refine ⟨fun q h6 => Ext h h6 ∧ Sl Stb.eI h6 a' c' X ∧ Own Stb.eI.k tI h.size h6 a' c' ∧ (q = true → 0 < j ∧ ∃ y, X[j - 1]? = some y ∧ bfr (atK K k) (atK K y) = true) ∧ (q = false → j = 0 ∨ ∃ y, X[j - 1]? = some y ∧ bfr (atK K k) (atK K y) = false), ⟨fun e2 => ?_, fun e2 => ⟨x5, s5, w5, fun e => (by cases e), fun _ => .inl ?_⟩⟩, ?_⟩
 ·have hj0 := of_decide_eq_true e2
  obtain ⟨y, hy⟩ : ∃ y, X[j - 1]? = some y := ⟨_, List.getElem?_eq_getElem (by omega)⟩
  obtain ⟨b, o, ea, c1⟩ := s5.at hX
  obtain ⟨b', o', ea', c2⟩ := s5.at hy
  rw [ea] at ea'; cases ea'
  have hyb := mX (j - 1) y (by omega) (by omega) hy
  obtain ⟨kb, ko, eka, d⟩ := (s.ext x5).at (atK_get (K := K) (i := (k : Int)) (by omega) (by omega))
  obtain ⟨kb', ko', eka', d'⟩ := (s.ext x5).at (atK_get (K := K) (i := y) hyb.1 (by omega))
  rw [eka] at eka'; cases eka'
  rw [show IntKind.i64.wrap ((j : Int) - 1) = ((j - 1 : Nat) : Int) by rw [w64 (by omega) (by omega)]; omega]
  refine ⟨b, o, ea, by omega, by omega, _, c1.1, kb, ko, eka, by omega, by omega, _, _, _, _, _, _, _, _, _, _, _, d.1, d.2.1, d.2.2.1, d.2.2.2.1, d.2.2.2.2.1, d.2.2.2.2.2.1, d.2.2.2.2.2.2.1, d.2.2.2.2.2.2.2.1, d.2.2.2.2.2.2.2.2.1, by omega, by omega, _, c2.1, hyb.1, by omega, _, _, _, _, _, _, _, _, _, _, _, d'.1, d'.2.1, d'.2.2.1, d'.2.2.2.1, d'.2.2.2.2.1, d'.2.2.2.2.2.1, d'.2.2.2.2.2.2.1, d'.2.2.2.2.2.2.2.1, d'.2.2.2.2.2.2.2.2.1, (before_r _ _ h5).mono ?_⟩
  rintro _ h6 ⟨rfl, x6⟩
  exact ⟨_, rfl, x5.trans x6, s5.ext x6, w5.ext x6, fun e3 => ⟨by omega, y, hy, e3⟩, fun e3 => .inr ⟨y, hy, e3⟩⟩
 ·have := of_decide_eq_false e2; omega
 ·rintro q h6 ⟨x6, s6, w6, ht, hf⟩
  refine ⟨fun e3 => ?_, fun e3 => fin x6 s6 w6 (hf e3)⟩
  obtain ⟨hj0, y, hy, hb⟩ := ht e3
  obtain ⟨b, o, rfl, c1⟩ := s6.at hX
  obtain ⟨b', o', ea', c2⟩ := s6.at hy
  cases ea'
  rw [show IntKind.i64.wrap ((j : Int) - 1) = ((j - 1 : Nat) : Int) by rw [w64 (by omega) (by omega)]; omega]
  obtain ⟨u1, u2⟩ := s6.word w6 (i := j) (r := 0) (x' := y) (v := .int .i64 y) (by omega) (by decide) rfl (p := o + j * 1) rfl
  refine ⟨b, o, rfl, by omega, by omega, _, c2.1, by omega, by omega, _, c1.1, u1, fun h7 e7 => ?_⟩
  obtain ⟨s7, w7, f7⟩ := u2 h7 e7
  obtain ⟨v1, v2⟩ := s7.word w7 (i := j - 1) (r := 0) (x' := (k : Int)) (v := .int .i64 (k : Int)) (by simp; omega) (by decide) rfl (p := o + (j - 1) * 1) rfl
  refine ⟨v1, fun h8 e8 => ?_⟩
  obtain ⟨s8, w8, f8⟩ := v2 h8 e8
  have sw := Stb.Seg.swap (a := 0) (b := L.length + 1) hX hy (by omega) (by omega) (by omega) (by omega)
  have hlow := (w6.low (blkA_of rfl)).1
  refine ⟨⟨j - 1, (X.set j y).set (j - 1) (k : Int), rfl, by omega, ((x6.fr _).trans (f7.trans f8 fun _ _ q => q) fun _ _ q => q).ext (fun i hi q => by omega), s8, w8, by simpa using lX, sw.1.perm.trans pX, ?_, IX.step hj0 hX hy (.inl hb) (by omega), fun p z h1 h2 hz => ?_⟩, by simp only [Int.toNat_natCast]; omega⟩
  ·rw [sw.2, if_neg (by omega), if_pos rfl]; exact hX
  ·rw [sw.2] at hz
   by_cases e4 : p = j
   ·rw [if_pos e4] at hz
    exact mX (j - 1) z (by omega) (by omega) hz
   ·rw [if_neg e4, if_neg h2] at hz
    exact mX p z h1 e4 hz
end
end Sc
end Go.Proofs.YthjehlocmikchaaDoor
namespace Go.Proofs.YthjehlocmikchaaDoor
namespace Sc
open Go
abbrev Su.sw (S : Su) (ra : Option Addr) (rc : Nat) : Sw := ⟨S.rg, S.has, S.ep, S.sq, S.hr, ra, S.recs.length, rc, S.at_, S.why, S.sealed_⟩
abbrev keyS (S : Su) : Sw := S.sw none 0
def getS (Ss : List Su) (i : Int) : Su := Ss.getD i.toNat su0
theorem own_ne2 {k k' N N' : Nat} {T T' : TypeId} {h : Heap} {a b : Option Addr} {c d : Nat} (x : Own k T N h a c) (y : Own k' T' N' h b d) (hT : T ≠ T') {p : Nat} (hp : blkA a p) : ¬ blkA b p := fun hq => by
 rcases x with ⟨rfl, _⟩ | ⟨b1, o1, cs1, rfl, _, r1, _⟩
 ·exact blkA_none hp
 ·rcases y with ⟨rfl, _⟩ | ⟨b2, o2, cs2, rfl, _, r2, _⟩
  ·exact blkA_none hq
  ·rw [blkA_some] at hp hq
   subst hp; subst hq
   rw [r1] at r2; cases r2; exact hT rfl
structure Sus (N : Nat) (h : Heap) (a : Option Addr) (c : Nat) (K : List Sw) (Ss : List Su) : Prop where
 sl : Sl eSw h a c K
 len : K.length = Ss.length
 recs_ : ∀ (i : Nat) x S, K[i]? = some x → Ss[i]? = some S → ∃ ra rc, x = S.sw ra rc ∧ Sl eFo h ra rc S.recs ∧ Own eFo.k tF N h ra rc
section
variable {N : Nat} {h h' : Heap} {a : Option Addr} {c : Nat} {K : List Sw} {Ss : List Su}
theorem Sus.nil (N : Nat) (h : Heap) : Sus N h none 0 [] [] := ⟨Sl.nil _ _, rfl, fun i x S hx => by simp at hx⟩
theorem Sus.ext (s : Sus N h a c K Ss) (x : Ext h h') : Sus N h' a c K Ss := ⟨s.sl.ext x, s.len, fun i y S h1 h2 => let ⟨ra, rc, e, p, q⟩ := s.recs_ i y S h1 h2; ⟨ra, rc, e, p.ext x, q.ext x⟩⟩
theorem Sus.get (s : Sus N h a c K Ss) {i : Nat} {S : Su} (hS : Ss[i]? = some S) : ∃ ra rc, K[i]? = some (S.sw ra rc) ∧ Sl eFo h ra rc S.recs ∧ Own eFo.k tF N h ra rc := by
 have hi := (List.getElem?_eq_some_iff.1 hS).1
 have hk : K[i]? = some (K[i]'(by rw [s.len]; exact hi)) := List.getElem?_eq_getElem (by rw [s.len]; exact hi)
 obtain ⟨ra, rc, e, p, q⟩ := s.recs_ i _ S hk hS
 exact ⟨ra, rc, by rw [hk, e], p, q⟩
theorem Sus.fr {P : Nat → Prop} (s : Sus N h a c K Ss) (f : Fr P h h') (h1 : ∀ b, blkA a b → ¬ P b) (h2 : ∀ b (o : Obj), h[b]? = some o → (∃ cs fr, o = .cells cs tF fr) → N ≤ b → ¬ P b) : Sus N h' a c K Ss :=
 ⟨s.sl.fr f h1, s.len, fun i y S k1 k2 => by
  obtain ⟨ra, rc, e, p, q⟩ := s.recs_ i y S k1 k2
  have hn : ∀ b, blkA ra b → ¬ P b := fun b hb => by
   rcases q with ⟨rfl, _⟩ | ⟨b', o', cs, rfl, hN, r, _⟩
   ·exact (blkA_none hb).elim
   ·rw [blkA_some] at hb; subst hb
    exact h2 b _ r ⟨cs, (0, 0), rfl⟩ hN
  exact ⟨ra, rc, e, p.fr f hn, q.fr f hn⟩⟩
theorem Sus.atK (s : Sus N h a c K Ss) {i : Int} (h0 : 0 ≤ i) (h1 : i < K.length) : ∃ ra rc, Sc.atK K i = (getS Ss i).sw ra rc ∧ Sl eFo h ra rc (getS Ss i).recs ∧ Own eFo.k tF N h ra rc := by
 have hS : Ss[i.toNat]? = some (getS Ss i) := by
  unfold getS; rw [List.getD_eq_getElem?_getD, List.getElem?_eq_getElem (by rw [← s.len]; omega)]; rfl
 exact let ⟨ra, rc, e, p, q⟩ := s.recs_ i.toNat _ _ (atK_get h0 h1) hS; ⟨ra, rc, e, p, q⟩
theorem Sus.ord (s : Sus N h a c K Ss) {Lo : List Int} (o : IsOrd K Lo) : IsOrd (Ss.map keyS) Lo := by
 refine o.of (by rw [List.length_map, s.len]) fun i j i0 i1 j0 j1 => ?_
 have key : ∀ i : Int, 0 ≤ i → i < K.length → Sc.atK (Ss.map keyS) i = keyS (getS Ss i) := fun i h0 h1 => by
  unfold Sc.atK getS
  rw [List.getD_eq_getElem?_getD, List.getElem?_map, List.getD_eq_getElem?_getD, List.getElem?_eq_getElem (by rw [← s.len]; omega)]; rfl
 obtain ⟨ra, rc, e1, _⟩ := s.atK i0 i1
 obtain ⟨ra', rc', e2, _⟩ := s.atK j0 j1
 rw [key i i0 i1, key j j0 j1, e1, e2]; rfl
end
abbrev tS : TypeId := 36
theorem aS : AppT Tryd.prog 65 tS eSw.k 88 := ⟨by kernel_rfl, by kernel_rfl, by kernel_rfl, ⟨.agg #[.int .i64 0, .bool false, .int .u64 0, .int .u64 0, .int .i64 0, .slice none 0 0, .int .i64 0, .int .i64 0, .bool false], [.int .i64 0, .bool false, .int .u64 0, .int .u64 0, .int .i64 0, .slice none 0 0, .int .i64 0, .int .i64 0, .bool false], by unfold zeroB; kernel_rfl, rfl, rfl⟩, by decide⟩
end Sc
end Go.Proofs.YthjehlocmikchaaDoor
namespace Go.Proofs.YthjehlocmikchaaDoor
open Go
section
variable {κ : Type}
def Itr (h : Heap) (r b : Nat) (enc : κ → Value) (l todo : List (κ × Value)) (cur : Option (κ × Value)) : Prop :=
  ∃ es clock seen c0, h[b]? = some (.map es clock) ∧ es.toList.map (fun e => (e.key, e.val)) = l.map (fun p => (enc p.1, p.2)) ∧ (l.map (·.1)).Nodup ∧ Brn es.toList clock ∧
    h[r]? = some (.mapIter (some b) clock seen c0) ∧ clock ≤ c0 ∧ (leftOf es seen).toList.map (fun e => (e.key, e.val)) = todo.map (fun p => (enc p.1, p.2)) ∧
    ∀ p, cur = some p → ∃ e ∈ es.toList, ∃ s' : Array Nat, seen = s'.push e.born ∧ c0 = clock ∧ e.key = enc p.1 ∧ e.val = p.2
section
variable {h h' : Heap} {r b : Nat} {enc : κ → Value} {l todo : List (κ × Value)} {cur : Option (κ × Value)}
theorem Itr.map (i : Itr h r b enc l todo cur) : MapL h b enc l := let ⟨es, c, _, _, h1, h2, h3, h4, _⟩ := i; ⟨es, c, h1, h2, h3, h4⟩
theorem Itr.rows (i : Itr h r b enc l todo cur) (e1 : h'[b]? = h[b]?) (e2 : h'[r]? = h[r]?) : Itr h' r b enc l todo cur :=
  let ⟨es, c, s, c0, h1, h2, h3, h4, h5, h6⟩ := i; ⟨es, c, s, c0, e1.trans h1, h2, h3, h4, e2.trans h5, h6⟩
theorem Itr.lt (i : Itr h r b enc l todo cur) : r < h.size := let ⟨_, _, _, _, _, _, _, _, h5, _⟩ := i; row_lt h5
theorem Itr.ext (i : Itr h r b enc l todo cur) (x : Ext h h') : Itr h' r b enc l todo cur := i.rows (x.block b i.map.lt) (x.block r i.lt)
theorem Itr.fr {S : Nat → Prop} (i : Itr h r b enc l todo cur) (f : Fr S h h') (nb : ¬ S b) (nr : ¬ S r) : Itr h' r b enc l todo cur := i.rows (f.block b i.map.lt nb) (f.block r i.lt nr)
theorem Itr.ne {p : Nat} {c : Array Value} {T : TypeId} {fr : Nat × Nat} (i : Itr h r b enc l todo cur) (q : h[p]? = some (.cells c T fr)) : p ≠ r := fun e => by
  obtain ⟨_, _, _, _, _, _, _, _, h5, _⟩ := i
  subst e; rw [q] at h5; cases h5
end
theorem map_split {α β : Type} (f : α → β) : ∀ {L : List α} {a b : List α} {x : α}, L = a ++ x :: b → L.map f = a.map f ++ f x :: b.map f := fun e => by rw [e]; simp
variable {P : Program} {ρ : Regs} {h : Heap} {dd : Option Nat} {ty : TypeId} {p : String} {af : Array Edge} {g : Option (Nat × Bool)} {enc : κ → Value} {b : Nat} {l todo : List (κ × Value)} {cur : Option (κ × Value)}
theorem hn_rangeMap {t kt et : TypeId} {x : Operand} {K : Value → Heap → Prop} (hm : P.underlying t = some (.map kt et)) (hx : ev ρ x = .map (some b)) (ml : MapL h b enc l)
    (hk : ∀ r h', r = h.size → Ext h h' → h'.size = h.size + 1 → Itr h' r b enc l l none → K (ptr r 0) h') : HStep P ρ ⟨dd, .range t x, ty, p, af, g⟩ h K := by
  obtain ⟨es, c, h1, h2, h3, h4⟩ := ml
  refine hs_of (v := ptr h.size 0) (h' := h.push (.mapIter (some b) c #[] c)) (fun w hw => ?_) (hk _ _ rfl (Ext.push _ _) (by simp) ⟨es, c, #[], c, (Ext.push h (.mapIter (some b) c #[] c)).block b (row_lt h1) |>.trans h1, h2, h3, h4, push_new rfl, Nat.le_refl _, ?_, fun _ e => by cases e⟩)
  · subst hw
    simp only [execOp, hx, Instr.range, Sem.run_bind, run_underlying hm, Result.andThen_ok, MapKept.run_getObj_map h1, Sem.run_pure, rnew]
    rfl
  · have : leftOf es #[] = es := by simp [leftOf]
    rw [this]; exact h2
theorem left_push {es : Array MapEntry} {seen : Array Nat} {e : MapEntry} {s1 s2 : List MapEntry} (hn : (es.toList.map (·.born)).Nodup) (hs : (leftOf es seen).toList = s1 ++ e :: s2) : (leftOf es (seen.push e.born)).toList = s1 ++ s2 := by
  have e1 : (leftOf es (seen.push e.born)).toList = ((leftOf es seen).toList).filter fun x => x.born ≠ e.born := by
    simp only [leftOf, Array.toList_filter, List.filter_filter]
    refine List.filter_congr fun x _ => ?_
    rw [Bool.eq_iff_iff]
    simp [not_or, and_comm]
  have hnd : ((s1 ++ e :: s2).map (·.born)).Nodup := by
    rw [← hs]
    have : ((leftOf es seen).toList).Sublist es.toList := by
      simp only [leftOf, Array.toList_filter]; exact List.filter_sublist
    exact hn.sublist (this.map _)
  rw [e1, hs, List.filter_append, List.filter_cons]
  rw [List.map_append, List.map_cons, List.nodup_append, List.nodup_cons] at hnd
  obtain ⟨_, ⟨k2, _⟩, k3⟩ := hnd
  rw [if_neg (by simp)]
  congr 1
  · exact List.filter_eq_self.2 fun x hx => by
      have := k3 x.born (List.mem_map_of_mem hx) e.born (by simp)
      simpa using this
  · exact List.filter_eq_self.2 fun x hx => by
      have : x.born ≠ e.born := fun q => k2 (q ▸ List.mem_map_of_mem hx)
      simpa using this
def Nx (todo : List (κ × Value)) (j : Bool) (todo' : List (κ × Value)) (cur' : Option (κ × Value)) : Prop :=
  (j = false → todo = []) ∧ (j = true → ∃ s1 q s2, todo = s1 ++ q :: s2 ∧ todo' = s1 ++ s2 ∧ cur' = some q)
theorem hn_nextMap {x : Operand} {r : Nat} {K : Value → Heap → Prop} (hx : ev ρ x = ptr r 0) (it : Itr h r b enc l todo cur)
    (hk : ∀ j v h' todo' cur', (∃ cs, v = .tuple cs ∧ cs[0]? = some (.bool j)) → Only r h h' → Itr h' r b enc l todo' cur' → Nx todo j todo' cur' → K v h') : HStep P ρ ⟨dd, .next x false, ty, p, af, g⟩ h K := by
  have h0 : todo = [] → ∀ v, (∃ cs, v = .tuple cs ∧ cs[0]? = some (.bool false)) → K v h := fun e v hv => hk false v h todo cur hv ⟨rfl, fun _ _ => rfl⟩ it ⟨fun _ => e, fun q => by cases q⟩
  have h1 : ∀ s1 s2 q h', todo = s1 ++ q :: s2 → Only r h h' → Itr h' r b enc l (s1 ++ s2) (some q) → ∀ v, (∃ cs, v = .tuple cs ∧ cs[0]? = some (.bool true)) → K v h' := fun s1 s2 q h' e o i v hv => hk true v h' _ _ hv o i ⟨fun q => (by cases q), fun _ => ⟨s1, q, s2, e, rfl, rfl⟩⟩
  obtain ⟨es, c, seen, c0, q1, q2, q3, q4, q5, q6, q7, q8⟩ := it
  intro w hw
  subst hw
  rcases run_next_at (P := P) w ty r b c c0 seen es c q5 q1 q4.1 q6 with ⟨z, e⟩ | ⟨e, he, w1, hw1, hr⟩
  · have hl : leftOf es seen = #[] := Array.eq_empty_of_size_eq_zero z
    have ht : todo = [] := by rw [hl] at q7; simpa using q7.symm
    simp only [execOp, hx, Sem.run_bind]
    rw [show (ptr r 0 : Value) = .pointer (some ⟨r, 0, none⟩) from rfl, e]
    exact ⟨Sim.refl _, h0 ht _ ⟨_, rfl, rfl⟩⟩
  · obtain ⟨a, d, hs⟩ := List.append_of_mem he
    have hT := map_split (fun e : MapEntry => (e.key, e.val)) hs
    rw [q7] at hT
    obtain ⟨s1, s', e1, e2, e3⟩ := List.map_eq_append_iff.1 hT
    obtain ⟨q, s2, e4, e5, e6⟩ := List.map_eq_cons_iff.1 e3
    have hl1 := left_push q4.2 hs
    simp only [execOp, hx, Sem.run_bind]
    rw [show (ptr r 0 : Value) = .pointer (some ⟨r, 0, none⟩) from rfl, hr]
    have hw1h : w1.heap = w.heap := by rcases hw1 with rfl | rfl <;> rfl
    have hO : Only r w.heap (ChangeMaps.setBlock w1 r (.mapIter (some b) c (seen.push e.born) c)).heap := by
      rw [← hw1h]; exact only_set
    refine ⟨?_, h1 s1 s2 q _ (by rw [e1, e4]) hO ⟨es, c, seen.push e.born, c, ?_, q2, q3, q4, ?_, Nat.le_refl _, ?_, ?_⟩ _ ⟨_, rfl, rfl⟩⟩
    · have hg : HG w.heap (ChangeMaps.setBlock w1 r (.mapIter (some b) c (seen.push e.born) c)).heap := by
        show HG w.heap (w1.heap.setIfInBounds r _)
        rw [hw1h]; exact hg_set q5 (by simp)
      rcases hw1 with rfl | rfl
      · exact ⟨rfl, rfl, rfl, Nat.le_refl _, hg⟩
      · exact ⟨rfl, rfl, rfl, Nat.le_succ _, hg⟩
    · rw [hO.block b (fun q => by subst q; rw [q1] at q5; cases q5)]; exact q1
    · show (w1.heap.setIfInBounds r _)[r]? = _
      rw [hw1h]; exact set_same q5
    · rw [hl1, List.map_append, List.map_append, e2, e6]
    · intro p2 ep
      cases ep
      refine ⟨e, ?_, seen, rfl, rfl, ?_⟩
      · have : e ∈ es.toList.filter fun x => !seen.contains x.born := by simpa [leftOf] using he
        exact (List.mem_filter.1 this).1
      · simp only [Prod.mk.injEq] at e5
        exact ⟨e5.1.symm, e5.2.symm⟩
theorem hv_entryMap {x : Operand} {r : Nat} {q : κ × Value} {k' v' : Value} (hx : ev ρ x = ptr r 0) (it : Itr h r b enc l todo (some q)) (hk : enc q.1 = k') (hv : q.2 = v') : HVal P ρ ⟨dd, .entry x, ty, p, af, g⟩ h (.tuple #[k', v']) := by
  subst hk; subst hv
  obtain ⟨es, c, seen, c0, q1, q2, q3, q4, q5, q6, q7, q8⟩ := it
  obtain ⟨e, he, s', rfl, rfl, k1, k2⟩ := q8 q rfl
  refine hv_of fun w hw => ?_
  subst hw
  have := run_entry_at (P := P) w r b c0 s' es c0 e q5 q1 he q4.2
  simp only [execOp, hx, Sem.run_bind]
  rw [show (ptr r 0 : Value) = .pointer (some ⟨r, 0, none⟩) from rfl, this, k1, k2]
  rfl
theorem hv_extOf {x : Operand} {i : Nat} {v y : Value} (hx : ev ρ x = v) (hi : ∃ cs, v = .tuple cs ∧ cs[i]? = some y) : HVal P ρ ⟨dd, .extract x i, ty, p, af, g⟩ h y := by
  obtain ⟨cs, rfl, hi⟩ := hi
  exact hv_extract hx hi
end
end Go.Proofs.YthjehlocmikchaaDoor
namespace Go.Proofs.YthjehlocmikchaaDoor
open Go
open Go.Proofs.YthjehlocmikchaaDoor renaming hl_val → lv, hl_step → lp, hl_nil → ln, hl_yes → ly, hl_no → lo, hx_seq → xs, hx_region → xr, hx_cond → xc, hx_block → xb, hx_loopT → xl, hx_cut → xk, hx_has → xh, hx_skip → xi, hx_ret → xt, hx_exit → xe, seqQ_n → qn, seqQ_exit → qe, blockQ_n → bn, blockQ_here → bh, hv_move → vm, hv_assign → va, hv_arith → vr, hv_load → vl, hv_loads → vL, hv_extract → vx, hv_field → vf, hv_index → vi, has_cons → hc, has_nil → hn, hcells_cons → cc, hcells_nil → cn, rowcell → rc, hs_call → sc
set_option maxRecDepth 100000
set_option maxHeartbeats 4000000
theorem TyTL.agg29 : aggB Tryd.prog 29 = some false := by kernel_rfl
theorem TyTL.agg3 : aggB Tryd.prog 3 = some false := by kernel_rfl
theorem TyTL.agg32 : aggB Tryd.prog 32 = some false := by kernel_rfl
theorem TyTL.agg45 : aggB Tryd.prog 45 = some true := by kernel_rfl
theorem TyTL.agg9 : aggB Tryd.prog 9 = some false := by kernel_rfl
theorem TyTL.cb26 : CallB Tryd.prog 26 := fun _ _ => Tryd.call26 _ _
theorem TyTL.cb55 : CallB Tryd.prog 55 := fun _ _ => Tryd.call55 _ _
theorem TyTL.el32 : elB Tryd.prog 32 = some 7 := by kernel_rfl
theorem TyTL.el65 : elB Tryd.prog 65 = some 9 := by kernel_rfl
theorem TyTL.el71 : elB Tryd.prog 71 = some 1 := by kernel_rfl
theorem TyTL.fld36_3 : fldB Tryd.prog 36 3 = some 5 := by kernel_rfl
theorem TyTL.fld43_1 : fldB Tryd.prog 43 1 = some 1 := by kernel_rfl
theorem TyTL.fld43_2 : fldB Tryd.prog 43 2 = some 2 := by kernel_rfl
theorem TyTL.fld45_3 : fldB Tryd.prog 45 3 = some 3 := by kernel_rfl
theorem TyTL.sz45 : szB Tryd.prog 45 = some 7 := by kernel_rfl
theorem TyTL.u105 : Tryd.prog.underlying 105 = some (.map 9 45) := by kernel_rfl
theorem TyTL.u32 : Tryd.prog.underlying 32 = some (.slice 45) := by kernel_rfl
theorem TyTL.u71 : Tryd.prog.underlying 71 = some (.slice 3) := by kernel_rfl
theorem TyTL.u9 : Tryd.prog.underlying 9 = some (.string) := by kernel_rfl
theorem TyTL.z45 : zeroB Tryd.prog 45 (.agg #[(.int .i64 0), (.int .i64 0), (.int .i64 0), (.int .i64 0), (.int .u64 0), (.string ByteArray.empty), (.string ByteArray.empty)]) := by unfold zeroB; kernel_rfl
theorem ext_pushed_f27_sh {h h1 : Heap} {o : Obj} (e : h1 = Array.push h o) : Ext h h1 := by rw [e]; exact Ext.push _ _
theorem f27_sh (l : Option Addr) (c5 : Nat) (c6 : Nat) (h : Heap) (R : Value → Heap → Prop)
  (H : (∀ mb h1, mb = Array.size h → Ext h h1 → Array.size h1 = Array.size h + 1 → MapL h1 mb Value.string [] → HC Tryd.prog 26 #[(.slice l c5 c6)] h1 (fun vv h2 => ∃ r : Option Addr, ∃ c1 d8 : Nat, vv = (.slice r c1 d8) ∧ (∃ (I5 : Int → Heap → Prop) (g2 : Int → Heap → Nat), I5 0 h2 ∧ (∀ (v : Int) (h3 : Heap), I5 v h3 → (((decide (v < (c1 : Int))) = true → (∃ d5 d3 : Nat, r = some ⟨d5, d3, none⟩ ∧ (0 : Int) ≤ v ∧ v < (c1 : Int) ∧ (∃ x : Int, hcell h3 d5 (d3 + (Int.toNat v) * 1) = some (.int .i64 x) ∧ (∃ c8 d0 : Nat, l = some ⟨c8, d0, none⟩ ∧ (0 : Int) ≤ x ∧ x < (c5 : Int) ∧ (∃ d9 : Option Addr, ∃ c2 d6 : Nat, hcell h3 c8 ((d0 + (Int.toNat x) * 9) + 5) = some (.slice d9 c2 d6) ∧ (∃ (f1 : Int → Heap → Prop) (e5 : Int → Heap → Nat), f1 0 h3 ∧ (∀ (b6 : Int) (h4 : Heap), f1 b6 h4 → (((decide (b6 < (c2 : Int))) = true → (∃ e9 : Heap → Prop, (∃ c0 b9 : Nat, d9 = some ⟨c0, b9, none⟩ ∧ (0 : Int) ≤ b6 ∧ b6 < (c2 : Int) ∧ (∃ a5 a6 b0 a4 a1 : Int, ∃ a0 a3 : ByteArray, hcell h4 c0 (b9 + (Int.toNat b6) * 7) = some (.int .i64 a5) ∧ hcell h4 c0 ((b9 + (Int.toNat b6) * 7) + 1) = some (.int .i64 a6) ∧ hcell h4 c0 ((b9 + (Int.toNat b6) * 7) + 2) = some (.int .i64 b0) ∧ hcell h4 c0 ((b9 + (Int.toNat b6) * 7) + 3) = some (.int .i64 a4) ∧ hcell h4 c0 ((b9 + (Int.toNat b6) * 7) + 4) = some (.int .u64 a1) ∧ hcell h4 c0 ((b9 + (Int.toNat b6) * 7) + 5) = some (.string a0) ∧ hcell h4 c0 ((b9 + (Int.toNat b6) * 7) + 6) = some (.string a3) ∧ (∃ kv : List (ByteArray × Value), MapL h4 mb Value.string kv ∧ ∃ b2 b1 b4 a8 a2 : Int, ∃ a9 a7 : ByteArray, (lk kv a0).getD (.agg #[(.int .i64 0), (.int .i64 0), (.int .i64 0), (.int .i64 0), (.int .u64 0), (.string ByteArray.empty), (.string ByteArray.empty)]) = (.agg #[(.int .i64 b2), (.int .i64 b1), (.int .i64 b4), (.int .i64 a8), (.int .u64 a2), (.string a9), (.string a7)]) ∧ ((((!((lk kv a0).isSome)) || (decide (a1 ≥ a2))) = true → (∀ (h9 : Heap), Ext h4 h9 → (∃ e1 : List (ByteArray × Value), MapL h9 mb Value.string e1 ∧ ∀ e8, Only mb h9 e8 → MapL e8 mb Value.string (kput e1 a0 (.agg #[(.int .i64 a5), (.int .i64 a6), (.int .i64 b0), (.int .i64 a4), (.int .u64 a1), (.string a0), (.string a3)])) → (e9 e8)))) ∧ (((!((lk kv a0).isSome)) || (decide (a1 ≥ a2))) = false → (∀ (h9 : Heap), Ext h4 h9 → (e9 h9))))))) ∧ (∀ (h5 : Heap), e9 h5 → (f1 (IntKind.i64.wrap (b6 + 1)) h5 ∧ e5 (IntKind.i64.wrap (b6 + 1)) h5 < e5 b6 h4)))) ∧ ((decide (b6 < (c2 : Int))) = false → (I5 (IntKind.i64.wrap (v + 1)) h4 ∧ g2 (IntKind.i64.wrap (v + 1)) h4 < g2 v h3)))))))))) ∧ ((decide (v < (c1 : Int))) = false → (∃ kv : List (ByteArray × Value), MapL h3 mb Value.string kv ∧ ∀ it e0, it = Array.size h3 → Ext h3 e0 → Array.size e0 = Array.size h3 + 1 → Itr e0 it mb Value.string kv kv none → (∃ (e6 : Option Addr → Nat → Nat → Heap → Prop) (e2 : Option Addr → Nat → Nat → Heap → Nat), e6 none 0 0 e0 ∧ (∀ (c4 : Option Addr) (b7 : Nat) (b8 : Nat) (d7 : Heap), e6 c4 b7 b8 d7 → (∃ (f8 : Nat) (g5 td : List (ByteArray × Value)) (cu : Option (ByteArray × Value)), Itr d7 it f8 Value.string g5 td cu ∧ ∀ (c7 : Bool) c9 e3 e4, Only it d7 c9 → Itr c9 it f8 Value.string g5 e3 e4 → Nx td c7 e3 e4 → ((c7 = true → (∃ (i5 : Nat) (g3 g8 : List (ByteArray × Value)) (q : ByteArray × Value), Itr c9 it i5 Value.string g3 g8 (some q) ∧ ∃ a5 a6 b0 a4 a1 : Int, ∃ a0 a3 : ByteArray, (Prod.snd q) = (.agg #[(.int .i64 a5), (.int .i64 a6), (.int .i64 b0), (.int .i64 a4), (.int .u64 a1), (.string a0), (.string a3)]) ∧ (∀ (d4 : Heap), Ext c9 d4 → (∀ nb f0, nb = Array.size d4 → f0 = Array.push d4 (.cells #[(.int .i64 a5), (.int .i64 a6), (.int .i64 b0), (.int .i64 a4), (.int .u64 a1), (.string a0), (.string a3)] 45) → HAppend Tryd.prog 32 32 (.slice c4 b7 b8) (.slice (some ⟨nb, 0, none⟩) 1 1) f0 (fun vv i3 => ∃ ap : Option Addr, ∃ d2 d1 : Nat, vv = (.slice ap d2 d1) ∧ (e6 ap d2 d1 i3 ∧ e2 ap d2 d1 i3 < e2 c4 b7 b8 d7)))))) ∧ (c7 = false → HC Tryd.prog 55 #[(.slice c4 b7 b8), (.func (.func 56) #[] #[])] c9 (fun vv j2 => vv = (.tuple #[]) ∧ R (.slice c4 b7 b8) j2)))))))))))))) :
  HC Tryd.prog 27 #[(.slice l c5 c6)] h R := by
 refine hc_of (args := [(.slice l c5 c6)]) Tryd.func27 rfl Tryd.ntmps27 (Nat.le_of_ble_eq_true rfl) ?_
 refine xs (xr ?_)
 refine lv rfl rfl (va rfl) ?_
 refine ln (qn (xs (xr ?_)))
 refine lp rfl rfl (hn_makeMap (enc := Value.string) ?_)
 intro mb h1 o8 o5 o7 o3
 replace H := H mb h1 o8 o5 o7 o3
 refine lv rfl rfl (va rfl) ?_
 refine ln (qn (xs (xs (xr ?_))))
 refine lv rfl rfl (vm rfl) ?_
 refine lp rfl rfl (sc TyTL.cb26 rfl (HC.mono H ?_))
 rintro _ h2 ⟨r, c1, d8, rfl, H⟩
 refine lv rfl rfl (v := (.int .i64 (c1 : Int))) (hv_len (n := c1) TyTL.u71 rfl) (lv rfl rfl (vm rfl) ?_)
 refine ln (qn (xb ?_))
 obtain ⟨I5, g2, o6, o4⟩ := H
 refine xl (σ := Int) (fun s => [(0, (.slice l c5 c6)), (3, (.map (some mb))), (15, (.slice r c1 d8)), (16, (.int .i64 (c1 : Int))), (17, (.int .i64 s))]) (fun s h' => I5 s h' ∧ True) (fun s h' => g2 s h') 0 ⟨o6, trivial⟩ (hc rfl (hc rfl (hc rfl (hc rfl (hc rfl hn))))) ?_
 rintro v ρ h3 ⟨o2, -⟩
 have H := o4 v h3 o2
 refine xs (xr ?_)
 refine lv rfl rfl (vr rfl rfl rfl) ?_
 refine ln (qn (xs ?_))
 refine xc (b := decide (v < (c1 : Int))) rfl (fun g0 => ?_) (fun g0 => ?_)
 ·replace H := H.1 g0
  refine xi (qn (xs (xb (xs (xr ?_)))))
  obtain ⟨d5, d3, e7, n1, n5, Hq⟩ := H
  subst e7
  have H := Hq; clear Hq
  refine lv rfl rfl (v := (ptr d5 (d3 + (Int.toNat v) * 1))) (vi TyTL.el71 rfl rfl n1 n5) ?_
  obtain ⟨x, o0, H⟩ := H
  refine lv rfl rfl (vl TyTL.agg3 rfl o0) (lv rfl rfl (va rfl) ?_)
  refine ln (qn (xs (xr ?_)))
  refine lv rfl rfl (vm rfl) (lv rfl rfl (vm rfl) ?_)
  obtain ⟨c8, d0, e7, n6, n0, Hq⟩ := H
  subst e7
  have H := Hq; clear Hq
  refine lv rfl rfl (v := (ptr c8 (d0 + (Int.toNat x) * 9))) (vi TyTL.el65 rfl rfl n6 n0) (lv rfl rfl (v := (ptr c8 ((d0 + (Int.toNat x) * 9) + 5))) (vf TyTL.fld36_3 (b := c8) (o := d0 + (Int.toNat x) * 9) rfl) ?_)
  obtain ⟨d9, c2, d6, k4, H⟩ := H
  refine lv rfl rfl (vl TyTL.agg32 rfl k4) (lv rfl rfl (v := (.int .i64 (c2 : Int))) (hv_len (n := c2) TyTL.u32 rfl) (lv rfl rfl (vm rfl) ?_))
  refine ln (qn (xb ?_))
  obtain ⟨f1, e5, k6, l7⟩ := H
  refine xl (σ := Int) (fun s => [(0, (.slice (some ⟨c8, d0, none⟩) c5 c6)), (3, (.map (some mb))), (15, (.slice (some ⟨d5, d3, none⟩) c1 d8)), (16, (.int .i64 (c1 : Int))), (17, (.int .i64 v)), (25, (.slice d9 c2 d6)), (26, (.int .i64 (c2 : Int))), (27, (.int .i64 s))]) (fun s h' => f1 s h' ∧ True) (fun s h' => e5 s h') 0 ⟨k6, trivial⟩ (hc rfl (hc rfl (hc rfl (hc rfl (hc rfl (hc rfl (hc rfl (hc rfl hn)))))))) ?_
  rintro b6 ρ h4 ⟨j7, -⟩
  have H := l7 b6 h4 j7
  refine xs (xr ?_)
  refine lv rfl rfl (vr rfl rfl rfl) ?_
  refine ln (qn (xs ?_))
  refine xc (b := decide (b6 < (c2 : Int))) rfl (fun f5 => ?_) (fun f5 => ?_)
  ·replace H := H.1 f5
   refine xi (qn ?_)
   obtain ⟨e9, f9, f3⟩ := H
   refine xk (fun ρ h' => (e9 h' ∧ True) ∧ Has ρ [(0, (.slice (some ⟨c8, d0, none⟩) c5 c6)), (3, (.map (some mb))), (15, (.slice (some ⟨d5, d3, none⟩) c1 d8)), (16, (.int .i64 (c1 : Int))), (17, (.int .i64 v)), (25, (.slice d9 c2 d6)), (26, (.int .i64 (c2 : Int))), (27, (.int .i64 b6))]) ?_ ?_
   ·have H := f9; clear f9 f3
    refine xb (xs (xr ?_))
    obtain ⟨c0, b9, e7, l1, m0, Hq⟩ := H
    subst e7
    have H := Hq; clear Hq
    refine lv rfl rfl (v := (ptr c0 (b9 + (Int.toNat b6) * 7))) (vi TyTL.el32 rfl rfl l1 m0) ?_
    obtain ⟨a5, a6, b0, a4, a1, a0, a3, n4, n9, l8, j6, o1, n3, m9, H⟩ := H
    refine lv rfl rfl (vL (vs := [(.int .i64 a5), (.int .i64 a6), (.int .i64 b0), (.int .i64 a4), (.int .u64 a1), (.string a0), (.string a3)]) TyTL.agg45 TyTL.sz45 rfl (cc n4 (cc n9 (cc l8 (cc j6 (cc o1 (cc n3 (cc m9 cn)))))))) ?_
    refine lp rfl rfl (hn_alloc TyTL.z45 ?_)
    intro f h6 i4 g4
    have m8 := ext_pushed_f27_sh g4
    have n7 : Array.size h4 ≤ f := Nat.le_of_eq (Eq.symm i4)
    have i9 : h6[f]? = some (.cells #[(.int .i64 0), (.int .i64 0), (.int .i64 0), (.int .i64 0), (.int .u64 0), (.string ByteArray.empty), (.string ByteArray.empty)] 45 (0, 0)) := by rw [g4]; exact push_new i4
    refine lp rfl rfl (hn_stores (vs := [(.int .i64 a5), (.int .i64 a6), (.int .i64 b0), (.int .i64 a4), (.int .u64 a1), (.string a0), (.string a3)]) rfl rfl TyTL.sz45 rfl (HWs_row i9 (by simp)) ?_)
    intro h7 i6
    have b5 : h7[f]? = some (.cells #[(.int .i64 a5), (.int .i64 a6), (.int .i64 b0), (.int .i64 a4), (.int .u64 a1), (.string a0), (.string a3)] 45 (0, 0)) := row_hsets_eq i6 i9 (by simp [sets])
    have f6 := ext_hsets i6 m8 n7
    refine ln (qn (xs (xr ?_)))
    refine lv rfl rfl (vm rfl) (lv rfl rfl (v := (ptr f 3)) (vf TyTL.fld45_3 (b := f) (o := 0) rfl) (lv rfl rfl (v := (ptr f 5)) (vf TyTL.fld43_2 (b := f) (o := 3) rfl) (lv rfl rfl (vl TyTL.agg9 rfl (rc b5 rfl)) ?_)))
    obtain ⟨kv, m3, b2, b1, b4, a8, a2, a9, a7, l4, H⟩ := H
    refine lv rfl rfl (v := (.tuple #[(.agg #[(.int .i64 b2), (.int .i64 b1), (.int .i64 b4), (.int .i64 a8), (.int .u64 a2), (.string a9), (.string a7)]), (.bool ((lk kv a0).isSome))])) (hv_look2 (l := kv) (a := a0) strK TyTL.u105 TyTL.u9 TyTL.z45 rfl rfl (MapL.ext f6 m3) l4) (lv rfl rfl (vm rfl) (lv rfl rfl (vx rfl rfl) (lv rfl rfl (vx rfl rfl) ?_)))
    refine lp rfl rfl (hn_alloc TyTL.z45 ?_)
    intro o h8 f7 g7
    have g9 := ext_pushed_f27_sh g7
    have k5 := Nat.ne_of_lt (Nat.lt_of_lt_of_eq (row_lt b5) (Eq.symm f7))
    have m1 : Array.size h4 ≤ o := Nat.le_trans (Ext.size f6) (Nat.le_of_eq (Eq.symm f7))
    have i8 : h8[o]? = some (.cells #[(.int .i64 0), (.int .i64 0), (.int .i64 0), (.int .i64 0), (.int .u64 0), (.string ByteArray.empty), (.string ByteArray.empty)] 45 (0, 0)) := by rw [g7]; exact push_new f7
    replace b5 := Ext.row g9 b5
    have k8 := Ext.trans f6 g9
    refine lp rfl rfl (hn_stores (vs := [(.int .i64 b2), (.int .i64 b1), (.int .i64 b4), (.int .i64 a8), (.int .u64 a2), (.string a9), (.string a7)]) rfl rfl TyTL.sz45 rfl (HWs_row i8 (by simp)) ?_)
    intro h9 g1
    replace b5 := row_hsets_ne g1 k5 b5
    have j1 : h9[o]? = some (.cells #[(.int .i64 b2), (.int .i64 b1), (.int .i64 b4), (.int .i64 a8), (.int .u64 a2), (.string a9), (.string a7)] 45 (0, 0)) := row_hsets_eq g1 i8 (by simp [sets])
    have g6 := ext_hsets g1 k8 m1
    refine lv rfl rfl (va rfl) ?_
    refine ln (qn ?_)
    refine xk (fun ρ h' => h9 = h' ∧ Has ρ [(0, (.slice (some ⟨c8, d0, none⟩) c5 c6)), (3, (.map (some mb))), (7, (ptr f 0)), (15, (.slice (some ⟨d5, d3, none⟩) c1 d8)), (16, (.int .i64 (c1 : Int))), (17, (.int .i64 v)), (25, (.slice (some ⟨c0, b9, none⟩) c2 d6)), (26, (.int .i64 (c2 : Int))), (27, (.int .i64 b6)), (49, (.bool ((!((lk kv a0).isSome)) || (decide (a1 ≥ a2)))))]) ?_ ?_
    ·refine xr ?_
     refine lv rfl rfl (vm rfl) (lv rfl rfl (v := (.bool (!((lk kv a0).isSome)))) (hv_not (b := (lk kv a0).isSome) rfl) (lv rfl rfl (vm rfl) ?_))
     rcases bool_or (!((lk kv a0).isSome)) with b3 | b3
     ·refine lo (wanted_n rfl rfl rfl b3) rfl ?_
      refine lo (wanted_n rfl rfl rfl b3) rfl ?_
      refine lo (wanted_n rfl rfl rfl b3) rfl ?_
      refine lo (wanted_n rfl rfl rfl b3) rfl ?_
      refine lo (wanted_n rfl rfl rfl b3) rfl ?_
      refine lo (wanted_n rfl rfl rfl b3) rfl ?_
      refine lo (wanted_n rfl rfl rfl b3) rfl ?_
      refine lv rfl rfl (v := (.bool true)) (hv_pick_t rfl b3 rfl) ?_
      refine ln (qn ?_)
      exact ⟨rfl, (hc rfl (hc rfl (hc rfl (hc rfl (hc rfl (hc rfl (hc rfl (hc rfl (hc rfl (hc (show ((.bool true) : Value) = (.bool ((!((lk kv a0).isSome)) || (decide (a1 ≥ a2)))) from (by first | rfl | ((try rw [b3]); all_goals first | rfl | (simp only [Bool.true_or, Bool.or_true, Bool.false_or, Bool.or_false, Bool.true_and, Bool.and_true, Bool.false_and, Bool.and_false, Bool.not_true, Bool.not_false, Bool.cond_true, Bool.cond_false]; done)) | simp [b3])) hn))))))))))⟩
     ·refine ly (wanted_y rfl rfl rfl b3) rfl (HStep.of_val (v := (ptr f 3)) (vf TyTL.fld45_3 (b := f) (o := 0) rfl) ?_)
      refine ly (wanted_y rfl rfl rfl b3) rfl (HStep.of_val (v := (ptr f 4)) (vf TyTL.fld43_1 (b := f) (o := 3) rfl) ?_)
      refine ly (wanted_y rfl rfl rfl b3) rfl (HStep.of_val (v := (.int .u64 a1)) (vl TyTL.agg29 rfl (rc b5 rfl)) ?_)
      refine ly (wanted_y rfl rfl rfl b3) rfl (HStep.of_val (v := (ptr o 3)) (vf TyTL.fld45_3 (b := o) (o := 0) rfl) ?_)
      refine ly (wanted_y rfl rfl rfl b3) rfl (HStep.of_val (v := (ptr o 4)) (vf TyTL.fld43_1 (b := o) (o := 3) rfl) ?_)
      refine ly (wanted_y rfl rfl rfl b3) rfl (HStep.of_val (v := (.int .u64 a2)) (vl TyTL.agg29 rfl (rc j1 rfl)) ?_)
      refine ly (wanted_y rfl rfl rfl b3) rfl (HStep.of_val (v := (.bool (decide (a1 ≥ a2)))) (vr rfl rfl rfl) ?_)
      refine lv rfl rfl (v := (.bool (decide (a1 ≥ a2)))) (hv_pick_f rfl b3 rfl) ?_
      refine ln (qn ?_)
      exact ⟨rfl, (hc rfl (hc rfl (hc rfl (hc rfl (hc rfl (hc rfl (hc rfl (hc rfl (hc rfl (hc (show ((.bool (decide (a1 ≥ a2))) : Value) = (.bool ((!((lk kv a0).isSome)) || (decide (a1 ≥ a2)))) from (by first | rfl | ((try rw [b3]); all_goals first | rfl | (simp only [Bool.true_or, Bool.or_true, Bool.false_or, Bool.or_false, Bool.true_and, Bool.and_true, Bool.false_and, Bool.and_false, Bool.not_true, Bool.not_false, Bool.cond_true, Bool.cond_false]; done)) | simp [b3])) hn))))))))))⟩
    ·rintro ρ _ ⟨rfl, hH⟩
     refine xh _ hH ?_
     refine xc (b := ((!((lk kv a0).isSome)) || (decide (a1 ≥ a2)))) rfl (fun f2 => ?_) (fun f2 => ?_)
     ·replace H := H.1 f2
      refine xr ?_
      refine lv rfl rfl (vm rfl) (lv rfl rfl (v := (ptr f 3)) (vf TyTL.fld45_3 (b := f) (o := 0) rfl) (lv rfl rfl (v := (ptr f 5)) (vf TyTL.fld43_2 (b := f) (o := 3) rfl) (lv rfl rfl (vl TyTL.agg9 rfl (rc b5 rfl)) (lv rfl rfl (vL (vs := [(.int .i64 a5), (.int .i64 a6), (.int .i64 b0), (.int .i64 a4), (.int .u64 a1), (.string a0), (.string a3)]) TyTL.agg45 TyTL.sz45 rfl (cc (rc b5 rfl) (cc (rc b5 rfl) (cc (rc b5 rfl) (cc (rc b5 rfl) (cc (rc b5 rfl) (cc (rc b5 rfl) (cc (rc b5 rfl) cn)))))))) ?_))))
      replace H := H h9 g6
      obtain ⟨e1, m2, H⟩ := H
      refine lp rfl rfl (hn_mapPut (l := e1) (a := a0) strK TyTL.u105 TyTL.u9 rfl rfl rfl m2 ?_)
      intro e8 l3 m5
      replace H := H e8 l3 m5
      refine ln (bn (qn ?_))
      exact ⟨⟨H, trivial⟩, (hc rfl (hc rfl (hc rfl (hc rfl (hc rfl (hc rfl (hc rfl (hc rfl hn))))))))⟩
     ·replace H := H.2 f2
      refine xi (bn ?_)
      replace H := H h9 g6
      refine qn ?_
      exact ⟨⟨H, trivial⟩, (hc rfl (hc rfl (hc rfl (hc rfl (hc rfl (hc rfl (hc rfl (hc rfl hn))))))))⟩
   ·rintro ρ h5 ⟨⟨j9, -⟩, hH⟩
    have H := f3 h5 j9; clear f9 f3
    refine xh _ hH ?_
    refine xr ?_
    refine lv rfl rfl (vr rfl rfl rfl) (lv rfl rfl (vm rfl) ?_)
    refine ln (qn ?_)
    exact ⟨IntKind.i64.wrap (b6 + 1), ⟨⟨H.1, trivial⟩, H.2⟩, (hc rfl (hc rfl (hc rfl (hc rfl (hc rfl (hc rfl (hc rfl (hc rfl hn))))))))⟩
  ·replace H := H.2 f5
   refine xe (qe (qe (bh (bn (qn (xr ?_))))))
   refine lv rfl rfl (vr rfl rfl rfl) (lv rfl rfl (vm rfl) ?_)
   refine ln (qn ?_)
   exact ⟨IntKind.i64.wrap (v + 1), ⟨⟨H.1, trivial⟩, H.2⟩, (hc rfl (hc rfl (hc rfl (hc rfl (hc rfl hn)))))⟩
 ·replace H := H.2 g0
  refine xe (qe (qe (bh (qn (xs (xr ?_))))))
  refine lv rfl rfl (va rfl) ?_
  refine ln (qn (xs (xs (xr ?_))))
  refine lv rfl rfl (vm rfl) ?_
  obtain ⟨kv, j4, H⟩ := H
  refine lp rfl rfl (hn_rangeMap TyTL.u105 rfl j4 ?_)
  intro it e0 n8 n2 k2 m7
  replace H := H it e0 n8 n2 k2 m7
  refine ln (qn (xb ?_))
  obtain ⟨e6, e2, l5, k3⟩ := H
  refine xl (σ := Option Addr × Nat × Nat) (fun s => [(10, (.slice s.1 s.2.1 s.2.2)), (58, (ptr it 0))]) (fun s h' => e6 s.1 s.2.1 s.2.2 h' ∧ True) (fun s h' => e2 s.1 s.2.1 s.2.2 h') (none, 0, 0) ⟨l5, trivial⟩ (hc rfl (hc rfl hn)) ?_
  rintro ⟨c4, b7, b8⟩ ρ d7 ⟨l9, -⟩
  have H := k3 c4 b7 b8 d7 l9
  refine xs (xr ?_)
  obtain ⟨f8, g5, td, cu, m6, H⟩ := H
  refine lp rfl rfl (hn_nextMap rfl m6 ?_)
  intro c7 p0 c9 e3 e4 k9 k0 l6 l2
  replace H := H c7 c9 e3 e4 k0 l6 l2
  refine lv rfl rfl (v := (.bool c7)) (hv_extOf rfl k9) ?_
  refine ln (qn (xs ?_))
  refine xc (b := c7) rfl (fun f4 => ?_) (fun f4 => ?_)
  ·replace H := H.1 f4
   refine xi (qn (xb (xs (xr ?_))))
   obtain ⟨i5, g3, g8, q, j8, a5, a6, b0, a4, a1, a0, a3, j5, H⟩ := H
   refine lv rfl rfl (v := (.tuple #[(.string (Prod.fst q)), (.agg #[(.int .i64 a5), (.int .i64 a6), (.int .i64 b0), (.int .i64 a4), (.int .u64 a1), (.string a0), (.string a3)])])) (hv_entryMap rfl j8 rfl j5) (lv rfl rfl (vx rfl rfl) ?_)
   refine lp rfl rfl (hn_alloc TyTL.z45 ?_)
   intro f j3 i2 j0
   have m4 := ext_pushed_f27_sh j0
   have l0 : Array.size c9 ≤ f := Nat.le_of_eq (Eq.symm i2)
   have i7 : j3[f]? = some (.cells #[(.int .i64 0), (.int .i64 0), (.int .i64 0), (.int .i64 0), (.int .u64 0), (.string ByteArray.empty), (.string ByteArray.empty)] 45 (0, 0)) := by rw [j0]; exact push_new i2
   refine lp rfl rfl (hn_stores (vs := [(.int .i64 a5), (.int .i64 a6), (.int .i64 b0), (.int .i64 a4), (.int .u64 a1), (.string a0), (.string a3)]) rfl rfl TyTL.sz45 rfl (HWs_row i7 (by simp)) ?_)
   intro d4 i0
   have c3 : d4[f]? = some (.cells #[(.int .i64 a5), (.int .i64 a6), (.int .i64 b0), (.int .i64 a4), (.int .u64 a1), (.string a0), (.string a3)] 45 (0, 0)) := row_hsets_eq i0 i7 (by simp [sets])
   have k1 := ext_hsets i0 m4 l0
   refine ln (qn (xr ?_))
   refine lv rfl rfl (vm rfl) (lv rfl rfl (vL (vs := [(.int .i64 a5), (.int .i64 a6), (.int .i64 b0), (.int .i64 a4), (.int .u64 a1), (.string a0), (.string a3)]) TyTL.agg45 TyTL.sz45 rfl (cc (rc c3 rfl) (cc (rc c3 rfl) (cc (rc c3 rfl) (cc (rc c3 rfl) (cc (rc c3 rfl) (cc (rc c3 rfl) (cc (rc c3 rfl) cn)))))))) ?_)
   replace H := H d4 k1
   refine lp rfl rfl (hn_buildSlice (n := 1) (vs := [(0, (.agg #[(.int .i64 a5), (.int .i64 a6), (.int .i64 b0), (.int .i64 a4), (.int .u64 a1), (.string a0), (.string a3)]))]) (cs := #[(.int .i64 a5), (.int .i64 a6), (.int .i64 b0), (.int .i64 a4), (.int .u64 a1), (.string a0), (.string a3)]) TyTL.u32 TyTL.sz45 TyTL.z45 rfl rfl (by kernel_rfl) ?_)
   intro nb f0 k7 i1
   replace H := H nb f0 k7 i1
   have o9 := ext_pushed_f27_sh i1
   refine lp rfl rfl (hs_append rfl rfl (HAppend.mono H ?_))
   rintro _ i3 ⟨ap, d2, d1, rfl, H⟩
   refine lv rfl rfl (va rfl) ?_
   refine ln (bn (qn ?_))
   exact ⟨(ap, d2, d1), ⟨⟨H.1, trivial⟩, H.2⟩, (hc rfl (hc rfl hn))⟩
  ·replace H := H.2 f4
   refine xe (qe (qe (bh (qn (xs (xr ?_))))))
   refine lv rfl rfl (vm rfl) ?_
   refine lp rfl rfl (sc TyTL.cb55 rfl (HC.mono H ?_))
   rintro _ j2 ⟨rfl, H⟩
   refine ln (qn (xs (xr ?_)))
   refine lv rfl rfl (vm rfl) (lv rfl rfl (va rfl) ?_)
   refine ln (qn (xt ?_))
   exact endQ_ret _ (res_one Tryd.results27 (rv_tmp rfl)) H
end Go.Proofs.YthjehlocmikchaaDoor
namespace Go.Proofs.YthjehlocmikchaaDoor
namespace Sc
open Go
structure Svs (h : Heap) (a : Option Addr) (c : Nat) (K : List Sw) (Ss : List Su) : Prop where
 sl : Sl eSw h a c K
 len : K.length = Ss.length
 recs_ : ∀ (i : Nat) x S, K[i]? = some x → Ss[i]? = some S → ∃ ra rc, x = S.sw ra rc ∧ Sl eFo h ra rc S.recs
section
variable {h h' : Heap} {a : Option Addr} {c : Nat} {K : List Sw} {Ss : List Su}
theorem Sus.svs {N : Nat} (s : Sus N h a c K Ss) : Svs h a c K Ss := ⟨s.sl, s.len, fun i x S h1 h2 => let ⟨ra, rc, e, p, _⟩ := s.recs_ i x S h1 h2; ⟨ra, rc, e, p⟩⟩
theorem Svs.ext (s : Svs h a c K Ss) (x : Ext h h') : Svs h' a c K Ss := ⟨s.sl.ext x, s.len, fun i y S h1 h2 => let ⟨ra, rc, e, p⟩ := s.recs_ i y S h1 h2; ⟨ra, rc, e, p.ext x⟩⟩
theorem Svs.atK (s : Svs h a c K Ss) {i : Int} (h0 : 0 ≤ i) (h1 : i < K.length) : ∃ ra rc, Sc.atK K i = (getS Ss i).sw ra rc ∧ Sl eFo h ra rc (getS Ss i).recs := by
 have hS : Ss[i.toNat]? = some (getS Ss i) := by
  unfold getS; rw [List.getD_eq_getElem?_getD, List.getElem?_eq_getElem (by rw [← s.len]; omega)]; rfl
 exact let ⟨ra, rc, e, p⟩ := s.recs_ i.toNat _ _ (atK_get h0 h1) hS; ⟨ra, rc, e, p⟩
theorem Svs.ord (s : Svs h a c K Ss) {Lo : List Int} (o : IsOrd K Lo) : IsOrd (Ss.map keyS) Lo := by
 refine o.of (by rw [List.length_map, s.len]) fun i j i0 i1 j0 j1 => ?_
 have key : ∀ i : Int, 0 ≤ i → i < K.length → Sc.atK (Ss.map keyS) i = keyS (getS Ss i) := fun i h0 h1 => by
  unfold Sc.atK getS
  rw [List.getD_eq_getElem?_getD, List.getElem?_map, List.getD_eq_getElem?_getD, List.getElem?_eq_getElem (by rw [← s.len]; omega)]; rfl
 obtain ⟨ra, rc, e1, _⟩ := s.atK i0 i1
 obtain ⟨ra', rc', e2, _⟩ := s.atK j0 j1
 rw [key i i0 i1, key j j0 j1, e1, e2]; rfl
end
def recsIn (Ss : List Su) (Lo : List Int) : List Fo := Lo.flatMap fun i => (getS Ss i).recs
def allN (Ss : List Su) : Nat := (Ss.map fun S => S.recs.length).sum
theorem getS_ints (Ss : List Su) : (ints Ss.length).map (getS Ss) = Ss := by
 unfold ints
 rw [List.map_map]
 refine List.ext_getElem? fun i => ?_
 rw [List.getElem?_map]
 by_cases hi : i < Ss.length
 ·rw [List.getElem?_range hi, List.getElem?_eq_getElem hi]
  simp [getS, List.getElem?_eq_getElem hi]
 ·rw [List.getElem?_eq_none (by simpa using hi), List.getElem?_eq_none (by omega)]; rfl
theorem recsIn_len {Ss : List Su} {Lo : List Int} (o : IsOrd (Ss.map keyS) Lo) : (recsIn Ss Lo).length = allN Ss := by
 have hp := o.perm
 rw [List.length_map] at hp
 unfold recsIn allN
 rw [List.length_flatMap, (hp.map fun i => (getS Ss i).recs.length).sum_nat]
 conv => rhs; rw [← getS_ints Ss, List.map_map]
 rfl
theorem recsIn_take {Ss : List Su} {Lo : List Int} {k : Nat} (hk : k < Lo.length) : recsIn Ss (Lo.take (k + 1)) = recsIn Ss (Lo.take k) ++ (getS Ss Lo[k]).recs := by
 unfold recsIn
 rw [List.take_add_one, List.getElem?_eq_getElem hk, List.flatMap_append]
 simp
theorem recsIn_le {Ss : List Su} {Lo : List Int} (k : Nat) : (recsIn Ss (Lo.take k)).length ≤ (recsIn Ss Lo).length := by
 unfold recsIn
 conv => rhs; rw [← List.take_append_drop k Lo, List.flatMap_append, List.length_append]
 exact Nat.le_add_right _ _
theorem kput_len {κ : Type} [DecidableEq κ] : ∀ (l : List (κ × Value)) (a : κ) (v : Value), (kput l a v).length ≤ l.length + 1
 | [], _, _ => by simp [kput]
 | (b, u) :: t, a, v => by
  unfold kput
  split
  ·simp
  ·have := kput_len t a v; simp; omega
section
variable {h : Heap} {a : Option Addr} {c : Nat} {K : List Sw} {Ss : List Su}
set_option maxHeartbeats 6400000 in
theorem live_m (s : Svs h a c K Ss) (hK : K.length ≤ 1048576) (hl : allN Ss ≤ 1048576) : HC Tryd.prog 27 #[.slice a K.length c] h fun v h' => Ext h h' ∧ ∃ Lo oa oc, IsOrd (Ss.map keyS) Lo ∧ v = .slice oa (liveL (recsIn Ss Lo)).length oc ∧ Sl eFo h' oa oc (liveL (recsIn Ss Lo)) ∧ Own eFo.k tF h.size h' oa oc := by
 refine f27_sh _ _ _ _ _ fun mb h1 emb x1 zs1 m1 => (order_m (s.sl.ext x1) (by omega)).mono ?_
 rintro _ h2 ⟨x2, Lo, oa, oc, rfl, hO, so, wo⟩
 have hO' := s.ord hO
 have hLl := hO.len
 have hrl := recsIn_len hO'
 have x02 := x1.trans x2
 have z2 := x2.size
 let W : Heap → List Fo → Prop := fun hh rs => ∃ kv, MapL hh mb Value.string kv ∧ Both kv (liveL rs) ∧ kv.length ≤ rs.length ∧ Fr (· = mb) h2 hh
 refine ⟨oa, _, oc, rfl, fun v hh => ∃ k : Nat, v = k ∧ k ≤ Lo.length ∧ W hh (recsIn Ss (Lo.take k)), fun v _ => Lo.length - v.toNat, ⟨0, rfl, Nat.zero_le _, [], m1.ext x2, Both.nil, Nat.zero_le _, Fr.refl _ _⟩, ?_⟩
 rintro _ h3 ⟨k, rfl, hk, w3⟩
 have low : ∀ {hh : Heap}, Fr (· = mb) h2 hh → Ext h hh := fun f => ((x02.fr _).trans f fun _ _ q => q).ext fun i hi q => by omega
 refine ⟨fun e => ?_, fun e => ?_⟩
 ·have hkl := lt_of_dec e
  obtain ⟨kv3, m3, b3, n3, f3⟩ := w3
  have so3 := so.fr f3 fun b hb q => by have := (wo.low hb).1; omega
  obtain ⟨ob, oo, eo, d⟩ := so3.at (List.getElem?_eq_getElem hkl)
  have hmem := hO.mem.1 (List.getElem_mem hkl)
  have sv3 := s.ext (low f3)
  obtain ⟨ra, rc, eK, sr⟩ := sv3.atK hmem.1 hmem.2
  obtain ⟨kb, ko, ek, dk⟩ := sv3.sl.at (atK_get hmem.1 hmem.2)
  rw [eK] at dk
  have hr1 := recsIn_take (Ss := Ss) hkl
  have hr2 := recsIn_le (Ss := Ss) (Lo := Lo) (k + 1)
  generalize hRs : (getS Ss Lo[k]).recs = Rs at *
  refine ⟨ob, oo, eo, by omega, by omega, _, d.1, kb, ko, ek, hmem.1, hmem.2, ra, Rs.length, rc, by rw [← hRs]; exact dk.2.2.2.2.2.1, fun v hh => ∃ j : Nat, v = j ∧ j ≤ Rs.length ∧ W hh (recsIn Ss (Lo.take k) ++ Rs.take j), fun v _ => Rs.length - v.toNat, ⟨0, rfl, Nat.zero_le _, kv3, m3, by simpa using b3, by simpa using n3, f3⟩, ?_⟩
  have hRl : Rs.length ≤ 1048576 := by have := congrArg List.length hr1; rw [List.length_append] at this; omega
  rintro _ h4 ⟨j, rfl, hj, kv4, m4, b4, n4, f4⟩
  refine ⟨fun e2 => ?_, fun e2 => ?_⟩
  ·have hjl := lt_of_dec e2
   have hsr : Sl eFo h4 ra rc Rs := by
    obtain ⟨ra', rc', eK', sr'⟩ := (s.ext (low f4)).atK hmem.1 hmem.2
    rw [eK] at eK'
    simp only [Sw.mk.injEq, true_and, and_true] at eK'
    obtain ⟨rfl, _, rfl⟩ := eK'
    rw [hRs] at sr'; exact sr'
   generalize hf : Rs[j] = f at *
   have hget : Rs[j]? = some f := by rw [List.getElem?_eq_getElem hjl, hf]
   obtain ⟨fb, fo', ef, df⟩ := hsr.at hget
   have htk : recsIn Ss (Lo.take k) ++ Rs.take (j + 1) = (recsIn Ss (Lo.take k) ++ Rs.take j) ++ [f] := by
    rw [List.take_add_one, hget, List.append_assoc]; rfl
   have hlen : (recsIn Ss (Lo.take k) ++ Rs.take (j + 1)).length = (recsIn Ss (Lo.take k) ++ Rs.take j).length + 1 := by rw [htk, List.length_append]; rfl
   have hsrt := live_sorted (recsIn Ss (Lo.take k) ++ Rs.take j)
   refine ⟨fun h5 => W h5 (recsIn Ss (Lo.take k) ++ Rs.take (j + 1)), ⟨fb, fo', ef, by omega, by omega, _, _, _, _, _, _, _, df.1, df.2.1, df.2.2.1, df.2.2.2.1, df.2.2.2.2.1, df.2.2.2.2.2.1, df.2.2.2.2.2.2.1, kv4, m4, ?_⟩, fun h5 w5 => ?_⟩
   ·have hb := b4 f.rc.key
    have put : ∀ {h9 h10 : Heap}, (∀ x, fnd (liveL (recsIn Ss (Lo.take k) ++ Rs.take j)) f.rc.key = some x → f.rc.ver ≥ x.rc.ver) → Ext h4 h9 → Only mb h9 h10 → MapL h10 mb Value.string (kput kv4 f.rc.key (foV f)) → W h10 (recsIn Ss (Lo.take k) ++ Rs.take (j + 1)) := fun hv x9 o10 m10 =>
     ⟨_, m10, by rw [htk, live_app]; exact b4.put hsrt hv, by have := kput_len kv4 f.rc.key (foV f); omega, (f4.trans (x9.fr _) fun _ _ q => q).trans o10.fr fun _ _ q => q⟩
    cases hq : fnd (liveL (recsIn Ss (Lo.take k) ++ Rs.take j)) f.rc.key with
    | none =>
     rw [hq] at hb
     refine ⟨0, 0, 0, 0, 0, ByteArray.empty, ByteArray.empty, by rw [hb]; rfl, fun _ h9 x9 => ⟨kv4, m4.ext x9, fun h10 o10 m10 => put (fun x q => by rw [hq] at q; cases q) x9 o10 m10⟩, fun e3 => ?_⟩
     rw [hb] at e3; simp at e3
    | some x =>
     rw [hq] at hb
     refine ⟨x.rg, x.off, x.sz, x.rc.kind, x.rc.ver, x.rc.key, x.rc.val, by rw [hb]; rfl, fun e3 h9 x9 => ⟨kv4, m4.ext x9, fun h10 o10 m10 => put (fun y q => ?_) x9 o10 m10⟩, fun e3 h9 x9 => ⟨kv4, m4.ext x9, ?_, by omega, f4.trans (x9.fr _) fun _ _ q => q⟩⟩
     ·rw [hq] at q; cases q
      rw [hb] at e3; simpa using e3
     ·rw [htk, live_app]
      refine b4.keep hsrt hq ?_
      rw [hb] at e3; simpa using e3
   ·rw [wadd j (by omega)]
    exact ⟨⟨j + 1, rfl, hjl, w5⟩, by simp only [Int.toNat_natCast]; omega⟩
  ·have hjl : j = Rs.length := by have := ge_of_dec e2; omega
   subst hjl
   rw [List.take_length, ← hr1] at *
   rw [wadd k (by omega)]
   exact ⟨⟨k + 1, rfl, hkl, kv4, m4, b4, n4, f4⟩, by simp only [Int.toNat_natCast]; omega⟩
 ·have hke : k = Lo.length := by have := ge_of_dec e; omega
  subst hke
  rw [List.take_length] at w3
  obtain ⟨kv, m3, b3, n3, f3⟩ := w3
  generalize hRR : recsIn Ss Lo = RR at *
  have x03 := low f3
  have hnd := m3.nodup
  have z3 := f3.size
  refine ⟨kv, m3, fun it h11 eit x11 zs11 i11 => ⟨fun out n c' hh => ∃ O td cu, n = O.length ∧ Sl eFo hh out c' O ∧ Own eFo.k tF h.size hh out c' ∧ Itr hh it mb Value.string kv td cu ∧ (O.map (fun f => (f.rc.key, foV f)) ++ td).Perm kv ∧ Ext h hh ∧ h11.size ≤ hh.size, fun _ n _ _ => kv.length - n, ⟨[], kv, none, rfl, Sl.nil _ _, Own.nil _ _ _ _, i11, List.Perm.refl _, x03.trans x11, Nat.le_refl _⟩, ?_⟩⟩
  rintro out _ c' h12 ⟨O, td, cu, rfl, s12, w12, i12, p12, x12, z12⟩
  refine ⟨mb, kv, td, cu, i12, fun more h13 td1 cu1 o13 i13 nx => ?_⟩
  have z03 := x03.size
  have nob : ∀ b, blkA out b → ¬ b = it := fun b hb e => by
   rcases w12 with ⟨rfl, _⟩ | ⟨b', o', cs, rfl, _, r, _⟩
   ·exact blkA_none hb
   ·rw [blkA_some] at hb; subst hb; exact i12.ne r e
  have s13 := s12.fr o13.fr nob
  have w13 := w12.fr o13.fr nob
  have x13 : Ext h h13 := ((x12.fr _).trans o13.fr fun _ _ q => q).ext fun i hi q => by omega
  have hplen := p12.length_eq
  rw [List.length_append, List.length_map] at hplen
  have z13 := o13.size
  refine ⟨fun em => ?_, fun em => ?_⟩
  ·obtain ⟨s1, q, s2, rfl, rfl, rfl⟩ := nx.2 em
   have hqm : q ∈ kv := p12.mem_iff.1 (by simp)
   obtain ⟨f, hfm, hfk, hfv⟩ := b3.entry hnd hqm
   refine ⟨mb, kv, _, q, i13, f.rg, f.off, f.sz, f.rc.kind, f.rc.ver, f.rc.key, f.rc.val, hfv, fun h15 x15 nb h16 en e16 => ?_⟩
   have hq : q = (f.rc.key, foV f) := by rw [hfk, ← hfv]
   have z15 := x15.size
   simp only [List.length_append, List.length_cons] at hplen
   refine app_1 (x := f) aF en e16 rfl (s13.ext x15) (w13.ext x15) rfl (by have := x13.size; omega) (by omega) fun a' c'' h17 f17 s17 w17 _ => ⟨a', _, c'', rfl, ?_⟩
   refine ⟨⟨O ++ [f], s1 ++ s2, some q, by simp, s17, w17, ?_, ?_, ?_, by have := f17.size; omega⟩, by show kv.length - (O.length + 1) < kv.length - O.length; omega⟩
   ·refine (i13.ext x15).fr f17 (fun hb => ?_) (fun hb => ?_)
    ·rcases w13 with ⟨rfl, _⟩ | ⟨b', o', cs, rfl, _, r, _⟩
     ·exact blkA_none hb
     ·rw [blkA_some] at hb
      obtain ⟨_, _, hm, _⟩ := i13.map
      subst hb; rw [r] at hm; cases hm
    ·rcases w13 with ⟨rfl, _⟩ | ⟨b', o', cs, rfl, _, r, _⟩
     ·exact blkA_none hb
     ·rw [blkA_some] at hb
      exact i13.ne r hb.symm
   ·refine List.Perm.trans ?_ p12
    rw [hq, List.map_append, List.append_assoc]
    refine List.Perm.append_left _ ?_
    exact (List.perm_middle (l₁ := s1) (l₂ := s2)).symm
   ·exact (((x13.trans x15).fr _).trans f17 fun _ _ q => q).ext fun i hi q => by have := (w13.low q).1; omega
  ·have ht := nx.1 em
   subst ht
   rw [List.append_nil] at p12
   have hkd : (O.map fun f => f.rc.key).Nodup := by
    have := (p12.map (·.1)).nodup_iff.2 hnd
    rwa [List.map_map] at this
   refine (sortF_c s13 w13 (by simp at hplen; omega) hkd).mono ?_
   rintro _ h18 ⟨rfl, f18, L', hp, hs, s18, w18⟩
   have hLL : L' = liveL RR := rise_eq hs (live_sorted RR) fun x => by
    rw [hp.mem_iff]
    constructor
    ·intro hx
     obtain ⟨f, hf, _, hv⟩ := b3.entry hnd (p12.mem_iff.1 (List.mem_map_of_mem (f := fun f : Fo => (f.rc.key, foV f)) hx))
     rw [foV_inj hv]; exact hf
    ·intro hx
     obtain ⟨y, hy, e⟩ := List.mem_map.1 (p12.mem_iff.2 (b3.back (live_sorted RR) hx))
     simp only [Prod.mk.injEq] at e
     rw [← foV_inj e.2]; exact hy
   subst hLL
   refine ⟨rfl, ((x13.fr _).trans f18 fun _ _ q => q).ext fun i hi q => by have := (w13.low q).1; omega, Lo, out, c', hO', ?_, by rw [hRR]; exact s18, w18⟩
   rw [hRR, hp.length_eq]
end
end Sc
end Go.Proofs.YthjehlocmikchaaDoor
namespace Go.Proofs.YthjehlocmikchaaDoor
open Go
section
variable {α : Type} {E : Elt α} {P : Program} {h : Heap} {a : Option Addr} {c N p : Nat} {D : List α} {z : α} {T t : TypeId}
theorem hcopy_ins (hu : P.underlying t = some (.slice T)) (hz : szB P T = some E.k) (hk0 : 0 < E.k) (s : Sl E h a c (D ++ [z])) (w : Own E.k T N h a c) (hp : p ≤ D.length) {K : Value → Heap → Prop}
  (hk : ∀ h', Fr (blkA a) h h' → Sl E h' a c ((D ++ [z]).take (p + 1) ++ D.drop p) → Own E.k T N h' a c → K (.int .i64 ((D.length - p : Nat) : Int)) h') :
  HCopy P t t (.slice (slA a (p + 1) E.k c) (D.length + 1 - (p + 1)) (c - (p + 1))) (.slice (slA a p E.k c) (D.length + 1 - p) (c - p)) h K := by
 have hle := s.le
 rw [List.length_append, List.length_singleton] at hle
 rcases w with ⟨rfl, rfl⟩ | ⟨b, o, cs0, rfl, hN, hr, hsz⟩
 ·omega
 have w : Own E.k T N h (some ⟨b, o, none⟩) c := .inr ⟨b, o, cs0, rfl, hN, hr, hsz⟩
 obtain ⟨o1, e1, g1⟩ := slA_some (b := b) (o := o) (l := p + 1) (sz := E.k) (m := c)
 obtain ⟨o2, e2, g2⟩ := slA_some (b := b) (o := o) (l := p) (sz := E.k) (m := c)
 have hlen : ((D.drop p).flatMap E.enc).length = (D.length - p) * E.k := by rw [flat_len, List.length_drop]
 have hcell : ∀ {i : Nat} {x : α} {r : Nat} {v : Value}, (D ++ [z])[i]? = some x → (E.enc x)[r]? = some v → hcell h b (o + i * E.k + r) = some v := fun hx hv => by
  obtain ⟨b', o', e, hc⟩ := s.at hx
  cases e; exact hc.get hv
 have hmul : ∀ {x y : Nat}, x ≤ y → x * E.k ≤ y * E.k := fun h => Nat.mul_le_mul_right _ h
 have hdk : (D.length + 1) * E.k ≤ c * E.k := hmul hle
 by_cases he : p = D.length
 ·have hcs : (D.drop p).flatMap E.enc = [] := by rw [List.drop_eq_nil_of_le (by omega)]; rfl
  refine hcopy_of (e := T) (size := E.k) (q := D.length - p) (cs := []) hu hz (by show _ = min _ _; omega) (by rw [he]; simp) (fun v hv => by simp at hv) (.inl rfl) (.inl rfl) fun h' e0 _ => ?_
  have := e0 rfl
  subst this
  refine hk h' (Fr.refl _ _) ?_ w
  rw [List.drop_eq_nil_of_le (by omega), List.append_nil, List.take_of_length_le (by simp; omega)]; exact s
 ·have hpl : p < D.length := by omega
  have q1 := g1 (by omega)
  have q2 := g2 (by omega)
  have hpk : (p + 1) * E.k + (D.length - p) * E.k = (D.length + 1) * E.k := by rw [← Nat.add_mul]; congr 1; omega
  refine hcopy_of (e := T) (size := E.k) (q := D.length - p) (cs := (D.drop p).flatMap E.enc) hu hz (by show _ = min _ _; omega) hlen (flat_one E _) (.inr ⟨b, o2, e2, HCells.mk fun j v hv => ?_⟩) (.inr ⟨b, o1, e1, fun j hj => ?_⟩) fun h' _ e3 => ?_
  ·obtain ⟨i, x, r, hx, hv', rfl⟩ := flat_inv E _ j v hv
   rw [List.getElem?_drop] at hx
   have hi := (List.getElem?_eq_some_iff.1 hx).1
   have := hcell (i := p + i) (by rw [List.getElem?_append_left hi]; exact hx) hv'
   rw [q2, show o + p * E.k + (i * E.k + r) = o + (p + i) * E.k + r by rw [Nat.add_mul]; omega]; exact this
  ·refine HW_row hr ?_
   rw [hlen] at hj
   omega
  ·have e4 := e3 b o1 e1
   subst e4
   have hrow := hsets_row ((D.drop p).flatMap E.enc) (o := o1) hr
   refine hk _ (fr_hsets _ fun _ => blkA_of rfl) (Sl.of_row hrow ?_ fun j v hv => ?_) (.inr ⟨b, o, _, rfl, hN, hrow, by rw [sets_size]; exact hsz⟩)
   ·simp; omega
   ·obtain ⟨i, x, r, hx, hv', rfl⟩ := flat_inv E _ j v hv
    have hrk := (List.getElem?_eq_some_iff.1 hv').1
    rw [E.len] at hrk
    rw [sets_get _ _ _ _ (by rw [hlen]; omega), hlen]
    have tl : ((D ++ [z]).take (p + 1)).length = p + 1 := by simp; omega
    by_cases hi : i < p + 1
    ·have h1 : (i + 1) * E.k ≤ (p + 1) * E.k := hmul hi
     rw [Nat.add_mul, Nat.one_mul] at h1
     rw [List.getElem?_append_left (by omega), List.getElem?_take, if_pos hi] at hx
     rw [if_neg (by omega)]
     have := hcell hx hv'
     rw [hcell_row hr] at this
     rw [← Nat.add_assoc]; exact this
    ·rw [List.getElem?_append_right (by omega), tl] at hx
     have hd := (List.getElem?_eq_some_iff.1 hx).1
     rw [List.length_drop] at hd
     have h1 : (p + 1) * E.k ≤ i * E.k := hmul (by omega)
     have h2 : (i - (p + 1)) * E.k + (p + 1) * E.k = i * E.k := by rw [← Nat.add_mul]; congr 1; omega
     have h3 : (i - (p + 1) + 1) * E.k ≤ (D.length - p) * E.k := hmul (by omega)
     rw [Nat.add_mul, Nat.one_mul] at h3
     rw [if_pos (by omega), show o + (i * E.k + r) - o1 = (i - (p + 1)) * E.k + r by omega]
     exact flat_get E _ _ _ _ _ hx hv'
end
end Go.Proofs.YthjehlocmikchaaDoor
namespace Go.Proofs.YthjehlocmikchaaDoor
namespace Sc
open Go
theorem ins_at {f : Fo} : ∀ {D : List Fo} {p : Nat}, p ≤ D.length → (∀ i x, i < p → D[i]? = some x → slt x.rc.key f.rc.key = true) → (∀ x, D[p]? = some x → slt x.rc.key f.rc.key = false) →
  insF f D = match D[p]? with | none => D ++ [f] | some x => if x.rc.key = f.rc.key then (if f.rc.ver ≥ x.rc.ver then D.set p f else D) else D.take p ++ f :: D.drop p
 | [], p, hp, _, _ => by
  have : p = 0 := by simpa using hp
  subst this; rfl
 | y :: t, 0, _, _, h2 => by
  have := h2 y rfl
  unfold insF
  rw [this]; simp
 | y :: t, p + 1, hp, h1, h2 => by
  have hy := h1 0 y (by omega) rfl
  unfold insF
  rw [if_pos hy, ins_at (D := t) (p := p) (by simpa using hp) (fun i x hi hx => h1 (i + 1) x (by omega) (by simpa using hx)) (fun x hx => h2 x (by simpa using hx))]
  rw [List.getElem?_cons_succ]
  cases t[p]? with
  | none => rfl
  | some x =>
   simp only
   split
   ·split <;> simp
   ·simp
theorem set_ins {α : Type} {D : List α} {z f : α} {p : Nat} (hp : p ≤ D.length) : ((D ++ [z]).take (p + 1) ++ D.drop p).set p f = D.take p ++ f :: D.drop p := by
 have hl : p < (D ++ [z]).length := by simp; omega
 have e1 : (D ++ [z]).take (p + 1) = D.take p ++ [(D ++ [z])[p]] := by
  rw [List.take_add_one, List.getElem?_eq_getElem hl, List.take_append_of_le_length hp]; rfl
 rw [e1, List.append_assoc, List.set_append_right _ _ (by simp; omega)]
 have : p - (D.take p).length = 0 := by simp; omega
 rw [this]; rfl
def fo0 : Fo := ⟨0, 0, 0, 0, 0, ByteArray.empty, ByteArray.empty⟩
section
variable {h : Heap} {a : Option Addr} {c : Nat} {K : List Sw} {Ss : List Su}
set_option maxHeartbeats 6400000 in
theorem live_r (s : Svs h a c K Ss) (hK : K.length ≤ 1048576) (hl : allN Ss ≤ 1048576) : HC Tryd.prog 29 #[.slice a K.length c] h fun v h' => Ext h h' ∧ ∃ Lo oa oc, IsOrd (Ss.map keyS) Lo ∧ v = .slice oa (liveL (recsIn Ss Lo)).length oc ∧ Sl eFo h' oa oc (liveL (recsIn Ss Lo)) ∧ Own eFo.k tF h.size h' oa oc := by
 refine f29_sh _ _ _ _ _ ((order_r s.sl (by omega)).mono ?_)
 rintro _ h1 ⟨x1, Lo, oa, oc, rfl, hO, so, wo⟩
 have hO' := s.ord hO
 have hLl := hO.len
 have hrl := recsIn_len hO'
 have z1 := x1.size
 let W : Option Addr → Nat → Nat → Heap → List Fo → Prop := fun out n c' hh rs => n = (liveL rs).length ∧ Sl eFo hh out c' (liveL rs) ∧ Own eFo.k tF h.size hh out c' ∧ Ext h hh ∧ Sl Stb.eI hh oa oc Lo ∧ Own Stb.eI.k tI h.size hh oa oc
 refine ⟨oa, _, oc, rfl, fun out n c' v hh => ∃ k : Nat, v = k ∧ k ≤ Lo.length ∧ W out n c' hh (recsIn Ss (Lo.take k)), fun _ _ _ v _ => Lo.length - v.toNat, ⟨0, rfl, Nat.zero_le _, rfl, Sl.nil _ _, Own.nil _ _ _ _, x1, so, wo⟩, ?_⟩
 rintro out n c' _ h2 ⟨k, rfl, hk, w2⟩
 refine ⟨fun e => ?_, fun e => ?_⟩
 rotate_left
 ·have hke : k = Lo.length := by have := ge_of_dec e; omega
  subst hke
  rw [List.take_length] at w2
  obtain ⟨rfl, q1, q2, q3, _⟩ := w2
  exact ⟨q3, Lo, out, c', hO', rfl, q1, q2⟩
 have hkl := lt_of_dec e
 obtain ⟨ob, oo, eo, d⟩ := w2.2.2.2.2.1.at (List.getElem?_eq_getElem hkl)
 have hmem := hO.mem.1 (List.getElem_mem hkl)
 obtain ⟨ra, rc, eK, sr⟩ := (s.ext w2.2.2.2.1).atK hmem.1 hmem.2
 obtain ⟨kb, ko, ek, dk⟩ := (s.ext w2.2.2.2.1).sl.at (atK_get hmem.1 hmem.2)
 rw [eK] at dk
 have hr1 := recsIn_take (Ss := Ss) hkl
 have hr2 := recsIn_le (Ss := Ss) (Lo := Lo) (k + 1)
 generalize hRs : (getS Ss Lo[k]).recs = Rs at *
 have hRl : Rs.length ≤ 1048576 := by have := congrArg List.length hr1; rw [List.length_append] at this; omega
 refine ⟨ob, oo, eo, by omega, by omega, _, d.1, kb, ko, ek, hmem.1, hmem.2, ra, Rs.length, rc, by rw [← hRs]; exact dk.2.2.2.2.2.1, fun out n c' v hh => ∃ j : Nat, v = j ∧ j ≤ Rs.length ∧ W out n c' hh (recsIn Ss (Lo.take k) ++ Rs.take j), fun _ _ _ v _ => Rs.length - v.toNat, ⟨0, rfl, Nat.zero_le _, by simpa using w2⟩, ?_⟩
 rintro out _ c' _ h3 ⟨j, rfl, hj, rfl, s3, w3, x3, so3, wo3⟩
 refine ⟨fun e2 => ?_, fun e2 => ?_⟩
 rotate_left
 ·have hjl : j = Rs.length := by have := ge_of_dec e2; omega
  subst hjl
  rw [List.take_length, ← hr1] at *
  rw [wadd k (by omega)]
  exact ⟨⟨k + 1, rfl, hkl, rfl, s3, w3, x3, so3, wo3⟩, by simp only [Int.toNat_natCast]; omega⟩
 have hjl := lt_of_dec e2
 have hsr : Sl eFo h3 ra rc Rs := by
  obtain ⟨ra', rc', eK', sr'⟩ := (s.ext x3).atK hmem.1 hmem.2
  rw [eK] at eK'
  simp only [Sw.mk.injEq, true_and, and_true] at eK'
  obtain ⟨rfl, _, rfl⟩ := eK'
  rw [hRs] at sr'; exact sr'
 generalize hf : Rs[j] = f at *
 have hget : Rs[j]? = some f := by rw [List.getElem?_eq_getElem hjl, hf]
 obtain ⟨fb, fo', ef, df⟩ := hsr.at hget
 have htk : recsIn Ss (Lo.take k) ++ Rs.take (j + 1) = (recsIn Ss (Lo.take k) ++ Rs.take j) ++ [f] := by
  rw [List.take_add_one, hget, List.append_assoc]; rfl
 have hdl := live_len (recsIn Ss (Lo.take k) ++ Rs.take j)
 have hdl2 : (recsIn Ss (Lo.take k) ++ Rs.take j).length ≤ 1048576 := by
  have := congrArg List.length hr1
  rw [List.length_append] at this ⊢
  have := List.length_take_le j Rs
  omega
 have hla : liveL (recsIn Ss (Lo.take k) ++ Rs.take (j + 1)) = insF f (liveL (recsIn Ss (Lo.take k) ++ Rs.take j)) := by rw [htk, live_app]
 generalize liveL (recsIn Ss (Lo.take k) ++ Rs.take j) = D at *
 have hoo : ∀ b, blkA oa b → ¬ blkA out b := fun b hb => own_ne2 wo3 w3 (by decide) hb
 refine ⟨fun out n c' hh => W out n c' hh (recsIn Ss (Lo.take k) ++ Rs.take (j + 1)), ⟨fb, fo', ef, by omega, by omega, _, _, _, _, _, _, _, df.1, df.2.1, df.2.2.1, df.2.2.2.1, df.2.2.2.2.1, df.2.2.2.2.2.1, df.2.2.2.2.2.2.1, ?_⟩, fun out n c' h4 w4 => ?_⟩
 rotate_left
 ·rw [wadd j (by omega)]
  exact ⟨⟨j + 1, rfl, hjl, w4⟩, by simp only [Int.toNat_natCast]; omega⟩
 refine ⟨fun v => ∃ p : Nat, v = p ∧ p ≤ D.length ∧ ∀ i x, i < p → D[i]? = some x → slt x.rc.key f.rc.key = true, fun v => D.length - v.toNat, ⟨0, rfl, Nat.zero_le _, fun i x hi => by omega⟩, ?_⟩
 rintro _ ⟨p, rfl, hp, hlow⟩
 -- behind the place that was found
 have ins : (∀ x, D[p]? = some x → slt x.rc.key f.rc.key = false) → (∀ x, D[p]? = some x → x.rc.key ≠ f.rc.key) → insF f D = D.take p ++ f :: D.drop p := fun h1 h2 => by
  rw [ins_at hp hlow h1]
  cases hq : D[p]? with
  | none =>
   have : D.length ≤ p := List.getElem?_eq_none_iff.1 hq
   have : p = D.length := by omega
   subst this
   simp
  | some x => simp only; rw [if_neg (h2 x hq)]
 have grow : insF f D = D.take p ++ f :: D.drop p → ∀ (pf : Nat) (h6 : Heap), h3.size ≤ pf → pf < h6.size → Ext h3 h6 → ∀ nb h7, nb = h6.size → h7 = h6.push (.cells #[.int .i64 0, .int .i64 0, .int .i64 0, .int .i64 0, .int .u64 0, .string ByteArray.empty, .string ByteArray.empty] 45) →
   HAppend Tryd.prog 32 32 (.slice out D.length c') (.slice (some ⟨nb, 0, none⟩) 1 1) h7 fun vv h8 => Kp [pf] h7 h8 ∧ ∃ ap : Option Addr, ∃ ap_n ap_c : Nat, vv = (.slice ap ap_n ap_c) ∧
    (0 ≤ (IntKind.i64.wrap ((p : Int) + 1) : Int) ∧ IntKind.i64.wrap ((p : Int) + 1) ≤ (ap_n : Int) ∧ (ap_n : Int) ≤ (ap_c : Int) ∧ ∀ sl : Option Addr, sl = slA ap (Int.toNat (IntKind.i64.wrap ((p : Int) + 1))) 7 ap_c →
    (0 ≤ (p : Int) ∧ (p : Int) ≤ (ap_n : Int) ∧ (ap_n : Int) ≤ (ap_c : Int) ∧ ∀ sl_1 : Option Addr, sl_1 = slA ap (Int.toNat (p : Int)) 7 ap_c →
     HCopy Tryd.prog 32 32 (.slice sl (Int.toNat (ap_n : Int) - Int.toNat (IntKind.i64.wrap ((p : Int) + 1))) (ap_c - Int.toNat (IntKind.i64.wrap ((p : Int) + 1)))) (.slice sl_1 (Int.toNat (ap_n : Int) - Int.toNat (p : Int)) (ap_c - Int.toNat (p : Int))) h8 fun vv h9 => Kp [pf] h8 h9 ∧
     ∃ n : Nat, vv = (.int .i64 (n : Int)) ∧ ∃ ap_b ap_o : Nat, ap = some ⟨ap_b, ap_o, none⟩ ∧ (0 : Int) ≤ (p : Int) ∧ (p : Int) < (ap_n : Int) ∧
     (HWs h9 ap_b (ap_o + (Int.toNat (p : Int)) * 7) 7 ∧ Off ap_b [pf] ∧ ∀ h10, h10 = hsets h9 ap_b (ap_o + (Int.toNat (p : Int)) * 7) f.cs → W (some ⟨ap_b, ap_o, none⟩) ap_n ap_c h10 (recsIn Ss (Lo.take k) ++ Rs.take (j + 1))))) := by
  intro hins pf h6 lo6 lt6 x6 nb h7 enb e7
  have z6 := x6.size
  have nout : ∀ {i}, h3.size ≤ i → ¬ blkA out i := fun hi q => by have := (w3.low q).2; omega
  refine app_1 (x := fo0) aF enb e7 rfl (s3.ext x6) (w3.ext x6) rfl (by have := x3.size; omega) (by omega) fun a' c'' h8 f8 s8 w8 nw8 => ⟨?_, a', _, c'', rfl, ?_⟩
  ·intro b hb hlt
   simp only [List.mem_singleton] at hb
   subst hb
   rw [f8.block b lt6 (nout lo6), e7, (Ext.push h6 _).block b lt6]
  have npf : ¬ blkA a' pf := fun q => by
   rcases nw8 pf q with q | q
   ·exact nout lo6 q
   ·omega
  have hc8 := s8.le
  rw [List.length_append, List.length_singleton] at hc8
  rw [wadd p (by omega)]
  refine ⟨by omega, by omega, by omega, fun sl esl => ⟨by omega, by omega, by omega, fun sl1 esl1 => ?_⟩⟩
  subst esl; subst esl1
  simp only [Int.toNat_natCast]
  refine hcopy_ins (E := eFo) (T := tF) (N := h.size) (D := D) (z := fo0) (by kernel_rfl) (by kernel_rfl) (by decide) s8 w8 hp fun h9 f9 s9 w9 => ?_
  refine ⟨f9.kp fun b hb => by simp only [List.mem_singleton] at hb; subst hb; exact npf, _, rfl, ?_⟩
  obtain ⟨ap_b, ap_o, rfl, _⟩ := s9.addr (by simp; omega)
  obtain ⟨u1, u2⟩ := s9.words w9 (i := p) (by simp; omega) f (p := ap_o + p * 7) rfl
  refine ⟨ap_b, ap_o, rfl, by omega, by omega, u1, fun q hq e => ?_, fun h10 e10 => ?_⟩
  ·simp only [List.mem_singleton] at hq
   subst hq; exact npf (by rw [← e]; exact blkA_of rfl)
  ·obtain ⟨s10, w10, f10⟩ := u2 h10 e10
   rw [set_ins hp, ← hins, ← hla] at s10
   have F : Fr (fun i => blkA out i ∨ h3.size ≤ i) h3 h10 := by
    have f9' : Fr (fun i => blkA out i ∨ h3.size ≤ i) h8 h9 := f9.mono fun i _ q => (nw8 i q).imp id fun q => by omega
    have f10' : Fr (fun i => blkA out i ∨ h3.size ≤ i) h9 h10 := f10.mono fun i _ q => by subst q; exact (nw8 _ (blkA_of rfl)).imp id fun q => by omega
    exact (x6.fr _).trans ((f8.mono fun i _ q => .inl q).trans (f9'.trans f10' fun _ _ q => q) fun _ _ q => q) fun _ _ q => q
   have noa : ∀ b, blkA oa b → ¬ (blkA out b ∨ h3.size ≤ b) := fun b hb q => by
    rcases q with q | q
    ·exact hoo b hb q
    ·have := (wo3.low hb).2; omega
   refine ⟨?_, s10, w10, ((x3.fr _).trans F fun _ _ q => q).ext fun i hi q => ?_, so3.fr F noa, wo3.fr F noa⟩
   ·rw [hla, hins]; simp; omega
   ·rcases q with q | q
    ·have := (w3.low q).1; omega
    ·have := x3.size; omega
 by_cases hpl : p < D.length
 ·obtain ⟨pb, po, eout, dp⟩ := s3.at (List.getElem?_eq_getElem hpl)
  have hgx : D[p]? = some D[p] := List.getElem?_eq_getElem hpl
  generalize hx : D[p] = x at *
  refine ⟨slt x.rc.key f.rc.key, ⟨fun _ => ⟨pb, po, eout, by omega, by omega, _, dp.2.2.2.2.2.1, rfl⟩, fun e => by have := of_decide_eq_false e; omega⟩, fun e => ?_, fun e => ?_⟩
  ·rw [wadd p (by omega)]
   refine ⟨⟨p + 1, rfl, hpl, fun i y hi hy => ?_⟩, by simp only [Int.toNat_natCast]; omega⟩
   by_cases hip : i < p
   ·exact hlow i y hip hy
   ·have : i = p := by omega
    subst this
    rw [hgx] at hy; cases hy; exact e
  ·have hfx : ∀ y, D[p]? = some y → slt y.rc.key f.rc.key = false := fun y hy => by rw [hgx] at hy; cases hy; exact e
   refine ⟨!decide (x.rc.key = f.rc.key), ⟨fun e => ?_, fun _ => ⟨pb, po, eout, by omega, by omega, _, dp.2.2.2.2.2.1, rfl⟩⟩, fun e3 => grow (ins hfx fun y hy => ?_), fun e3 => ⟨pb, po, eout, by omega, by omega, _, dp.2.2.2.2.1, ?_⟩⟩
   ·have := eq_of_beq e; omega
   ·rw [hgx] at hy; cases hy; simpa using e3
   ·have hke : x.rc.key = f.rc.key := by simpa using e3
    have hia := ins_at hp hlow hfx
    rw [hgx] at hia
    simp only [if_pos hke] at hia
    subst eout
    refine ⟨fun e4 h6 x6 => ?_, fun e4 h6 x6 => ?_⟩
    ·rw [if_pos (of_decide_eq_true e4)] at hia
     obtain ⟨u1, u2⟩ := (s3.ext x6).words (w3.ext x6) hpl f (p := po + p * 7) rfl
     refine ⟨u1, fun h11 e11 => ?_⟩
     obtain ⟨s11, w11, f11⟩ := u2 h11 e11
     rw [← hia, ← hla] at s11
     have noa : ∀ b, blkA oa b → ¬ b = pb := fun b hb q => hoo b hb (by subst q; exact blkA_of rfl)
     refine ⟨?_, s11, w11, ((x3.trans x6).fr _).trans f11 (fun _ _ q => q) |>.ext fun i hi q => ?_, (so3.ext x6).fr f11 noa, (wo3.ext x6).fr f11 noa⟩
     ·rw [hla, hia]; simp
     ·have := (w3.low (blkA_of rfl)).1; omega
    ·rw [if_neg (of_decide_eq_false e4)] at hia
     refine ⟨by rw [hla, hia], by rw [hla, hia]; exact s3.ext x6, w3.ext x6, x3.trans x6, so3.ext x6, wo3.ext x6⟩
 ·have hpe : p = D.length := by omega
  subst hpe
  have hno : D[D.length]? = none := List.getElem?_eq_none (Nat.le_refl _)
  refine ⟨false, ⟨fun e => by have := of_decide_eq_true e; omega, fun _ => rfl⟩, fun e => (by cases e), fun _ => ⟨true, ⟨fun _ => rfl, fun e => ?_⟩, fun _ => grow (ins (fun y hy => by rw [hno] at hy; cases hy) fun y hy => by rw [hno] at hy; cases hy), fun e => by cases e⟩⟩
  simp at e
end
end Sc
end Go.Proofs.YthjehlocmikchaaDoor
namespace Go.Proofs.YthjehlocmikchaaDoor
open Go
open Go.Proofs.YthjehlocmikchaaDoor renaming hl_val → lv, hl_step → lp, hl_nil → ln, hl_yes → ly, hl_no → lo, hx_seq → xs, hx_region → xr, hx_cond → xc, hx_block → xb, hx_loopT → xl, hx_cut → xk, hx_has → xh, hx_skip → xi, hx_ret → xt, hx_exit → xe, seqQ_n → qn, seqQ_ret → qr, seqQ_exit → qe, blockQ_n → bn, blockQ_ret → br, blockQ_here → bh, hv_move → vm, hv_assign → va, hv_arith → vr, hv_load → vl, hv_loads → vL, hv_field → vf, hv_build → vb, hv_index → vi, hp_pure → pp, hp_read → pr, hp_no → pn, has_cons → hc, has_nil → hn, hcells_cons → cc, hcells_nil → cn, rowcell → rc, hs_call → sc
set_option maxRecDepth 100000
set_option maxHeartbeats 4000000
theorem TyTG.agg29 : aggB Tryd.prog 29 = some false := by kernel_rfl
theorem TyTG.agg3 : aggB Tryd.prog 3 = some false := by kernel_rfl
theorem TyTG.agg32 : aggB Tryd.prog 32 = some false := by kernel_rfl
theorem TyTG.agg36 : aggB Tryd.prog 36 = some true := by kernel_rfl
theorem TyTG.agg45 : aggB Tryd.prog 45 = some true := by kernel_rfl
theorem TyTG.agg9 : aggB Tryd.prog 9 = some false := by kernel_rfl
theorem TyTG.cb10 : CallB Tryd.prog 10 := fun _ _ => Tryd.call10 _ _
theorem TyTG.cb14 : CallB Tryd.prog 14 := fun _ _ => Tryd.call14 _ _
theorem TyTG.cb19 : CallB Tryd.prog 19 := fun _ _ => Tryd.call19 _ _
theorem TyTG.cb25 : CallB Tryd.prog 25 := fun _ _ => Tryd.call25 _ _
theorem TyTG.cb26 : CallB Tryd.prog 26 := fun _ _ => Tryd.call26 _ _
theorem TyTG.cb27 : CallB Tryd.prog 27 := fun _ _ => Tryd.call27 _ _
theorem TyTG.cb28 : CallB Tryd.prog 28 := fun _ _ => Tryd.call28 _ _
theorem TyTG.cb29 : CallB Tryd.prog 29 := fun _ _ => Tryd.call29 _ _
theorem TyTG.el32 : elB Tryd.prog 32 = some 7 := by kernel_rfl
theorem TyTG.el65 : elB Tryd.prog 65 = some 9 := by kernel_rfl
theorem TyTG.el71 : elB Tryd.prog 71 = some 1 := by kernel_rfl
theorem TyTG.fld36_3 : fldB Tryd.prog 36 3 = some 5 := by kernel_rfl
theorem TyTG.fld43_1 : fldB Tryd.prog 43 1 = some 1 := by kernel_rfl
theorem TyTG.fld43_2 : fldB Tryd.prog 43 2 = some 2 := by kernel_rfl
theorem TyTG.fld45_3 : fldB Tryd.prog 45 3 = some 3 := by kernel_rfl
theorem TyTG.gd45 : Tryd.prog.eqGuardType Tryd.prog.depth 45 = false := by kernel_rfl
theorem TyTG.mixed : Tryd.prog.follows .mixedOrders = true := by kernel_rfl
theorem TyTG.pl45 : plB Tryd.prog 45 = some [(0, 1), (1, 1), (2, 1), (3, 4)] := by kernel_rfl
theorem TyTG.sz36 : szB Tryd.prog 36 = some 9 := by kernel_rfl
theorem TyTG.sz45 : szB Tryd.prog 45 = some 7 := by kernel_rfl
theorem TyTG.u32 : Tryd.prog.underlying 32 = some (.slice 45) := by kernel_rfl
theorem TyTG.u65 : Tryd.prog.underlying 65 = some (.slice 36) := by kernel_rfl
theorem TyTG.u71 : Tryd.prog.underlying 71 = some (.slice 3) := by kernel_rfl
theorem TyTG.z36 : zeroB Tryd.prog 36 (.agg #[(.int .i64 0), (.bool false), (.int .u64 0), (.int .u64 0), (.int .i64 0), (.slice none 0 0), (.int .i64 0), (.int .i64 0), (.bool false)]) := by unfold zeroB; kernel_rfl
theorem TyTG.z45 : zeroB Tryd.prog 45 (.agg #[(.int .i64 0), (.int .i64 0), (.int .i64 0), (.int .i64 0), (.int .u64 0), (.string ByteArray.empty), (.string ByteArray.empty)]) := by unfold zeroB; kernel_rfl
theorem ext_pushed_f9_sh {h h1 : Heap} {o : Obj} (e : h1 = Array.push h o) : Ext h h1 := by rw [e]; exact Ext.push _ _
theorem f8_sh (l : Option Addr) (c8 : Nat) (d5 : Nat) (h : Heap) (R : Value → Heap → Prop)
  (H : HC Tryd.prog 10 #[] h (fun vv h1 => Ext h h1 ∧ ∃ r : Bool, vv = (.bool r) ∧ (((!r) = true → R (.bool false) h1) ∧ ((!r) = false → HC Tryd.prog 25 #[(.slice l c8 d5)] h1 (fun vv h2 => ∃ d3 : Option Addr, ∃ c4 d7 : Nat, vv = (.slice d3 c4 d7) ∧ HC Tryd.prog 26 #[(.slice d3 c4 d7)] h2 (fun vv h3 => ∃ e6 : Option Addr, ∃ b6 e0 : Nat, vv = (.slice e6 b6 e0) ∧ HC Tryd.prog 27 #[(.slice d3 c4 d7)] h3 (fun vv h4 => ∃ e5 : Option Addr, ∃ c5 d8 : Nat, vv = (.slice e5 c5 d8) ∧ HC Tryd.prog 28 #[(.slice l c8 d5)] h4 (fun vv h5 => ∃ f0 : Option Addr, ∃ c9 e3 : Nat, vv = (.slice f0 c9 e3) ∧ (∃ A5 : Bool → Heap → Prop, ((((b6 : Int) != (c9 : Int)) = true → (A5 true h5)) ∧ (((b6 : Int) != (c9 : Int)) = false → HC Tryd.prog 29 #[(.slice l c8 d5)] h5 (fun vv h7 => ∃ j2 : Option Addr, ∃ f5 g2 : Nat, vv = (.slice j2 f5 g2) ∧ (∃ e7 : Bool, HC Tryd.prog 19 #[(.slice e5 c5 d8), (.slice j2 f5 g2)] h7 (fun vv h' => vv = (.bool e7) ∧ h' = h7) ∧ (((!e7) = true → (A5 true h7)) ∧ ((!e7) = false → (A5 ((c4 : Int) != (c8 : Int)) h7))))))) ∧ (∀ (j : Bool) (h6 : Heap), A5 j h6 → ((j = true → R (.bool false) h6) ∧ (j = false → (∃ (g7 : Int → Heap → Prop) (g5 : Int → Heap → Nat), g7 0 h6 ∧ (∀ (v : Int) (h8 : Heap), g7 v h8 → (((decide (v < (b6 : Int))) = true → (∃ i2 : Bool → Heap → Prop, (∃ f8 f4 : Nat, e6 = some ⟨f8, f4, none⟩ ∧ (0 : Int) ≤ v ∧ v < (b6 : Int) ∧ (∃ x : Int, hcell h8 f8 (f4 + (Int.toNat v) * 1) = some (.int .i64 x) ∧ (∃ f7 g1 : Nat, f0 = some ⟨f7, g1, none⟩ ∧ (0 : Int) ≤ v ∧ v < (c9 : Int) ∧ (∃ f2 : Int, hcell h8 f7 (g1 + (Int.toNat v) * 1) = some (.int .i64 f2) ∧ (((x != f2) = true → (i2 true h8)) ∧ ((x != f2) = false → (∃ b7 b5 : Nat, d3 = some ⟨b7, b5, none⟩ ∧ (0 : Int) ≤ v ∧ v < (c4 : Int) ∧ (∃ c1 : Int, ∃ d4 : Bool, ∃ a7 a1 a6 : Int, ∃ c0 : Option Addr, ∃ b0 b1 : Nat, ∃ c3 b9 : Int, ∃ c2 : Bool, hcell h8 b7 (b5 + (Int.toNat v) * 9) = some (.int .i64 c1) ∧ hcell h8 b7 ((b5 + (Int.toNat v) * 9) + 1) = some (.bool d4) ∧ hcell h8 b7 ((b5 + (Int.toNat v) * 9) + 2) = some (.int .u64 a7) ∧ hcell h8 b7 ((b5 + (Int.toNat v) * 9) + 3) = some (.int .u64 a1) ∧ hcell h8 b7 ((b5 + (Int.toNat v) * 9) + 4) = some (.int .i64 a6) ∧ hcell h8 b7 ((b5 + (Int.toNat v) * 9) + 5) = some (.slice c0 b0 b1) ∧ hcell h8 b7 ((b5 + (Int.toNat v) * 9) + 6) = some (.int .i64 c3) ∧ hcell h8 b7 ((b5 + (Int.toNat v) * 9) + 7) = some (.int .i64 b9) ∧ hcell h8 b7 ((b5 + (Int.toNat v) * 9) + 8) = some (.bool c2) ∧ (∃ d0 d1 : Nat, l = some ⟨d0, d1, none⟩ ∧ (0 : Int) ≤ v ∧ v < (c8 : Int) ∧ (∃ b4 : Int, ∃ c7 : Bool, ∃ a3 a0 a2 : Int, ∃ a8 : Option Addr, ∃ a5 a4 : Nat, ∃ b2 a9 : Int, ∃ b3 : Bool, hcell h8 d0 (d1 + (Int.toNat v) * 9) = some (.int .i64 b4) ∧ hcell h8 d0 ((d1 + (Int.toNat v) * 9) + 1) = some (.bool c7) ∧ hcell h8 d0 ((d1 + (Int.toNat v) * 9) + 2) = some (.int .u64 a3) ∧ hcell h8 d0 ((d1 + (Int.toNat v) * 9) + 3) = some (.int .u64 a0) ∧ hcell h8 d0 ((d1 + (Int.toNat v) * 9) + 4) = some (.int .i64 a2) ∧ hcell h8 d0 ((d1 + (Int.toNat v) * 9) + 5) = some (.slice a8 a5 a4) ∧ hcell h8 d0 ((d1 + (Int.toNat v) * 9) + 6) = some (.int .i64 b2) ∧ hcell h8 d0 ((d1 + (Int.toNat v) * 9) + 7) = some (.int .i64 a9) ∧ hcell h8 d0 ((d1 + (Int.toNat v) * 9) + 8) = some (.bool b3) ∧ HC Tryd.prog 14 #[(.agg #[(.int .i64 c1), (.bool d4), (.int .u64 a7), (.int .u64 a1), (.int .i64 a6), (.slice c0 b0 b1), (.int .i64 c3), (.int .i64 b9), (.bool c2)]), (.agg #[(.int .i64 b4), (.bool c7), (.int .u64 a3), (.int .u64 a0), (.int .i64 a2), (.slice a8 a5 a4), (.int .i64 b2), (.int .i64 a9), (.bool b3)])] h8 (fun vv j8 => ∃ d9 : Bool, vv = (.bool d9) ∧ (i2 (!d9) j8)))))))))))) ∧ (∀ (e9 : Bool) (h9 : Heap), i2 e9 h9 → ((e9 = true → R (.bool false) h9) ∧ (e9 = false → (g7 (IntKind.i64.wrap (v + 1)) h9 ∧ g5 (IntKind.i64.wrap (v + 1)) h9 < g5 v h8)))))) ∧ ((decide (v < (b6 : Int))) = false → (∃ (i1 : Int → Heap → Prop) (g4 : Int → Heap → Nat), i1 0 h8 ∧ (∀ (d6 : Int) (g3 : Heap), i1 d6 g3 → (((decide (d6 < (c5 : Int))) = true → (∃ e8 f1 : Nat, e5 = some ⟨e8, f1, none⟩ ∧ (0 : Int) ≤ d6 ∧ d6 < (c5 : Int) ∧ (HWs g3 e8 (f1 + (Int.toNat d6) * 7) 7 ∧ ∀ g8, g8 = hsets g3 e8 (f1 + (Int.toNat d6) * 7) [(.int .i64 0), (.int .i64 0), (.int .i64 (-1)), (.int .i64 0), (.int .u64 0), (.string ByteArray.empty), (.string ByteArray.empty)] → (i1 (IntKind.i64.wrap (d6 + 1)) g8 ∧ g4 (IntKind.i64.wrap (d6 + 1)) g8 < g4 d6 g3)))) ∧ ((decide (d6 < (c5 : Int))) = false → (∃ (g9 : Int → Heap → Prop) (g6 : Int → Heap → Nat), g9 0 g3 ∧ (∀ (b8 : Int) (d2 : Heap), g9 b8 d2 → (((decide (b8 < (c4 : Int))) = true → (∃ b7 b5 : Nat, d3 = some ⟨b7, b5, none⟩ ∧ (0 : Int) ≤ b8 ∧ b8 < (c4 : Int) ∧ (∃ c1 : Int, ∃ d4 : Bool, ∃ a7 a1 a6 : Int, ∃ c0 : Option Addr, ∃ b0 b1 : Nat, ∃ c3 b9 : Int, ∃ c2 : Bool, hcell d2 b7 (b5 + (Int.toNat b8) * 9) = some (.int .i64 c1) ∧ hcell d2 b7 ((b5 + (Int.toNat b8) * 9) + 1) = some (.bool d4) ∧ hcell d2 b7 ((b5 + (Int.toNat b8) * 9) + 2) = some (.int .u64 a7) ∧ hcell d2 b7 ((b5 + (Int.toNat b8) * 9) + 3) = some (.int .u64 a1) ∧ hcell d2 b7 ((b5 + (Int.toNat b8) * 9) + 4) = some (.int .i64 a6) ∧ hcell d2 b7 ((b5 + (Int.toNat b8) * 9) + 5) = some (.slice c0 b0 b1) ∧ hcell d2 b7 ((b5 + (Int.toNat b8) * 9) + 6) = some (.int .i64 c3) ∧ hcell d2 b7 ((b5 + (Int.toNat b8) * 9) + 7) = some (.int .i64 b9) ∧ hcell d2 b7 ((b5 + (Int.toNat b8) * 9) + 8) = some (.bool c2) ∧ (∃ d0 d1 : Nat, l = some ⟨d0, d1, none⟩ ∧ (0 : Int) ≤ b8 ∧ b8 < (c8 : Int) ∧ (∃ b4 : Int, ∃ c7 : Bool, ∃ a3 a0 a2 : Int, ∃ a8 : Option Addr, ∃ a5 a4 : Nat, ∃ b2 a9 : Int, ∃ b3 : Bool, hcell d2 d0 (d1 + (Int.toNat b8) * 9) = some (.int .i64 b4) ∧ hcell d2 d0 ((d1 + (Int.toNat b8) * 9) + 1) = some (.bool c7) ∧ hcell d2 d0 ((d1 + (Int.toNat b8) * 9) + 2) = some (.int .u64 a3) ∧ hcell d2 d0 ((d1 + (Int.toNat b8) * 9) + 3) = some (.int .u64 a0) ∧ hcell d2 d0 ((d1 + (Int.toNat b8) * 9) + 4) = some (.int .i64 a2) ∧ hcell d2 d0 ((d1 + (Int.toNat b8) * 9) + 5) = some (.slice a8 a5 a4) ∧ hcell d2 d0 ((d1 + (Int.toNat b8) * 9) + 6) = some (.int .i64 b2) ∧ hcell d2 d0 ((d1 + (Int.toNat b8) * 9) + 7) = some (.int .i64 a9) ∧ hcell d2 d0 ((d1 + (Int.toNat b8) * 9) + 8) = some (.bool b3) ∧ HC Tryd.prog 14 #[(.agg #[(.int .i64 c1), (.bool d4), (.int .u64 a7), (.int .u64 a1), (.int .i64 a6), (.slice c0 b0 b1), (.int .i64 c3), (.int .i64 b9), (.bool c2)]), (.agg #[(.int .i64 b4), (.bool c7), (.int .u64 a3), (.int .u64 a0), (.int .i64 a2), (.slice a8 a5 a4), (.int .i64 b2), (.int .i64 a9), (.bool b3)])] d2 (fun vv j4 => ∃ d9 : Bool, vv = (.bool d9) ∧ (((!d9) = true → R (.bool false) j4) ∧ ((!d9) = false → (g9 (IntKind.i64.wrap (b8 + 1)) j4 ∧ g6 (IntKind.i64.wrap (b8 + 1)) j4 < g6 b8 d2))))))))) ∧ ((decide (b8 < (c4 : Int))) = false → HC Tryd.prog 27 #[(.slice d3 c4 d7)] d2 (fun vv j9 => ∃ d9 : Option Addr, ∃ f6 g0 : Nat, vv = (.slice d9 f6 g0) ∧ HC Tryd.prog 29 #[(.slice l c8 d5)] j9 (fun vv j3 => ∃ j1 : Option Addr, ∃ f9 f3 : Nat, vv = (.slice j1 f9 f3) ∧ (∃ i0 : Bool, HC Tryd.prog 19 #[(.slice d9 f6 g0), (.slice j1 f9 f3)] j3 (fun vv h' => vv = (.bool i0) ∧ h' = j3) ∧ R (.bool i0) j3))))))))))))))))))))))))))) :
  HC Tryd.prog 8 #[(.slice l c8 d5)] h R := by
 refine hc_of (args := [(.slice l c8 d5)]) Tryd.func8 rfl Tryd.ntmps8 (Nat.le_of_ble_eq_true rfl) ?_
 refine xs (xr ?_)
 refine lv rfl rfl (va rfl) ?_
 refine ln (qn (xs (xs (xr ?_))))
 refine lp rfl rfl (sc TyTG.cb10 rfl (HC.mono H ?_))
 rintro _ h1 ⟨q7, r, rfl, H⟩
 refine lv rfl rfl (v := (.bool (!r))) (hv_not (b := r) rfl) ?_
 refine ln (qn ?_)
 refine xc (b := !r) rfl (fun j7 => ?_) (fun j7 => ?_)
 ·replace H := H.1 j7
  refine xs (xr ?_)
  refine lv rfl rfl (va rfl) ?_
  refine ln (qn (xt (qr ?_)))
  exact endQ_ret _ (res_one Tryd.results8 (rv_tmp rfl)) H
 ·replace H := H.2 j7
  refine xi (qn (xs (xr ?_)))
  refine lv rfl rfl (vm rfl) ?_
  refine lp rfl rfl (sc TyTG.cb25 rfl (HC.mono H ?_))
  rintro _ h2 ⟨d3, c4, d7, rfl, H⟩
  refine lv rfl rfl (va rfl) ?_
  refine ln (qn (xs (xr ?_)))
  refine lv rfl rfl (vm rfl) ?_
  refine lp rfl rfl (sc TyTG.cb26 rfl (HC.mono H ?_))
  rintro _ h3 ⟨e6, b6, e0, rfl, H⟩
  refine lv rfl rfl (vm rfl) ?_
  refine lp rfl rfl (sc TyTG.cb27 rfl (HC.mono H ?_))
  rintro _ h4 ⟨e5, c5, d8, rfl, H⟩
  refine lv rfl rfl (va rfl) (lv rfl rfl (va rfl) ?_)
  refine ln (qn (xs (xr ?_)))
  refine lv rfl rfl (vm rfl) ?_
  refine lp rfl rfl (sc TyTG.cb28 rfl (HC.mono H ?_))
  rintro _ h5 ⟨f0, c9, e3, rfl, H⟩
  refine lv rfl rfl (va rfl) ?_
  refine ln (qn (xs ?_))
  obtain ⟨A5, j5, j6⟩ := H
  refine xk (fun ρ h' => ∃ j : Bool, (A5 j h' ∧ True) ∧ Has ρ [(0, (.slice l c8 d5)), (3, (.slice d3 c4 d7)), (4, (.slice e6 b6 e0)), (5, (.slice e5 c5 d8)), (6, (.slice f0 c9 e3)), (38, (.bool j))]) ?_ ?_
  ·have H := j5; clear j5 j6
   refine xr ?_
   refine lv rfl rfl (vm rfl) (lv rfl rfl (v := (.int .i64 (b6 : Int))) (hv_len (n := b6) TyTG.u71 rfl) (lv rfl rfl (vm rfl) (lv rfl rfl (v := (.int .i64 (c9 : Int))) (hv_len (n := c9) TyTG.u71 rfl) (lv rfl rfl (vr rfl rfl rfl) (lv rfl rfl (vm rfl) ?_)))))
   rcases bool_or ((b6 : Int) != (c9 : Int)) with e1 | e1
   ·replace H := H.1 e1
    refine lo (wanted_n rfl rfl rfl e1) rfl ?_
    refine lo (wanted_n rfl rfl rfl e1) rfl ?_
    refine lo (wanted_n rfl rfl rfl e1) rfl ?_
    refine lo (wanted_n rfl rfl rfl e1) rfl ?_
    refine lo (wanted_n rfl rfl rfl e1) rfl ?_
    refine lv rfl rfl (v := (.bool true)) (hv_pick_t rfl e1 rfl) (lv rfl rfl (vm rfl) ?_)
    refine lo (wanted_n rfl rfl (c := true) rfl rfl) rfl ?_
    refine lo (wanted_n rfl rfl (c := true) rfl rfl) rfl ?_
    refine lo (wanted_n rfl rfl (c := true) rfl rfl) rfl ?_
    refine lo (wanted_n rfl rfl (c := true) rfl rfl) rfl ?_
    refine lo (wanted_n rfl rfl (c := true) rfl rfl) rfl ?_
    refine lv rfl rfl (v := (.bool true)) (hv_pick (t := true) rfl rfl) ?_
    refine ln (qn ?_)
    exact ⟨_, ⟨H, trivial⟩, (hc rfl (hc rfl (hc rfl (hc rfl (hc rfl (hc rfl hn))))))⟩
   ·replace H := H.2 e1
    refine ly (wanted_y rfl rfl rfl e1) rfl (HStep.of_val (v := (.slice e5 c5 d8)) (vm rfl) ?_)
    refine ly (wanted_y rfl rfl rfl e1) rfl (HStep.of_val (v := (.slice l c8 d5)) (vm rfl) ?_)
    refine ly (wanted_y rfl rfl rfl e1) rfl (sc TyTG.cb29 rfl (HC.mono H ?_))
    rintro _ h7 ⟨j2, f5, g2, rfl, H⟩
    obtain ⟨e7, q6, H⟩ := H
    refine ly (wanted_y rfl rfl rfl e1) rfl (HStep.of_val (v := (.bool e7)) (hv_call TyTG.cb19 (vs := [(.slice e5 c5 d8), (.slice j2 f5 g2)]) rfl q6) ?_)
    refine ly (wanted_y rfl rfl rfl e1) rfl (HStep.of_val (v := (.bool (!e7))) (hv_not (b := e7) rfl) ?_)
    refine lv rfl rfl (v := (.bool (!e7))) (hv_pick_f rfl e1 rfl) (lv rfl rfl (vm rfl) ?_)
    rcases bool_or (!e7) with e2 | e2
    ·replace H := H.1 e2
     refine lo (wanted_n rfl rfl rfl e2) rfl ?_
     refine lo (wanted_n rfl rfl rfl e2) rfl ?_
     refine lo (wanted_n rfl rfl rfl e2) rfl ?_
     refine lo (wanted_n rfl rfl rfl e2) rfl ?_
     refine lo (wanted_n rfl rfl rfl e2) rfl ?_
     refine lv rfl rfl (v := (.bool true)) (hv_pick_t rfl e2 rfl) ?_
     refine ln (qn ?_)
     exact ⟨_, ⟨H, trivial⟩, (hc rfl (hc rfl (hc rfl (hc rfl (hc rfl (hc rfl hn))))))⟩
    ·replace H := H.2 e2
     refine ly (wanted_y rfl rfl rfl e2) rfl (HStep.of_val (v := (.slice d3 c4 d7)) (vm rfl) ?_)
     refine ly (wanted_y rfl rfl rfl e2) rfl (HStep.of_val (v := (.int .i64 (c4 : Int))) (hv_len (n := c4) TyTG.u65 rfl) ?_)
     refine ly (wanted_y rfl rfl rfl e2) rfl (HStep.of_val (v := (.slice l c8 d5)) (vm rfl) ?_)
     refine ly (wanted_y rfl rfl rfl e2) rfl (HStep.of_val (v := (.int .i64 (c8 : Int))) (hv_len (n := c8) TyTG.u65 rfl) ?_)
     refine ly (wanted_y rfl rfl rfl e2) rfl (HStep.of_val (v := (.bool ((c4 : Int) != (c8 : Int)))) (vr rfl rfl rfl) ?_)
     refine lv rfl rfl (v := (.bool ((c4 : Int) != (c8 : Int)))) (hv_pick_f rfl e2 rfl) ?_
     refine ln (qn ?_)
     exact ⟨_, ⟨H, trivial⟩, (hc rfl (hc rfl (hc rfl (hc rfl (hc rfl (hc rfl hn))))))⟩
  ·rintro ρ h6 ⟨j, ⟨q5, -⟩, hH⟩
   have H := j6 j h6 q5; clear j5 j6
   refine xh _ hH ?_
   refine xc (b := j) rfl (fun i6 => ?_) (fun i6 => ?_)
   ·replace H := H.1 i6
    refine xs (xr ?_)
    refine lv rfl rfl (va rfl) ?_
    refine ln (qn (xt (qr ?_)))
    exact endQ_ret _ (res_one Tryd.results8 (rv_tmp rfl)) H
   ·replace H := H.2 i6
    refine xi (qn (xs (xs (xr ?_))))
    refine lv rfl rfl (vm rfl) (lv rfl rfl (v := (.int .i64 (b6 : Int))) (hv_len (n := b6) TyTG.u71 rfl) (lv rfl rfl (vm rfl) ?_))
    refine ln (qn (xb ?_))
    obtain ⟨g7, g5, q2, m6⟩ := H
    refine xl (σ := Int) (fun s => [(0, (.slice l c8 d5)), (3, (.slice d3 c4 d7)), (4, (.slice e6 b6 e0)), (5, (.slice e5 c5 d8)), (6, (.slice f0 c9 e3)), (40, (.int .i64 (b6 : Int))), (41, (.int .i64 s))]) (fun s h' => g7 s h' ∧ True) (fun s h' => g5 s h') 0 ⟨q2, trivial⟩ (hc rfl (hc rfl (hc rfl (hc rfl (hc rfl (hc rfl (hc rfl hn))))))) ?_
    rintro v ρ h8 ⟨n8, -⟩
    have H := m6 v h8 n8
    refine xs (xr ?_)
    refine lv rfl rfl (vr rfl rfl rfl) ?_
    refine ln (qn (xs ?_))
    refine xc (b := decide (v < (b6 : Int))) rfl (fun j0 => ?_) (fun j0 => ?_)
    ·replace H := H.1 j0
     refine xi (qn (xs (xb (xs (xr ?_)))))
     refine lv rfl rfl (vm rfl) (lv rfl rfl (va rfl) ?_)
     refine ln (qn ?_)
     obtain ⟨i2, i9, i7⟩ := H
     refine xk (fun ρ h' => ∃ e9 : Bool, (i2 e9 h' ∧ True) ∧ Has ρ [(0, (.slice l c8 d5)), (3, (.slice d3 c4 d7)), (4, (.slice e6 b6 e0)), (5, (.slice e5 c5 d8)), (6, (.slice f0 c9 e3)), (40, (.int .i64 (b6 : Int))), (41, (.int .i64 v)), (64, (.bool e9))]) ?_ ?_
     ·have H := i9; clear i9 i7
      refine hx_draw TyTG.mixed [.pure, .pure, .pure, .read, .pure, .pure, .pure, .read, .pure, .pure, .pure, .pure, .pure, .read, .pure, .pure, .pure, .read, .wild, .pure, .pure] [0, 1, 2, 3, 4, 5, 6, 7, 8, 9, 10, 11, 12, 13, 14, 15, 16, 17, 18, 19, 20] (by kernel_rfl) ?_
      refine pp (i := 0) rfl (wanted_0 rfl) rfl (.slice e6 b6 e0) (fun _ => vm rfl) ?_
      refine pp (i := 1) rfl (wanted_0 rfl) rfl (.int .i64 v) (fun _ => vm rfl) ?_
      obtain ⟨f8, f4, e4, p0, k0, Hq⟩ := H
      subst e4
      have H := Hq; clear Hq
      refine pp (i := 2) rfl (wanted_0 rfl) rfl (ptr f8 (f4 + (Int.toNat v) * 1)) (fun _ => vi TyTG.el71 rfl rfl p0 k0) ?_
      obtain ⟨x, k1, H⟩ := H
      refine pr (i := 3) rfl (wanted_0 rfl) rfl (.int .i64 x) (fun _ he => vl TyTG.agg3 rfl (Ext.cell he k1)) ?_
      refine pp (i := 4) rfl (wanted_0 rfl) rfl (.slice f0 c9 e3) (fun _ => vm rfl) ?_
      refine pp (i := 5) rfl (wanted_0 rfl) rfl (.int .i64 v) (fun _ => vm rfl) ?_
      obtain ⟨f7, g1, e4, l1, q0, Hq⟩ := H
      subst e4
      have H := Hq; clear Hq
      refine pp (i := 6) rfl (wanted_0 rfl) rfl (ptr f7 (g1 + (Int.toNat v) * 1)) (fun _ => vi TyTG.el71 rfl rfl l1 q0) ?_
      obtain ⟨f2, o0, H⟩ := H
      refine pr (i := 7) rfl (wanted_0 rfl) rfl (.int .i64 f2) (fun _ he => vl TyTG.agg3 rfl (Ext.cell he o0)) ?_
      refine pp (i := 8) rfl (wanted_0 rfl) rfl (.bool (x != f2)) (fun _ => vr rfl rfl rfl) ?_
      refine pp (i := 9) rfl (wanted_0 rfl) rfl (.bool (x != f2)) (fun _ => vm rfl) ?_
      rcases bool_or (x != f2) with c6 | c6
      ·replace H := H.1 c6
       refine pn (i := 10) rfl (wanted_n rfl rfl rfl c6) ?_
       refine pn (i := 11) rfl (wanted_n rfl rfl rfl c6) ?_
       refine pn (i := 12) rfl (wanted_n rfl rfl rfl c6) ?_
       refine pn (i := 13) rfl (wanted_n rfl rfl rfl c6) ?_
       refine pn (i := 14) rfl (wanted_n rfl rfl rfl c6) ?_
       refine pn (i := 15) rfl (wanted_n rfl rfl rfl c6) ?_
       refine pn (i := 16) rfl (wanted_n rfl rfl rfl c6) ?_
       refine pn (i := 17) rfl (wanted_n rfl rfl rfl c6) ?_
       refine pn (i := 18) rfl (wanted_n rfl rfl rfl c6) ?_
       refine pn (i := 19) rfl (wanted_n rfl rfl rfl c6) ?_
       refine pp (i := 20) rfl (wanted_0 rfl) rfl (.bool true) (fun _ => hv_pick_t rfl c6 rfl) ?_
       refine hp_nil ?_
       refine qn ?_
       exact ⟨_, ⟨H, trivial⟩, (hc rfl (hc rfl (hc rfl (hc rfl (hc rfl (hc rfl (hc rfl (hc rfl hn))))))))⟩
      ·replace H := H.2 c6
       refine pp (i := 10) rfl (wanted_y rfl rfl rfl c6) rfl (.slice d3 c4 d7) (fun _ => vm rfl) ?_
       refine pp (i := 11) rfl (wanted_y rfl rfl rfl c6) rfl (.int .i64 v) (fun _ => vm rfl) ?_
       obtain ⟨b7, b5, e4, l7, p6, Hq⟩ := H
       subst e4
       have H := Hq; clear Hq
       refine pp (i := 12) rfl (wanted_y rfl rfl rfl c6) rfl (ptr b7 (b5 + (Int.toNat v) * 9)) (fun _ => vi TyTG.el65 rfl rfl l7 p6) ?_
       obtain ⟨c1, d4, a7, a1, a6, c0, b0, b1, c3, b9, c2, k7, o6, n4, o8, n3, n1, k3, p2, o4, H⟩ := H
       refine pr (i := 13) rfl (wanted_y rfl rfl rfl c6) rfl (.agg #[(.int .i64 c1), (.bool d4), (.int .u64 a7), (.int .u64 a1), (.int .i64 a6), (.slice c0 b0 b1), (.int .i64 c3), (.int .i64 b9), (.bool c2)]) (fun _ he => vL (vs := [(.int .i64 c1), (.bool d4), (.int .u64 a7), (.int .u64 a1), (.int .i64 a6), (.slice c0 b0 b1), (.int .i64 c3), (.int .i64 b9), (.bool c2)]) TyTG.agg36 TyTG.sz36 rfl (cc (Ext.cell he k7) (cc (Ext.cell he o6) (cc (Ext.cell he n4) (cc (Ext.cell he o8) (cc (Ext.cell he n3) (cc (Ext.cell he n1) (cc (Ext.cell he k3) (cc (Ext.cell he p2) (cc (Ext.cell he o4) cn)))))))))) ?_
       refine pp (i := 14) rfl (wanted_y rfl rfl rfl c6) rfl (.slice l c8 d5) (fun _ => vm rfl) ?_
       refine pp (i := 15) rfl (wanted_y rfl rfl rfl c6) rfl (.int .i64 v) (fun _ => vm rfl) ?_
       obtain ⟨d0, d1, e4, l3, l5, Hq⟩ := H
       subst e4
       have H := Hq; clear Hq
       refine pp (i := 16) rfl (wanted_y rfl rfl rfl c6) rfl (ptr d0 (d1 + (Int.toNat v) * 9)) (fun _ => vi TyTG.el65 rfl rfl l3 l5) ?_
       obtain ⟨b4, c7, a3, a0, a2, a8, a5, a4, b2, a9, b3, q4, o9, n0, p1, l6, m1, o7, p5, o5, H⟩ := H
       refine pr (i := 17) rfl (wanted_y rfl rfl rfl c6) rfl (.agg #[(.int .i64 b4), (.bool c7), (.int .u64 a3), (.int .u64 a0), (.int .i64 a2), (.slice a8 a5 a4), (.int .i64 b2), (.int .i64 a9), (.bool b3)]) (fun _ he => vL (vs := [(.int .i64 b4), (.bool c7), (.int .u64 a3), (.int .u64 a0), (.int .i64 a2), (.slice a8 a5 a4), (.int .i64 b2), (.int .i64 a9), (.bool b3)]) TyTG.agg36 TyTG.sz36 rfl (cc (Ext.cell he q4) (cc (Ext.cell he o9) (cc (Ext.cell he n0) (cc (Ext.cell he p1) (cc (Ext.cell he l6) (cc (Ext.cell he m1) (cc (Ext.cell he o7) (cc (Ext.cell he p5) (cc (Ext.cell he o5) cn)))))))))) ?_
       refine hp_wild (i := 18) rfl (wanted_y rfl rfl rfl c6) rfl (sc TyTG.cb14 rfl (HC.mono H ?_))
       rintro _ j8 ⟨d9, rfl, H⟩
       refine pp (i := 19) rfl (wanted_y rfl rfl rfl c6) rfl (.bool (!d9)) (fun _ => hv_not (b := d9) rfl) ?_
       refine pp (i := 20) rfl (wanted_0 rfl) rfl (.bool (!d9)) (fun _ => hv_pick_f rfl c6 rfl) ?_
       refine hp_nil ?_
       refine qn ?_
       exact ⟨_, ⟨H, trivial⟩, (hc rfl (hc rfl (hc rfl (hc rfl (hc rfl (hc rfl (hc rfl (hc rfl hn))))))))⟩
     ·rintro ρ h9 ⟨e9, ⟨k4, -⟩, hH⟩
      have H := i7 e9 h9 k4; clear i9 i7
      refine xh _ hH ?_
      refine xc (b := e9) rfl (fun i4 => ?_) (fun i4 => ?_)
      ·replace H := H.1 i4
       refine xs (xr ?_)
       refine lv rfl rfl (va rfl) ?_
       refine ln (qn (xt (br (qr (qr (br (qr ?_)))))))
       exact endQ_ret _ (res_one Tryd.results8 (rv_tmp rfl)) H
      ·replace H := H.2 i4
       refine xi (bn (qn (xr ?_)))
       refine lv rfl rfl (vr rfl rfl rfl) (lv rfl rfl (vm rfl) ?_)
       refine ln (qn ?_)
       exact ⟨IntKind.i64.wrap (v + 1), ⟨⟨H.1, trivial⟩, H.2⟩, (hc rfl (hc rfl (hc rfl (hc rfl (hc rfl (hc rfl (hc rfl hn)))))))⟩
    ·replace H := H.2 j0
     refine xe (qe (qe (bh (qn (xs (xs (xr ?_)))))))
     refine lv rfl rfl (vm rfl) (lv rfl rfl (v := (.int .i64 (c5 : Int))) (hv_len (n := c5) TyTG.u32 rfl) (lv rfl rfl (vm rfl) ?_))
     refine ln (qn (xb ?_))
     obtain ⟨i1, g4, k5, n7⟩ := H
     refine xl (σ := Int) (fun s => [(0, (.slice l c8 d5)), (3, (.slice d3 c4 d7)), (5, (.slice e5 c5 d8)), (67, (.int .i64 (c5 : Int))), (68, (.int .i64 s))]) (fun s h' => i1 s h' ∧ True) (fun s h' => g4 s h') 0 ⟨k5, trivial⟩ (hc rfl (hc rfl (hc rfl (hc rfl (hc rfl hn))))) ?_
     rintro d6 ρ g3 ⟨q1, -⟩
     have H := n7 d6 g3 q1
     refine xs (xr ?_)
     refine lv rfl rfl (vr rfl rfl rfl) ?_
     refine ln (qn (xs ?_))
     refine xc (b := decide (d6 < (c5 : Int))) rfl (fun i3 => ?_) (fun i3 => ?_)
     ·replace H := H.1 i3
      refine xi (qn (xs (xb (xs (xr ?_)))))
      refine lv rfl rfl (vm rfl) (lv rfl rfl (va rfl) ?_)
      refine ln (qn (xr ?_))
      refine lv rfl rfl (vm rfl) (lv rfl rfl (vm rfl) (lv rfl rfl (v := (.agg #[(.int .i64 0), (.int .i64 0), (.int .i64 (-1)), (.int .i64 0), (.int .u64 0), (.string ByteArray.empty), (.string ByteArray.empty)])) (vb (vs := [(2, (.int .i64 (-1)))]) (cs := #[(.int .i64 0), (.int .i64 0), (.int .i64 (-1)), (.int .i64 0), (.int .u64 0), (.string ByteArray.empty), (.string ByteArray.empty)]) TyTG.z45 TyTG.pl45 rfl (by kernel_rfl)) ?_))
      obtain ⟨e8, f1, e4, m2, m9, Hq⟩ := H
      subst e4
      have H := Hq; clear Hq
      refine lv rfl rfl (v := (ptr e8 (f1 + (Int.toNat d6) * 7))) (vi TyTG.el32 rfl rfl m2 m9) ?_
      obtain ⟨p4, H⟩ := H
      refine lp rfl rfl (hn_stores (vs := [(.int .i64 0), (.int .i64 0), (.int .i64 (-1)), (.int .i64 0), (.int .u64 0), (.string ByteArray.empty), (.string ByteArray.empty)]) rfl rfl TyTG.sz45 rfl p4 ?_)
      intro g8 l0
      replace H := H g8 l0
      refine ln (bn (qn (xr ?_)))
      refine lv rfl rfl (vr rfl rfl rfl) (lv rfl rfl (vm rfl) ?_)
      refine ln (qn ?_)
      exact ⟨IntKind.i64.wrap (d6 + 1), ⟨⟨H.1, trivial⟩, H.2⟩, (hc rfl (hc rfl (hc rfl (hc rfl (hc rfl hn)))))⟩
     ·replace H := H.2 i3
      refine xe (qe (qe (bh (qn (xs (xs (xr ?_)))))))
      refine lv rfl rfl (vm rfl) (lv rfl rfl (v := (.int .i64 (c4 : Int))) (hv_len (n := c4) TyTG.u65 rfl) (lv rfl rfl (vm rfl) ?_))
      refine ln (qn (xb ?_))
      obtain ⟨g9, g6, o3, n5⟩ := H
      refine xl (σ := Int) (fun s => [(0, (.slice l c8 d5)), (3, (.slice d3 c4 d7)), (77, (.int .i64 (c4 : Int))), (78, (.int .i64 s))]) (fun s h' => g9 s h' ∧ True) (fun s h' => g6 s h') 0 ⟨o3, trivial⟩ (hc rfl (hc rfl (hc rfl (hc rfl hn)))) ?_
      rintro b8 ρ d2 ⟨n9, -⟩
      have H := n5 b8 d2 n9
      refine xs (xr ?_)
      refine lv rfl rfl (vr rfl rfl rfl) ?_
      refine ln (qn (xs ?_))
      refine xc (b := decide (b8 < (c4 : Int))) rfl (fun i5 => ?_) (fun i5 => ?_)
      ·replace H := H.1 i5
       refine xi (qn (xs (xb (xs (xr ?_)))))
       refine lv rfl rfl (vm rfl) (lv rfl rfl (va rfl) ?_)
       refine ln (qn (xs ?_))
       refine hx_draw TyTG.mixed [.pure, .pure, .pure, .read, .pure, .pure, .pure, .read, .wild, .pure] [0, 1, 2, 3, 4, 5, 6, 7, 8, 9] (by kernel_rfl) ?_
       refine pp (i := 0) rfl (wanted_0 rfl) rfl (.slice d3 c4 d7) (fun _ => vm rfl) ?_
       refine pp (i := 1) rfl (wanted_0 rfl) rfl (.int .i64 b8) (fun _ => vm rfl) ?_
       obtain ⟨b7, b5, e4, l9, n2, Hq⟩ := H
       subst e4
       have H := Hq; clear Hq
       refine pp (i := 2) rfl (wanted_0 rfl) rfl (ptr b7 (b5 + (Int.toNat b8) * 9)) (fun _ => vi TyTG.el65 rfl rfl l9 n2) ?_
       obtain ⟨c1, d4, a7, a1, a6, c0, b0, b1, c3, b9, c2, n6, m8, o1, m7, m5, p3, k8, l8, q3, H⟩ := H
       refine pr (i := 3) rfl (wanted_0 rfl) rfl (.agg #[(.int .i64 c1), (.bool d4), (.int .u64 a7), (.int .u64 a1), (.int .i64 a6), (.slice c0 b0 b1), (.int .i64 c3), (.int .i64 b9), (.bool c2)]) (fun _ he => vL (vs := [(.int .i64 c1), (.bool d4), (.int .u64 a7), (.int .u64 a1), (.int .i64 a6), (.slice c0 b0 b1), (.int .i64 c3), (.int .i64 b9), (.bool c2)]) TyTG.agg36 TyTG.sz36 rfl (cc (Ext.cell he n6) (cc (Ext.cell he m8) (cc (Ext.cell he o1) (cc (Ext.cell he m7) (cc (Ext.cell he m5) (cc (Ext.cell he p3) (cc (Ext.cell he k8) (cc (Ext.cell he l8) (cc (Ext.cell he q3) cn)))))))))) ?_
       refine pp (i := 4) rfl (wanted_0 rfl) rfl (.slice l c8 d5) (fun _ => vm rfl) ?_
       refine pp (i := 5) rfl (wanted_0 rfl) rfl (.int .i64 b8) (fun _ => vm rfl) ?_
       obtain ⟨d0, d1, e4, p8, m0, Hq⟩ := H
       subst e4
       have H := Hq; clear Hq
       refine pp (i := 6) rfl (wanted_0 rfl) rfl (ptr d0 (d1 + (Int.toNat b8) * 9)) (fun _ => vi TyTG.el65 rfl rfl p8 m0) ?_
       obtain ⟨b4, c7, a3, a0, a2, a8, a5, a4, b2, a9, b3, k6, l2, p7, p9, m4, k2, k9, o2, m3, H⟩ := H
       refine pr (i := 7) rfl (wanted_0 rfl) rfl (.agg #[(.int .i64 b4), (.bool c7), (.int .u64 a3), (.int .u64 a0), (.int .i64 a2), (.slice a8 a5 a4), (.int .i64 b2), (.int .i64 a9), (.bool b3)]) (fun _ he => vL (vs := [(.int .i64 b4), (.bool c7), (.int .u64 a3), (.int .u64 a0), (.int .i64 a2), (.slice a8 a5 a4), (.int .i64 b2), (.int .i64 a9), (.bool b3)]) TyTG.agg36 TyTG.sz36 rfl (cc (Ext.cell he k6) (cc (Ext.cell he l2) (cc (Ext.cell he p7) (cc (Ext.cell he p9) (cc (Ext.cell he m4) (cc (Ext.cell he k2) (cc (Ext.cell he k9) (cc (Ext.cell he o2) (cc (Ext.cell he m3) cn)))))))))) ?_
       refine hp_wild (i := 8) rfl (wanted_0 rfl) rfl (sc TyTG.cb14 rfl (HC.mono H ?_))
       rintro _ j4 ⟨d9, rfl, H⟩
       refine pp (i := 9) rfl (wanted_0 rfl) rfl (.bool (!d9)) (fun _ => hv_not (b := d9) rfl) ?_
       refine hp_nil ?_
       refine qn ?_
       refine xc (b := !d9) rfl (fun i8 => ?_) (fun i8 => ?_)
       ·replace H := H.1 i8
        refine xs (xr ?_)
        refine lv rfl rfl (va rfl) ?_
        refine ln (qn (xt (br (qr (qr (br (qr ?_)))))))
        exact endQ_ret _ (res_one Tryd.results8 (rv_tmp rfl)) H
       ·replace H := H.2 i8
        refine xi (bn (qn (xr ?_)))
        refine lv rfl rfl (vr rfl rfl rfl) (lv rfl rfl (vm rfl) ?_)
        refine ln (qn ?_)
        exact ⟨IntKind.i64.wrap (b8 + 1), ⟨⟨H.1, trivial⟩, H.2⟩, (hc rfl (hc rfl (hc rfl (hc rfl hn))))⟩
      ·replace H := H.2 i5
       refine xe (qe (qe (bh (qn (xs (xr ?_))))))
       refine lv rfl rfl (vm rfl) ?_
       refine lp rfl rfl (sc TyTG.cb27 rfl (HC.mono H ?_))
       rintro _ j9 ⟨d9, f6, g0, rfl, H⟩
       refine lv rfl rfl (vm rfl) ?_
       refine lp rfl rfl (sc TyTG.cb29 rfl (HC.mono H ?_))
       rintro _ j3 ⟨j1, f9, f3, rfl, H⟩
       obtain ⟨i0, l4, H⟩ := H
       refine lv rfl rfl (hv_call TyTG.cb19 (vs := [(.slice d9 f6 g0), (.slice j1 f9 f3)]) rfl l4) (lv rfl rfl (va rfl) ?_)
       refine ln (qn (xt ?_))
       exact endQ_ret _ (res_one Tryd.results8 (rv_tmp rfl)) H
theorem f9_sh (l : Option Addr) (d1 : Nat) (e5 : Nat) (h : Heap) (R : Value → Heap → Prop)
  (H : HC Tryd.prog 10 #[] h (fun vv h1 => Ext h h1 ∧ ∃ r : Bool, vv = (.bool r) ∧ (((!r) = true → R (.bool false) h1) ∧ ((!r) = false → HC Tryd.prog 25 #[(.slice l d1 e5)] h1 (fun vv h2 => ∃ k6 : Option Addr, ∃ k8 l8 : Nat, vv = (.slice k6 k8 l8) ∧ HC Tryd.prog 27 #[(.slice k6 k8 l8)] h2 (fun vv h3 => ∃ f0 : Option Addr, ∃ b5 d9 : Nat, vv = (.slice f0 b5 d9) ∧ (∃ (I4 : Int → Prop) (l6 : Int → Nat), I4 0 ∧ (∀ (v : Int), I4 v → (((decide (v < (b5 : Int))) = true → (∃ b6 b7 : Nat, f0 = some ⟨b6, b7, none⟩ ∧ (0 : Int) ≤ v ∧ v < (b5 : Int) ∧ (∃ b0 a9 c0 a4 a0 : Int, ∃ a2 a3 : ByteArray, hcell h3 b6 (b7 + (Int.toNat v) * 7) = some (.int .i64 b0) ∧ hcell h3 b6 ((b7 + (Int.toNat v) * 7) + 1) = some (.int .i64 a9) ∧ hcell h3 b6 ((b7 + (Int.toNat v) * 7) + 2) = some (.int .i64 c0) ∧ hcell h3 b6 ((b7 + (Int.toNat v) * 7) + 3) = some (.int .i64 a4) ∧ hcell h3 b6 ((b7 + (Int.toNat v) * 7) + 4) = some (.int .u64 a0) ∧ hcell h3 b6 ((b7 + (Int.toNat v) * 7) + 5) = some (.string a2) ∧ hcell h3 b6 ((b7 + (Int.toNat v) * 7) + 6) = some (.string a3) ∧ (∃ j : Bool, (((decide (v > 0)) = true → ((0 : Int) ≤ IntKind.i64.wrap (v - 1) ∧ IntKind.i64.wrap (v - 1) < (b5 : Int) ∧ (∃ x : ByteArray, hcell h3 b6 (((b7 + (Int.toNat (IntKind.i64.wrap (v - 1))) * 7) + 3) + 2) = some (.string x) ∧ (j = (!slt x a2))))) ∧ ((decide (v > 0)) = false → (j = false))) ∧ ((j = true → (∀ (h6 : Heap), Ext h3 h6 → R (.bool false) h6)) ∧ (j = false → (I4 (IntKind.i64.wrap (v + 1)) ∧ l6 (IntKind.i64.wrap (v + 1)) < l6 v))))))) ∧ ((decide (v < (b5 : Int))) = false → (∃ (j5 : Int → Prop) (i6 : Int → Nat), j5 0 ∧ (∀ (e1 : Int), j5 e1 → (((decide (e1 < (d1 : Int))) = true → (∃ d8 d7 : Nat, l = some ⟨d8, d7, none⟩ ∧ (0 : Int) ≤ e1 ∧ e1 < (d1 : Int) ∧ (∃ b0 : Int, ∃ e4 : Bool, ∃ c5 b8 c3 : Int, ∃ c4 : Option Addr, ∃ a6 b9 : Nat, ∃ d3 d0 : Int, ∃ d4 : Bool, hcell h3 d8 (d7 + (Int.toNat e1) * 9) = some (.int .i64 b0) ∧ hcell h3 d8 ((d7 + (Int.toNat e1) * 9) + 1) = some (.bool e4) ∧ hcell h3 d8 ((d7 + (Int.toNat e1) * 9) + 2) = some (.int .u64 c5) ∧ hcell h3 d8 ((d7 + (Int.toNat e1) * 9) + 3) = some (.int .u64 b8) ∧ hcell h3 d8 ((d7 + (Int.toNat e1) * 9) + 4) = some (.int .i64 c3) ∧ hcell h3 d8 ((d7 + (Int.toNat e1) * 9) + 5) = some (.slice c4 a6 b9) ∧ hcell h3 d8 ((d7 + (Int.toNat e1) * 9) + 6) = some (.int .i64 d3) ∧ hcell h3 d8 ((d7 + (Int.toNat e1) * 9) + 7) = some (.int .i64 d0) ∧ hcell h3 d8 ((d7 + (Int.toNat e1) * 9) + 8) = some (.bool d4) ∧ (∃ (j0 : Int → Prop) (i9 : Int → Nat), j0 0 ∧ (∀ (c7 : Int), j0 c7 → (((decide (c7 < (a6 : Int))) = true → (∃ b2 b1 : Nat, c4 = some ⟨b2, b1, none⟩ ∧ (0 : Int) ≤ c7 ∧ c7 < (a6 : Int) ∧ (∃ c8 a9 c0 a4 a0 : Int, ∃ a2 a3 : ByteArray, hcell h3 b2 (b1 + (Int.toNat c7) * 7) = some (.int .i64 c8) ∧ hcell h3 b2 ((b1 + (Int.toNat c7) * 7) + 1) = some (.int .i64 a9) ∧ hcell h3 b2 ((b1 + (Int.toNat c7) * 7) + 2) = some (.int .i64 c0) ∧ hcell h3 b2 ((b1 + (Int.toNat c7) * 7) + 3) = some (.int .i64 a4) ∧ hcell h3 b2 ((b1 + (Int.toNat c7) * 7) + 4) = some (.int .u64 a0) ∧ hcell h3 b2 ((b1 + (Int.toNat c7) * 7) + 5) = some (.string a2) ∧ hcell h3 b2 ((b1 + (Int.toNat c7) * 7) + 6) = some (.string a3) ∧ (∃ (g5 : Bool → Int → Prop) (f6 : Bool → Int → Nat), g5 false 0 ∧ (∀ (c6 : Bool) (c2 : Int), g5 c6 c2 → (((decide (c2 < (b5 : Int))) = true → (∃ b6 b7 : Nat, f0 = some ⟨b6, b7, none⟩ ∧ (0 : Int) ≤ c2 ∧ c2 < (b5 : Int) ∧ (∃ b4 b3 c1 a8 a1 : Int, ∃ a5 a7 : ByteArray, hcell h3 b6 (b7 + (Int.toNat c2) * 7) = some (.int .i64 b4) ∧ hcell h3 b6 ((b7 + (Int.toNat c2) * 7) + 1) = some (.int .i64 b3) ∧ hcell h3 b6 ((b7 + (Int.toNat c2) * 7) + 2) = some (.int .i64 c1) ∧ hcell h3 b6 ((b7 + (Int.toNat c2) * 7) + 3) = some (.int .i64 a8) ∧ hcell h3 b6 ((b7 + (Int.toNat c2) * 7) + 4) = some (.int .u64 a1) ∧ hcell h3 b6 ((b7 + (Int.toNat c2) * 7) + 5) = some (.string a5) ∧ hcell h3 b6 ((b7 + (Int.toNat c2) * 7) + 6) = some (.string a7) ∧ ((c6 = true → (g5 true (IntKind.i64.wrap (c2 + 1)) ∧ f6 true (IntKind.i64.wrap (c2 + 1)) < f6 c6 c2)) ∧ (c6 = false → (((decide (a5 = a2)) = true → (g5 (decide (a1 ≥ a0)) (IntKind.i64.wrap (c2 + 1)) ∧ f6 (decide (a1 ≥ a0)) (IntKind.i64.wrap (c2 + 1)) < f6 c6 c2)) ∧ ((decide (a5 = a2)) = false → (g5 false (IntKind.i64.wrap (c2 + 1)) ∧ f6 false (IntKind.i64.wrap (c2 + 1)) < f6 c6 c2)))))))) ∧ ((decide (c2 < (b5 : Int))) = false → (((!c6) = true → (∀ (j1 : Heap), Ext h3 j1 → R (.bool false) j1)) ∧ ((!c6) = false → (j0 (IntKind.i64.wrap (c7 + 1)) ∧ i9 (IntKind.i64.wrap (c7 + 1)) < i9 c7)))))))))) ∧ ((decide (c7 < (a6 : Int))) = false → (j5 (IntKind.i64.wrap (e1 + 1)) ∧ i6 (IntKind.i64.wrap (e1 + 1)) < i6 e1)))))))) ∧ ((decide (e1 < (d1 : Int))) = false → (∃ (g4 : Int → Prop) (g1 : Int → Nat), g4 0 ∧ (∀ (c7 : Int), g4 c7 → (((decide (c7 < (b5 : Int))) = true → (∃ b6 b7 : Nat, f0 = some ⟨b6, b7, none⟩ ∧ (0 : Int) ≤ c7 ∧ c7 < (b5 : Int) ∧ (∃ b0 a9 c0 a4 a0 : Int, ∃ a2 a3 : ByteArray, hcell h3 b6 (b7 + (Int.toNat c7) * 7) = some (.int .i64 b0) ∧ hcell h3 b6 ((b7 + (Int.toNat c7) * 7) + 1) = some (.int .i64 a9) ∧ hcell h3 b6 ((b7 + (Int.toNat c7) * 7) + 2) = some (.int .i64 c0) ∧ hcell h3 b6 ((b7 + (Int.toNat c7) * 7) + 3) = some (.int .i64 a4) ∧ hcell h3 b6 ((b7 + (Int.toNat c7) * 7) + 4) = some (.int .u64 a0) ∧ hcell h3 b6 ((b7 + (Int.toNat c7) * 7) + 5) = some (.string a2) ∧ hcell h3 b6 ((b7 + (Int.toNat c7) * 7) + 6) = some (.string a3) ∧ (∃ (g3 : Bool → Int → Prop) (g2 : Bool → Int → Nat), g3 false 0 ∧ (∀ (c6 : Bool) (c2 : Int), g3 c6 c2 → (((decide (c2 < (d1 : Int))) = true → (∃ d8 d7 : Nat, l = some ⟨d8, d7, none⟩ ∧ (0 : Int) ≤ c2 ∧ c2 < (d1 : Int) ∧ (∃ c8 : Int, ∃ e4 : Bool, ∃ c5 b8 c3 : Int, ∃ c4 : Option Addr, ∃ a6 b9 : Nat, ∃ d3 d0 : Int, ∃ d4 : Bool, hcell h3 d8 (d7 + (Int.toNat c2) * 9) = some (.int .i64 c8) ∧ hcell h3 d8 ((d7 + (Int.toNat c2) * 9) + 1) = some (.bool e4) ∧ hcell h3 d8 ((d7 + (Int.toNat c2) * 9) + 2) = some (.int .u64 c5) ∧ hcell h3 d8 ((d7 + (Int.toNat c2) * 9) + 3) = some (.int .u64 b8) ∧ hcell h3 d8 ((d7 + (Int.toNat c2) * 9) + 4) = some (.int .i64 c3) ∧ hcell h3 d8 ((d7 + (Int.toNat c2) * 9) + 5) = some (.slice c4 a6 b9) ∧ hcell h3 d8 ((d7 + (Int.toNat c2) * 9) + 6) = some (.int .i64 d3) ∧ hcell h3 d8 ((d7 + (Int.toNat c2) * 9) + 7) = some (.int .i64 d0) ∧ hcell h3 d8 ((d7 + (Int.toNat c2) * 9) + 8) = some (.bool d4) ∧ (∃ (g0 : Bool → Int → Prop) (f7 : Bool → Int → Nat), g0 c6 0 ∧ (∀ (d6 : Bool) (e0 : Int), g0 d6 e0 → (((decide (e0 < (a6 : Int))) = true → (∃ b2 b1 : Nat, c4 = some ⟨b2, b1, none⟩ ∧ (0 : Int) ≤ e0 ∧ e0 < (a6 : Int) ∧ (∃ b4 b3 c1 a8 a1 : Int, ∃ a5 a7 : ByteArray, hcell h3 b2 (b1 + (Int.toNat e0) * 7) = some (.int .i64 b4) ∧ hcell h3 b2 ((b1 + (Int.toNat e0) * 7) + 1) = some (.int .i64 b3) ∧ hcell h3 b2 ((b1 + (Int.toNat e0) * 7) + 2) = some (.int .i64 c1) ∧ hcell h3 b2 ((b1 + (Int.toNat e0) * 7) + 3) = some (.int .i64 a8) ∧ hcell h3 b2 ((b1 + (Int.toNat e0) * 7) + 4) = some (.int .u64 a1) ∧ hcell h3 b2 ((b1 + (Int.toNat e0) * 7) + 5) = some (.string a5) ∧ hcell h3 b2 ((b1 + (Int.toNat e0) * 7) + 6) = some (.string a7) ∧ ((d6 = true → (g0 true (IntKind.i64.wrap (e0 + 1)) ∧ f7 true (IntKind.i64.wrap (e0 + 1)) < f7 d6 e0)) ∧ (d6 = false → (g0 ((b4 == b0 && (b3 == a9 && (c1 == c0 && ((a8 == a4 && (a1 == a0 && (a5 == a2 && (a7 == a3 && true)))) && true))))) (IntKind.i64.wrap (e0 + 1)) ∧ f7 ((b4 == b0 && (b3 == a9 && (c1 == c0 && ((a8 == a4 && (a1 == a0 && (a5 == a2 && (a7 == a3 && true)))) && true))))) (IntKind.i64.wrap (e0 + 1)) < f7 d6 e0)))))) ∧ ((decide (e0 < (a6 : Int))) = false → (g3 d6 (IntKind.i64.wrap (c2 + 1)) ∧ g2 d6 (IntKind.i64.wrap (c2 + 1)) < g2 c6 c2)))))))) ∧ ((decide (c2 < (d1 : Int))) = false → (((!c6) = true → (∀ (j3 : Heap), Ext h3 j3 → R (.bool false) j3)) ∧ ((!c6) = false → (g4 (IntKind.i64.wrap (c7 + 1)) ∧ g1 (IntKind.i64.wrap (c7 + 1)) < g1 c7)))))))))) ∧ ((decide (c7 < (b5 : Int))) = false → (∀ (j4 : Heap), Ext h3 j4 → R (.bool true) j4))))))))))))))))))) :
  HC Tryd.prog 9 #[(.slice l d1 e5)] h R := by
 refine hc_of (args := [(.slice l d1 e5)]) Tryd.func9 rfl Tryd.ntmps9 (Nat.le_of_ble_eq_true rfl) ?_
 refine xs (xr ?_)
 refine lv rfl rfl (va rfl) ?_
 refine ln (qn (xs (xs (xr ?_))))
 refine lp rfl rfl (sc TyTG.cb10 rfl (HC.mono H ?_))
 rintro _ h1 ⟨he1, r, rfl, H⟩
 refine lv rfl rfl (v := (.bool (!r))) (hv_not (b := r) rfl) ?_
 refine ln (qn ?_)
 refine xc (b := !r) rfl (fun n2 => ?_) (fun n2 => ?_)
 ·replace H := H.1 n2
  refine xs (xr ?_)
  refine lv rfl rfl (va rfl) ?_
  refine ln (qn (xt (qr ?_)))
  exact endQ_ret _ (res_one Tryd.results9 (rv_tmp rfl)) H
 ·replace H := H.2 n2
  refine xi (qn (xs (xr ?_)))
  refine lv rfl rfl (vm rfl) ?_
  refine lp rfl rfl (sc TyTG.cb25 rfl (HC.mono H ?_))
  rintro _ h2 ⟨k6, k8, l8, rfl, H⟩
  refine lp rfl rfl (sc TyTG.cb27 rfl (HC.mono H ?_))
  rintro _ h3 ⟨f0, b5, d9, rfl, H⟩
  refine lv rfl rfl (va rfl) ?_
  refine ln (qn (xs (xs (xr ?_))))
  refine lv rfl rfl (vm rfl) (lv rfl rfl (v := (.int .i64 (b5 : Int))) (hv_len (n := b5) TyTG.u32 rfl) (lv rfl rfl (vm rfl) ?_))
  refine ln (qn (xb ?_))
  obtain ⟨I4, l6, Ha6, Hr7⟩ := H
  refine xl (σ := Int) (fun s => [(0, (.slice l d1 e5)), (3, (.slice f0 b5 d9)), (25, (.slice f0 b5 d9)), (26, (.int .i64 (b5 : Int))), (27, (.int .i64 s))]) (fun s h' => I4 s ∧ Ext h3 h' ∧ True) (fun s _ => l6 s) 0 ⟨Ha6, (Ext.refl _), trivial⟩ (hc rfl (hc rfl (hc rfl (hc rfl (hc rfl hn))))) ?_
  rintro v ρ h4 ⟨Hi8, f9, -⟩
  have H := Hr7 v Hi8
  refine xs (xr ?_)
  refine lv rfl rfl (vr rfl rfl rfl) ?_
  refine ln (qn (xs ?_))
  refine xc (b := decide (v < (b5 : Int))) rfl (fun n3 => ?_) (fun n3 => ?_)
  ·replace H := H.1 n3
   refine xi (qn (xs (xb (xs (xr ?_)))))
   refine lv rfl rfl (vm rfl) ?_
   obtain ⟨b6, b7, f5, w8, y9, Hq⟩ := H
   subst f5
   have H := Hq; clear Hq
   refine lv rfl rfl (v := (ptr b6 (b7 + (Int.toNat v) * 7))) (vi TyTG.el32 rfl rfl w8 y9) ?_
   obtain ⟨b0, a9, c0, a4, a0, a2, a3, t9, w3, x6, x1, w6, z3, z6, H⟩ := H
   refine lv rfl rfl (vL (vs := [(.int .i64 b0), (.int .i64 a9), (.int .i64 c0), (.int .i64 a4), (.int .u64 a0), (.string a2), (.string a3)]) TyTG.agg45 TyTG.sz45 rfl (cc (Ext.cell f9 t9) (cc (Ext.cell f9 w3) (cc (Ext.cell f9 x6) (cc (Ext.cell f9 x1) (cc (Ext.cell f9 w6) (cc (Ext.cell f9 z3) (cc (Ext.cell f9 z6) cn)))))))) ?_
   refine lp rfl rfl (hn_alloc TyTG.z45 ?_)
   intro f h5 m3 m1
   have v8 := ext_pushed_f9_sh m1
   have x5 : Array.size h3 ≤ f := Nat.le_trans (Ext.size f9) (Nat.le_of_eq (Eq.symm m3))
   have m7 : h5[f]? = some (.cells #[(.int .i64 0), (.int .i64 0), (.int .i64 0), (.int .i64 0), (.int .u64 0), (.string ByteArray.empty), (.string ByteArray.empty)] 45 (0, 0)) := by rw [m1]; exact push_new m3
   have u5 := Ext.trans f9 v8
   refine lv rfl rfl (va rfl) ?_
   refine lp rfl rfl (hn_stores (vs := [(.int .i64 b0), (.int .i64 a9), (.int .i64 c0), (.int .i64 a4), (.int .u64 a0), (.string a2), (.string a3)]) rfl rfl TyTG.sz45 rfl (HWs_row m7 (by simp)) ?_)
   intro h6 n0
   have q3 : h6[f]? = some (.cells #[(.int .i64 b0), (.int .i64 a9), (.int .i64 c0), (.int .i64 a4), (.int .u64 a0), (.string a2), (.string a3)] 45 (0, 0)) := row_hsets_eq n0 m7 (by simp [sets])
   have j8 := ext_hsets n0 u5 x5
   refine ln (qn ?_)
   obtain ⟨j, j6, k0⟩ := H
   refine xk (fun ρ h' => h6 = h' ∧ Has ρ [(0, (.slice l d1 e5)), (3, (.slice (some ⟨b6, b7, none⟩) b5 d9)), (25, (.slice (some ⟨b6, b7, none⟩) b5 d9)), (26, (.int .i64 (b5 : Int))), (27, (.int .i64 v)), (46, (.bool j))]) ?_ ?_
   ·have H := j6; clear j6 k0
    refine hx_draw TyTG.mixed [.pure, .pure, .pure, .pure, .pure, .pure, .pure, .pure, .pure, .read, .pure, .pure, .read, .pure, .pure] [0, 1, 2, 3, 4, 5, 6, 7, 8, 9, 10, 11, 12, 13, 14] (by kernel_rfl) ?_
    refine pp (i := 0) rfl (wanted_0 rfl) rfl (.int .i64 v) (fun _ => vm rfl) ?_
    refine pp (i := 1) rfl (wanted_0 rfl) rfl (.bool (decide (v > 0))) (fun _ => vr rfl rfl rfl) ?_
    refine pp (i := 2) rfl (wanted_0 rfl) rfl (.bool (decide (v > 0))) (fun _ => vm rfl) ?_
    rcases bool_or (decide (v > 0)) with d2 | d2
    ·replace H := H.1 d2
     refine pp (i := 3) rfl (wanted_y rfl rfl rfl d2) rfl (.slice (some ⟨b6, b7, none⟩) b5 d9) (fun _ => vm rfl) ?_
     refine pp (i := 4) rfl (wanted_y rfl rfl rfl d2) rfl (.int .i64 v) (fun _ => vm rfl) ?_
     refine pp (i := 5) rfl (wanted_y rfl rfl rfl d2) rfl (.int .i64 (IntKind.i64.wrap (v - 1))) (fun _ => vr rfl rfl rfl) ?_
     obtain ⟨w4, y5, H⟩ := H
     refine pp (i := 6) rfl (wanted_y rfl rfl rfl d2) rfl (ptr b6 (b7 + (Int.toNat (IntKind.i64.wrap (v - 1))) * 7)) (fun _ => vi TyTG.el32 rfl rfl w4 y5) ?_
     refine pp (i := 7) rfl (wanted_y rfl rfl rfl d2) rfl (ptr b6 ((b7 + (Int.toNat (IntKind.i64.wrap (v - 1))) * 7) + 3)) (fun _ => vf TyTG.fld45_3 (b := b6) (o := b7 + (Int.toNat (IntKind.i64.wrap (v - 1))) * 7) rfl) ?_
     refine pp (i := 8) rfl (wanted_y rfl rfl rfl d2) rfl (ptr b6 (((b7 + (Int.toNat (IntKind.i64.wrap (v - 1))) * 7) + 3) + 2)) (fun _ => vf TyTG.fld43_2 (b := b6) (o := (b7 + (Int.toNat (IntKind.i64.wrap (v - 1))) * 7) + 3) rfl) ?_
     obtain ⟨x, v5, H⟩ := H
     refine pr (i := 9) rfl (wanted_y rfl rfl rfl d2) rfl (.string x) (fun _ he => vl TyTG.agg9 rfl (Ext.cell he (Ext.cell j8 v5))) ?_
     refine pp (i := 10) rfl (wanted_y rfl rfl rfl d2) rfl (ptr f 3) (fun _ => vf TyTG.fld45_3 (b := f) (o := 0) rfl) ?_
     refine pp (i := 11) rfl (wanted_y rfl rfl rfl d2) rfl (ptr f 5) (fun _ => vf TyTG.fld43_2 (b := f) (o := 3) rfl) ?_
     refine pr (i := 12) rfl (wanted_y rfl rfl rfl d2) rfl (.string a2) (fun _ he => vl TyTG.agg9 rfl (Ext.cell he (rc q3 rfl))) ?_
     refine pp (i := 13) rfl (wanted_y rfl rfl rfl d2) rfl (.bool (!slt x a2)) (fun _ => hv_str rfl rfl rfl) ?_
     refine pp (i := 14) rfl (wanted_0 rfl) rfl (.bool (!slt x a2)) (fun _ => hv_pick_t rfl d2 rfl) ?_
     refine hp_nil ?_
     refine qn ?_
     obtain rfl := H
     exact ⟨rfl, (hc rfl (hc rfl (hc rfl (hc rfl (hc rfl (hc rfl hn))))))⟩
    ·replace H := H.2 d2
     refine pn (i := 3) rfl (wanted_n rfl rfl rfl d2) ?_
     refine pn (i := 4) rfl (wanted_n rfl rfl rfl d2) ?_
     refine pn (i := 5) rfl (wanted_n rfl rfl rfl d2) ?_
     refine pn (i := 6) rfl (wanted_n rfl rfl rfl d2) ?_
     refine pn (i := 7) rfl (wanted_n rfl rfl rfl d2) ?_
     refine pn (i := 8) rfl (wanted_n rfl rfl rfl d2) ?_
     refine pn (i := 9) rfl (wanted_n rfl rfl rfl d2) ?_
     refine pn (i := 10) rfl (wanted_n rfl rfl rfl d2) ?_
     refine pn (i := 11) rfl (wanted_n rfl rfl rfl d2) ?_
     refine pn (i := 12) rfl (wanted_n rfl rfl rfl d2) ?_
     refine pn (i := 13) rfl (wanted_n rfl rfl rfl d2) ?_
     refine pp (i := 14) rfl (wanted_0 rfl) rfl (.bool false) (fun _ => hv_pick_f rfl d2 rfl) ?_
     refine hp_nil ?_
     refine qn ?_
     obtain rfl := H
     exact ⟨rfl, (hc rfl (hc rfl (hc rfl (hc rfl (hc rfl (hc rfl hn))))))⟩
   ·have H := k0; clear j6 k0
    rintro ρ _ ⟨rfl, hH⟩
    refine xh _ hH ?_
    refine xc (b := j) rfl (fun k1 => ?_) (fun k1 => ?_)
    ·replace H := H.1 k1
     refine xs (xr ?_)
     refine lv rfl rfl (va rfl) ?_
     refine ln (qn (xt (br (qr (qr (br (qr ?_)))))))
     replace H := H h6 j8
     exact endQ_ret _ (res_one Tryd.results9 (rv_tmp rfl)) H
    ·replace H := H.2 k1
     refine xi (bn (qn (xr ?_)))
     refine lv rfl rfl (vr rfl rfl rfl) (lv rfl rfl (vm rfl) ?_)
     refine ln (qn ?_)
     exact ⟨IntKind.i64.wrap (v + 1), ⟨⟨H.1, j8, trivial⟩, H.2⟩, (hc rfl (hc rfl (hc rfl (hc rfl (hc rfl hn)))))⟩
  ·replace H := H.2 n3
   refine xe (qe (qe (bh (qn (xs (xs (xr ?_)))))))
   refine lv rfl rfl (vm rfl) (lv rfl rfl (v := (.int .i64 (d1 : Int))) (hv_len (n := d1) TyTG.u65 rfl) (lv rfl rfl (vm rfl) ?_))
   refine ln (qn (xb ?_))
   obtain ⟨j5, i6, y4, t8⟩ := H
   refine xl (σ := Int) (fun s => [(0, (.slice l d1 e5)), (3, (.slice f0 b5 d9)), (48, (.slice l d1 e5)), (49, (.int .i64 (d1 : Int))), (50, (.int .i64 s))]) (fun s h' => j5 s ∧ Ext h3 h' ∧ True) (fun s _ => i6 s) 0 ⟨y4, f9, trivial⟩ (hc rfl (hc rfl (hc rfl (hc rfl (hc rfl hn))))) ?_
   rintro e1 ρ h7 ⟨z1, e9, -⟩
   have H := t8 e1 z1
   refine xs (xr ?_)
   refine lv rfl rfl (vr rfl rfl rfl) ?_
   refine ln (qn (xs ?_))
   refine xc (b := decide (e1 < (d1 : Int))) rfl (fun k2 => ?_) (fun k2 => ?_)
   ·replace H := H.1 k2
    refine xi (qn (xs (xb (xs (xr ?_)))))
    obtain ⟨d8, d7, f5, w7, w5, Hq⟩ := H
    subst f5
    have H := Hq; clear Hq
    refine lv rfl rfl (v := (ptr d8 (d7 + (Int.toNat e1) * 9))) (vi TyTG.el65 rfl rfl w7 w5) ?_
    obtain ⟨b0, e4, c5, b8, c3, c4, a6, b9, d3, d0, d4, y0, w1, u8, x4, y7, z2, w0, z7, z4, H⟩ := H
    refine lv rfl rfl (vL (vs := [(.int .i64 b0), (.bool e4), (.int .u64 c5), (.int .u64 b8), (.int .i64 c3), (.slice c4 a6 b9), (.int .i64 d3), (.int .i64 d0), (.bool d4)]) TyTG.agg36 TyTG.sz36 rfl (cc (Ext.cell e9 y0) (cc (Ext.cell e9 w1) (cc (Ext.cell e9 u8) (cc (Ext.cell e9 x4) (cc (Ext.cell e9 y7) (cc (Ext.cell e9 z2) (cc (Ext.cell e9 w0) (cc (Ext.cell e9 z7) (cc (Ext.cell e9 z4) cn)))))))))) ?_
    refine lp rfl rfl (hn_alloc TyTG.z36 ?_)
    intro sv h8 m9 m8
    have x2 := ext_pushed_f9_sh m8
    have y8 : Array.size h3 ≤ sv := Nat.le_trans (Ext.size e9) (Nat.le_of_eq (Eq.symm m9))
    have n5 : h8[sv]? = some (.cells #[(.int .i64 0), (.bool false), (.int .u64 0), (.int .u64 0), (.int .i64 0), (.slice none 0 0), (.int .i64 0), (.int .i64 0), (.bool false)] 36 (0, 0)) := by rw [m8]; exact push_new m9
    have u2 := Ext.trans e9 x2
    refine lp rfl rfl (hn_stores (vs := [(.int .i64 b0), (.bool e4), (.int .u64 c5), (.int .u64 b8), (.int .i64 c3), (.slice c4 a6 b9), (.int .i64 d3), (.int .i64 d0), (.bool d4)]) rfl rfl TyTG.sz36 rfl (HWs_row n5 (by simp)) ?_)
    intro h9 m2
    have s4 : h9[sv]? = some (.cells #[(.int .i64 b0), (.bool e4), (.int .u64 c5), (.int .u64 b8), (.int .i64 c3), (.slice c4 a6 b9), (.int .i64 d3), (.int .i64 d0), (.bool d4)] 36 (0, 0)) := row_hsets_eq m2 n5 (by simp [sets])
    have x0 := ext_hsets m2 u2 y8
    refine ln (qn (xs (xr ?_)))
    refine lv rfl rfl (v := (ptr sv 5)) (vf TyTG.fld36_3 (b := sv) (o := 0) rfl) (lv rfl rfl (vl TyTG.agg32 rfl (rc s4 rfl)) (lv rfl rfl (v := (.int .i64 (a6 : Int))) (hv_len (n := a6) TyTG.u32 rfl) (lv rfl rfl (vm rfl) ?_)))
    refine ln (qn (xb ?_))
    obtain ⟨j0, i9, y6, v6⟩ := H
    refine xl (σ := Int) (fun s => [(0, (.slice (some ⟨d8, d7, none⟩) d1 e5)), (3, (.slice f0 b5 d9)), (48, (.slice (some ⟨d8, d7, none⟩) d1 e5)), (49, (.int .i64 (d1 : Int))), (50, (.int .i64 e1)), (55, (.slice c4 a6 b9)), (56, (.int .i64 (a6 : Int))), (57, (.int .i64 s))]) (fun s h' => j0 s ∧ Ext h3 h' ∧ True) (fun s _ => i9 s) 0 ⟨y6, x0, trivial⟩ (hc rfl (hc rfl (hc rfl (hc rfl (hc rfl (hc rfl (hc rfl (hc rfl hn)))))))) ?_
    rintro c7 ρ h10 ⟨v9, f3, -⟩
    have H := v6 c7 v9
    refine xs (xr ?_)
    refine lv rfl rfl (vr rfl rfl rfl) ?_
    refine ln (qn (xs ?_))
    refine xc (b := decide (c7 < (a6 : Int))) rfl (fun j7 => ?_) (fun j7 => ?_)
    ·replace H := H.1 j7
     refine xi (qn (xs (xb (xs (xr ?_)))))
     obtain ⟨b2, b1, f5, x3, y1, Hq⟩ := H
     subst f5
     have H := Hq; clear Hq
     refine lv rfl rfl (v := (ptr b2 (b1 + (Int.toNat c7) * 7))) (vi TyTG.el32 rfl rfl x3 y1) ?_
     obtain ⟨c8, a9, c0, a4, a0, a2, a3, v7, v2, y3, x8, v1, z0, w9, H⟩ := H
     refine lv rfl rfl (vL (vs := [(.int .i64 c8), (.int .i64 a9), (.int .i64 c0), (.int .i64 a4), (.int .u64 a0), (.string a2), (.string a3)]) TyTG.agg45 TyTG.sz45 rfl (cc (Ext.cell f3 v7) (cc (Ext.cell f3 v2) (cc (Ext.cell f3 y3) (cc (Ext.cell f3 x8) (cc (Ext.cell f3 v1) (cc (Ext.cell f3 z0) (cc (Ext.cell f3 w9) cn)))))))) ?_
     refine lp rfl rfl (hn_alloc TyTG.z45 ?_)
     intro f t3 n6 n4
     have u4 := ext_pushed_f9_sh n4
     have x7 : Array.size h3 ≤ f := Nat.le_trans (Ext.size f3) (Nat.le_of_eq (Eq.symm n6))
     have m5 : t3[f]? = some (.cells #[(.int .i64 0), (.int .i64 0), (.int .i64 0), (.int .i64 0), (.int .u64 0), (.string ByteArray.empty), (.string ByteArray.empty)] 45 (0, 0)) := by rw [n4]; exact push_new n6
     have z5 := Ext.trans f3 u4
     refine lp rfl rfl (hn_stores (vs := [(.int .i64 c8), (.int .i64 a9), (.int .i64 c0), (.int .i64 a4), (.int .u64 a0), (.string a2), (.string a3)]) rfl rfl TyTG.sz45 rfl (HWs_row m5 (by simp)) ?_)
     intro z8 n1
     have p6 : z8[f]? = some (.cells #[(.int .i64 c8), (.int .i64 a9), (.int .i64 c0), (.int .i64 a4), (.int .u64 a0), (.string a2), (.string a3)] 45 (0, 0)) := row_hsets_eq n1 m5 (by simp [sets])
     have v0 := ext_hsets n1 z5 x7
     refine ln (qn (xs (xr ?_)))
     refine lv rfl rfl (va rfl) ?_
     refine ln (qn (xs (xs (xr ?_))))
     refine lv rfl rfl (vm rfl) (lv rfl rfl (v := (.int .i64 (b5 : Int))) (hv_len (n := b5) TyTG.u32 rfl) (lv rfl rfl (vm rfl) ?_))
     refine ln (qn (xb ?_))
     obtain ⟨g5, f6, u3, u6⟩ := H
     refine xl (σ := Bool × Int) (fun s => [(0, (.slice (some ⟨d8, d7, none⟩) d1 e5)), (3, (.slice f0 b5 d9)), (9, (ptr f 0)), (10, (.bool s.1)), (48, (.slice (some ⟨d8, d7, none⟩) d1 e5)), (49, (.int .i64 (d1 : Int))), (50, (.int .i64 e1)), (55, (.slice (some ⟨b2, b1, none⟩) a6 b9)), (56, (.int .i64 (a6 : Int))), (57, (.int .i64 c7)), (61, (.slice f0 b5 d9)), (62, (.int .i64 (b5 : Int))), (63, (.int .i64 s.2))]) (fun s h' => g5 s.1 s.2 ∧ Ext h3 h' ∧ h'[f]? = some (.cells #[(.int .i64 c8), (.int .i64 a9), (.int .i64 c0), (.int .i64 a4), (.int .u64 a0), (.string a2), (.string a3)] 45 (0, 0)) ∧ True) (fun s _ => f6 s.1 s.2) (false, 0) ⟨u3, v0, p6, trivial⟩ (hc rfl (hc rfl (hc rfl (hc rfl (hc rfl (hc rfl (hc rfl (hc rfl (hc rfl (hc rfl (hc rfl (hc rfl (hc rfl hn))))))))))))) ?_
     rintro ⟨c6, c2⟩ ρ j1 ⟨v3, f1, f4, -⟩
     have H := u6 c6 c2 v3
     refine xs (xr ?_)
     refine lv rfl rfl (vr rfl rfl rfl) ?_
     refine ln (qn (xs ?_))
     refine xc (b := decide (c2 < (b5 : Int))) rfl (fun j9 => ?_) (fun j9 => ?_)
     ·replace H := H.1 j9
      refine xi (qn (xs (xb (xs (xr ?_)))))
      obtain ⟨b6, b7, f5, u7, u1, Hq⟩ := H
      subst f5
      have H := Hq; clear Hq
      refine lv rfl rfl (v := (ptr b6 (b7 + (Int.toNat c2) * 7))) (vi TyTG.el32 rfl rfl u7 u1) ?_
      obtain ⟨b4, b3, c1, a8, a1, a5, a7, x9, v4, y2, w2, u9, u0, o8, H⟩ := H
      refine lv rfl rfl (vL (vs := [(.int .i64 b4), (.int .i64 b3), (.int .i64 c1), (.int .i64 a8), (.int .u64 a1), (.string a5), (.string a7)]) TyTG.agg45 TyTG.sz45 rfl (cc (Ext.cell f1 x9) (cc (Ext.cell f1 v4) (cc (Ext.cell f1 y2) (cc (Ext.cell f1 w2) (cc (Ext.cell f1 u9) (cc (Ext.cell f1 u0) (cc (Ext.cell f1 o8) cn)))))))) ?_
      refine lp rfl rfl (hn_alloc TyTG.z45 ?_)
      intro x t4 i3 l4
      have k9 := ext_pushed_f9_sh l4
      have q9 := Nat.ne_of_lt (Nat.lt_of_lt_of_eq (row_lt f4) (Eq.symm i3))
      have o4 : Array.size h3 ≤ x := Nat.le_trans (Ext.size f1) (Nat.le_of_eq (Eq.symm i3))
      have k3 : t4[x]? = some (.cells #[(.int .i64 0), (.int .i64 0), (.int .i64 0), (.int .i64 0), (.int .u64 0), (.string ByteArray.empty), (.string ByteArray.empty)] 45 (0, 0)) := by rw [l4]; exact push_new i3
      replace f4 := Ext.row k9 f4
      have s9 := Ext.trans f1 k9
      refine lp rfl rfl (hn_stores (vs := [(.int .i64 b4), (.int .i64 b3), (.int .i64 c1), (.int .i64 a8), (.int .u64 a1), (.string a5), (.string a7)]) rfl rfl TyTG.sz45 rfl (HWs_row k3 (by simp)) ?_)
      intro h15 g6
      replace f4 := row_hsets_ne g6 q9 f4
      have j2 : h15[x]? = some (.cells #[(.int .i64 b4), (.int .i64 b3), (.int .i64 c1), (.int .i64 a8), (.int .u64 a1), (.string a5), (.string a7)] 45 (0, 0)) := row_hsets_eq g6 k3 (by simp [sets])
      have i0 := ext_hsets g6 s9 o4
      refine ln (qn (xr ?_))
      refine lv rfl rfl (vm rfl) (lv rfl rfl (vm rfl) ?_)
      rcases bool_or (c6) with c9 | c9
      ·replace H := H.1 c9
       refine lo (wanted_n rfl rfl rfl c9) rfl ?_
       refine lo (wanted_n rfl rfl rfl c9) rfl ?_
       refine lo (wanted_n rfl rfl rfl c9) rfl ?_
       refine lo (wanted_n rfl rfl rfl c9) rfl ?_
       refine lo (wanted_n rfl rfl rfl c9) rfl ?_
       refine lo (wanted_n rfl rfl rfl c9) rfl ?_
       refine lo (wanted_n rfl rfl rfl c9) rfl ?_
       refine lo (wanted_n rfl rfl rfl c9) rfl ?_
       refine lo (wanted_u rfl rfl rfl) rfl ?_
       refine lo (wanted_u rfl rfl rfl) rfl ?_
       refine lo (wanted_u rfl rfl rfl) rfl ?_
       refine lo (wanted_u rfl rfl rfl) rfl ?_
       refine lo (wanted_u rfl rfl rfl) rfl ?_
       refine lo (wanted_u rfl rfl rfl) rfl ?_
       refine lo (wanted_u rfl rfl rfl) rfl ?_
       refine lo (wanted_n rfl rfl rfl c9) rfl ?_
       refine lv rfl rfl (v := (.bool true)) (hv_pick_t rfl c9 rfl) (lv rfl rfl (va rfl) ?_)
       refine ln (bn (qn (xr ?_)))
       refine lv rfl rfl (vr rfl rfl rfl) (lv rfl rfl (vm rfl) ?_)
       refine ln (qn ?_)
       exact ⟨(true, IntKind.i64.wrap (c2 + 1)), ⟨⟨H.1, i0, f4, trivial⟩, H.2⟩, (hc rfl (hc rfl (hc rfl (hc rfl (hc rfl (hc rfl (hc rfl (hc rfl (hc rfl (hc rfl (hc rfl (hc rfl (hc rfl hn)))))))))))))⟩
      ·replace H := H.2 c9
       refine ly (wanted_y rfl rfl rfl c9) rfl (HStep.of_val (v := (ptr x 3)) (vf TyTG.fld45_3 (b := x) (o := 0) rfl) ?_)
       refine ly (wanted_y rfl rfl rfl c9) rfl (HStep.of_val (v := (ptr x 5)) (vf TyTG.fld43_2 (b := x) (o := 3) rfl) ?_)
       refine ly (wanted_y rfl rfl rfl c9) rfl (HStep.of_val (v := (.string a5)) (vl TyTG.agg9 rfl (rc j2 rfl)) ?_)
       refine ly (wanted_y rfl rfl rfl c9) rfl (HStep.of_val (v := (ptr f 3)) (vf TyTG.fld45_3 (b := f) (o := 0) rfl) ?_)
       refine ly (wanted_y rfl rfl rfl c9) rfl (HStep.of_val (v := (ptr f 5)) (vf TyTG.fld43_2 (b := f) (o := 3) rfl) ?_)
       refine ly (wanted_y rfl rfl rfl c9) rfl (HStep.of_val (v := (.string a2)) (vl TyTG.agg9 rfl (rc f4 rfl)) ?_)
       refine ly (wanted_y rfl rfl rfl c9) rfl (HStep.of_val (v := (.bool (decide (a5 = a2)))) (hv_str rfl rfl rfl) ?_)
       refine ly (wanted_y rfl rfl rfl c9) rfl (HStep.of_val (v := (.bool (decide (a5 = a2)))) (vm rfl) ?_)
       rcases bool_or (decide (a5 = a2)) with d5 | d5
       ·replace H := H.1 d5
        refine ly (wanted_y rfl rfl rfl d5) rfl (HStep.of_val (v := (ptr x 3)) (vf TyTG.fld45_3 (b := x) (o := 0) rfl) ?_)
        refine ly (wanted_y rfl rfl rfl d5) rfl (HStep.of_val (v := (ptr x 4)) (vf TyTG.fld43_1 (b := x) (o := 3) rfl) ?_)
        refine ly (wanted_y rfl rfl rfl d5) rfl (HStep.of_val (v := (.int .u64 a1)) (vl TyTG.agg29 rfl (rc j2 rfl)) ?_)
        refine ly (wanted_y rfl rfl rfl d5) rfl (HStep.of_val (v := (ptr f 3)) (vf TyTG.fld45_3 (b := f) (o := 0) rfl) ?_)
        refine ly (wanted_y rfl rfl rfl d5) rfl (HStep.of_val (v := (ptr f 4)) (vf TyTG.fld43_1 (b := f) (o := 3) rfl) ?_)
        refine ly (wanted_y rfl rfl rfl d5) rfl (HStep.of_val (v := (.int .u64 a0)) (vl TyTG.agg29 rfl (rc f4 rfl)) ?_)
        refine ly (wanted_y rfl rfl rfl d5) rfl (HStep.of_val (v := (.bool (decide (a1 ≥ a0)))) (vr rfl rfl rfl) ?_)
        refine ly (wanted_y rfl rfl rfl c9) rfl (HStep.of_val (v := (.bool (decide (a1 ≥ a0)))) (hv_pick_t rfl d5 rfl) ?_)
        refine lv rfl rfl (v := (.bool (decide (a1 ≥ a0)))) (hv_pick_f rfl c9 rfl) (lv rfl rfl (va rfl) ?_)
        refine ln (bn (qn (xr ?_)))
        refine lv rfl rfl (vr rfl rfl rfl) (lv rfl rfl (vm rfl) ?_)
        refine ln (qn ?_)
        exact ⟨(decide (a1 ≥ a0), IntKind.i64.wrap (c2 + 1)), ⟨⟨H.1, i0, f4, trivial⟩, H.2⟩, (hc rfl (hc rfl (hc rfl (hc rfl (hc rfl (hc rfl (hc rfl (hc rfl (hc rfl (hc rfl (hc rfl (hc rfl (hc rfl hn)))))))))))))⟩
       ·replace H := H.2 d5
        refine lo (wanted_n rfl rfl rfl d5) rfl ?_
        refine lo (wanted_n rfl rfl rfl d5) rfl ?_
        refine lo (wanted_n rfl rfl rfl d5) rfl ?_
        refine lo (wanted_n rfl rfl rfl d5) rfl ?_
        refine lo (wanted_n rfl rfl rfl d5) rfl ?_
        refine lo (wanted_n rfl rfl rfl d5) rfl ?_
        refine lo (wanted_n rfl rfl rfl d5) rfl ?_
        refine ly (wanted_y rfl rfl rfl c9) rfl (HStep.of_val (v := (.bool false)) (hv_pick_f rfl d5 rfl) ?_)
        refine lv rfl rfl (v := (.bool false)) (hv_pick_f rfl c9 rfl) (lv rfl rfl (va rfl) ?_)
        refine ln (bn (qn (xr ?_)))
        refine lv rfl rfl (vr rfl rfl rfl) (lv rfl rfl (vm rfl) ?_)
        refine ln (qn ?_)
        exact ⟨(false, IntKind.i64.wrap (c2 + 1)), ⟨⟨H.1, i0, f4, trivial⟩, H.2⟩, (hc rfl (hc rfl (hc rfl (hc rfl (hc rfl (hc rfl (hc rfl (hc rfl (hc rfl (hc rfl (hc rfl (hc rfl (hc rfl hn)))))))))))))⟩
     ·replace H := H.2 j9
      refine xe (qe (qe (bh (qn (xs (xr ?_))))))
      refine lv rfl rfl (vm rfl) (lv rfl rfl (v := (.bool (!c6))) (hv_not (b := c6) rfl) ?_)
      refine ln (qn ?_)
      refine xc (b := !c6) rfl (fun i1 => ?_) (fun i1 => ?_)
      ·replace H := H.1 i1
       refine xs (xr ?_)
       refine lv rfl rfl (va rfl) ?_
       refine ln (qn (xt (br (qr (qr (br (br (qr (qr (br (qr ?_)))))))))))
       replace H := H j1 f1
       exact endQ_ret _ (res_one Tryd.results9 (rv_tmp rfl)) H
      ·replace H := H.2 i1
       refine xi (bn (qn (xr ?_)))
       refine lv rfl rfl (vr rfl rfl rfl) (lv rfl rfl (vm rfl) ?_)
       refine ln (qn ?_)
       exact ⟨IntKind.i64.wrap (c7 + 1), ⟨⟨H.1, f1, trivial⟩, H.2⟩, (hc rfl (hc rfl (hc rfl (hc rfl (hc rfl (hc rfl (hc rfl (hc rfl hn))))))))⟩
    ·replace H := H.2 j7
     refine xe (qe (qe (bh (bn (qn (xr ?_))))))
     refine lv rfl rfl (vr rfl rfl rfl) (lv rfl rfl (vm rfl) ?_)
     refine ln (qn ?_)
     exact ⟨IntKind.i64.wrap (e1 + 1), ⟨⟨H.1, f3, trivial⟩, H.2⟩, (hc rfl (hc rfl (hc rfl (hc rfl (hc rfl hn)))))⟩
   ·replace H := H.2 k2
    refine xe (qe (qe (bh (qn (xs (xs (xr ?_)))))))
    refine lv rfl rfl (vm rfl) (lv rfl rfl (v := (.int .i64 (b5 : Int))) (hv_len (n := b5) TyTG.u32 rfl) (lv rfl rfl (vm rfl) ?_))
    refine ln (qn (xb ?_))
    obtain ⟨g4, g1, p8, o5⟩ := H
    refine xl (σ := Int) (fun s => [(0, (.slice l d1 e5)), (91, (.slice f0 b5 d9)), (92, (.int .i64 (b5 : Int))), (93, (.int .i64 s))]) (fun s h' => g4 s ∧ Ext h3 h' ∧ True) (fun s _ => g1 s) 0 ⟨p8, e9, trivial⟩ (hc rfl (hc rfl (hc rfl (hc rfl hn)))) ?_
    rintro c7 ρ j4 ⟨q6, e7, -⟩
    have H := o5 c7 q6
    refine xs (xr ?_)
    refine lv rfl rfl (vr rfl rfl rfl) ?_
    refine ln (qn (xs ?_))
    refine xc (b := decide (c7 < (b5 : Int))) rfl (fun i7 => ?_) (fun i7 => ?_)
    ·replace H := H.1 i7
     refine xi (qn (xs (xb (xs (xr ?_)))))
     obtain ⟨b6, b7, f5, p2, s1, Hq⟩ := H
     subst f5
     have H := Hq; clear Hq
     refine lv rfl rfl (v := (ptr b6 (b7 + (Int.toNat c7) * 7))) (vi TyTG.el32 rfl rfl p2 s1) ?_
     obtain ⟨b0, a9, c0, a4, a0, a2, a3, r5, o6, q4, p9, o0, o1, p7, H⟩ := H
     refine lv rfl rfl (vL (vs := [(.int .i64 b0), (.int .i64 a9), (.int .i64 c0), (.int .i64 a4), (.int .u64 a0), (.string a2), (.string a3)]) TyTG.agg45 TyTG.sz45 rfl (cc (Ext.cell e7 r5) (cc (Ext.cell e7 o6) (cc (Ext.cell e7 q4) (cc (Ext.cell e7 p9) (cc (Ext.cell e7 o0) (cc (Ext.cell e7 o1) (cc (Ext.cell e7 p7) cn)))))))) ?_
     refine lp rfl rfl (hn_alloc TyTG.z45 ?_)
     intro x t7 k7 l7
     have r9 := ext_pushed_f9_sh l7
     have t0 : Array.size h3 ≤ x := Nat.le_trans (Ext.size e7) (Nat.le_of_eq (Eq.symm k7))
     have l9 : t7[x]? = some (.cells #[(.int .i64 0), (.int .i64 0), (.int .i64 0), (.int .i64 0), (.int .u64 0), (.string ByteArray.empty), (.string ByteArray.empty)] 45 (0, 0)) := by rw [l7]; exact push_new k7
     have t2 := Ext.trans e7 r9
     refine lp rfl rfl (hn_stores (vs := [(.int .i64 b0), (.int .i64 a9), (.int .i64 c0), (.int .i64 a4), (.int .u64 a0), (.string a2), (.string a3)]) rfl rfl TyTG.sz45 rfl (HWs_row l9 (by simp)) ?_)
     intro z9 k4
     have m6 : z9[x]? = some (.cells #[(.int .i64 b0), (.int .i64 a9), (.int .i64 c0), (.int .i64 a4), (.int .u64 a0), (.string a2), (.string a3)] 45 (0, 0)) := row_hsets_eq k4 l9 (by simp [sets])
     have q2 := ext_hsets k4 t2 t0
     refine ln (qn (xs (xr ?_)))
     refine lv rfl rfl (va rfl) ?_
     refine ln (qn (xs (xs (xr ?_))))
     refine lv rfl rfl (vm rfl) (lv rfl rfl (v := (.int .i64 (d1 : Int))) (hv_len (n := d1) TyTG.u65 rfl) (lv rfl rfl (vm rfl) ?_))
     refine ln (qn (xb ?_))
     obtain ⟨g3, g2, r3, r7⟩ := H
     refine xl (σ := Bool × Int) (fun s => [(0, (.slice l d1 e5)), (14, (ptr x 0)), (15, (.bool s.1)), (91, (.slice (some ⟨b6, b7, none⟩) b5 d9)), (92, (.int .i64 (b5 : Int))), (93, (.int .i64 c7)), (97, (.slice l d1 e5)), (98, (.int .i64 (d1 : Int))), (99, (.int .i64 s.2))]) (fun s h' => g3 s.1 s.2 ∧ Ext h3 h' ∧ h'[x]? = some (.cells #[(.int .i64 b0), (.int .i64 a9), (.int .i64 c0), (.int .i64 a4), (.int .u64 a0), (.string a2), (.string a3)] 45 (0, 0)) ∧ True) (fun s _ => g2 s.1 s.2) (false, 0) ⟨r3, q2, m6, trivial⟩ (hc rfl (hc rfl (hc rfl (hc rfl (hc rfl (hc rfl (hc rfl (hc rfl (hc rfl hn))))))))) ?_
     rintro ⟨c6, c2⟩ ρ j3 ⟨s7, e3, f8, -⟩
     have H := r7 c6 c2 s7
     refine xs (xr ?_)
     refine lv rfl rfl (vr rfl rfl rfl) ?_
     refine ln (qn (xs ?_))
     refine xc (b := decide (c2 < (d1 : Int))) rfl (fun i2 => ?_) (fun i2 => ?_)
     ·replace H := H.1 i2
      refine xi (qn (xs (xb (xs (xr ?_)))))
      obtain ⟨d8, d7, f5, o7, r4, Hq⟩ := H
      subst f5
      have H := Hq; clear Hq
      refine lv rfl rfl (v := (ptr d8 (d7 + (Int.toNat c2) * 9))) (vi TyTG.el65 rfl rfl o7 r4) ?_
      obtain ⟨c8, e4, c5, b8, c3, c4, a6, b9, d3, d0, d4, p3, s6, p0, q1, p5, n7, o2, n8, p4, H⟩ := H
      refine lv rfl rfl (vL (vs := [(.int .i64 c8), (.bool e4), (.int .u64 c5), (.int .u64 b8), (.int .i64 c3), (.slice c4 a6 b9), (.int .i64 d3), (.int .i64 d0), (.bool d4)]) TyTG.agg36 TyTG.sz36 rfl (cc (Ext.cell e3 p3) (cc (Ext.cell e3 s6) (cc (Ext.cell e3 p0) (cc (Ext.cell e3 q1) (cc (Ext.cell e3 p5) (cc (Ext.cell e3 n7) (cc (Ext.cell e3 o2) (cc (Ext.cell e3 n8) (cc (Ext.cell e3 p4) cn)))))))))) ?_
      refine lp rfl rfl (hn_alloc TyTG.z36 ?_)
      intro sv t6 i4 l5
      have k5 := ext_pushed_f9_sh l5
      have s5 := Nat.ne_of_lt (Nat.lt_of_lt_of_eq (row_lt f8) (Eq.symm i4))
      have s0 : Array.size h3 ≤ sv := Nat.le_trans (Ext.size e3) (Nat.le_of_eq (Eq.symm i4))
      have l3 : t6[sv]? = some (.cells #[(.int .i64 0), (.bool false), (.int .u64 0), (.int .u64 0), (.int .i64 0), (.slice none 0 0), (.int .i64 0), (.int .i64 0), (.bool false)] 36 (0, 0)) := by rw [l5]; exact push_new i4
      replace f8 := Ext.row k5 f8
      have s2 := Ext.trans e3 k5
      refine lp rfl rfl (hn_stores (vs := [(.int .i64 c8), (.bool e4), (.int .u64 c5), (.int .u64 b8), (.int .i64 c3), (.slice c4 a6 b9), (.int .i64 d3), (.int .i64 d0), (.bool d4)]) rfl rfl TyTG.sz36 rfl (HWs_row l3 (by simp)) ?_)
      intro h21 g9
      replace f8 := row_hsets_ne g9 s5 f8
      have m4 : h21[sv]? = some (.cells #[(.int .i64 c8), (.bool e4), (.int .u64 c5), (.int .u64 b8), (.int .i64 c3), (.slice c4 a6 b9), (.int .i64 d3), (.int .i64 d0), (.bool d4)] 36 (0, 0)) := row_hsets_eq g9 l3 (by simp [sets])
      have p1 := ext_hsets g9 s2 s0
      refine ln (qn (xs (xr ?_)))
      refine lv rfl rfl (v := (ptr sv 5)) (vf TyTG.fld36_3 (b := sv) (o := 0) rfl) (lv rfl rfl (vl TyTG.agg32 rfl (rc m4 rfl)) (lv rfl rfl (v := (.int .i64 (a6 : Int))) (hv_len (n := a6) TyTG.u32 rfl) (lv rfl rfl (vm rfl) ?_)))
      refine ln (qn (xb ?_))
      obtain ⟨g0, f7, r0, r6⟩ := H
      refine xl (σ := Bool × Int) (fun s => [(0, (.slice (some ⟨d8, d7, none⟩) d1 e5)), (14, (ptr x 0)), (15, (.bool s.1)), (91, (.slice (some ⟨b6, b7, none⟩) b5 d9)), (92, (.int .i64 (b5 : Int))), (93, (.int .i64 c7)), (97, (.slice (some ⟨d8, d7, none⟩) d1 e5)), (98, (.int .i64 (d1 : Int))), (99, (.int .i64 c2)), (104, (.slice c4 a6 b9)), (105, (.int .i64 (a6 : Int))), (106, (.int .i64 s.2))]) (fun s h' => g0 s.1 s.2 ∧ Ext h3 h' ∧ h'[x]? = some (.cells #[(.int .i64 b0), (.int .i64 a9), (.int .i64 c0), (.int .i64 a4), (.int .u64 a0), (.string a2), (.string a3)] 45 (0, 0)) ∧ True) (fun s _ => f7 s.1 s.2) (c6, 0) ⟨r0, p1, f8, trivial⟩ (hc rfl (hc rfl (hc rfl (hc rfl (hc rfl (hc rfl (hc rfl (hc rfl (hc rfl (hc rfl (hc rfl (hc rfl hn)))))))))))) ?_
      rintro ⟨d6, e0⟩ ρ h22 ⟨r2, e8, e2, -⟩
      have H := r6 d6 e0 r2
      refine xs (xr ?_)
      refine lv rfl rfl (vr rfl rfl rfl) ?_
      refine ln (qn (xs ?_))
      refine xc (b := decide (e0 < (a6 : Int))) rfl (fun i5 => ?_) (fun i5 => ?_)
      ·replace H := H.1 i5
       refine xi (qn (xs (xb (xs (xr ?_)))))
       obtain ⟨b2, b1, f5, q5, r8, Hq⟩ := H
       subst f5
       have H := Hq; clear Hq
       refine lv rfl rfl (v := (ptr b2 (b1 + (Int.toNat e0) * 7))) (vi TyTG.el32 rfl rfl q5 r8) ?_
       obtain ⟨b4, b3, c1, a8, a1, a5, a7, q0, n9, s3, q7, t1, o9, q8, H⟩ := H
       refine lv rfl rfl (vL (vs := [(.int .i64 b4), (.int .i64 b3), (.int .i64 c1), (.int .i64 a8), (.int .u64 a1), (.string a5), (.string a7)]) TyTG.agg45 TyTG.sz45 rfl (cc (Ext.cell e8 q0) (cc (Ext.cell e8 n9) (cc (Ext.cell e8 s3) (cc (Ext.cell e8 q7) (cc (Ext.cell e8 t1) (cc (Ext.cell e8 o9) (cc (Ext.cell e8 q8) cn)))))))) ?_
       refine lp rfl rfl (hn_alloc TyTG.z45 ?_)
       intro f t5 g7 l1
       have l0 := ext_pushed_f9_sh l1
       have s8 := Nat.ne_of_lt (Nat.lt_of_lt_of_eq (row_lt e2) (Eq.symm g7))
       have r1 : Array.size h3 ≤ f := Nat.le_trans (Ext.size e8) (Nat.le_of_eq (Eq.symm g7))
       have l2 : t5[f]? = some (.cells #[(.int .i64 0), (.int .i64 0), (.int .i64 0), (.int .i64 0), (.int .u64 0), (.string ByteArray.empty), (.string ByteArray.empty)] 45 (0, 0)) := by rw [l1]; exact push_new g7
       replace e2 := Ext.row l0 e2
       have o3 := Ext.trans e8 l0
       refine lp rfl rfl (hn_stores (vs := [(.int .i64 b4), (.int .i64 b3), (.int .i64 c1), (.int .i64 a8), (.int .u64 a1), (.string a5), (.string a7)]) rfl rfl TyTG.sz45 rfl (HWs_row l2 (by simp)) ?_)
       intro h24 i8
       replace e2 := row_hsets_ne i8 s8 e2
       have f2 : h24[f]? = some (.cells #[(.int .i64 b4), (.int .i64 b3), (.int .i64 c1), (.int .i64 a8), (.int .u64 a1), (.string a5), (.string a7)] 45 (0, 0)) := row_hsets_eq i8 l2 (by simp [sets])
       have m0 := ext_hsets i8 o3 r1
       refine ln (qn (xr ?_))
       refine lv rfl rfl (vm rfl) (lv rfl rfl (vm rfl) ?_)
       rcases bool_or (d6) with e6 | e6
       ·replace H := H.1 e6
        refine lo (wanted_n rfl rfl rfl e6) rfl ?_
        refine lo (wanted_n rfl rfl rfl e6) rfl ?_
        refine lo (wanted_n rfl rfl rfl e6) rfl ?_
        refine lv rfl rfl (v := (.bool true)) (hv_pick_t rfl e6 rfl) (lv rfl rfl (va rfl) ?_)
        refine ln (bn (qn (xr ?_)))
        refine lv rfl rfl (vr rfl rfl rfl) (lv rfl rfl (vm rfl) ?_)
        refine ln (qn ?_)
        exact ⟨(true, IntKind.i64.wrap (e0 + 1)), ⟨⟨H.1, m0, e2, trivial⟩, H.2⟩, (hc rfl (hc rfl (hc rfl (hc rfl (hc rfl (hc rfl (hc rfl (hc rfl (hc rfl (hc rfl (hc rfl (hc rfl hn))))))))))))⟩
       ·replace H := H.2 e6
        refine ly (wanted_y rfl rfl rfl e6) rfl (HStep.of_val (v := (.agg #[(.int .i64 b4), (.int .i64 b3), (.int .i64 c1), (.int .i64 a8), (.int .u64 a1), (.string a5), (.string a7)])) (vL (vs := [(.int .i64 b4), (.int .i64 b3), (.int .i64 c1), (.int .i64 a8), (.int .u64 a1), (.string a5), (.string a7)]) TyTG.agg45 TyTG.sz45 rfl (cc (rc f2 rfl) (cc (rc f2 rfl) (cc (rc f2 rfl) (cc (rc f2 rfl) (cc (rc f2 rfl) (cc (rc f2 rfl) (cc (rc f2 rfl) cn)))))))) ?_)
        refine ly (wanted_y rfl rfl rfl e6) rfl (HStep.of_val (v := (.agg #[(.int .i64 b0), (.int .i64 a9), (.int .i64 c0), (.int .i64 a4), (.int .u64 a0), (.string a2), (.string a3)])) (vL (vs := [(.int .i64 b0), (.int .i64 a9), (.int .i64 c0), (.int .i64 a4), (.int .u64 a0), (.string a2), (.string a3)]) TyTG.agg45 TyTG.sz45 rfl (cc (rc e2 rfl) (cc (rc e2 rfl) (cc (rc e2 rfl) (cc (rc e2 rfl) (cc (rc e2 rfl) (cc (rc e2 rfl) (cc (rc e2 rfl) cn)))))))) ?_)
        refine ly (wanted_y rfl rfl rfl e6) rfl (HStep.of_val (v := (.bool ((b4 == b0 && (b3 == a9 && (c1 == c0 && ((a8 == a4 && (a1 == a0 && (a5 == a2 && (a7 == a3 && true)))) && true))))))) (hv_structEqD (xs := [(.int .i64 b4), (.int .i64 b3), (.int .i64 c1), (.int .i64 a8), (.int .u64 a1), (.string a5), (.string a7)]) (ys := [(.int .i64 b0), (.int .i64 a9), (.int .i64 c0), (.int .i64 a4), (.int .u64 a0), (.string a2), (.string a3)]) (b := (b4 == b0 && (b3 == a9 && (c1 == c0 && ((a8 == a4 && (a1 == a0 && (a5 == a2 && (a7 == a3 && true)))) && true))))) TyTG.gd45 rfl rfl (by kernel_rfl) rfl) ?_)
        refine lv rfl rfl (v := (.bool ((b4 == b0 && (b3 == a9 && (c1 == c0 && ((a8 == a4 && (a1 == a0 && (a5 == a2 && (a7 == a3 && true)))) && true))))))) (hv_pick_f rfl e6 rfl) (lv rfl rfl (va rfl) ?_)
        refine ln (bn (qn (xr ?_)))
        refine lv rfl rfl (vr rfl rfl rfl) (lv rfl rfl (vm rfl) ?_)
        refine ln (qn ?_)
        exact ⟨(((b4 == b0 && (b3 == a9 && (c1 == c0 && ((a8 == a4 && (a1 == a0 && (a5 == a2 && (a7 == a3 && true)))) && true))))), IntKind.i64.wrap (e0 + 1)), ⟨⟨H.1, m0, e2, trivial⟩, H.2⟩, (hc rfl (hc rfl (hc rfl (hc rfl (hc rfl (hc rfl (hc rfl (hc rfl (hc rfl (hc rfl (hc rfl (hc rfl hn))))))))))))⟩
      ·replace H := H.2 i5
       refine xe (qe (qe (bh (bn (qn (xr ?_))))))
       refine lv rfl rfl (vr rfl rfl rfl) (lv rfl rfl (vm rfl) ?_)
       refine ln (qn ?_)
       exact ⟨(d6, IntKind.i64.wrap (c2 + 1)), ⟨⟨H.1, e8, e2, trivial⟩, H.2⟩, (hc rfl (hc rfl (hc rfl (hc rfl (hc rfl (hc rfl (hc rfl (hc rfl (hc rfl hn)))))))))⟩
     ·replace H := H.2 i2
      refine xe (qe (qe (bh (qn (xs (xr ?_))))))
      refine lv rfl rfl (vm rfl) (lv rfl rfl (v := (.bool (!c6))) (hv_not (b := c6) rfl) ?_)
      refine ln (qn ?_)
      refine xc (b := !c6) rfl (fun g8 => ?_) (fun g8 => ?_)
      ·replace H := H.1 g8
       refine xs (xr ?_)
       refine lv rfl rfl (va rfl) ?_
       refine ln (qn (xt (br (qr (qr (br (qr ?_)))))))
       replace H := H j3 e3
       exact endQ_ret _ (res_one Tryd.results9 (rv_tmp rfl)) H
      ·replace H := H.2 g8
       refine xi (bn (qn (xr ?_)))
       refine lv rfl rfl (vr rfl rfl rfl) (lv rfl rfl (vm rfl) ?_)
       refine ln (qn ?_)
       exact ⟨IntKind.i64.wrap (c7 + 1), ⟨⟨H.1, e3, trivial⟩, H.2⟩, (hc rfl (hc rfl (hc rfl (hc rfl hn))))⟩
    ·replace H := H.2 i7
     refine xe (qe (qe (bh (qn (xs (xr ?_))))))
     refine lv rfl rfl (va rfl) ?_
     refine ln (qn (xt ?_))
     replace H := H j4 e7
     exact endQ_ret _ (res_one Tryd.results9 (rv_tmp rfl)) H
end Go.Proofs.YthjehlocmikchaaDoor
namespace Go.Proofs.YthjehlocmikchaaDoor
namespace Sc
open Go
theorem recs_le : ∀ {Ss : List Su} {i : Nat} {S : Su}, Ss[i]? = some S → S.recs.length ≤ allN Ss
 | T :: Ss, 0, S, h => by
  simp at h; subst h; unfold allN; simp
 | T :: Ss, i + 1, S, h => by
  have := recs_le (Ss := Ss) (i := i) (S := S) (by simpa using h)
  unfold allN at this ⊢
  simp; omega
section
variable {h : Heap} {a : Option Addr} {c : Nat} {K : List Sw} {Ss : List Su}
theorem Svs.get (s : Svs h a c K Ss) {i : Nat} (hi : i < K.length) : ∃ S ra rc, Ss[i]? = some S ∧ K[i]? = some (S.sw ra rc) ∧ Sl eFo h ra rc S.recs := by
 have hS : Ss[i]? = some (Ss[i]'(by rw [← s.len]; exact hi)) := List.getElem?_eq_getElem (by rw [← s.len]; exact hi)
 obtain ⟨ra, rc, e, p⟩ := s.recs_ i _ _ (List.getElem?_eq_getElem hi) hS
 exact ⟨_, ra, rc, hS, by rw [List.getElem?_eq_getElem hi, e], p⟩
set_option maxHeartbeats 3200000 in
theorem deep_c (s : Svs h a c K Ss) (hK : K.length ≤ 1048576) (hl : allN Ss ≤ 1048576) : HC Tryd.prog 25 #[.slice a K.length c] h fun v h' => Ext h h' ∧ ∃ a' c' K', v = .slice a' K.length c' ∧ K'.length = K.length ∧ Sus h.size h' a' c' K' Ss ∧ Own eSw.k tS h.size h' a' c' := by
 refine f25_sh _ _ _ _ _ fun nb h1 en e1 => ?_
 have x1 : Ext h h1 := by rw [e1]; exact Ext.push _ _
 have hrow : h1[nb]? = some (.cells (([] : List Sw).flatMap eSw.enc).toArray tS (0, 0)) := by rw [e1]; exact push_new en
 refine app_own (E := eSw) (h0 := h) (n := 0) (n2 := K.length) aS x1 (Sl.lit hrow) (Own.lit hrow (by omega)) rfl (s.sl.ext x1) rfl (by omega) fun a' c' h2 x2 _ s2 w2 _ => ⟨a', _, c', rfl, ?_⟩
 rw [List.nil_append] at s2
 refine ⟨fun v h3 => ∃ (k : Nat) (M : List Sw), v = k ∧ k ≤ K.length ∧ M.length = K.length ∧ Ext h h3 ∧ Sl eSw h3 a' c' M ∧ Own eSw.k tS h.size h3 a' c' ∧ (∀ i x S, i < k → M[i]? = some x → Ss[i]? = some S → ∃ ra rc, x = S.sw ra rc ∧ Sl eFo h3 ra rc S.recs ∧ Own eFo.k tF h.size h3 ra rc) ∧ ∀ i, k ≤ i → M[i]? = K[i]?, fun v _ => K.length - v.toNat, ⟨0, K, rfl, Nat.zero_le _, rfl, x2, s2, w2, fun i x S hi => by omega, fun i _ => rfl⟩, ?_⟩
 rintro _ h3 ⟨k, M, rfl, hk, hM, x3, s3, w3, hd, hr⟩
 rw [Nat.zero_add]
 refine ⟨fun e nb1 h4 en1 e4 => ?_, fun e => ?_⟩
 ·have hkl := lt_of_dec e
  have x34 : Ext h3 h4 := by rw [e4]; exact Ext.push _ _
  have z4 : h4.size = h3.size + 1 := by rw [e4]; simp
  have z3 := x3.size
  obtain ⟨S, ra, rc, hS, hKk, sr⟩ := (s.ext (x3.trans x34)).get hkl
  obtain ⟨lb, lo, el, dl⟩ := (s.ext (x3.trans x34)).sl.at hKk
  have hSl := recs_le hS
  have hrow4 : h4[nb1]? = some (.cells (([] : List Fo).flatMap eFo.enc).toArray tF (0, 0)) := by rw [e4]; exact push_new en1
  refine ⟨lb, lo, el, by omega, by omega, ra, S.recs.length, rc, dl.2.2.2.2.2.1, ?_⟩
  refine app_own (E := eFo) (h0 := h3) (n := 0) (n2 := S.recs.length) aF x34 (Sl.lit hrow4) (Own.lit hrow4 (by omega)) rfl sr rfl (by omega) fun ra' rc' h5 x5 _ s5 w5 _ => ⟨ra', _, rc', rfl, ?_⟩
  rw [List.nil_append] at s5
  rw [Nat.zero_add]
  obtain ⟨ab, ao, ea, _⟩ := (s3.ext x5).addr (by omega)
  subst ea
  have hMk : M[k]? = some (S.sw ra rc) := by rw [hr k (Nat.le_refl _), hKk]
  have hMg : M[k]'(by omega) = S.sw ra rc := (List.getElem?_eq_some_iff.1 hMk).2
  obtain ⟨u1, u2⟩ := (s3.ext x5).word (w3.ext x5) (i := k) (r := 5) (x' := S.sw ra' rc') (v := .slice ra' S.recs.length rc') (by omega) (by decide) (by rw [hMg]; rfl) (p := ao + k * 9 + 5) rfl
  refine ⟨ab, ao, rfl, by omega, by omega, u1, fun h6 e6 => ?_⟩
  obtain ⟨s6, w6, f6⟩ := u2 h6 e6
  have z5 := x5.size
  have z6 := f6.size
  have wab := w3.low (blkA_of rfl)
  rw [wadd k (by omega)]
  refine ⟨⟨k + 1, M.set k (S.sw ra' rc'), rfl, hkl, by simpa using hM, ?_, s6, w6, fun i x S' hi hx hS' => ?_, fun i hi => ?_⟩, by simp only [Int.toNat_natCast]; omega⟩
  ·exact (((x3.trans x5).fr _).trans f6 fun _ _ q => q).ext fun i hi q => by omega
  ·by_cases hik : i = k
   ·subst hik
    rw [hS] at hS'; cases hS'
    rw [List.getElem?_set_self (by omega)] at hx; cases hx
    have n5 : ∀ b, blkA ra' b → ¬ b = ab := fun b hb => by have := (w5.low hb).1; omega
    exact ⟨ra', rc', rfl, s5.fr f6 n5, (w5.fr f6 n5).down (by omega)⟩
   ·rw [List.getElem?_set_ne (Ne.symm hik)] at hx
    obtain ⟨p1, p2, p3, p4, p5⟩ := hd i x S' (by omega) hx hS'
    have n5 : ∀ b, blkA p1 b → ¬ b = ab := fun b hb q => own_ne2 p5 w3 (by decide) hb (q ▸ blkA_of rfl)
    exact ⟨p1, p2, p3, (p4.ext x5).fr f6 n5, (p5.ext x5).fr f6 n5⟩
  ·rw [List.getElem?_set_ne (by omega)]; exact hr i (by omega)
 ·have hkl : k = K.length := by have := ge_of_dec e; omega
  subst hkl
  exact ⟨x3, a', c', M, rfl, hM, ⟨s3, by rw [hM]; exact s.len, fun i x S h1 h2 => hd i x S (by have := (List.getElem?_eq_some_iff.1 h1).1; omega) h1 h2⟩, w3⟩
def foN : Fo := ⟨0, 0, -1, 0, 0, ByteArray.empty, ByteArray.empty⟩
set_option maxHeartbeats 6400000 in
theorem law_orders (t : Tab h) (s : Svs h a c K Ss) (hK : K.length ≤ 1048576) (hl : allN Ss ≤ 1048576) : HC Tryd.prog 8 #[.slice a K.length c] h fun v h' => v = .bool true ∧ Ext h h' := by
 refine f8_sh _ _ _ _ _ ((awake_c t).mono ?_)
 rintro _ h1 ⟨rfl, x1⟩
 refine ⟨x1, true, rfl, fun e => (by cases e), fun _ => (deep_c (s.ext x1) hK hl).mono ?_⟩
 rintro _ h2 ⟨x2, a', c', K', rfl, hKl, sD, wD⟩
 rw [← hKl]
 refine ⟨a', _, c', rfl, (order_m sD.sl (by omega)).mono ?_⟩
 rintro _ h3 ⟨x3, Lo, oa, oc, rfl, hO, so, wo⟩
 have hO1 := sD.ord hO
 refine ⟨oa, _, oc, rfl, (live_m (sD.svs.ext x3) (by omega) hl).mono ?_⟩
 rintro _ h4 ⟨x4, Lo', va, vc, hO2, rfl, sv, wv⟩
 obtain rfl := hO2.eq hO1
 have x02 := x1.trans x2
 have x03 := x02.trans x3
 have x04 := x03.trans x4
 refine ⟨va, _, vc, rfl, ?_⟩
 rw [hKl]
 refine (order_r (s.sl.ext x04) (by omega)).mono ?_
 rintro _ h5 ⟨x5, Lw, wa, wc, rfl, hOw, sw, ww⟩
 obtain rfl := (s.ord hOw).eq hO2
 have hln := live_len (recsIn Ss Lw)
 rw [recsIn_len hO2] at hln
 have hLl := hOw.len
 refine ⟨wa, _, wc, rfl, fun j hh => j = false ∧ Ext h5 hh, ⟨fun e => (by simp at e), fun _ => (live_r (s.ext (x04.trans x5)) hK hl).mono ?_⟩, ?_⟩
 ·rintro _ h7 ⟨x7, Lr, ra, rc, hOr, rfl, sr, wr⟩
  obtain rfl := hOr.eq hO2
  exact ⟨ra, _, rc, rfl, true, found_eq (sv.ext (x5.trans x7)) sr (by omega), fun e => (by cases e), fun _ => ⟨by simp, x7⟩⟩
 rintro _ h6 ⟨rfl, x6⟩
 refine ⟨fun e => (by cases e), fun _ => ?_⟩
 have z1 := x1.size
 have z2 := x2.size
 have z3 := x3.size
 have z4 := x4.size
 have z5 := x5.size
 have z6 := x6.size
 -- the survey that came in and its copy are the same
 have same : ∀ {hh : Heap} {k : Nat}, Svs hh a' c' K' Ss → Svs hh a c K Ss → k < K.length → ∃ (S : Su) (q1 : Option Addr) (q2 : Nat) (q3 : Option Addr) (q4 : Nat) (b1 o1 b2 o2 : Nat), a' = some ⟨b1, o1, none⟩ ∧ a = some ⟨b2, o2, none⟩ ∧ HCells hh b1 (o1 + k * 9) (S.cs q1 S.recs.length q2) ∧ HCells hh b2 (o2 + k * 9) (S.cs q3 S.recs.length q4) ∧
   HC Tryd.prog 14 #[.agg (S.cs q1 S.recs.length q2).toArray, .agg (S.cs q3 S.recs.length q4).toArray] hh fun v h' => v = .bool true ∧ Ext hh h' := fun s1 s2 hk => by
  obtain ⟨S, q1, q2, e1, e2, e3⟩ := s1.get (by rw [hKl]; exact hk)
  obtain ⟨S', q3, q4, e1', e2', e3'⟩ := s2.get hk
  rw [e1] at e1'; cases e1'
  obtain ⟨b1, o1, g1, d1⟩ := s1.sl.at e2
  obtain ⟨b2, o2, g2, d2⟩ := s2.sl.at e2'
  have := recs_le e1
  exact ⟨S, q1, q2, q3, q4, b1, o1, b2, o2, g1, g2, d1, d2, same_eq e3 e3' (by omega)⟩
 refine ⟨fun v hh => ∃ k : Nat, v = k ∧ k ≤ Lw.length ∧ Ext h5 hh, fun v _ => Lw.length - v.toNat, ⟨0, rfl, Nat.zero_le _, x6⟩, ?_⟩
 rintro _ h8 ⟨k, rfl, hk, x8⟩
 refine ⟨fun e => ?_, fun e => ?_⟩
 ·have hkl := lt_of_dec e
  obtain ⟨ob, oo, eo, d⟩ := (so.ext (x4.trans (x5.trans x8))).at (List.getElem?_eq_getElem hkl)
  obtain ⟨wb, wo', ew, d'⟩ := (sw.ext x8).at (List.getElem?_eq_getElem hkl)
  obtain ⟨S, q1, q2, q3, q4, b1, o1, b2, o2, g1, g2, d1, d2, hc⟩ := same (sD.svs.ext (x3.trans (x4.trans (x5.trans x8)))) (s.ext (x04.trans (x5.trans x8))) (k := k) (by omega)
  refine ⟨fun j hh => j = false ∧ Ext h8 hh, ⟨ob, oo, eo, by omega, by omega, _, d.1, wb, wo', ew, by omega, by omega, _, d'.1, fun e => (by simp at e), fun _ => ⟨b1, o1, g1, by omega, by omega, _, _, _, _, _, _, _, _, _, _, _, d1.1, d1.2.1, d1.2.2.1, d1.2.2.2.1, d1.2.2.2.2.1, d1.2.2.2.2.2.1, d1.2.2.2.2.2.2.1, d1.2.2.2.2.2.2.2.1, d1.2.2.2.2.2.2.2.2.1, b2, o2, g2, by omega, by omega, _, _, _, _, _, _, _, _, _, _, _, d2.1, d2.2.1, d2.2.2.1, d2.2.2.2.1, d2.2.2.2.2.1, d2.2.2.2.2.2.1, d2.2.2.2.2.2.2.1, d2.2.2.2.2.2.2.2.1, d2.2.2.2.2.2.2.2.2.1, hc.mono ?_⟩⟩, ?_⟩
  ·rintro _ h10 ⟨rfl, x10⟩
   exact ⟨true, rfl, rfl, x10⟩
  ·rintro _ h9 ⟨rfl, x9⟩
   refine ⟨fun e => (by cases e), fun _ => ?_⟩
   rw [wadd k (by omega)]
   exact ⟨⟨k + 1, rfl, hkl, x8.trans x9⟩, by simp only [Int.toNat_natCast]; omega⟩
 -- the told records are written over
 have x48 := x5.trans x8
 have z8 := x8.size
 generalize hV : liveL (recsIn Ss Lw) = V at *
 refine ⟨fun v h12 => ∃ k : Nat, v = k ∧ k ≤ V.length ∧ Sl eFo h12 va vc (List.replicate k foN ++ V.drop k) ∧ Own eFo.k tF h3.size h12 va vc ∧ Fr (blkA va) h8 h12, fun v _ => V.length - v.toNat, ⟨0, rfl, Nat.zero_le _, by simpa using sv.ext x48, wv.ext x48, Fr.refl _ _⟩, ?_⟩
 rintro _ h12 ⟨k, rfl, hk, s12, w12, f12⟩
 refine ⟨fun e => ?_, fun e => ?_⟩
 ·have hkl := lt_of_dec e
  have hlen : k < (List.replicate k foN ++ V.drop k).length := by simp; omega
  obtain ⟨rb, ro, rfl, _⟩ := s12.at (List.getElem?_eq_getElem hlen)
  obtain ⟨u1, u2⟩ := s12.words w12 hlen foN (p := ro + Int.toNat (k : Int) * 7) (by simp; rfl)
  refine ⟨rb, ro, rfl, by omega, by omega, u1, fun h13 e13 => ?_⟩
  obtain ⟨s13, w13, f13⟩ := u2 h13 e13
  rw [wadd k (by omega)]
  refine ⟨⟨k + 1, rfl, hkl, ?_, w13, f12.trans (f13.mono fun i _ q => by subst q; exact blkA_of rfl) fun _ _ q => q⟩, by simp only [Int.toNat_natCast]; omega⟩
  rw [List.set_append_right _ _ (by simp), List.length_replicate, Nat.sub_self, List.drop_eq_getElem_cons hkl, List.set_cons_zero] at s13
  rw [List.replicate_succ', List.append_assoc]; exact s13
 have x12 : Ext h3 h12 := (((x4.trans x48).fr _).trans f12 fun _ _ q => q).ext fun i hi q => by have := (wv.low q).1; omega
 refine ⟨fun v hh => ∃ k : Nat, v = k ∧ k ≤ K.length ∧ Ext h3 hh, fun v _ => K.length - v.toNat, ⟨0, rfl, Nat.zero_le _, x12⟩, ?_⟩
 rintro _ h13 ⟨k, rfl, hk, x13⟩
 refine ⟨fun e => ?_, fun e => ?_⟩
 ·have hkl := lt_of_dec e
  obtain ⟨S, q1, q2, q3, q4, b1, o1, b2, o2, g1, g2, d1, d2, hc⟩ := same (sD.svs.ext (x3.trans x13)) (s.ext (x03.trans x13)) hkl
  refine ⟨b1, o1, g1, by omega, by omega, _, _, _, _, _, _, _, _, _, _, _, d1.1, d1.2.1, d1.2.2.1, d1.2.2.2.1, d1.2.2.2.2.1, d1.2.2.2.2.2.1, d1.2.2.2.2.2.2.1, d1.2.2.2.2.2.2.2.1, d1.2.2.2.2.2.2.2.2.1, b2, o2, g2, by omega, by omega, _, _, _, _, _, _, _, _, _, _, _, d2.1, d2.2.1, d2.2.2.1, d2.2.2.2.1, d2.2.2.2.2.1, d2.2.2.2.2.2.1, d2.2.2.2.2.2.2.1, d2.2.2.2.2.2.2.2.1, d2.2.2.2.2.2.2.2.2.1, hc.mono ?_⟩
  rintro _ h14 ⟨rfl, x14⟩
  refine ⟨true, rfl, fun e => (by cases e), fun _ => ?_⟩
  rw [wadd k (by omega)]
  exact ⟨⟨k + 1, rfl, hkl, x13.trans x14⟩, by simp only [Int.toNat_natCast]; omega⟩
 rw [← hKl]
 refine (live_m (sD.svs.ext (x3.trans x13)) (by omega) hl).mono ?_
 rintro _ h15 ⟨x15, L1, pa, pc, hP, rfl, sp, wp⟩
 obtain rfl := hP.eq hO2
 refine ⟨pa, _, pc, rfl, ?_⟩
 rw [hKl]
 refine (live_r (s.ext (x03.trans (x13.trans x15))) hK hl).mono ?_
 rintro _ h16 ⟨x16, L2, qa, qc, hQ, rfl, sq, wq⟩
 obtain rfl := hQ.eq hO2
 rw [hV] at sp sq ⊢
 exact ⟨qa, _, qc, rfl, true, found_eq (sp.ext x16) sq (by omega), rfl, x03.trans (x13.trans (x15.trans x16))⟩
end
end Sc
end Go.Proofs.YthjehlocmikchaaDoor
