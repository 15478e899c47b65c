import Derived.Test.YthjehlocmikchaaDoorDvUB
import Derived.Test.YthjehlocmikchaaDoorDvSty
import Derived.Test.YthjehlocmikchaaDoorDvTCd
namespace Go.Proofs.YthjehlocmikchaaDoor
namespace Sc
open Go
structure Sw where
 rg : Int
 has : Bool
 ep : Int
 sq : Int
 hr : Int
 ra : Option Addr
 rn : Nat
 rc : Nat
 at_ : Int
 why : Int
 sealed_ : Bool
abbrev Sw.cs (x : Sw) : List Value := [.int .i64 x.rg, .bool x.has, .int .u64 x.ep, .int .u64 x.sq, .int .i64 x.hr, .slice x.ra x.rn x.rc, .int .i64 x.at_, .int .i64 x.why, .bool x.sealed_]
def eSw : Elt Sw := ⟨9, Sw.cs, fun _ => rfl, fun x v hv => by simp at hv; rcases hv with rfl | rfl | rfl | rfl | rfl | rfl | rfl | rfl | rfl <;> rfl⟩
instance : Inhabited Sw := ⟨⟨0, false, 0, 0, 0, none, 0, 0, 0, 0, false⟩⟩
def bfr (x y : Sw) : Bool := if x.has ≠ y.has then x.has else if x.sq ≠ y.sq then decide (x.sq < y.sq) else decide (x.rg < y.rg)
def ucmp (x y : Int) : Int := if x < y then -1 else if y < x then 1 else 0
def ordI (x y : Sw) : Int := if x.has ≠ y.has then (if x.has then -1 else 1) else if ucmp x.sq y.sq ≠ 0 then ucmp x.sq y.sq else ucmp x.rg y.rg
theorem ordI_bfr (x y : Sw) : ordI x y < 0 ↔ bfr x y = true := by
 unfold ordI bfr ucmp
 by_cases h1 : x.has ≠ y.has
 ·rw [if_pos h1, if_pos h1]; cases x.has <;> simp
 ·rw [if_neg h1, if_neg h1]
  by_cases h2 : x.sq < y.sq
  ·rw [if_pos h2, if_pos (by decide), if_pos (by omega)]; simp [h2]
  ·by_cases h3 : y.sq < x.sq
   ·rw [if_neg h2, if_pos h3, if_pos (by decide), if_pos (by omega)]; simp [h2]
   ·rw [if_neg h2, if_neg h3, if_neg (by decide), if_neg (show ¬ x.sq ≠ y.sq by omega)]
    simp only [decide_eq_true_eq]
    by_cases h4 : x.rg < y.rg
    ·rw [if_pos h4]; exact ⟨fun _ => h4, fun _ => by decide⟩
    ·rw [if_neg h4]
     refine ⟨fun q => ?_, fun q => absurd q h4⟩
     split at q <;> omega
theorem bfr_tr {x y z : Sw} (h1 : bfr x y = true) (h2 : bfr y z = true) : bfr x z = true := by
 unfold bfr at *
 by_cases a : x.has = y.has
 ·by_cases b : y.has = z.has
  ·have c : x.has = z.has := a.trans b
   rw [if_neg (not_not_intro a)] at h1
   rw [if_neg (not_not_intro b)] at h2
   rw [if_neg (not_not_intro c)]
   split at h1 <;> split at h2 <;> simp only [decide_eq_true_eq] at h1 h2 <;> (split <;> simp only [decide_eq_true_eq] <;> omega)
  ·rw [if_pos b] at h2
   rw [if_pos (by rw [a]; exact b), a]; exact h2
 ·rw [if_pos a] at h1
  have hy : y.has = false := by cases hy : y.has; rfl; rw [h1, hy] at a; exact absurd rfl a
  by_cases b : y.has = z.has
  ·rw [if_pos (by rw [← b]; exact a)]; exact h1
  ·rw [if_pos b, hy] at h2; cases h2
theorem bfr_asy {x y : Sw} (h1 : bfr x y = true) : bfr y x = false := by
 unfold bfr at *
 by_cases a : x.has = y.has
 ·rw [if_neg (not_not_intro a)] at h1
  rw [if_neg (not_not_intro a.symm)]
  split at h1 <;> simp only [decide_eq_true_eq] at h1 <;> (split <;> simp only [decide_eq_false_iff_not] <;> omega)
 ·rw [if_pos a] at h1
  rw [if_pos (Ne.symm a)]
  cases hy : y.has
  ·rfl
  ·rw [h1, hy] at a; exact absurd rfl a
theorem bfr_nt {x y z : Sw} (h1 : bfr x y = false) (h2 : bfr y z = false) : bfr x z = false := by
 unfold bfr at *
 by_cases a : x.has = y.has
 ·by_cases b : y.has = z.has
  ·have c : x.has = z.has := a.trans b
   rw [if_neg (not_not_intro a)] at h1
   rw [if_neg (not_not_intro b)] at h2
   rw [if_neg (not_not_intro c)]
   split at h1 <;> split at h2 <;> simp only [decide_eq_false_iff_not] at h1 h2 <;> (split <;> simp only [decide_eq_false_iff_not] <;> omega)
  ·rw [if_pos b] at h2
   rw [if_pos (by rw [a]; exact b), a]; exact h2
 ·rw [if_pos a] at h1
  have hy : y.has = true := by cases hy : y.has; rw [h1, hy] at a; exact absurd rfl a; rfl
  by_cases b : y.has = z.has
  ·rw [if_pos (by rw [← b]; exact a)]; exact h1
  ·rw [if_pos b, hy] at h2; cases h2
section
variable {h h' : Heap}
theorem before_r (x y : Sw) (h : Heap) : HC Tryd.prog 58 #[.agg x.cs.toArray, .agg y.cs.toArray] h fun v h' => v = .bool (bfr x y) ∧ Ext h h' := by
 refine f58_sh _ _ _ _ _ _ _ _ _ _ _ _ _ _ _ _ _ _ _ _ _ _ _ _ ⟨fun e h2 x2 => ⟨?_, x2⟩, fun e => ⟨fun e2 h2 x2 => ⟨?_, x2⟩, fun e2 h2 x2 => ⟨?_, x2⟩⟩⟩
 ·unfold bfr; rw [if_pos (by simpa using e)]
 ·unfold bfr; rw [if_neg (by simpa using e), if_pos (by simpa using e2)]
 ·unfold bfr; rw [if_neg (by simpa using e), if_neg (by simpa using e2)]
theorem cmpU_c (x y : Int) (h : Heap) : HC Tryd.prog 76 #[.int .u64 x, .int .u64 y] h fun v h' => v = .int .i64 (ucmp x y) ∧ h' = h := by
 unfold ucmp
 refine f76_sh _ _ _ _ (f90_sh _ _ _ ⟨_, rfl, f90_sh _ _ _ ⟨_, rfl, fun g => by simp at g, fun _ => ⟨fun g => by simp at g, fun _ => ⟨fun e => ⟨?_, rfl⟩, fun e => ⟨fun e2 => ⟨?_, rfl⟩, fun e2 => ⟨?_, rfl⟩⟩⟩⟩⟩⟩)
 ·rw [if_pos (of_decide_eq_true e)]
 ·rw [if_neg (of_decide_eq_false e), if_pos (of_decide_eq_true e2)]
 ·rw [if_neg (of_decide_eq_false e), if_neg (of_decide_eq_false e2)]
theorem cmpI_c (x y : Int) (h : Heap) : HC Tryd.prog 77 #[.int .i64 x, .int .i64 y] h fun v h' => v = .int .i64 (ucmp x y) ∧ h' = h := by
 unfold ucmp
 refine f77_sh _ _ _ _ (f91_sh _ _ _ ⟨_, rfl, f91_sh _ _ _ ⟨_, rfl, fun g => by simp at g, fun _ => ⟨fun g => by simp at g, fun _ => ⟨fun e => ⟨?_, rfl⟩, fun e => ⟨fun e2 => ⟨?_, rfl⟩, fun e2 => ⟨?_, rfl⟩⟩⟩⟩⟩⟩)
 ·rw [if_pos (of_decide_eq_true e)]
 ·rw [if_neg (of_decide_eq_false e), if_pos (of_decide_eq_true e2)]
 ·rw [if_neg (of_decide_eq_false e), if_neg (of_decide_eq_false e2)]
theorem order1_m (x y : Sw) (h : Heap) : HC Tryd.prog 54 #[.agg x.cs.toArray, .agg y.cs.toArray] h fun v h' => v = .int .i64 (ordI x y) ∧ Ext h h' := by
 refine f54_sh _ _ _ _ _ _ _ _ _ _ _ _ _ _ _ _ _ _ _ _ _ _ _ _ ⟨fun e => ⟨fun e2 h2 x2 => ⟨?_, x2⟩, fun e2 h2 x2 => ⟨?_, x2⟩⟩, fun e p q h2 _ _ _ _ x2 => ⟨_, fun h6 _ => cmpU_c _ _ h6, _, fun h5 _ => cmpI_c _ _ h5, fun nb h3 en e3 => ?_⟩⟩
 ·unfold ordI; rw [if_pos (by simpa using e), if_pos e2]
 ·unfold ordI; rw [if_pos (by simpa using e), if_neg (by rw [e2]; decide)]
 ·have x3 : Ext h2 h3 := by rw [e3]; exact Ext.push _ _
  have hrow : h3[nb]? = some (.cells #[.int .i64 (ucmp x.sq y.sq), .int .i64 (ucmp x.rg y.rg)] 3 (0, 0)) := by rw [e3]; exact push_new en
  have key : ∀ z, ordI x y = z → (Value.int .i64 z = .int .i64 (ordI x y) ∧ Ext h h3) := fun z hz => ⟨by rw [hz], x2.trans x3⟩
  have ho : ordI x y = if ucmp x.sq y.sq ≠ 0 then ucmp x.sq y.sq else ucmp x.rg y.rg := by unfold ordI; rw [if_neg (by simpa using e)]
  refine f75_sh _ _ _ _ _ ⟨fun v => v = 0 ∨ (v = 1 ∧ ucmp x.sq y.sq = 0) ∨ (v = 2 ∧ ucmp x.sq y.sq = 0 ∧ ucmp x.rg y.rg = 0), fun v => 3 - v.toNat, .inl rfl, ?_⟩
  rintro v hv
  refine ⟨fun g => ?_, fun g => ?_⟩
  ·have hlt := of_decide_eq_true g
   rcases hv with rfl | ⟨rfl, h1⟩ | ⟨rfl, _⟩
   ·refine ⟨nb, 0, rfl, by omega, hlt, _, by rw [hcell_row hrow]; rfl, fun g2 => ⟨_, rfl, key _ ?_⟩, fun g2 => ?_⟩
    ·rw [ho, if_pos (by simpa using g2)]
    ·rw [show IntKind.i64.wrap (0 + 1) = 1 from rfl]
     exact ⟨.inr (.inl ⟨rfl, by simpa using g2⟩), by decide⟩
   ·refine ⟨nb, 0, rfl, by omega, hlt, _, by rw [hcell_row hrow]; rfl, fun g2 => ⟨_, rfl, key _ ?_⟩, fun g2 => ?_⟩
    ·rw [ho, if_neg (by simpa using h1)]
    ·rw [show IntKind.i64.wrap (1 + 1) = 2 from rfl]
     exact ⟨.inr (.inr ⟨rfl, h1, by simpa using g2⟩), by decide⟩
   ·omega
  ·have hge := of_decide_eq_false g
   rcases hv with rfl | ⟨rfl, h1⟩ | ⟨rfl, h1, h2⟩
   ·omega
   ·omega
   ·refine ⟨_, rfl, key _ ?_⟩
    rw [ho, if_neg (by simpa using h1)]; exact h2
def ints (n : Nat) : List Int := (List.range n).map fun (i : Nat) => (i : Int)
theorem ints_len (n : Nat) : (ints n).length = n := by simp [ints]
theorem ints_succ (n : Nat) : ints (n + 1) = ints n ++ [(n : Int)] := by unfold ints; rw [List.range_succ, List.map_append]; rfl
theorem ints_mem {n : Nat} {x : Int} : x ∈ ints n ↔ 0 ≤ x ∧ x < n := by
 unfold ints
 rw [List.mem_map]
 constructor
 ·rintro ⟨i, hi, rfl⟩
  have := List.mem_range.1 hi; omega
 ·rintro ⟨h1, h2⟩
  exact ⟨x.toNat, List.mem_range.2 (by omega), by omega⟩
theorem ints_get {n p : Nat} (h : p < n) : (ints n)[p]? = some (p : Int) := by unfold ints; rw [List.getElem?_map, List.getElem?_range h]; rfl
theorem ints_get' {n p : Nat} {x : Int} (h : (ints n)[p]? = some x) : x = p ∧ p < n := by
 have hp := (List.getElem?_eq_some_iff.1 h).1
 rw [ints_len] at hp
 rw [ints_get hp] at h
 cases h; exact ⟨rfl, hp⟩
def atK (K : List Sw) (i : Int) : Sw := K.getD i.toNat default
def ltO (K : List Sw) (i j : Int) : Prop := bfr (atK K i) (atK K j) = true ∨ (bfr (atK K j) (atK K i) = false ∧ i < j)
structure IsOrd (K : List Sw) (L : List Int) : Prop where
 perm : L.Perm (ints K.length)
 up : L.Pairwise (ltO K)
theorem ltO_irr (K : List Sw) (i : Int) : ¬ ltO K i i := by
 rintro (h | h)
 ·have := bfr_asy h; rw [h] at this; cases this
 ·omega
theorem ltO_tr {K : List Sw} {i j k : Int} (h1 : ltO K i j) (h2 : ltO K j k) : ltO K i k := by
 have key : ∀ {x y z : Sw}, bfr y x = false → bfr y z = true → bfr x z = true := fun {x y z} a b => by
  cases c : bfr x z
  ·have := bfr_nt a c; rw [b] at this; cases this
  ·rfl
 have key2 : ∀ {x y z : Sw}, bfr x y = true → bfr z y = false → bfr x z = true := fun {x y z} a b => by
  cases c : bfr x z
  ·have := bfr_nt c b; rw [a] at this; cases this
  ·rfl
 rcases h1 with h1 | ⟨h1, l1⟩
 ·rcases h2 with h2 | ⟨h2, _⟩
  ·exact .inl (bfr_tr h1 h2)
  ·exact .inl (key2 h1 h2)
 ·rcases h2 with h2 | ⟨h2, l2⟩
  ·exact .inl (key h1 h2)
  ·exact .inr ⟨bfr_nt h2 h1, by omega⟩
theorem pw_eq {α : Type} {R : α → α → Prop} (irr : ∀ x, ¬ R x x) (tr : ∀ x y z, R x y → R y z → R x z) : ∀ {L M : List α}, L.Perm M → L.Pairwise R → M.Pairwise R → L = M
 | [], M, p, _, _ => (List.Perm.nil_eq p)
 | x :: L, M, p, hL, hM => by
  cases M with
  | nil => exact absurd (p.mem_iff.1 (by simp : x ∈ x :: L)) (by simp)
  | cons y M =>
   have hxy : x = y := by
    have h1 : x ∈ y :: M := p.mem_iff.1 (by simp)
    have h2 : y ∈ x :: L := p.mem_iff.2 (by simp)
    rcases List.mem_cons.1 h1 with e | h1
    ·exact e
    ·rcases List.mem_cons.1 h2 with e | h2
     ·exact e.symm
     ·exact absurd (tr _ _ _ ((List.pairwise_cons.1 hL).1 y h2) ((List.pairwise_cons.1 hM).1 x h1)) (irr x)
   subst hxy
   rw [pw_eq irr tr ((List.perm_cons x).1 p) (List.pairwise_cons.1 hL).2 (List.pairwise_cons.1 hM).2]
theorem IsOrd.eq {K : List Sw} {L M : List Int} (a : IsOrd K L) (b : IsOrd K M) : L = M := pw_eq (ltO_irr K) (fun _ _ _ => ltO_tr) (a.perm.trans b.perm.symm) a.up b.up
theorem IsOrd.mem {K : List Sw} {L : List Int} (a : IsOrd K L) {x : Int} : x ∈ L ↔ 0 ≤ x ∧ x < K.length := by rw [a.perm.mem_iff, ints_mem]
theorem IsOrd.len {K : List Sw} {L : List Int} (a : IsOrd K L) : L.length = K.length := by rw [a.perm.length_eq, ints_len]
theorem IsOrd.of {K K' : List Sw} {L : List Int} (a : IsOrd K L) (hl : K'.length = K.length) (hb : ∀ i j : Int, 0 ≤ i → i < K.length → 0 ≤ j → j < K.length → bfr (atK K' i) (atK K' j) = bfr (atK K i) (atK K j)) : IsOrd K' L := by
 refine ⟨by rw [hl]; exact a.perm, ?_⟩
 refine List.Pairwise.imp_of_mem ?_ a.up
 intro i j hi hj h
 obtain ⟨i1, i2⟩ := a.mem.1 hi
 obtain ⟨j1, j2⟩ := a.mem.1 hj
 unfold ltO at *
 rw [hb i j i1 i2 j1 j2, hb j i j1 j2 i1 i2]; exact h
abbrev tI : TypeId := 3
theorem aI : AppT Tryd.prog 71 tI Stb.eI.k 8 := ⟨by kernel_rfl, by kernel_rfl, by kernel_rfl, ⟨.int .i64 0, [.int .i64 0], by unfold zeroB; kernel_rfl, rfl, rfl⟩, by decide⟩
theorem atK_get {K : List Sw} {i : Int} (h0 : 0 ≤ i) (h1 : i < K.length) : K[i.toNat]? = some (atK K i) := by
 unfold atK; rw [List.getD_eq_getElem?_getD, List.getElem?_eq_getElem (by omega)]; rfl
theorem cbO : CallB Tryd.prog 53 := fun _ _ => Tryd.call53 _ _
variable {sa : Option Addr} {sc : Nat} {K : List Sw}
theorem less_m (s : Sl eSw h sa sc K) {lb : Nat} {T : TypeId} {fr : Nat × Nat} (r : h[lb]? = some (.cells #[.slice sa K.length sc] T fr)) {u v : Int} (hu : 0 ≤ u ∧ u < K.length) (hv : 0 ≤ v ∧ v < K.length) :
  HC Tryd.prog 53 #[.int .i64 u, .int .i64 v, ptr lb 0] h fun w h' => w = .int .i64 (ordI (atK K u) (atK K v)) ∧ Ext h h' := by
 obtain ⟨b, o, ea, d⟩ := s.at (atK_get hu.1 hu.2)
 obtain ⟨b', o', ea', d'⟩ := s.at (atK_get hv.1 hv.2)
 rw [ea] at ea'; cases ea'
 refine f53_sh _ _ _ _ _ _ ⟨_, _, _, by rw [hcell_row r]; rfl, b, o, ea, hu.1, hu.2, _, _, _, _, _, _, _, _, _, _, _, d.1, d.2.1, d.2.2.1, d.2.2.2.1, d.2.2.2.2.1, d.2.2.2.2.2.1, d.2.2.2.2.2.2.1, d.2.2.2.2.2.2.2.1, d.2.2.2.2.2.2.2.2.1, hv.1, hv.2, _, _, _, _, _, _, _, _, _, _, _, d'.1, d'.2.1, d'.2.2.1, d'.2.2.2.1, d'.2.2.2.2.1, d'.2.2.2.2.2.1, d'.2.2.2.2.2.2.1, d'.2.2.2.2.2.2.2.1, d'.2.2.2.2.2.2.2.2.1, (order1_m _ _ h).mono ?_⟩
 rintro _ h1 ⟨rfl, x1⟩
 exact ⟨_, rfl, rfl, x1⟩
theorem order_m (s : Sl eSw h sa sc K) (hl : K.length ≤ 17592186044415) : HC Tryd.prog 26 #[.slice sa K.length sc] h fun v h' => Ext h h' ∧ ∃ L a c, v = .slice a L.length c ∧ IsOrd K L ∧ Sl Stb.eI h' a c L ∧ Own Stb.eI.k tI h.size h' a c := by
 refine f26_sh _ _ _ _ _ fun lb h1 elb e1 => ?_
 have x1 : Ext h h1 := by rw [e1]; exact Ext.push _ _
 have r1 : h1[lb]? = some (.cells #[.slice sa K.length sc] 65 (0, 0)) := by rw [e1]; exact push_new elb
 have zs1 : h1.size = h.size + 1 := by rw [e1]; simp
 refine ⟨_, _, _, by rw [hcell_row r1]; rfl, fun a n c v h2 => ∃ k : Nat, v = k ∧ k ≤ K.length ∧ n = (ints k).length ∧ Ext h1 h2 ∧ Sl Stb.eI h2 a c (ints k) ∧ Own Stb.eI.k tI h1.size h2 a c, fun _ _ _ v _ => K.length - v.toNat, ⟨0, rfl, Nat.zero_le _, rfl, Ext.refl _, Sl.nil _ _, Own.nil _ _ _ _⟩, ?_⟩
 rintro a _ c _ h2 ⟨k, rfl, hk, rfl, x2, s2, w2⟩
 refine ⟨fun e nb h3 en e3 => ?_, fun e => ?_⟩
 ·have hlt := lt_of_dec e
  have hil := ints_len k
  refine app_one (x := (k : Int)) aI en e3 rfl x2 s2 w2 rfl (by omega) fun a' c' h4 x4 f4 s4 w4 _ => ⟨a', _, c', rfl, ?_⟩
  rw [wadd k (by omega)]
  rw [← ints_succ] at s4
  exact ⟨⟨k + 1, rfl, hlt, by rw [ints_len, ints_len], x4, s4, w4⟩, by simp only [Int.toNat_natCast]; omega⟩
 ·have hkn : k = K.length := by have := ge_of_dec e; omega
  subst hkn
  have sK2 := s.ext (x1.trans x2)
  have r2 := x2.row r1
  have hsa : ∀ b, blkA sa b → K.length = 0 ∨ b < h.size := fun b hb => by
   obtain ⟨x', ex, rfl⟩ := hb
   rcases Nat.eq_zero_or_pos K.length with h0 | h0
   ·exact .inl h0
   ·obtain ⟨b', o', e', hcs⟩ := s.addr h0
    rw [e'] at ex; cases ex
    exact .inr (hcell_lt ((hcs 0 _ (List.getElem?_eq_getElem h0)).get (j := 0) rfl))
  have na : ∀ {q}, q < h1.size → ¬ blkA a q := fun hq hb => by have := (w2.low hb).1; omega
  have C : Stb.Cmp Tryd.prog h2 a (.func (.func 53) #[] #[ptr lb 0]) (fun i j => ordI (atK K i) (atK K j)) (fun i => 0 ≤ i ∧ i < K.length) := by
   refine ⟨fun h3 f3 u v hu hv => .inl ⟨53, [], [ptr lb 0], rfl, cbO, ?_⟩, fun x y z _ _ _ h1 h2 => ?_, fun x y _ _ h1 h2 => ?_, fun x y z _ _ _ h1 h2 h3 => ?_⟩
   ·exact less_m (sK2.fr f3 fun b hb q => by
     rcases hsa b hb with h0 | h0
     ·omega
     ·exact na (by omega) q) (f3.row r2 (na (by omega))) hu hv
   ·simp only [ordI_bfr] at *; exact bfr_tr h1 h2
   ·simp only [ordI_bfr] at *
    rw [bfr_asy h1] at h2; cases h2
   ·simp only [ordI_bfr] at *
    have := bfr_nt (Bool.eq_false_iff.2 h1) (Bool.eq_false_iff.2 h2)
    rw [this] at h3; cases h3
  have hso := Stb.sort_stable C (L := ints K.length) s2 w2 (fun x hx => ints_mem.1 hx) (by rw [ints_len]; omega)
  refine hso.mono ?_
  rintro _ h5 ⟨rfl, f5, M, hp, hup, s5, w5⟩
  have hMl : (M.map Prod.fst).length = K.length := by rw [List.length_map, hp.length_eq, Stb.lbl_len, ints_len]
  have x5 : Ext h h5 := (((x1.trans x2).fr _).trans f5 fun _ _ q => q).ext fun b hb q => na (by omega) q
  refine ⟨rfl, x5, M.map Prod.fst, a, c, by rw [hMl, ints_len], ⟨?_, ?_⟩, s5, w5.down (by omega)⟩
  ·have := hp.map Prod.fst
   rw [Stb.lbl_fst] at this; exact this
  ·rw [List.pairwise_map]
   refine List.Pairwise.imp_of_mem ?_ hup
   intro x y hx hy hxy
   have hlab : ∀ z ∈ M, z.1 = (z.2 : Int) := fun z hz => by
    obtain ⟨p, hp1⟩ := List.mem_iff_getElem?.1 (hp.mem_iff.1 hz)
    obtain ⟨q1, q2⟩ := Stb.lbl_get hp1
    rw [(ints_get' q2).1, q1]
   rcases hxy.1 with q | ⟨q1, q2⟩
   ·exact .inl ((ordI_bfr _ _).1 q)
   ·refine .inr ⟨Bool.eq_false_iff.2 fun z => q1 ((ordI_bfr _ _).2 z), ?_⟩
    rw [hlab x hx, hlab y hy]; omega
set_option maxHeartbeats 1600000 in
theorem order_r (s : Sl eSw h sa sc K) (hl : K.length ≤ 17592186044415) : HC Tryd.prog 28 #[.slice sa K.length sc] h fun v h' => Ext h h' ∧ ∃ L a c, v = .slice a L.length c ∧ IsOrd K L ∧ Sl Stb.eI h' a c L ∧ Own Stb.eI.k tI h.size h' a c := by
 refine f28_sh _ _ _ _ _ ⟨fun a n c v h2 => ∃ (k : Nat) (L : List Int), v = k ∧ k ≤ K.length ∧ n = L.length ∧ L.Perm (ints k) ∧ L.Pairwise (ltO K) ∧ Ext h h2 ∧ Sl Stb.eI h2 a c L ∧ Own Stb.eI.k tI h.size h2 a c, fun _ _ _ v _ => K.length - v.toNat, ⟨0, [], rfl, Nat.zero_le _, rfl, List.Perm.refl _, List.Pairwise.nil, Ext.refl _, Sl.nil _ _, Own.nil _ _ _ _⟩, ?_⟩
 rintro a _ c _ h2 ⟨k, L, rfl, hk, rfl, hp, hup, x2, s2, w2⟩
 have hLl : L.length = k := by rw [hp.length_eq, ints_len]
 refine ⟨fun e nb h3 en e3 => ?_, fun e => ?_⟩
 rotate_left
 ·have hkn : k = K.length := by have := ge_of_dec e; omega
  subst hkn
  exact ⟨x2, L, a, c, rfl, ⟨hp, hup⟩, s2, w2⟩
 have hlt := lt_of_dec e
 refine app_one (x := (k : Int)) aI en e3 rfl x2 s2 w2 rfl (by omega) fun a' c' h4 x4 f4 s4 w4 _ => ⟨a', _, c', rfl, ?_⟩
 have hmem : ∀ x ∈ L, 0 ≤ x ∧ x < k := fun x hx => ints_mem.1 (hp.mem_iff.1 hx)
 have hsrt : Stb.Srt (ltO K) (L ++ [(k : Int)]) 0 L.length := fun p q x y _ h1 h2 hx hy => by
  rw [List.getElem?_append_left (by omega)] at hx hy
  obtain ⟨hp1, rfl⟩ := List.getElem?_eq_some_iff.1 hx
  obtain ⟨hq1, rfl⟩ := List.getElem?_eq_some_iff.1 hy
  exact List.pairwise_iff_getElem.1 hup p q hp1 hq1 h1
 have hnx : (((L.length + 1 : Nat) : Int)) - 1 = (L.length : Int) := by omega
 rw [w64 (x := ((L.length + 1 : Nat) : Int) - 1) (by omega) (by omega), hnx]
 refine ⟨fun j h5 => ∃ (j' : Nat) (X : List Int), j = j' ∧ j' ≤ L.length ∧ Ext h h5 ∧ Sl Stb.eI h5 a' c' X ∧ Own Stb.eI.k tI h.size h5 a' c' ∧ X.length = L.length + 1 ∧ X.Perm (L ++ [(k : Int)]) ∧ X[j']? = some (k : Int) ∧ Stb.Ins (ltO K) X 0 (L.length + 1) j' ∧ ∀ (p : Nat) y, p < L.length + 1 → p ≠ j' → X[p]? = some y → 0 ≤ y ∧ y < k, fun j _ => j.toNat,
  ⟨L.length, L ++ [(k : Int)], rfl, Nat.le_refl _, x4, s4, w4, by simp, List.Perm.refl _, by rw [List.getElem?_append_right (Nat.le_refl _), Nat.sub_self]; rfl, Stb.Ins.start hsrt, fun p y h1 h2 hy => by
   rw [List.getElem?_append_left (by omega)] at hy
   exact hmem y (List.mem_of_getElem? hy)⟩, ?_⟩
 rintro _ h5 ⟨j, X, rfl, hj, x5, s5, w5, lX, pX, hX, IX, mX⟩
 have fin : ∀ {h6 : Heap}, Ext h h6 → Sl Stb.eI h6 a' c' X → Own Stb.eI.k tI h.size h6 a' c' → (j = 0 ∨ ∃ y, X[j - 1]? = some y ∧ bfr (atK K k) (atK K y) = false) → ((∃ (k' : Nat) (L' : List Int), IntKind.i64.wrap ((k : Int) + 1) = k' ∧ k' ≤ K.length ∧ L.length + 1 = L'.length ∧ L'.Perm (ints k') ∧ L'.Pairwise (ltO K) ∧ Ext h h6 ∧ Sl Stb.eI h6 a' c' L' ∧ Own Stb.eI.k tI h.size h6 a' c') ∧ K.length - (IntKind.i64.wrap ((k : Int) + 1)).toNat < K.length - (k : Int).toNat) := fun {h6} x6 s6 w6 hc => by
  rw [wadd k (by omega)]
  refine ⟨⟨k + 1, X, rfl, hlt, lX.symm, ?_, ?_, x6, s6, w6⟩, by simp only [Int.toNat_natCast]; omega⟩
  ·rw [ints_succ]; exact pX.trans (hp.append_right _)
  ·have ord : Stb.Ord (ltO K) X := by
    refine ⟨ltO_irr K, fun _ _ _ => ltO_tr, fun p q x y hpq hx hy => ?_⟩
    have hne : x ≠ y := fun exy => by
     have hnd : X.Nodup := (pX.trans (hp.append_right _)).nodup_iff.2 (by
      rw [← ints_succ]; unfold ints
      rw [List.Nodup, List.pairwise_map]
      exact List.Pairwise.imp (fun h e => h (by omega)) (List.nodup_range (n := k + 1)))
     obtain ⟨hp1, rfl⟩ := List.getElem?_eq_some_iff.1 hx
     obtain ⟨hq1, rfl⟩ := List.getElem?_eq_some_iff.1 hy
     rcases Nat.lt_or_gt_of_ne hpq with g | g
     ·exact List.pairwise_iff_getElem.1 hnd p q hp1 hq1 g exy
     ·exact List.pairwise_iff_getElem.1 hnd q p hq1 hp1 g exy.symm
    unfold ltO
    cases h1 : bfr (atK K x) (atK K y)
    ·cases h2 : bfr (atK K y) (atK K x)
     ·rcases Int.lt_or_le x y with q | q
      ·exact .inl (.inr ⟨rfl, q⟩)
      ·exact .inr (.inr ⟨rfl, by omega⟩)
     ·exact .inr (.inl rfl)
    ·exact .inl (.inl rfl)
   have := Stb.Ins.done ord IX (by omega) (hc.imp (fun q => by omega) fun ⟨y, hy, hb⟩ => ⟨(k : Int), y, hX, hy, fun q => by
    rcases q with q | ⟨_, q⟩
    ·rw [hb] at q; cases q
    ·by_cases hj0 : j = 0
     ·subst hj0; rw [hX] at hy; cases hy; omega
     ·have := (mX (j - 1) y (by omega) (by omega) hy).2; omega⟩)
   rw [List.pairwise_iff_getElem]
   intro p q hp1 hq1 hpq
   exact this p q X[p] X[q] (Nat.zero_le _) hpq (by omega) (List.getElem?_eq_getElem hp1) (List.getElem?_eq_getElem hq1)
 refine ⟨fun q h6 => Ext h h6 ∧ Sl Stb.eI h6 a' c' X ∧ Own Stb.eI.k tI h.size h6 a' c' ∧ (q = true → 0 < j ∧ ∃ y, X[j - 1]? = some y ∧ bfr (atK K k) (atK K y) = true) ∧ (q = false → j = 0 ∨ ∃ y, X[j - 1]? = some y ∧ bfr (atK K k) (atK K y) = false), ⟨fun e2 => ?_, fun e2 => ⟨x5, s5, w5, fun e => (by cases e), fun _ => .inl ?_⟩⟩, ?_⟩
 ·have hj0 := of_decide_eq_true e2
  obtain ⟨y, hy⟩ : ∃ y, X[j - 1]? = some y := ⟨_, List.getElem?_eq_getElem (by omega)⟩
  obtain ⟨b, o, ea, c1⟩ := s5.at hX
  obtain ⟨b', o', ea', c2⟩ := s5.at hy
  rw [ea] at ea'; cases ea'
  have hyb := mX (j - 1) y (by omega) (by omega) hy
  obtain ⟨kb, ko, eka, d⟩ := (s.ext x5).at (atK_get (K := K) (i := (k : Int)) (by omega) (by omega))
  obtain ⟨kb', ko', eka', d'⟩ := (s.ext x5).at (atK_get (K := K) (i := y) hyb.1 (by omega))
  rw [eka] at eka'; cases eka'
  rw [show IntKind.i64.wrap ((j : Int) - 1) = ((j - 1 : Nat) : Int) by rw [w64 (by omega) (by omega)]; omega]
  refine ⟨b, o, ea, by omega, by omega, _, c1.1, kb, ko, eka, by omega, by omega, _, _, _, _, _, _, _, _, _, _, _, d.1, d.2.1, d.2.2.1, d.2.2.2.1, d.2.2.2.2.1, d.2.2.2.2.2.1, d.2.2.2.2.2.2.1, d.2.2.2.2.2.2.2.1, d.2.2.2.2.2.2.2.2.1, by omega, by omega, _, c2.1, hyb.1, by omega, _, _, _, _, _, _, _, _, _, _, _, d'.1, d'.2.1, d'.2.2.1, d'.2.2.2.1, d'.2.2.2.2.1, d'.2.2.2.2.2.1, d'.2.2.2.2.2.2.1, d'.2.2.2.2.2.2.2.1, d'.2.2.2.2.2.2.2.2.1, (before_r _ _ h5).mono ?_⟩
  rintro _ h6 ⟨rfl, x6⟩
  exact ⟨_, rfl, x5.trans x6, s5.ext x6, w5.ext x6, fun e3 => ⟨by omega, y, hy, e3⟩, fun e3 => .inr ⟨y, hy, e3⟩⟩
 ·have := of_decide_eq_false e2; omega
 ·rintro q h6 ⟨x6, s6, w6, ht, hf⟩
  refine ⟨fun e3 => ?_, fun e3 => fin x6 s6 w6 (hf e3)⟩
  obtain ⟨hj0, y, hy, hb⟩ := ht e3
  obtain ⟨b, o, rfl, c1⟩ := s6.at hX
  obtain ⟨b', o', ea', c2⟩ := s6.at hy
  cases ea'
  rw [show IntKind.i64.wrap ((j : Int) - 1) = ((j - 1 : Nat) : Int) by rw [w64 (by omega) (by omega)]; omega]
  obtain ⟨u1, u2⟩ := s6.word w6 (i := j) (r := 0) (x' := y) (v := .int .i64 y) (by omega) (by decide) rfl (p := o + j * 1) rfl
  refine ⟨b, o, rfl, by omega, by omega, _, c2.1, by omega, by omega, _, c1.1, u1, fun h7 e7 => ?_⟩
  obtain ⟨s7, w7, f7⟩ := u2 h7 e7
  obtain ⟨v1, v2⟩ := s7.word w7 (i := j - 1) (r := 0) (x' := (k : Int)) (v := .int .i64 (k : Int)) (by simp; omega) (by decide) rfl (p := o + (j - 1) * 1) rfl
  refine ⟨v1, fun h8 e8 => ?_⟩
  obtain ⟨s8, w8, f8⟩ := v2 h8 e8
  have sw := Stb.Seg.swap (a := 0) (b := L.length + 1) hX hy (by omega) (by omega) (by omega) (by omega)
  have hlow := (w6.low (blkA_of rfl)).1
  refine ⟨⟨j - 1, (X.set j y).set (j - 1) (k : Int), rfl, by omega, ((x6.fr _).trans (f7.trans f8 fun _ _ q => q) fun _ _ q => q).ext (fun i hi q => by omega), s8, w8, by simpa using lX, sw.1.perm.trans pX, ?_, IX.step hj0 hX hy (.inl hb) (by omega), fun p z h1 h2 hz => ?_⟩, by simp only [Int.toNat_natCast]; omega⟩
  ·rw [sw.2, if_neg (by omega), if_pos rfl]; exact hX
  ·rw [sw.2] at hz
   by_cases e4 : p = j
   ·rw [if_pos e4] at hz
    exact mX (j - 1) z (by omega) (by omega) hz
   ·rw [if_neg e4, if_neg h2] at hz
    exact mX p z h1 e4 hz
end
end Sc
end Go.Proofs.YthjehlocmikchaaDoor
