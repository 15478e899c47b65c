/-
A new manager, of both.
-/
import Derived.Test.YtfdgjgjcppfmiaaGS
namespace Go.Proofs.Ytfdgjgjcppfmiaa
namespace Mg
open Go

def one : Inf := ⟨1, 0, 0, 0⟩
def ints (n : Nat) : List Int := (List.range n).map fun i : Nat => (i : Int)
theorem ints_len {n : Nat} : (ints n).length = n := by simp [ints]
theorem ints_succ {n : Nat} : ints (n + 1) = ints n ++ [(n : Int)] := by simp [ints, List.range_succ]
theorem ints_mem {n : Nat} {x : Int} : x ∈ ints n ↔ 0 ≤ x ∧ x < n := by
  unfold ints
  rw [List.mem_map]
  constructor
  · rintro ⟨i, hi, rfl⟩; have := List.mem_range.1 hi; omega
  · rintro ⟨h0, h1⟩; exact ⟨x.toNat, List.mem_range.2 (by omega), by omega⟩
theorem ints_nodup {n : Nat} : (ints n).Nodup := by
  induction n with
  | zero => simp [ints]
  | succ n ih =>
    rw [ints_succ]
    refine List.nodup_append.2 ⟨ih, by simp, fun a ha b hb e => ?_⟩
    have := ints_mem.1 ha
    simp at hb; omega
def S0 (n : Nat) : Rg := ⟨List.replicate n one, ints n, 0, -1, List.replicate n []⟩
theorem at_S0 {n : Nat} {r : Int} (h : 0 ≤ r ∧ r < n) : (S0 n).at r = one := by
  unfold S0 Rg.at
  simp only
  rw [List.getD_eq_getElem?_getD, List.getElem?_replicate, if_pos (by omega)]; rfl
theorem wf_S0 {n : Nat} (h : 2 ≤ n ∧ n ≤ 256) : WF 0 (S0 n) := by
  have hin : ∀ {r}, (S0 n).inn r → 0 ≤ r ∧ r < n := fun {r} hr => by unfold S0 Rg.inn at hr; simpa using hr
  refine ⟨by simpa [S0] using h, by simp [S0], fun x hx => ?_, by decide, fun r hr => ?_, fun r s hr hs _ h1 _ => ?_, ints_nodup, fun x hx => ?_, .inl rfl, ⟨by show (0 : Int) ≤ 0; decide, by show (0 : Int) ≤ _; decide⟩⟩
  · have := List.eq_of_mem_replicate hx; subst this; simp
  · rw [at_S0 (hin hr)]
    exact ⟨by decide, by decide, by decide, fun _ => ⟨rfl, rfl⟩, fun h => absurd rfl h⟩
  · rw [at_S0 (hin hr)] at h1; exact absurd rfl h1
  · have := ints_mem.1 hx
    exact ⟨by unfold S0 Rg.inn; simpa using this, by rw [at_S0 this]; rfl⟩

def fresh (h0 h : Heap) (b : Nat) : Prop := h0.size ≤ b ∧ b < h.size
theorem zc_repE {α : Type} (E : Elt α) (z : α) (n : Nat) : (List.replicate n z).flatMap E.enc = zcells (E.enc z) n := by
  induction n with
  | zero => rfl
  | succ n ih =>
    rw [List.replicate_succ, List.flatMap_cons, ih]
    unfold zcells
    rw [List.replicate_succ]; rfl
def Sk (n k : Nat) : Rg := ⟨(List.range n).map fun i => if i < k then one else z0, ints k, 0, -1, List.replicate n []⟩
theorem Sk_zero {n : Nat} : (Sk n 0).I = List.replicate n z0 := by
  unfold Sk
  refine List.ext_getElem (by simp) fun i h1 h2 => ?_
  simp
theorem Sk_end {n : Nat} : Sk n n = S0 n := by
  unfold Sk S0
  congr 1
  refine List.ext_getElem (by simp) fun i h1 h2 => ?_
  simp at h1
  simp [h1]
theorem Sk_at {n k : Nat} (hk : k < n) : (Sk n k).at (k : Int) = z0 := by
  unfold Sk Rg.at
  simp [List.getD_eq_getElem?_getD, hk]
theorem Sk_set {n k : Nat} (hk : k < n) : ({ ((Sk n k).set (k : Int) one) with Q := ints k ++ [(k : Int)] } : Rg) = Sk n (k + 1) := by
  unfold Sk Rg.set
  simp only [Int.toNat_natCast]
  rw [← ints_succ]
  congr 1
  refine List.ext_getElem (by simp) fun i h1 h2 => ?_
  rw [List.getElem_set]
  by_cases e : k = i
  · subst e; simp
  · rw [if_neg e]
    simp at h1
    simp only [List.getElem_map, List.getElem_range]
    by_cases h3 : i < k
    · rw [if_pos h3, if_pos (by omega)]
    · rw [if_neg h3, if_neg (by omega)]

set_option maxHeartbeats 1600000 in
theorem new_m (n : Int) (h : Heap) : HC Try.prog 10 #[.int .i64 n] h fun v h' => Ext h h' ∧ ((v = .tuple #[.pointer none, .int .i64 1] ∧ ¬ (2 ≤ n ∧ n ≤ 256)) ∨ ((2 ≤ n ∧ n ≤ 256) ∧ ∃ p, v = .tuple #[ptr p 0, .int .i64 0] ∧ HasM (fresh h h') h' p (S0 n.toNat))) := by
  refine f10_sh _ _ _ ⟨fun g => ?_, fun g => ?_⟩
  · simp only [Bool.or_eq_true, decide_eq_true_eq] at g
    exact ⟨Ext.refl _, .inl ⟨rfl, by omega⟩⟩
  simp only [Bool.or_eq_false_iff, decide_eq_false_iff_not] at g
  have hn : 2 ≤ n ∧ n ≤ 256 := by omega
  obtain ⟨N, rfl⟩ : ∃ N : Nat, n = N := ⟨n.toNat, by omega⟩
  simp only [Int.toNat_natCast]
  refine ⟨by omega, by omega, by omega, fun nb h1 e1 eh1 mb h2 e2 x2 z2 m2 p h3 e3 eh3 => ?_⟩
  have x1 : Ext h h1 := by rw [eh1]; exact Ext.push _ _
  have r1 : h1[nb]? = some (.cells ((List.replicate N z0).flatMap eInf.enc).toArray tI (0, 0)) := by rw [eh1, zc_repE]; exact push_new e1
  have x3 : Ext h2 h3 := by rw [eh3]; exact Ext.push _ _
  have r3 : h3[p]? = some (.cells #[.slice (some ⟨nb, 0, none⟩) N N, .slice none 0 0, .int .u64 0, .int .i64 (-1), .map (some mb)] tM (0, 0)) := by rw [eh3]; exact push_new e3
  clear eh1 eh3
  have hs1 := x1.size
  have hs2 := x2.size
  have hs3 := x3.size
  have l1 := row_lt r1
  have l2 := m2.lt
  have l3 := row_lt r3
  have hlenI : (List.replicate N z0).length = N := List.length_replicate
  have M3 : Mem (fresh h h3) h3 p (Sk N 0) (some ⟨nb, 0, none⟩) none N 0 mb [] (List.replicate N ⟨none, 0, []⟩) := by
    have sl := Sl.lit (E := eInf) ((x2.trans x3).row r1)
    have ow := Own.lit (E := eInf) (N := 0) ((x2.trans x3).row r1) (Nat.zero_le _)
    rw [hlenI] at sl ow
    refine ⟨by rw [Sk_zero, hlenI]; exact r3, by rw [Sk_zero]; exact sl, ow, Sl.nil _ _, Own.nil _ _ _ _, m2.ext x3, fun r d hd => ?_, fun d hd => ?_, by simp [Sk], ?_, fun d hd b g => ?_, ⟨by omega, l3⟩, ⟨by omega, by omega⟩, fun b g => ?_, fun b g => (blkA_none g).elim, fun d hd b g => ?_, fun b g => g.2⟩
    · have := List.eq_of_mem_replicate (List.mem_of_getElem? hd); subst this; rfl
    · have := List.eq_of_mem_replicate hd; subst this; exact ⟨Sl.nil _ _, Own.nil _ _ _ _⟩
    · exact List.pairwise_replicate.2 (.inr fun b hb => (blkA_none hb).elim)
    · have := List.eq_of_mem_replicate hd; subst this; exact (blkA_none g).elim
    · rw [blkA_some.1 g]; exact ⟨by omega, by omega⟩
    · have := List.eq_of_mem_replicate hd; subst this; exact (blkA_none g).elim
  refine ⟨_, _, _, by rw [hcell_row r3]; rfl, fun v h4 => ∃ (k : Nat) (fa : Option Addr) (fc : Nat), v = k ∧ k ≤ N ∧ Ext h h4 ∧ Mem (fresh h h4) h4 p (Sk N k) (some ⟨nb, 0, none⟩) fa N fc mb [] (List.replicate N ⟨none, 0, []⟩), fun v _ => N - v.toNat,
    ⟨0, _, _, rfl, Nat.zero_le _, x1.trans (x2.trans x3), M3⟩, ?_⟩
  rintro _ h4 ⟨k, fa, fc, rfl, hk, x4, M4⟩
  refine ⟨fun hlt => ?_, fun hge => ⟨x4, .inr ⟨hn, p, rfl, ?_⟩⟩⟩
  · have hkl := lt_of_dec hlt
    have hi : (Sk N k).inn (k : Int) := by unfold Sk Rg.inn; simp; omega
    have hlen : (Sk N k).I.length = N := by simp [Sk]
    refine ⟨_, _, _, by rw [hcell_row M4.row]; rfl, nb, 0, rfl, by omega, by rw [hlen]; omega, ?_⟩
    obtain ⟨k1, k2⟩ := M4.word hi (j := 0) (u := .int .i64 1) (x' := one) (by decide) (by rw [Sk_at hkl]; rfl) (q := 0 + (k : Int).toNat * 4) rfl
    refine ⟨k1, fun h5 e5 => ?_⟩
    obtain ⟨M5, f5⟩ := k2 h5 e5
    refine ⟨_, _, _, by rw [hcell_row M5.row]; rfl, fun nb2 h6 e6 eh6 => ?_⟩
    have x6 : Ext h5 h6 := by rw [eh6]; exact Ext.push _ _
    have r6 : h6[nb2]? = some (.cells (([(k : Int)] : List Int).flatMap eI.enc).toArray 3 (0, 0)) := by rw [eh6]; exact push_new e6
    have hql : (Sk N k).Q.length = k := ints_len
    refine app_sl (L2 := [(k : Int)]) aI (M5.sq.ext x6) (M5.oq.ext x6) (Sl.lit (L := [(k : Int)]) r6) (Nat.zero_le _) (by show ((Sk N k).Q.length + 1) * 8 ≤ _; rw [hql]; omega) fun a' c' h7 f7 s7 w7 b7 => ?_
    have hs5 := f5.size
    have hs6 := x6.size
    have hs4 := x4.size
    obtain ⟨j1, j2⟩ := M5.setQ ((x6.fr _).trans f7 fun _ _ s => s) s7 w7 (fun b g => (b7 b g).imp id fun q => by omega) (n' := (Sk N k).Q.length + 1) (by show _ = ((Sk N k).Q ++ [(k : Int)]).length; simp)
    refine ⟨_, _, _, rfl, j1, fun h8 e8 => ?_⟩
    obtain ⟨M8, f8⟩ := j2 h8 e8
    have hs8 := f8.size
    rw [wadd k (by omega)]
    have eS : ({ ((Sk N k).set (k : Int) one) with Q := ((Sk N k).set (k : Int) one).Q ++ [(k : Int)] } : Rg) = Sk N (k + 1) := Sk_set hkl
    have M8' : Mem (fresh h h8) h8 p (Sk N (k + 1)) (some ⟨nb, 0, none⟩) a' N c' mb [] (List.replicate N ⟨none, 0, []⟩) := by
      rw [← eS]
      refine M8.mono (fun b g => ?_) fun b g => g.2
      rcases g with g | g
      · exact ⟨g.1, by have := g.2; omega⟩
      · exact ⟨by omega, g.2⟩
    exact ⟨⟨k + 1, a', c', rfl, hkl, ((x4.fr _).trans (f5.trans f8 fun _ _ s => s) fun _ _ s => s).ext fun b hb g => by have := g.1; omega, M8'⟩, by simp only [Int.toNat_natCast]; omega⟩
  · have hlen : (Sk N k).I.length = N := by simp [Sk]
    have hkl : k = N := by have := ge_of_dec hge; omega
    subst hkl
    rw [Sk_end] at M4
    exact ⟨_, _, _, _, _, _, _, M4⟩

section
variable {W : Nat → Prop} {h h' : Heap} {x : Nat} {S : Rg} {la qa da : Option Addr} {lc qc dc : Nat} {Ds : List Dr} {K : Nat}
/-- The regions are another list; it is written into its cell. -/
theorem Rm.setL (M : Rm W h x S la qa da lc qc dc Ds) {h1 : Heap} {a' : Option Addr} {c' n' : Nat} {I' : List Inf} (f1 : Fr (blkA la) h h1) (s1 : Sl eInf h1 a' c' I') (w1 : Own eInf.k tI 0 h1 a' c') (hb : ∀ b, blkA a' b → blkA la b ∨ h.size ≤ b) (hn : n' = I'.length) :
    HW h1 x 0 ∧ ∀ h', h' = hset h1 x 0 (.slice a' n' c') → Rm (grown W h h') h' x { S with I := I' } a' qa da c' qc dc Ds ∧ Fr W h h' := by
  subst hn
  have r1 := f1.row M.row (own_ne M.oi M.row (by decide))
  refine ⟨HW_row r1 (by simp), fun h' e => ?_⟩
  have f2 := fr_hset_of e
  have f : Fr (fun b => blkA la b ∨ b = x) h h' := (f1.mono fun _ _ s => .inl s).trans f2 fun _ _ s => .inr s
  have r2 : h'[x]? = some (.cells #[.slice a' I'.length c', .slice qa S.Q.length qc, .int .u64 S.last, .int .i64 S.cur, .slice da Ds.length dc] tR (0, 0)) := by rw [e, hset_row r1]; rfl
  have s1' := s1.fr f2 fun b g q => own_ne w1 r1 (by decide) (q ▸ g)
  have w1' := w1.fr f2 fun b g q => own_ne w1 r1 (by decide) (q ▸ g)
  have n1 : ∀ b, blkA qa b → ¬ (blkA la b ∨ b = x) := fun b g q => q.elim (own_ne2 M.oi M.oq (by decide) b g) fun q => own_ne M.oq M.row (by decide) (q ▸ g)
  have n4 : ∀ b, blkA da b → ¬ (blkA la b ∨ b = x) := fun b g q => q.elim (own_ne2 M.oi M.od (by decide) b g) fun q => own_ne M.od M.row (by decide) (q ▸ g)
  have n3 : ∀ d ∈ Ds, ∀ b, blkA d.a b → ¬ (blkA la b ∨ b = x) := fun d hd b g q => q.elim (own_ne2 M.oi (M.ds d hd).2 (by decide) b g) fun q => own_ne (M.ds d hd).2 M.row (by decide) (q ▸ g)
  have hs := f.size
  refine ⟨{ row := r2, si := s1', oi := w1', sq := M.sq.fr f n1, oq := M.oq.fr f n1, sd := M.sd.fr f n4, od := M.od.fr f n4,
            ds := fun d hd => ⟨(M.ds d hd).1.fr f (n3 d hd), (M.ds d hd).2.fr f (n3 d hd)⟩, eD := M.eD, sep := M.sep, sf := M.sf, wp := .inl M.wp, wi := fun b g => ?_, wq := fun b g => .inl (M.wq b g), ws := fun b g => .inl (M.ws b g), wd := fun d hd b g => .inl (M.wd d hd b g), lt := fun b g => ?_ }, f.mono fun b _ s => s.elim (M.wi b) fun e => e ▸ M.wp⟩
  · rcases hb b g with q | q
    · exact .inl (M.wi b q)
    · exact .inr ⟨q, (w1'.low g).2⟩
  · rcases g with g | g
    · have := M.lt b g; omega
    · exact g.2
end
theorem aInf : AppT Try.prog 28 tI eInf.k 32 := ⟨by kernel_rfl, by kernel_rfl, by kernel_rfl, ⟨.agg #[.int .i64 0, .int .u64 0, .int .i64 0, .int .i64 0], [.int .i64 0, .int .u64 0, .int .i64 0, .int .i64 0], by unfold zeroB; kernel_rfl, rfl, rfl⟩, by decide⟩

def Rk (n k q : Nat) : Rg := ⟨List.replicate k one, ints q, 0, -1, List.replicate n []⟩
set_option maxHeartbeats 1600000 in
theorem start_r (N : Nat) (hn : N ≤ 256) (h : Heap) : HC Try.prog 38 #[.int .i64 N] h fun v h' => Ext h h' ∧ ∃ x, v = ptr x 0 ∧ HasR (fresh h h') h' x (Rk N N 0) := by
  refine f38_sh _ _ _ ⟨by omega, by omega, by omega, fun nb h1 e1 eh1 x h2 e2 eh2 => ?_⟩
  simp only [Int.toNat_natCast] at eh1 eh2
  have x1 : Ext h h1 := by rw [eh1]; exact Ext.push _ _
  have r1 : h1[nb]? = some (.cells ((List.replicate N (⟨none, 0, []⟩ : Dr)).flatMap eDr.enc).toArray tS (0, 0)) := by rw [eh1, zc_repE]; exact push_new e1
  have x2 : Ext h1 h2 := by rw [eh2]; exact Ext.push _ _
  have r2 : h2[x]? = some (.cells #[.slice none 0 0, .slice none 0 0, .int .u64 0, .int .i64 (-1), .slice (some ⟨nb, 0, none⟩) N N] tR (0, 0)) := by rw [eh2]; exact push_new e2
  clear eh1 eh2
  have hs1 := x1.size
  have hs2 := x2.size
  have l1 := row_lt r1
  have l2 := row_lt r2
  have hlD : (List.replicate N (⟨none, 0, []⟩ : Dr)).length = N := List.length_replicate
  have M2 : Rm (fresh h h2) h2 x (Rk N 0 0) none none (some ⟨nb, 0, none⟩) 0 0 N (List.replicate N ⟨none, 0, []⟩) := by
    have sl := Sl.lit (E := eDr) (x2.row r1)
    have ow := Own.lit (E := eDr) (N := 0) (x2.row r1) (Nat.zero_le _)
    rw [hlD] at sl ow
    refine ⟨by rw [hlD]; exact r2, Sl.nil _ _, Own.nil _ _ _ _, Sl.nil _ _, Own.nil _ _ _ _, sl, ow, fun d hd => ?_, by simp [Rk], ?_, fun d hd b g => ?_, ⟨by omega, l2⟩, fun b g => (blkA_none g).elim, fun b g => (blkA_none g).elim, fun b g => ?_, fun d hd b g => ?_, fun b g => g.2⟩
    · have := List.eq_of_mem_replicate hd; subst this; exact ⟨Sl.nil _ _, Own.nil _ _ _ _⟩
    · exact List.pairwise_replicate.2 (.inr fun b hb => (blkA_none hb).elim)
    · have := List.eq_of_mem_replicate hd; subst this; exact (blkA_none g).elim
    · rw [blkA_some.1 g]; exact ⟨by omega, by omega⟩
    · have := List.eq_of_mem_replicate hd; subst this; exact (blkA_none g).elim
  refine ⟨fun v h3 => ∃ (k : Nat), v = k ∧ k ≤ N ∧ Ext h h3 ∧ HasR (fresh h h3) h3 x (Rk N k 0), fun v _ => N - v.toNat, ⟨0, rfl, Nat.zero_le _, x1.trans x2, _, _, _, _, _, _, _, M2⟩, ?_⟩
  rintro _ h3 ⟨k, rfl, hk, x3, la, qa, da, lc, qc, dc, Ds, M3⟩
  refine ⟨fun hlt => ?_, fun hge => ⟨x3, x, rfl, ?_⟩⟩
  · have hkl := lt_of_dec hlt
    refine ⟨_, _, _, by rw [hcell_row M3.row]; rfl, fun nb2 h4 e4 eh4 => ?_⟩
    have x4 : Ext h3 h4 := by rw [eh4]; exact Ext.push _ _
    have r4 : h4[nb2]? = some (.cells (([one] : List Inf).flatMap eInf.enc).toArray tI (0, 0)) := by rw [eh4]; exact push_new e4
    have hlI : (Rk N k 0).I.length = k := List.length_replicate
    refine app_sl (L2 := [one]) aInf (M3.si.ext x4) (M3.oi.ext x4) (Sl.lit (L := [one]) r4) (Nat.zero_le _) (by rw [hlI]; simp; omega) fun a' c' h5 f5 s5 w5 b5 => ?_
    have hs3 := x3.size
    have hs4 := x4.size
    obtain ⟨j1, j2⟩ := M3.setL ((x4.fr _).trans f5 fun _ _ s => s) s5 w5 (fun b g => (b5 b g).imp id fun q => by omega) (n' := (Rk N k 0).I.length + 1) (by simp)
    refine ⟨_, _, _, rfl, j1, fun h6 e6 => ?_⟩
    obtain ⟨M6, f6⟩ := j2 h6 e6
    have hs6 := f6.size
    rw [wadd k (by omega)]
    have eS : ({ Rk N k 0 with I := (Rk N k 0).I ++ [one] } : Rg) = Rk N (k + 1) 0 := by unfold Rk; simp only; rw [← List.replicate_succ']
    rw [eS] at M6
    refine ⟨⟨k + 1, rfl, hkl, ((x3.fr _).trans f6 fun _ _ s => s).ext fun b hb g => by have := g.1; omega, _, _, _, _, _, _, _, M6.mono (fun b g => ?_) fun b g => g.2⟩, by simp only [Int.toNat_natCast]; omega⟩
    rcases g with g | g
    · exact ⟨g.1, by have := g.2; omega⟩
    · exact ⟨by omega, g.2⟩
  · have hkl : k = N := by have := ge_of_dec hge; omega
    subst hkl
    exact ⟨_, _, _, _, _, _, _, M3⟩
set_option maxHeartbeats 1600000 in
theorem new_r (n : Int) (h : Heap) : HC Try.prog 17 #[.int .i64 n] h fun v h' => Ext h h' ∧ ((v = .tuple #[.pointer none, .int .i64 1] ∧ ¬ (2 ≤ n ∧ n ≤ 256)) ∨ ((2 ≤ n ∧ n ≤ 256) ∧ ∃ x, v = .tuple #[ptr x 0, .int .i64 0] ∧ HasR (fresh h h') h' x (S0 n.toNat))) := by
  refine f17_sh _ _ _ ⟨fun g => ?_, fun g => ?_⟩
  · simp only [Bool.or_eq_true, decide_eq_true_eq] at g
    exact ⟨Ext.refl _, .inl ⟨rfl, by omega⟩⟩
  simp only [Bool.or_eq_false_iff, decide_eq_false_iff_not] at g
  have hn : 2 ≤ n ∧ n ≤ 256 := by omega
  obtain ⟨N, rfl⟩ : ∃ N : Nat, n = N := ⟨n.toNat, by omega⟩
  simp only [Int.toNat_natCast]
  refine (start_r N (by omega) h).mono ?_
  rintro _ h1 ⟨x1, x, rfl, R1⟩
  refine ⟨_, rfl, fun v h3 => ∃ (k : Nat), v = k ∧ k ≤ N ∧ Ext h h3 ∧ HasR (fresh h h3) h3 x (Rk N N k), fun v _ => N - v.toNat, ⟨0, rfl, Nat.zero_le _, x1, R1⟩, ?_⟩
  rintro _ h3 ⟨k, rfl, hk, x3, la, qa, da, lc, qc, dc, Ds, M3⟩
  refine ⟨fun hlt => ?_, fun hge => ⟨x3, .inr ⟨hn, x, rfl, ?_⟩⟩⟩
  · have hkl := lt_of_dec hlt
    refine ⟨x, 0, rfl, _, _, _, by rw [hcell_row M3.row]; rfl, fun nb2 h4 e4 eh4 => ?_⟩
    have x4 : Ext h3 h4 := by rw [eh4]; exact Ext.push _ _
    have r4 : h4[nb2]? = some (.cells (([(k : Int)] : List Int).flatMap eI.enc).toArray 3 (0, 0)) := by rw [eh4]; exact push_new e4
    have hlQ : (Rk N N k).Q.length = k := ints_len
    refine app_sl (L2 := [(k : Int)]) aI (M3.sq.ext x4) (M3.oq.ext x4) (Sl.lit (L := [(k : Int)]) r4) (Nat.zero_le _) (by rw [hlQ]; simp; omega) fun a' c' h5 f5 s5 w5 b5 => ?_
    have hs3 := x3.size
    have hs4 := x4.size
    obtain ⟨j1, j2⟩ := M3.setQ ((x4.fr _).trans f5 fun _ _ s => s) s5 w5 (fun b g => (b5 b g).imp id fun q => by omega) (n' := (Rk N N k).Q.length + 1) (by simp)
    refine ⟨_, _, _, rfl, j1, fun h6 e6 => ?_⟩
    obtain ⟨M6, f6⟩ := j2 h6 e6
    have hs6 := f6.size
    rw [wadd k (by omega)]
    have eS : ({ Rk N N k with Q := (Rk N N k).Q ++ [(k : Int)] } : Rg) = Rk N N (k + 1) := by unfold Rk; simp only; rw [ints_succ]
    rw [eS] at M6
    refine ⟨⟨k + 1, rfl, hkl, ((x3.fr _).trans f6 fun _ _ s => s).ext fun b hb g => by have := g.1; omega, _, _, _, _, _, _, _, M6.mono (fun b g => ?_) fun b g => g.2⟩, by simp only [Int.toNat_natCast]; omega⟩
    rcases g with g | g
    · exact ⟨g.1, by have := g.2; omega⟩
    · exact ⟨by omega, g.2⟩
  · have hkl : k = N := by have := ge_of_dec hge; omega
    subst hkl
    exact ⟨_, _, _, _, _, _, _, M3⟩
end Mg
end Go.Proofs.Ytfdgjgjcppfmiaa
