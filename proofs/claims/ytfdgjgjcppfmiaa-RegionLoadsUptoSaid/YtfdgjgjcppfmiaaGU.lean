/-
The sealed regions, by their sequence: the manager's and the document's.
-/
import Derived.Test.YtfdgjgjcppfmiaaGT
import Derived.Test.YtfdgjgjcppfmiaaQC
import Derived.Test.YtfdgjgjcppfmiaaSro
import Derived.Test.YtfdgjgjcppfmiaaLay1
namespace Go.Proofs.Ytfdgjgjcppfmiaa
namespace Mg
open Go Go.Shelf Go.Sort

def ucmp (x y : Int) : Int := if x < y then -1 else if y < x then 1 else 0
theorem isNaN_c (x : Int) (h : Heap) : HC Try.prog 55 #[.int .u64 x] h fun v h' => v = .bool false ∧ h' = h :=
  f55_sh _ _ _ ⟨by simp, rfl⟩
theorem cmpU_c (x y : Int) (h : Heap) : HC Try.prog 37 #[.int .u64 x, .int .u64 y] h fun v h' => v = .int .i64 (ucmp x y) ∧ h' = h := by
  unfold ucmp
  refine f37_sh _ _ _ _ ((isNaN_c x h).mono ?_)
  rintro _ _ ⟨rfl, rfl⟩
  refine ⟨_, rfl, (isNaN_c y _).mono ?_⟩
  rintro _ _ ⟨rfl, rfl⟩
  refine ⟨_, rfl, fun g => (by cases g), fun _ => ⟨fun g => (by cases g), fun _ => ⟨fun e => ⟨?_, rfl⟩, fun e => ⟨fun e2 => ⟨?_, rfl⟩, fun e2 => ⟨?_, rfl⟩⟩⟩⟩⟩
  · rw [if_pos (of_decide_eq_true e)]
  · have := of_decide_eq_false e
    rw [if_neg this, if_pos (of_decide_eq_true e2)]
  · rw [if_neg (of_decide_eq_false e), if_neg (of_decide_eq_false e2)]

/-! ### the order -/
def sealedTo (S : Rg) (n : Nat) : List Int := (ints n).filter fun r => decide ((S.at r).st = 3)
structure Seal (S : Rg) (n : Nat) (L : List Int) : Prop where
  perm : L.Perm (sealedTo S n)
  up : L.Pairwise fun a b => (S.at a).sq < (S.at b).sq
theorem Seal.mem {S : Rg} {n : Nat} {L : List Int} (s : Seal S n L) {r : Int} : r ∈ L ↔ (0 ≤ r ∧ r < n) ∧ (S.at r).st = 3 := by
  rw [s.perm.mem_iff]; unfold sealedTo; rw [List.mem_filter, ints_mem]; simp
theorem pw_eq {α : Type} {R : α → α → Prop} (irr : ∀ x, ¬ R x x) (tr : ∀ x y z, R x y → R y z → R x z) : ∀ {L M : List α}, L.Perm M → L.Pairwise R → M.Pairwise R → L = M
  | [], M, p, _, _ => (List.Perm.nil_eq p)
  | x :: L, M, p, hL, hM => by
    cases M with
    | nil => exact absurd (p.mem_iff.1 (by simp : x ∈ x :: L)) (by simp)
    | cons y M =>
      have hxy : x = y := by
        have h1 : x ∈ y :: M := p.mem_iff.1 (by simp)
        have h2 : y ∈ x :: L := p.mem_iff.2 (by simp)
        rcases List.mem_cons.1 h1 with e | h1
        · exact e
        · rcases List.mem_cons.1 h2 with e | h2
          · exact e.symm
          · exact absurd (tr _ _ _ ((List.pairwise_cons.1 hL).1 y h2) ((List.pairwise_cons.1 hM).1 x h1)) (irr x)
      subst hxy
      rw [pw_eq irr tr ((List.perm_cons x).1 p) (List.pairwise_cons.1 hL).2 (List.pairwise_cons.1 hM).2]
theorem Seal.eq {S : Rg} {n : Nat} {L M : List Int} (s : Seal S n L) (t : Seal S n M) : L = M :=
  pw_eq (R := fun a b => (S.at a).sq < (S.at b).sq) (fun x => Int.lt_irrefl _) (fun x y z h1 h2 => Int.lt_trans h1 h2) (s.perm.trans t.perm.symm) s.up t.up
theorem sealedTo_succ {S : Rg} {n : Nat} : sealedTo S (n + 1) = sealedTo S n ++ if (S.at n).st = 3 then [(n : Int)] else [] := by
  unfold sealedTo
  rw [ints_succ, List.filter_append]
  congr 1
  simp [List.filter_cons]
theorem sealedTo_len {S : Rg} {n : Nat} : (sealedTo S n).length ≤ n := by
  unfold sealedTo
  exact Nat.le_trans (List.length_filter_le _ _) (by rw [ints_len]; exact Nat.le_refl _)

section
variable {W : Nat → Prop} {h h' : Heap} {p x : Nat} {S : Rg} {ra fa la qa da : Option Addr} {qc fc mb lc dc : Nat} {kv : List (Int × Value)} {Ds : List Dr} {K : Nat}

/-- The numbers of regions. -/
abbrev Ixs (n : Nat) : Type := { r : Int // 0 ≤ r ∧ r < (n : Int) }
def encI (n : Nat) (x : Ixs n) : Value := .int .i64 x.1
theorem one_I (n : Nat) : OneCell (encI n) := fun _ => rfl
theorem sl_ix {n : Nat} {a : Option Addr} {c : Nat} {L : List (Ixs n)} (s : Sl eI h a c (L.map Subtype.val)) : Sl (eOne (encI n) (one_I n)) h a c L := by
  refine ⟨by simpa using s.le, s.ex.imp (fun e => by simpa using e) fun ⟨b, o, e, hc⟩ => ⟨b, o, e, fun i y hy => ?_⟩⟩
  exact hc i y.1 (by rw [List.getElem?_map, hy]; rfl)
theorem sl_xi {n : Nat} {a : Option Addr} {c : Nat} {L : List (Ixs n)} (s : Sl (eOne (encI n) (one_I n)) h a c L) : Sl eI h a c (L.map Subtype.val) := by
  refine ⟨by simpa using s.le, s.ex.imp (fun e => by simpa using e) fun ⟨b, o, e, hc⟩ => ⟨b, o, e, fun i y hy => ?_⟩⟩
  rw [List.getElem?_map] at hy
  cases hL : L[i]? with
  | none => rw [hL] at hy; cases hy
  | some z => rw [hL] at hy; cases hy; exact hc i z hL
def cfI (S : Rg) (n : Nat) (x y : Ixs n) : Int := ucmp (S.at x.1).sq (S.at y.1).sq
theorem lt_cfI {n : Nat} (x y : Ixs n) : ltOf (cfI S n) x y = decide ((S.at x.1).sq < (S.at y.1).sq) := by
  unfold ltOf cfI ucmp
  rw [Bool.eq_iff_iff]
  simp only [decide_eq_true_eq]
  split
  · simp; omega
  · split
    · simp; omega
    · simp; omega
theorem swo_cfI {n : Nat} : SWO (ltOf (cfI S n)) where
  irrefl x := by rw [lt_cfI]; simp
  trans x y z h1 h2 := by rw [lt_cfI] at *; simp at *; omega
  ntrans x y z h1 h2 := by rw [lt_cfI] at *; simp at *; omega
theorem cbS : CallB Try.prog 34 := fun _ _ => Try.call34 _ _
def Yw (h h3 : Heap) (b : Nat) : Prop := b < h.size ∨ h3.size ≤ b

theorem less_c {cb : Nat} (M : Mem W h p S ra fa qc fc mb kv Ds) (w : WF K S) (hc : hcell h cb 0 = some (.pointer (some ⟨p, 0, none⟩))) {a b : Int} (ha : S.inn a) (hb : S.inn b) :
    HC Try.prog 36 #[.int .i64 a, .int .i64 b, ptr cb 0] h fun v h' => v = .int .i64 (ucmp (S.at a).sq (S.at b).sq) ∧ Ext h h' := by
  obtain ⟨rb, ro, rfl⟩ := M.ra_some w
  refine f36_sh _ _ _ _ _ _ ⟨_, hc, p, 0, rfl, _, _, _, by rw [hcell_row M.row]; rfl, rb, ro, rfl, ha.1, ha.2, _, (M.cell ha).2.1, hb.1, hb.2, _, (M.cell hb).2.1, (cmpU_c _ _ h).mono ?_⟩
  rintro _ _ ⟨rfl, rfl⟩
  exact ⟨_, rfl, rfl, Ext.refl _⟩

set_option maxHeartbeats 1600000 in
theorem sealed_go {cb : Nat} {y : Value} {R : Value → Heap → Prop} (M : Mem W h p S ra fa qc fc mb kv Ds) (w : WF K S) (hc : hcell h cb 0 = some (.pointer (some ⟨p, 0, none⟩))) (hcb : cb < h.size)
    (hs : ∀ L, Seal S S.I.length L → ∀ h3, Ext h h3 → ∃ J : Nat → Heap → Prop, J 0 h3 ∧
      (∀ k (hk : k < L.length) h4, Fr (Yw h h3) h3 h4 → J k h4 → HCV Try.prog y [.int .i64 L[k]] h4 fun vv h7 => Fr (Yw h h3) h4 h7 ∧ ∃ b : Bool, vv = .bool b ∧ (b = false → R (.tuple #[]) h7) ∧ (b = true → J (k + 1) h7)) ∧
      (∀ h4, Fr (Yw h h3) h3 h4 → J L.length h4 → R (.tuple #[]) h4)) :
    HCF Try.prog (.func (.func 34) #[] #[ptr cb 0]) [y] h R := by
  refine ⟨34, [], [ptr cb 0], rfl, cbS, ?_⟩
  obtain ⟨rb, ro, rfl⟩ := M.ra_some w
  have hn := w.n
  refine f34_sh _ _ _ _ _ ⟨_, hc, true, made_m M w, fun g => by simp at g, fun _ => ⟨p, 0, rfl, _, _, _, by rw [hcell_row M.row]; rfl,
    fun a n c v h1 => ∃ (k : Nat) (L : List Int), v = k ∧ k ≤ S.I.length ∧ L = sealedTo S k ∧ n = L.length ∧ Ext h h1 ∧ Sl eI h1 a c L ∧ Own eI.k 3 h.size h1 a c, fun _ _ _ v _ => S.I.length - v.toNat,
    ⟨0, [], rfl, Nat.zero_le _, rfl, rfl, Ext.refl _, Sl.nil _ _, Own.nil _ _ _ _⟩, ?_⟩⟩
  rintro a _ c _ h1 ⟨k, L, rfl, hk, hL, rfl, x1, s1, w1⟩
  have M1 := M.ext x1
  refine ⟨fun hlt => ?_, fun hge => ?_⟩
  · have hkl := lt_of_dec hlt
    have hi : S.inn (k : Int) := ⟨by omega, by omega⟩
    have d := M1.cell hi
    have hll : L.length ≤ 256 := by have := sealedTo_len (S := S) (n := k); rw [hL]; omega
    refine ⟨fun a' n' c' h2 => ∃ L', L' = sealedTo S (k + 1) ∧ n' = L'.length ∧ Ext h h2 ∧ Sl eI h2 a' c' L' ∧ Own eI.k 3 h.size h2 a' c', ⟨rb, ro, rfl, hi.1, hi.2, _, _, _, _, d.1, d.2.1, d.2.2.1, d.2.2.2.1, fun g h4 x4 nb h5 en eh => ?_, fun g h4 x4 => ?_⟩, ?_⟩
    · refine app_one (x := (k : Int)) aI en eh rfl (x1.trans x4) (s1.ext x4) (w1.ext x4) rfl (by omega) fun a' c' h6 x6 f6 s6 w6 b6 => ⟨_, _, _, rfl, _, ?_, ?_, x6, s6, w6⟩
      · rw [sealedTo_succ, if_pos (eq_of_beq g), ← hL]
      · simp
    · refine ⟨L, ?_, rfl, x1.trans x4, s1.ext x4, w1.ext x4⟩
      have : ¬ (S.at (k : Int)).st = 3 := by simpa using g
      rw [sealedTo_succ, if_neg this, ← hL, List.append_nil]
    · rintro a' _ c' h2 ⟨L', hL', rfl, x2, s2, w2⟩
      rw [wadd k (by omega)]
      exact ⟨⟨k + 1, L', rfl, hkl, hL', rfl, x2, s2, w2⟩, by simp only [Int.toNat_natCast]; omega⟩
  have hkn : k = S.I.length := by have := ge_of_dec hge; omega
  subst hkn
  have hmem : ∀ r ∈ L, 0 ≤ r ∧ r < (S.I.length : Int) := fun r hr => by
    rw [hL] at hr; unfold sealedTo at hr; exact ints_mem.1 (List.mem_filter.1 hr).1
  have hmap : (L.attachWith _ hmem).map Subtype.val = L := List.attachWith_map_subtype_val ..
  have hlen : (L.attachWith _ hmem).length = L.length := List.length_attachWith ..
  have hll : L.length ≤ 256 := by have := sealedTo_len (S := S) (n := S.I.length); rw [hL]; omega
  haveI : Inhabited (Ixs S.I.length) := ⟨⟨0, by omega, by omega⟩⟩
  have s1' : Sl (eOne (encI S.I.length) (one_I _)) h1 a c (L.attachWith _ hmem) := sl_ix (by rw [hmap]; exact s1)
  have hso := hc_sort1 Lay.sort1 (encI S.I.length) (one_I _) (cfI S S.I.length) swo_cfI 36 #[ptr cb 0] (fun args w => Try.call36 args w) s1' (w1 : Own 1 3 h.size h1 a c) (fun h2 f2 u v => by
    have M2 : Mem W h2 p S _ _ _ _ _ _ _ := M1.fr f2 fun b hb q => by have := (w1.low q).1; have := M.lt b hb; omega
    have hc2 : hcell h2 cb 0 = some (.pointer (some ⟨p, 0, none⟩)) := by
      have e1 := x1.block cb hcb
      have e2 := f2.block cb (Nat.lt_of_lt_of_le hcb x1.size) fun q => by have := (w1.low q).1; omega
      unfold hcell at hc ⊢
      rw [e2, e1]; exact hc
    exact less_c M2 w hc2 u.2 v.2) (by rw [hlen]; omega)
  rw [hlen] at hso
  refine hso.mono ?_
  rintro _ h7 ⟨rfl, f7, L', hp, hup, s7, w7⟩
  have x7 : Ext h h7 := ((x1.fr _).trans f7 fun _ _ s => s).ext fun b hb q => by have := (w1.low q).1; omega
  have hSeal : Seal S S.I.length (L'.map Subtype.val) := by
    have hperm : (L'.map Subtype.val).Perm (sealedTo S S.I.length) := by
      have := hp.map Subtype.val
      rw [hmap, hL] at this; exact this
    refine ⟨hperm, ?_⟩
    have hnd : (L'.map Subtype.val).Nodup := hperm.nodup_iff.2 (List.Pairwise.filter _ ints_nodup)
    have hst : ∀ z ∈ L', (S.at z.1).st = 3 := fun z hz => by
      have : z.1 ∈ sealedTo S S.I.length := hperm.mem_iff.1 (List.mem_map.2 ⟨z, hz, rfl⟩)
      unfold sealedTo at this
      simpa using (List.mem_filter.1 this).2
    rw [List.pairwise_map]
    rw [List.Nodup, List.pairwise_map] at hnd
    refine (List.pairwise_iff_getElem.2 fun i j hi hj hij => ?_)
    have h1 := List.pairwise_iff_getElem.1 hup i j hi hj hij
    have h2 := List.pairwise_iff_getElem.1 hnd i j hi hj hij
    rw [lt_cfI] at h1
    have h3 := w.uq L'[i].1 L'[j].1 L'[i].2 L'[j].2 h2 (by rw [hst _ (List.getElem_mem hi)]; decide) (by rw [hst _ (List.getElem_mem hj)]; decide)
    have h4 : ¬ (S.at L'[j].1).sq < (S.at L'[i].1).sq := by simpa using h1
    omega
  have s7' := sl_xi s7
  have hlen7 : (L'.map Subtype.val).length = L.length := by rw [List.length_map, hp.length_eq, hlen]
  generalize hLs : L'.map Subtype.val = Ls at *
  obtain ⟨J, j0, jstep, jend⟩ := hs Ls hSeal h7 x7
  refine ⟨rfl, fun v h8 => ∃ k : Nat, v = k ∧ k ≤ Ls.length ∧ J k h8 ∧ Fr (Yw h h7) h7 h8, fun v _ => Ls.length - v.toNat, ⟨0, rfl, Nat.zero_le _, j0, Fr.refl _ _⟩, ?_⟩
  rintro _ h8 ⟨k, rfl, hk, jk, f8⟩
  rw [← hlen7]
  refine ⟨fun hlt => ?_, fun hge => ?_⟩
  · have hkl := lt_of_dec hlt
    have s8 := s7'.fr f8 fun b hb q => by
      have h1 := w7.low hb
      rcases q with q | q <;> omega
    obtain ⟨b, o, e, d⟩ := s8.at (List.getElem?_eq_getElem hkl)
    refine ⟨b, o, e, by omega, by omega, _, d.1, HCV.mono (jstep k hkl h8 f8 jk) ?_⟩
    rintro _ h9 ⟨f9, bb, rfl, hf, ht⟩
    refine ⟨bb, rfl, fun g => hf (by cases bb; rfl; simp at g), fun g => ?_⟩
    rw [wadd k (by omega)]
    exact ⟨⟨k + 1, rfl, hkl, ht (by cases bb; simp at g; rfl), f8.trans f9 fun _ _ s => s⟩, by simp only [Int.toNat_natCast]; omega⟩
  · have hkl : k = Ls.length := by have := ge_of_dec hge; omega
    subst hkl
    exact jend h8 f8 jk
end
end Mg
end Go.Proofs.Ytfdgjgjcppfmiaa
