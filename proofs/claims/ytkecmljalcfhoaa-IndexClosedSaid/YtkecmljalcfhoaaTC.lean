/-
What is in the table, by hash: DeleteFunc and SortFunc.
-/
import Derived.Test.YtkecmljalcfhoaaTB
import Derived.Test.YtkecmljalcfhoaaShT
import Derived.Test.YtkecmljalcfhoaaShQ
import Derived.Test.YtkecmljalcfhoaaTL
namespace Go.Proofs.Ytkecmljalcfhoaa
open Go RH

def isE (e : Ent) : Bool := e.a != 0
theorem cb30 : CallB Try.prog 58 := fun _ _ => Try.call58 _ _
theorem isE_c (e : Ent) (h : Heap) : HCV Try.prog (.func (.func 58) #[] #[]) [.agg #[.int .u64 e.h, .int .u64 e.a, .int .u64 e.v, .int .u8 e.k]] h fun v h' => v = .bool (!isE e) ∧ Ext h h' :=
  hcv_func cb30 ((empty_c _ _ _ _ h).mono fun v h' ⟨e1, e2⟩ => ⟨by
    rw [e1]; congr 1; unfold isE
    rw [Bool.eq_iff_iff]; simp, e2⟩)

section
variable {N : Nat} {h : Heap} {a : Option Addr} {c : Nat} {M : List Ent}

theorem filter_take {M : List Ent} {t : Nat} (ht : t < M.length) : (M.take (t + 1)).filter isE = (M.take t).filter isE ++ if isE M[t] then [M[t]] else [] := by
  rw [List.take_add_one, List.getElem?_eq_getElem ht, List.filter_append]
  congr 1
  simp [List.filter_cons]

theorem idx_c (s : Sl eEnt h a c M) (hl : M.length ≤ 1099511627776) :
    HC Try.prog 70 #[.slice a M.length c, .func (.func 58) #[] #[]] h fun v h' => Ext h h' ∧ ((v = .int .i64 (-1) ∧ M.filter isE = M) ∨ ∃ k, v = .int .i64 (k : Nat) ∧ k < M.length ∧ (M.take (k + 1)).filter isE = M.take k) := by
  refine f70_sh _ _ _ _ _ _ ⟨fun i h1 => ∃ k : Nat, i = k ∧ k ≤ M.length ∧ Ext h h1 ∧ (M.take k).filter isE = M.take k, fun i _ => M.length - i.toNat, ⟨0, rfl, Nat.zero_le _, Ext.refl _, by simp⟩, ?_⟩
  rintro _ h1 ⟨k, rfl, hk, x1, hf⟩
  refine ⟨fun hlt => ?_, fun hge => ?_⟩
  · have hkl := lt_of_dec hlt
    obtain ⟨b, o, e, d⟩ := (s.ext x1).at (List.getElem?_eq_getElem hkl)
    refine ⟨b, o, e, by omega, by omega, _, _, _, _, d.1, d.2.1, d.2.2.1, d.2.2.2.1, (isE_c _ _).mono ?_⟩
    rintro _ h2 ⟨rfl, x2⟩
    refine ⟨_, rfl, fun q => ⟨x1.trans x2, .inr ⟨k, rfl, hkl, ?_⟩⟩, fun q => ?_⟩
    · have : isE M[k] = false := by simpa using q
      rw [filter_take hkl, this, hf]; simp
    · have he : isE M[k] = true := by simpa using q
      rw [wadd k (by omega)]
      refine ⟨⟨k + 1, rfl, hkl, x1.trans x2, ?_⟩, by simp only [Int.toNat_natCast]; omega⟩
      rw [filter_take hkl, he, hf, List.take_add_one, List.getElem?_eq_getElem hkl]; rfl
  · have hkl : k = M.length := by have := ge_of_dec hge; omega
    rw [hkl, List.take_length] at hf
    exact ⟨x1, .inl ⟨rfl, hf⟩⟩

set_option maxHeartbeats 4000000 in
theorem delf_c (s : Sl eEnt h a c M) (w : Own eEnt.k 31 N h a c) (hl : M.length ≤ 1099511627776) :
    HC Try.prog 56 #[.slice a M.length c, .func (.func 58) #[] #[]] h fun v h' => Fr (blkA a) h h' ∧ ∃ a' c', v = .slice a' (M.filter isE).length c' ∧ Sl eEnt h' a' c' (M.filter isE) ∧ Own eEnt.k 31 N h' a' c' ∧ ∀ b, blkA a' b → blkA a b := by
  have hle := s.le
  refine f56_sh _ _ _ _ _ _ ((idx_c s hl).mono ?_)
  rintro _ h1 ⟨x1, ⟨rfl, hf⟩ | ⟨k, rfl, hk, hf⟩⟩
  · refine ⟨_, rfl, fun _ => ?_, fun q => by simp at q⟩
    rw [hf]
    exact ⟨x1.fr _, a, c, rfl, s.ext x1, w.ext x1, fun _ h => h⟩
  obtain ⟨b, o, rfl, hc⟩ := s.addr (by omega)
  refine ⟨_, rfl, fun q => by simp at q, fun _ => ?_⟩
  refine ⟨fun i j h2 => ∃ (u t : Nat) (M' : List Ent), i = u ∧ j = t ∧ u < t ∧ t ≤ M.length ∧ M'.length = M.length ∧ M'.take u = (M.take t).filter isE ∧ (∀ q, t ≤ q → M'[q]? = M[q]?) ∧ Sl eEnt h2 (some ⟨b, o, none⟩) c M' ∧ Own eEnt.k 31 N h2 (some ⟨b, o, none⟩) c ∧ Fr (blkA (some ⟨b, o, none⟩)) h h2,
    fun _ j _ => M.length - j.toNat, ⟨k, k + 1, M, rfl, wadd k (by omega), by omega, by omega, rfl, hf.symm, fun _ _ => rfl, s.ext x1, w.ext x1, x1.fr _⟩, ?_⟩
  rintro _ _ h2 ⟨u, t, M', rfl, rfl, hut, ht, hM, htk, hsame, s2, w2, f2⟩
  refine ⟨fun hlt => ?_, fun hge => ?_⟩
  · have htl := lt_of_dec hlt
    have hx : M'[t]? = some M[t] := by rw [hsame t (Nat.le_refl _)]; exact List.getElem?_eq_getElem htl
    obtain ⟨b', o', e, d⟩ := s2.at hx
    cases e
    refine ⟨fun i h3 => ∃ (u' : Nat) (M'' : List Ent), i = u' ∧ u' < t + 1 ∧ M''.length = M.length ∧ M''.take u' = (M.take (t + 1)).filter isE ∧ (∀ q, t + 1 ≤ q → M''[q]? = M[q]?) ∧ Sl eEnt h3 (some ⟨b, o, none⟩) c M'' ∧ Own eEnt.k 31 N h3 (some ⟨b, o, none⟩) c ∧ Fr (blkA (some ⟨b, o, none⟩)) h h3,
      ⟨b, o, rfl, by omega, by omega, _, _, _, _, d.1, d.2.1, d.2.2.1, d.2.2.2.1, fun v h5 lo5 lt5 x5 => (isE_c _ _).mono ?_⟩, ?_⟩
    · rintro _ h6 ⟨rfl, x6⟩
      have x56 := x5.trans x6
      refine ⟨x6.kp _, _, rfl, fun q => ?_, fun q => ?_⟩
      · have he : isE M[t] = true := by simpa using q
        obtain ⟨hw, s3, w3⟩ := (s2.ext x56).put (w2.ext x56) (i := u) (by omega) M[t]
        refine ⟨by omega, by omega, hw, ?_⟩
        rintro h7 e7
        have eh : h7 = hsets h6 b (o + u * eEnt.k) (eEnt.enc M[t]) := e7
        rw [← eh] at s3 w3
        rw [wadd u (by omega)]
        refine ⟨u + 1, M'.set u M[t], rfl, by omega, by simpa using hM, ?_, fun q hq => ?_, s3, w3, ?_⟩
        · rw [filter_take htl, he, ← htk, List.take_add_one, List.getElem?_set_self (by omega), List.take_set_of_le (Nat.le_refl _)]
          rfl
        · rw [List.getElem?_set_ne (by omega)]; exact hsame q (by omega)
        · rw [eh]
          exact (f2.trans (x56.fr _) fun _ _ h => h).trans (fr_hsets (fun b' => b' = b) (fun _ => rfl)) (fun i _ hi => by rw [blkA_some]; exact hi)
      · have he : isE M[t] = false := by simpa using q
        refine ⟨u, M', rfl, by omega, hM, ?_, fun q hq => hsame q (by omega), s2.ext x56, w2.ext x56, f2.trans (x56.fr _) fun _ _ h => h⟩
        rw [filter_take htl, he, htk]; simp
    · rintro _ h3 ⟨u', M'', rfl, hu', hM'', htk', hsame', s3, w3, f3⟩
      rw [wadd t (by omega)]
      exact ⟨⟨u', t + 1, M'', rfl, rfl, hu', htl, hM'', htk', hsame', s3, w3, f3⟩, by simp only [Int.toNat_natCast]; omega⟩
  · have htl : t = M.length := by have := ge_of_dec hge; omega
    rw [htl, List.take_length] at htk
    have hulen : u = (M.filter isE).length := by
      have := congrArg List.length htk
      rw [List.length_take] at this; omega
    obtain ⟨cs, hrow, hcs, _⟩ := w2.row
    refine ⟨by omega, by omega, by omega, fun sl1 es1 => ?_⟩
    obtain ⟨o3, eo3, ho3⟩ := slA_some (b := b) (o := o) (l := u) (sz := 4) (m := c)
    have es1' : sl1 = some ⟨b, o3, none⟩ := es1.trans eo3
    have ho3' : M.length - u ≠ 0 → o3 = o + u * 4 := fun hn => ho3 (by omega)
    refine ⟨fun hn => ⟨b, o3, es1', ?_⟩, fun h4 q1 q2 => ?_⟩
    · rw [ho3' (by simpa using hn)]
      have k2 : eEnt.k = 4 := rfl
      rw [k2] at hcs
      refine HWs_row hrow ?_
      simp; omega
    · refine ⟨by omega, by omega, by omega, fun sl2 es2 => ?_⟩
      have final : Fr (blkA (some ⟨b, o, none⟩)) h h4 ∧ Sl eEnt h4 (some ⟨b, o, none⟩) c (M.filter isE) ∧ Own eEnt.k 31 N h4 (some ⟨b, o, none⟩) c := by
        by_cases hn : M.length - u = 0
        · rw [q1 (by simpa using hn)]
          have : M'.take u = M' := List.take_of_length_le (by omega)
          rw [← htk, this]
          exact ⟨f2, s2, w2⟩
        · rw [q2 b o3 (by simpa using hn) es1']
          refine ⟨f2.trans (fr_hsets (fun b' => b' = b) (fun _ => rfl)) (fun i _ hi => by rw [blkA_some]; exact hi), ?_, Own.hsets w2 _ _ _⟩
          rw [← htk]
          exact s2.before (by rw [ho3' hn]; exact Nat.le_refl _) _
      obtain ⟨g1, g2, g3⟩ := final
      have es2' : sl2 = some ⟨b, o, none⟩ := by
        rw [es2]; unfold slA; split <;> simp [add_lit]
      refine ⟨g1, sl2, c, ?_, by rw [es2']; exact g2, by rw [es2']; exact g3, fun b' hb' => by rw [es2'] at hb'; exact hb'⟩
      rw [← hulen]; simp

def ecmp (x y : Ent) : Int := ucmp x.h y.h
theorem lt_ecmp (x y : Ent) : ltOf ecmp x y = decide (x.h < y.h) := by
  unfold ltOf ecmp ucmp
  rw [Bool.eq_iff_iff]
  simp only [decide_eq_true_eq]
  split
  · simp; omega
  · split
    · simp; omega
    · simp; omega
theorem swo_ecmp : Go.Sort.SWO (ltOf ecmp) where
  irrefl x := by rw [lt_ecmp]; simp
  trans x y z h1 h2 := by rw [lt_ecmp] at *; simp at *; omega
  ntrans x y z h1 h2 := by rw [lt_ecmp] at *; simp at *; omega
theorem sort_c (s : Sl eEnt h a c M) (w : Own eEnt.k 31 N h a c) (hl : M.length ≤ 1099511627776) :
    HC Try.prog 59 #[.slice a M.length c, .func (.func 60) #[] #[]] h fun v h' => v = .tuple #[] ∧ Fr (blkA a) h h' ∧ ∃ L', L'.Perm M ∧ L'.Pairwise (fun x y => x.h ≤ y.h) ∧ Sl eEnt h' a c L' ∧ Own eEnt.k 31 N h' a c := by
  refine (hc_sort Lay.sortMt eEnt Try.isAgg31 Try.sizeOf31 ecmp swo_ecmp 60 #[] (fun args w => Try.call60 args w) s w (fun h1 _ x y => ?_) (by omega)).mono ?_
  · exact f60_sh _ _ _ _ _ _ _ _ _ _ fun h3 x3 => ⟨rfl, x3⟩
  · rintro v h' ⟨rfl, f, L', hp, hs, s', w'⟩
    exact ⟨rfl, f, L', hp, hs.imp fun h => by rw [lt_ecmp] at h; simpa using h, s', w'⟩
end
end Go.Proofs.Ytkecmljalcfhoaa
