/-
slices.Compact.
-/
import Derived.Test.YtmdgfbhmogjklaaMD
namespace Go.Proofs.Ytmdgfbhmogjklaa
open Go Ml

theorem compact_c {h : Heap} {a : Option Addr} {c N : Nat} {L : List Mt} (s : Sl eMt h a c L) (w : Own eMt.k tMt N h a c) (hl : L.length ≤ 1099511627776) :
    HC Try.prog 34 #[.slice a L.length c] h fun v h' => Fr (blkA a) h h' ∧ ∃ a' c', v = .slice a' (comp L).length c' ∧ Sl eMt h' a' c' (comp L) ∧ Own eMt.k tMt N h' a' c' ∧ ∀ b, blkA a' b → blkA a b := by
  have hle := s.le
  have done : comp L = L → (Fr (blkA a) h h ∧ ∃ a' c', Value.slice a L.length c = .slice a' (comp L).length c' ∧ Sl eMt h a' c' (comp L) ∧ Own eMt.k tMt N h a' c' ∧ ∀ b, blkA a' b → blkA a b) := fun e => by
    rw [e]; exact ⟨Fr.refl _ _, a, c, rfl, s, w, fun _ h => h⟩
  refine f34_sh _ _ _ _ _ ⟨fun e => ?_, fun e => ⟨fun i => ∃ j : Nat, i = j ∧ 1 ≤ j ∧ j ≤ L.length ∧ comp (L.take j) = L.take j, fun i => L.length - i.toNat, ⟨1, rfl, Nat.le_refl _, by simp at e; omega, ?_⟩, ?_⟩⟩
  · refine done ?_
    have : L.length < 2 := by simp at e; omega
    match L, this with
    | [], _ => rfl
    | [_], _ => rfl
  · have : 2 ≤ L.length := by simp at e; omega
    match L, this with
    | x :: _ :: _, _ => rfl
  rintro _ ⟨j, rfl, hj1, hj, hcj⟩
  refine ⟨fun hlt => ?_, fun hge => ?_⟩
  · have hjl := lt_of_dec hlt
    rw [wsub j hj1 (by omega)]
    obtain ⟨b, o, rfl, hc⟩ := s.addr (by omega)
    have c1 := hc j _ (List.getElem?_eq_getElem hjl)
    have c0 := hc (j - 1) _ (List.getElem?_eq_getElem (by omega : j - 1 < L.length))
    refine ⟨b, o, rfl, by omega, by omega, L[j].has, L[j].val, c1.1, c1.2.1, by omega, by omega, L[j - 1].has, L[j - 1].val, c0.1, c0.2.1, fun e2 => ?_, fun e2 => ?_⟩
    · rw [mt_eq] at e2
      have he : L[j] = L[j - 1] := by simpa using e2
      have hcj1 : comp (L.take (j + 1)) = L.take j := by rw [comp_take L j hj1 hjl, if_pos he.symm, hcj]; simp
      refine ⟨by omega, by omega, by omega, fun sl es => ?_⟩
      refine ⟨fun k1 k2 h1 => ∃ (u r : Nat) (M : List Mt), k1 = u ∧ k2 = r ∧ 1 ≤ r ∧ j + r ≤ L.length ∧ j ≤ u ∧ u ≤ j + r - 1 ∧ M.length = L.length ∧ M.take u = comp (L.take (j + r)) ∧ (∀ t, j + r - 1 ≤ t → M[t]? = L[t]?) ∧ Sl eMt h1 (some ⟨b, o, none⟩) c M ∧ Own eMt.k tMt N h1 (some ⟨b, o, none⟩) c ∧ Fr (blkA (some ⟨b, o, none⟩)) h h1,
        fun _ k2 _ => L.length - k2.toNat, ⟨j, 1, L, rfl, rfl, by omega, by omega, by omega, by omega, rfl, hcj1.symm, fun _ _ => rfl, s, w, Fr.refl _ _⟩, ?_⟩
      rintro _ _ h1 ⟨u, r, M, rfl, rfl, hr1, hr, hu, hur, hM, htk, hsame, s1, w1, f1⟩
      obtain ⟨o', eo, ho'⟩ := slA_some (b := b) (o := o) (l := j) (sz := 2) (m := c)
      have hjc : j ≠ c := by have := s.le; omega
      have ho'' := ho' hjc
      have esl : sl = some ⟨b, o', none⟩ := es.trans eo
      refine ⟨fun hlt2 => ?_, fun hge2 => ?_⟩
      · have hrl : j + r < L.length := by simp at hlt2; omega
        have cell : ∀ t, j + r - 1 ≤ t → (ht : t < L.length) → HCells h1 b (o' + (t - j) * 2) [.bool L[t].has, .string L[t].val] := fun t ht1 ht => by
          have hx : M[t]? = some L[t] := by rw [hsame t ht1]; exact List.getElem?_eq_getElem ht
          obtain ⟨b', o2, e, hc⟩ := s1.at hx
          cases e
          have : o' + (t - j) * 2 = o + t * 2 := by omega
          rw [this]; exact hc
        have d1 := cell (j + r) (by omega) hrl
        have d0 := cell (j + r - 1) (by omega) (by omega)
        rw [wsub r hr1 (by omega)]
        have e1 : j + r - j = r := by omega
        have e0 : j + r - 1 - j = r - 1 := by omega
        rw [e1] at d1; rw [e0] at d0
        refine ⟨fun k1 h2 => ∃ (u' : Nat) (M : List Mt), k1 = u' ∧ j ≤ u' ∧ u' ≤ j + r ∧ M.length = L.length ∧ M.take u' = comp (L.take (j + r + 1)) ∧ (∀ t, j + r ≤ t → M[t]? = L[t]?) ∧ Sl eMt h2 (some ⟨b, o, none⟩) c M ∧ Own eMt.k tMt N h2 (some ⟨b, o, none⟩) c ∧ Fr (blkA (some ⟨b, o, none⟩)) h h2, ?_, ?_⟩
        · refine ⟨b, o', esl, by omega, by simp; omega, L[j + r].has, L[j + r].val, d1.1, d1.2.1, by omega, by simp; omega, L[j + r - 1].has, L[j + r - 1].val, d0.1, d0.2.1, fun e3 => ?_, fun e3 => ?_⟩
          · rw [mt_eq] at e3
            have hne : ¬ L[j + r] = L[j + r - 1] := by simpa using e3
            obtain ⟨hw, s2, w2⟩ := s1.put w1 (i := u) (by omega) L[j + r]
            refine ⟨by omega, by simp; omega, L[j + r].has, L[j + r].val, d1.1, d1.2.1, by omega, by omega, hw, fun h3 e4 => ?_⟩
            rw [wadd u (by omega)]
            have eh : h3 = hsets h1 b (o + u * eMt.k) (eMt.enc L[j + r]) := e4
            rw [← eh] at s2 w2
            refine ⟨u + 1, M.set u L[j + r], rfl, by omega, by omega, by simpa using hM, ?_, fun t ht => ?_, s2, w2, ?_⟩
            · rw [comp_take L (j + r) (by omega) hrl, if_neg (fun h => hne h.symm), ← htk, List.take_add_one, List.getElem?_set_self (by omega)]
              rw [List.take_set_of_le (Nat.le_refl _)]
              rfl
            · rw [List.getElem?_set_ne (by omega)]; exact hsame t (by omega)
            · rw [eh]; exact f1.trans (fr_hsets (fun b' => b' = b) (fun _ => rfl)) (fun i _ hi => by rw [blkA_some]; exact hi)
          · rw [mt_eq] at e3
            have he3 : L[j + r] = L[j + r - 1] := by simpa using e3
            refine ⟨u, M, rfl, hu, by omega, hM, ?_, fun t ht => hsame t (by omega), s1, w1, f1⟩
            rw [comp_take L (j + r) (by omega) hrl, if_pos he3.symm, ← htk]; simp
        · rintro _ h2 ⟨u', M', rfl, hu1, hu2, hM', htk', hsame', s2, w2, f2⟩
          rw [wadd r (by omega)]
          refine ⟨⟨u', r + 1, M', rfl, rfl, by omega, by omega, hu1, by omega, hM', htk', fun t ht => hsame' t (by omega), s2, w2, f2⟩, ?_⟩
          simp only [Int.toNat_natCast]; omega
      · have hrl : j + r = L.length := by simp at hge2; omega
        have hulen : u = (comp L).length := by
          have := congrArg List.length htk
          rw [hrl, List.take_length, List.length_take] at this; omega
        obtain ⟨cs, hrow, hcs, _⟩ := w1.row
        have hul : u ≤ L.length := by omega
        refine ⟨by omega, by omega, by omega, fun sl1 es1 => ?_⟩
        obtain ⟨o3, eo3, ho3⟩ := slA_some (b := b) (o := o) (l := u) (sz := 2) (m := c)
        have es1' : sl1 = some ⟨b, o3, none⟩ := es1.trans eo3
        have ho3' : L.length - u ≠ 0 → o3 = o + u * 2 := fun hn => ho3 (by have := s.le; omega)
        refine ⟨fun hn => ⟨b, o3, es1', ?_⟩, fun h4 q1 q2 => ?_⟩
        · rw [ho3' (by simpa using hn)]
          have k2 : eMt.k = 2 := rfl
          rw [k2] at hcs
          refine HWs_row hrow ?_
          simp; omega
        · refine ⟨by omega, by omega, by omega, fun sl2 es2 => ?_⟩
          have final : Fr (blkA (some ⟨b, o, none⟩)) h h4 ∧ Sl eMt h4 (some ⟨b, o, none⟩) c (comp L) ∧ Own eMt.k tMt N h4 (some ⟨b, o, none⟩) c := by
            have e5 : M.take u = comp L := by rw [htk, hrl, List.take_length]
            by_cases hn : L.length - u = 0
            · rw [q1 (by simpa using hn)]
              have : M.take u = M := List.take_of_length_le (by omega)
              rw [← e5, this]
              exact ⟨f1, s1, w1⟩
            · rw [q2 b o3 (by simpa using hn) es1']
              refine ⟨f1.trans (fr_hsets (fun b' => b' = b) (fun _ => rfl)) (fun i _ hi => by rw [blkA_some]; exact hi), ?_, Own.hsets w1 _ _ _⟩
              rw [← e5]
              exact s1.before (by rw [ho3' hn]; exact Nat.le_refl _) _
          obtain ⟨g1, g2, g3⟩ := final
          have es2' : sl2 = some ⟨b, o, none⟩ := by
            rw [es2]; unfold slA; split <;> simp [add_lit]
          refine ⟨g1, sl2, c, ?_, by rw [es2']; exact g2, by rw [es2']; exact g3, fun b' hb' => by rw [es2'] at hb'; exact hb'⟩
          rw [← hulen]; simp
    · rw [mt_eq] at e2
      have hne : ¬ L[j] = L[j - 1] := by simpa using e2
      rw [wadd j (by omega)]
      refine ⟨⟨j + 1, rfl, by omega, hjl, ?_⟩, by simp only [Int.toNat_natCast]; omega⟩
      rw [comp_take L j hj1 hjl, if_neg (fun h => hne h.symm), hcj, List.take_add_one, List.getElem?_eq_getElem hjl]
      rfl
  · have hjl : j = L.length := by have := ge_of_dec hge; omega
    rw [hjl, List.take_length] at hcj
    exact done hcj
end Go.Proofs.Ytmdgfbhmogjklaa
