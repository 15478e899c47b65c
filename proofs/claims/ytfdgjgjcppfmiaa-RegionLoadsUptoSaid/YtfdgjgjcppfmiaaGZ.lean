/-
Load: whether regions may be as they are; slices cut by a condition.
-/
import Derived.Test.YtfdgjgjcppfmiaaGX
import Derived.Test.YtfdgjgjcppfmiaaQE
namespace Go.Proofs.Ytfdgjgjcppfmiaa
namespace Mg
open Go

/-! ### plain -/
def Fit0 (last : Int) (x : Inf) : Prop := ((x.st = 1 ∧ x.sq = 0) ∨ (x.st = 3 ∧ 1 ≤ x.sq ∧ x.sq ≤ last)) ∧ x.pins = 0 ∧ 0 ≤ x.er ∧ x.er ≤ 2147483647
instance (last : Int) (x : Inf) : Decidable (Fit0 last x) := by unfold Fit0; infer_instance
def gt (G : List Inf) (i : Nat) : Inf := G.getD i z0
theorem gt_eq {G : List Inf} {i : Nat} (h : i < G.length) : gt G i = G[i] := by unfold gt; rw [List.getD_eq_getElem?_getD, List.getElem?_eq_getElem h]; rfl
/-- The first k may be as they are. -/
def Ok (last : Int) (G : List Inf) (k : Nat) : Prop := (∀ i, i < k → Fit0 last (gt G i)) ∧ ∀ i j, i < j → j < k → (gt G i).st = 3 → (gt G j).st = 3 → (gt G i).sq ≠ (gt G j).sq
def cnt (b : Bool) : Int := if b then 1 else 0
def hit (G : List Inf) (k : Nat) (q : Int) : Bool := decide ((gt G k).st = 3) && decide ((gt G k).sq = q)
theorem hit_iff {G : List Inf} {k : Nat} {q : Int} : hit G k q = true ↔ (gt G k).st = 3 ∧ (gt G k).sq = q := by unfold hit; simp
def seen (G : List Inf) (k : Nat) (q : Int) : Bool := (List.range k).any fun i => hit G i q
theorem seen_iff {G : List Inf} {k : Nat} {q : Int} : seen G k q = true ↔ ∃ i, i < k ∧ (gt G i).st = 3 ∧ (gt G i).sq = q := by
  unfold seen; simp [hit_iff]
theorem seen_succ {G : List Inf} {k : Nat} {q : Int} : seen G (k + 1) q = (seen G k q || hit G k q) := by
  unfold seen; rw [List.range_succ, List.any_append]; simp
theorem ok_zero {last : Int} {G : List Inf} : Ok last G 0 := ⟨fun i h => by omega, fun i j _ h => by omega⟩
theorem ok_succ {last : Int} {G : List Inf} {k : Nat} (o : Ok last G k) (f : Fit0 last (gt G k)) (hs : (gt G k).st = 3 → seen G k (gt G k).sq = false) : Ok last G (k + 1) := by
  refine ⟨fun i hi => ?_, fun i j hij hj h1 h2 e => ?_⟩
  · by_cases hk : i = k
    · subst hk; exact f
    · exact o.1 i (by omega)
  · by_cases hk : j = k
    · subst hk
      have h3 := hs h2
      have : seen G j (gt G j).sq = true := seen_iff.2 ⟨i, hij, h1, e⟩
      rw [this] at h3; cases h3
    · exact o.2 i j hij (by omega) h1 h2 e
theorem ok_le {last : Int} {G : List Inf} {k n : Nat} (hk : k < n) (o : Ok last G n) : Fit0 last (gt G k) ∧ ((gt G k).st = 3 → seen G k (gt G k).sq = false) := by
  refine ⟨o.1 k hk, fun h => ?_⟩
  cases hb : seen G k (gt G k).sq with
  | false => rfl
  | true => obtain ⟨i, hi, h1, e⟩ := seen_iff.1 hb; exact absurd e (o.2 i k hi hk h1 h)
theorem cond_m {st sq pins er last : Int} (h0 : 0 ≤ sq) : (bif !((st == 1) && (sq == 0)) then (!((st == 3) && ((decide (sq ≥ 1)) && (decide (sq ≤ last))))) || ((pins != 0) || ((decide (er < 0)) || (decide (er > 2147483647)))) else (pins != 0) || ((decide (er < 0)) || (decide (er > 2147483647)))) = !decide (Fit0 last ⟨st, sq, pins, er⟩) := by
  have key : decide (Fit0 last ⟨st, sq, pins, er⟩) = ((decide (st = 1) && decide (sq = 0) || decide (st = 3) && (decide (1 ≤ sq) && decide (sq ≤ last))) && (decide (pins = 0) && (decide (0 ≤ er) && decide (er ≤ 2147483647)))) := by
    rw [Bool.eq_iff_iff]; simp only [decide_eq_true_eq, Bool.and_eq_true, Bool.or_eq_true]; exact Iff.rfl
  rw [key]
  have e1 : decide (1 ≤ sq) = !(sq == 0) := by rw [Bool.eq_iff_iff]; simp; omega
  have e2 : decide (sq ≤ last) = !decide (sq > last) := by rw [Bool.eq_iff_iff]; simp
  have e3 : decide (0 ≤ er) = !decide (er < 0) := by rw [Bool.eq_iff_iff]; simp
  have e4 : decide (er ≤ 2147483647) = !decide (er > 2147483647) := by rw [Bool.eq_iff_iff]; simp
  have e5 : decide (pins = 0) = !(pins != 0) := by rw [Bool.eq_iff_iff]; simp
  have e6 : decide (sq = 0) = (sq == 0) := by rw [Bool.eq_iff_iff]; simp
  have e7 : decide (st = 1) = (st == 1) := by rw [Bool.eq_iff_iff]; simp
  have e8 : decide (st = 3) = (st == 3) := by rw [Bool.eq_iff_iff]; simp
  have e9 : (st == 1) = true → (st == 3) = false := fun g => by have := eq_of_beq g; subst this; rfl
  have e10 : decide (sq ≥ 1) = !(sq == 0) := e1
  have e11 : (sq != 0) = !(sq == 0) := rfl
  simp only [e1, e2, e3, e4, e5, e6, e7, e8, e10, e11]
  generalize (st == 1) = b1 at *
  generalize (st == 3) = b3 at *
  generalize (sq == 0) = b0 at *
  generalize decide (sq > last) = b4 at *
  generalize decide (er < 0) = b5 at *
  generalize decide (er > 2147483647) = b6 at *
  generalize (pins != 0) = b7 at *
  clear key e1 e2 e3 e4 e5 e6 e7 e8 e10 e11
  revert e9
  cases b1 <;> cases b3 <;> cases b0 <;> cases b4 <;> cases b5 <;> cases b6 <;> cases b7 <;> decide
theorem cond_r {st sq pins er last : Int} (h0 : 0 ≤ sq) : (bif !(st == 1) then (!(st == 3)) || ((pins != 0) || ((decide (er < 0)) || ((decide (er > 2147483647)) || (bif st == 1 then (sq != 0) || ((st == 3) && ((sq == 0) || (decide (sq > last)))) else (st == 3) && ((sq == 0) || (decide (sq > last))))))) else (pins != 0) || ((decide (er < 0)) || ((decide (er > 2147483647)) || (bif st == 1 then (sq != 0) || ((st == 3) && ((sq == 0) || (decide (sq > last)))) else (st == 3) && ((sq == 0) || (decide (sq > last))))))) = !decide (Fit0 last ⟨st, sq, pins, er⟩) := by
  have key : decide (Fit0 last ⟨st, sq, pins, er⟩) = ((decide (st = 1) && decide (sq = 0) || decide (st = 3) && (decide (1 ≤ sq) && decide (sq ≤ last))) && (decide (pins = 0) && (decide (0 ≤ er) && decide (er ≤ 2147483647)))) := by
    rw [Bool.eq_iff_iff]; simp only [decide_eq_true_eq, Bool.and_eq_true, Bool.or_eq_true]; exact Iff.rfl
  rw [key]
  have e1 : decide (1 ≤ sq) = !(sq == 0) := by rw [Bool.eq_iff_iff]; simp; omega
  have e2 : decide (sq ≤ last) = !decide (sq > last) := by rw [Bool.eq_iff_iff]; simp
  have e3 : decide (0 ≤ er) = !decide (er < 0) := by rw [Bool.eq_iff_iff]; simp
  have e4 : decide (er ≤ 2147483647) = !decide (er > 2147483647) := by rw [Bool.eq_iff_iff]; simp
  have e5 : decide (pins = 0) = !(pins != 0) := by rw [Bool.eq_iff_iff]; simp
  have e6 : decide (sq = 0) = (sq == 0) := by rw [Bool.eq_iff_iff]; simp
  have e7 : decide (st = 1) = (st == 1) := by rw [Bool.eq_iff_iff]; simp
  have e8 : decide (st = 3) = (st == 3) := by rw [Bool.eq_iff_iff]; simp
  have e9 : (st == 1) = true → (st == 3) = false := fun g => by have := eq_of_beq g; subst this; rfl
  have e10 : decide (sq ≥ 1) = !(sq == 0) := e1
  have e11 : (sq != 0) = !(sq == 0) := rfl
  simp only [e1, e2, e3, e4, e5, e6, e7, e8, e10, e11]
  generalize (st == 1) = b1 at *
  generalize (st == 3) = b3 at *
  generalize (sq == 0) = b0 at *
  generalize decide (sq > last) = b4 at *
  generalize decide (er < 0) = b5 at *
  generalize decide (er > 2147483647) = b6 at *
  generalize (pins != 0) = b7 at *
  clear key e1 e2 e3 e4 e5 e6 e7 e8 e10 e11
  revert e9
  cases b1 <;> cases b3 <;> cases b0 <;> cases b4 <;> cases b5 <;> cases b6 <;> cases b7 <;> decide

section
variable {h : Heap} {a : Option Addr} {c N : Nat} {M : List Int} {G : List Inf} {pr : Int → Bool} {cl : Value}

theorem clone_i (s : Sl eInf h a c G) (hl : G.length ≤ 1048576) : HC Try.prog 50 #[.slice a G.length c] h fun v h' => New eInf tI h h' v G := by
  refine f50_sh _ _ _ _ _ ⟨fun g => ?_, fun _ nb h1 en eh => ?_⟩
  · have : G = [] := by
      cases G with
      | nil => rfl
      | cons x L => obtain ⟨b, o, e, _⟩ := s.addr (by simp); rw [e] at g; simp at g
    subst this
    exact New.nil (Ext.refl _)
  · have x1 : Ext h h1 := by rw [eh]; exact Ext.push _ _
    have r1 : h1[nb]? = some (.cells (([] : List Inf).flatMap eInf.enc).toArray tI (0, 0)) := by rw [eh]; exact push_new en
    refine app_own (n := 0) aInf x1 (Sl.lit (L := []) r1) (Own.lit (L := []) (N := h.size) r1 (by omega)) rfl (s.ext x1) rfl (by omega) fun a' c' h2 x2 _ s2 w2 _ => ?_
    exact ⟨_, _, _, rfl, a', c', by simp, x2, by simpa using s2, w2⟩

theorem filter_take {M : List Int} {t : Nat} (ht : t < M.length) : (M.take (t + 1)).filter pr = (M.take t).filter pr ++ if pr M[t] then [M[t]] else [] := by
  rw [List.take_add_one, List.getElem?_eq_getElem ht, List.filter_append]
  congr 1
  simp [List.filter_cons]
theorem idx_m (s : Sl eI h a c M) (hl : M.length ≤ 1048576) (hp : ∀ x ∈ M, HCV Try.prog cl [.int .i64 x] h fun v h2 => v = .bool (!pr x) ∧ h2 = h) :
    HC Try.prog 58 #[.slice a M.length c, cl] h fun v h' => h' = h ∧ ((v = .int .i64 (-1) ∧ M.filter pr = M) ∨ ∃ k, v = .int .i64 (k : Nat) ∧ k < M.length ∧ (M.take (k + 1)).filter pr = M.take k) := by
  refine f58_sh _ _ _ _ _ _ ⟨fun i h1 => ∃ k : Nat, i = k ∧ k ≤ M.length ∧ h1 = h ∧ (M.take k).filter pr = M.take k, fun i _ => M.length - i.toNat, ⟨0, rfl, Nat.zero_le _, rfl, by simp⟩, ?_⟩
  rintro _ h1 ⟨k, rfl, hk, rfl, hf⟩
  refine ⟨fun hlt => ?_, fun hge => ?_⟩
  · have hkl := lt_of_dec hlt
    obtain ⟨b, o, e, d⟩ := s.at (List.getElem?_eq_getElem hkl)
    refine ⟨b, o, e, by omega, by omega, _, d.1, (hp _ (List.getElem_mem hkl)).mono ?_⟩
    rintro _ h2 ⟨rfl, rfl⟩
    refine ⟨_, rfl, fun q => ⟨rfl, .inr ⟨k, rfl, hkl, ?_⟩⟩, fun q => ?_⟩
    · have : pr M[k] = false := by simpa using q
      rw [filter_take hkl, this, hf]; simp
    · have he : pr M[k] = true := by simpa using q
      rw [wadd k (by omega)]
      refine ⟨⟨k + 1, rfl, hkl, rfl, ?_⟩, by simp only [Int.toNat_natCast]; omega⟩
      rw [filter_take hkl, he, hf, List.take_add_one, List.getElem?_eq_getElem hkl]; rfl
  · have hkl : k = M.length := by have := ge_of_dec hge; omega
    rw [hkl, List.take_length] at hf
    exact ⟨rfl, .inl ⟨rfl, hf⟩⟩

set_option maxHeartbeats 4000000 in
theorem delf_m (s : Sl eI h a c M) (w : Own eI.k 3 N h a c) (hl : M.length ≤ 1048576) (hp : ∀ h1, Fr (blkA a) h h1 → ∀ x ∈ M, HCV Try.prog cl [.int .i64 x] h1 fun v h2 => v = .bool (!pr x) ∧ h2 = h1) :
    HC Try.prog 51 #[.slice a M.length c, cl] h fun v h' => Fr (blkA a) h h' ∧ ∃ a' c', v = .slice a' (M.filter pr).length c' ∧ Sl eI h' a' c' (M.filter pr) ∧ Own eI.k 3 N h' a' c' ∧ ∀ b, blkA a' b → blkA a b := by
  have hle := s.le
  refine f51_sh _ _ _ _ _ _ ((idx_m s hl (hp h (Fr.refl _ _))).mono ?_)
  rintro _ h1 ⟨rfl, ⟨rfl, hf⟩ | ⟨k, rfl, hk, hf⟩⟩
  · refine ⟨_, rfl, fun _ => ?_, fun q => by simp at q⟩
    rw [hf]
    exact ⟨Fr.refl _ _, a, c, rfl, s, w, fun _ h => h⟩
  obtain ⟨b, o, rfl, hc⟩ := s.addr (by omega)
  refine ⟨_, rfl, fun q => by simp at q, fun _ => ?_⟩
  refine ⟨fun i j h2 => ∃ (u t : Nat) (M' : List Int), i = u ∧ j = t ∧ u < t ∧ t ≤ M.length ∧ M'.length = M.length ∧ M'.take u = (M.take t).filter pr ∧ (∀ q, t ≤ q → M'[q]? = M[q]?) ∧ Sl eI h2 (some ⟨b, o, none⟩) c M' ∧ Own eI.k 3 N h2 (some ⟨b, o, none⟩) c ∧ Fr (blkA (some ⟨b, o, none⟩)) h1 h2,
    fun _ j _ => M.length - j.toNat, ⟨k, k + 1, M, rfl, wadd k (by omega), by omega, by omega, rfl, hf.symm, fun _ _ => rfl, s, w, Fr.refl _ _⟩, ?_⟩
  rintro _ _ h2 ⟨u, t, M', rfl, rfl, hut, ht, hM, htk, hsame, s2, w2, f2⟩
  refine ⟨fun hlt => ?_, fun hge => ?_⟩
  · have htl := lt_of_dec hlt
    have hx : M'[t]? = some M[t] := by rw [hsame t (Nat.le_refl _)]; exact List.getElem?_eq_getElem htl
    obtain ⟨b', o', e, d⟩ := s2.at hx
    cases e
    refine ⟨fun i h3 => ∃ (u' : Nat) (M'' : List Int), i = u' ∧ u' < t + 1 ∧ M''.length = M.length ∧ M''.take u' = (M.take (t + 1)).filter pr ∧ (∀ q, t + 1 ≤ q → M''[q]? = M[q]?) ∧ Sl eI h3 (some ⟨b, o, none⟩) c M'' ∧ Own eI.k 3 N h3 (some ⟨b, o, none⟩) c ∧ Fr (blkA (some ⟨b, o, none⟩)) h1 h3,
      ⟨b, o, rfl, by omega, by omega, _, d.1, (hp h2 f2 _ (List.getElem_mem htl)).mono ?_⟩, ?_⟩
    · rintro _ h6 ⟨rfl, rfl⟩
      refine ⟨_, rfl, fun q => ?_, fun q => ?_⟩
      · have he : pr M[t] = true := by simpa using q
        obtain ⟨hw, s3, w3⟩ := s2.put w2 (i := u) (by omega) M[t]
        refine ⟨by omega, by omega, hw 0 (by decide), ?_⟩
        rintro h7 e7
        have eh : h7 = hsets h6 b (o + u * eI.k) (eI.enc M[t]) := e7
        rw [← eh] at s3 w3
        rw [wadd u (by omega)]
        refine ⟨u + 1, M'.set u M[t], rfl, by omega, by simpa using hM, ?_, fun q hq => ?_, s3, w3, ?_⟩
        · rw [filter_take htl, he, ← htk, List.take_add_one, List.getElem?_set_self (by omega), List.take_set_of_le (Nat.le_refl _)]
          rfl
        · rw [List.getElem?_set_ne (by omega)]; exact hsame q (by omega)
        · rw [eh]
          exact f2.trans (fr_hsets (fun b' => b' = b) (fun _ => rfl)) (fun i _ hi => by rw [blkA_some]; exact hi)
      · have he : pr M[t] = false := by simpa using q
        refine ⟨u, M', rfl, by omega, hM, ?_, fun q hq => hsame q (by omega), s2, w2, f2⟩
        rw [filter_take htl, he, htk]; simp
    · rintro _ h3 ⟨u', M'', rfl, hu', hM'', htk', hsame', s3, w3, f3⟩
      rw [wadd t (by omega)]
      exact ⟨⟨u', t + 1, M'', rfl, rfl, hu', htl, hM'', htk', hsame', s3, w3, f3⟩, by simp only [Int.toNat_natCast]; omega⟩
  · have htl : t = M.length := by have := ge_of_dec hge; omega
    rw [htl, List.take_length] at htk
    have hulen : u = (M.filter pr).length := by
      have := congrArg List.length htk
      rw [List.length_take] at this; omega
    obtain ⟨cs, hrow, hcs, _⟩ := w2.row
    refine ⟨by omega, by omega, by omega, fun sl1 es1 => ?_⟩
    obtain ⟨o3, eo3, ho3⟩ := slA_some (b := b) (o := o) (l := u) (sz := 1) (m := c)
    have es1' : sl1 = some ⟨b, o3, none⟩ := es1.trans eo3
    have ho3' : M.length - u ≠ 0 → o3 = o + u * 1 := fun hn => ho3 (by omega)
    refine ⟨fun hn => ⟨b, o3, es1', ?_⟩, fun h4 q1 q2 => ?_⟩
    · rw [ho3' (by simpa using hn)]
      have k2 : eI.k = 1 := rfl
      rw [k2] at hcs
      refine HWs_row hrow ?_
      simp; omega
    · refine ⟨by omega, by omega, by omega, fun sl2 es2 => ?_⟩
      have final : Fr (blkA (some ⟨b, o, none⟩)) h1 h4 ∧ Sl eI h4 (some ⟨b, o, none⟩) c (M.filter pr) ∧ Own eI.k 3 N h4 (some ⟨b, o, none⟩) c := by
        by_cases hn : M.length - u = 0
        · rw [q1 (by simpa using hn)]
          have : M'.take u = M' := List.take_of_length_le (by omega)
          rw [← htk, this]
          exact ⟨f2, s2, w2⟩
        · rw [q2 b o3 (by simpa using hn) es1']
          refine ⟨f2.trans (fr_hsets (fun b' => b' = b) (fun _ => rfl)) (fun i _ hi => by rw [blkA_some]; exact hi), ?_, Own.hsets w2 _ _ _⟩
          rw [← htk]
          exact s2.before (by rw [ho3' hn]; exact Nat.le_refl _) _
      obtain ⟨g1, g2, g3⟩ := final
      have es2' : sl2 = some ⟨b, o, none⟩ := by
        rw [es2]; unfold slA; split <;> simp [add_lit]
      refine ⟨g1, sl2, c, ?_, by rw [es2']; exact g2, by rw [es2']; exact g3, fun b' hb' => by rw [es2'] at hb'; exact hb'⟩
      rw [← hulen]; simp

set_option maxHeartbeats 1600000 in
theorem loads_m (s : Sl eInf h a c G) (hl : G.length ≤ 1048576) (h0 : ∀ i, 0 ≤ (gt G i).sq) (last : Int) : HC Try.prog 49 #[.slice a G.length c, .int .u64 last] h fun v h' => Ext h h' ∧ ∃ r : Bool, v = .bool r ∧ (r = true ↔ Ok last G G.length ∧ last ≤ 9223372036854775807) := by
  refine f49_sh _ _ _ _ _ _ fun mb h1 emb x1 _ m1 => ?_
  refine ⟨fun v h2 => ∃ (k : Nat) (kv : List (Int × Value)), v = k ∧ k ≤ G.length ∧ Ext h h2 ∧ MapL h2 mb (Value.int .u64) kv ∧ Ok last G k ∧ ∀ q, (lk kv q).getD (.int .i64 0) = .int .i64 (cnt (seen G k q)), fun v _ => G.length - v.toNat,
    ⟨0, [], rfl, Nat.zero_le _, x1, m1, ok_zero, fun q => rfl⟩, ?_⟩
  rintro _ h2 ⟨k, kv, rfl, hk, x2, m2, ok, hkv⟩
  refine ⟨fun hlt => ?_, fun hge => ?_⟩
  · have hkl := lt_of_dec hlt
    obtain ⟨b, o, e, d⟩ := (s.ext x2).at (List.getElem?_eq_getElem hkl)
    have eg := gt_eq hkl
    refine ⟨b, o, e, by omega, by omega, _, _, _, _, d.1, d.2.1, d.2.2.1, d.2.2.2.1, ?_⟩
    rw [cond_m (by rw [← eg]; exact h0 k), show (⟨G[k].st, G[k].sq, G[k].pins, G[k].er⟩ : Inf) = gt G k from eg.symm, ← eg]
    refine ⟨fun g h4 x4 => ⟨x2.trans x4, false, rfl, ?_⟩, fun g => ?_⟩
    · have hn : ¬ Fit0 last (gt G k) := by simpa using g
      exact ⟨fun q => (by cases q), fun q => absurd (ok_le hkl q.1).1 hn⟩
    have hf : Fit0 last (gt G k) := by simpa using g
    have c3 : (((gt G k).st == 3) && ((decide ((gt G k).sq ≥ 1)) && (decide ((gt G k).sq ≤ last)))) = decide ((gt G k).st = 3) := by
      rw [Bool.eq_iff_iff]; simp only [Bool.and_eq_true, beq_iff_eq, decide_eq_true_eq]
      obtain ⟨h1 | h1, _⟩ := hf <;> omega
    rw [c3]
    refine ⟨fun h5 => ∃ kv', Ext h h5 ∧ MapL h5 mb (Value.int .u64) kv' ∧ ∀ q, (lk kv' q).getD (.int .i64 0) = .int .i64 (cnt (seen G k q) + cnt (hit G k q)), ⟨fun g3 => ?_, fun g3 h4 x4 => ?_⟩, ?_⟩
    · have h3 := of_decide_eq_true g3
      refine ⟨kv, m2, _, hkv _, fun r h4 _ _ x4 => ⟨kv, m2.ext x4, fun h6 o6 m6 => ⟨_, ?_, m6, fun q => ?_⟩⟩⟩
      · exact (((x2.trans x4).fr _).trans o6.fr fun _ _ s => s).ext fun b hb s => by omega
      · rw [lk_kput]
        by_cases hq : q = (gt G k).sq
        · subst hq
          rw [if_pos rfl, hit_iff.2 ⟨h3, rfl⟩]
          cases seen G k (gt G k).sq <;> rfl
        · rw [if_neg hq, hkv]
          have : hit G k q = false := by cases hb : hit G k q; rfl; exact absurd (hit_iff.1 hb).2.symm hq
          rw [this]; simp [cnt]
    · have h3 := of_decide_eq_false g3
      refine ⟨kv, x2.trans x4, m2.ext x4, fun q => ?_⟩
      have : hit G k q = false := by cases hb : hit G k q; rfl; exact absurd (hit_iff.1 hb).1 h3
      rw [this, hkv]; simp [cnt]
    · rintro h5 ⟨kv', x5, m5, hkv'⟩ r _ _
      refine ⟨kv', m5, _, hkv' _, fun g4 => ⟨x5, false, rfl, fun q => (by cases q), fun q => ?_⟩, fun g4 => ?_⟩
      · have g5 := of_decide_eq_true g4
        have := (ok_le hkl q.1).2
        by_cases h3 : (gt G k).st = 3
        · rw [this h3] at g5
          cases hb : hit G k (gt G k).sq <;> rw [hb] at g5 <;> exact absurd g5 (by decide)
        · have : hit G k (gt G k).sq = false := by cases hb : hit G k (gt G k).sq; rfl; exact absurd (hit_iff.1 hb).1 h3
          rw [this] at g5
          cases hb : seen G k (gt G k).sq <;> rw [hb] at g5 <;> exact absurd g5 (by decide)
      · have g5 := of_decide_eq_false g4
        rw [wadd k (by omega)]
        have one : hit G k (gt G k).sq = true → seen G k (gt G k).sq = false := fun g => by
          rw [g] at g5
          cases hb : seen G k (gt G k).sq
          · rfl
          · rw [hb] at g5; exact absurd g5 (by decide)
        refine ⟨⟨k + 1, kv', rfl, hkl, x5, m5, ok_succ ok hf fun h3 => one (hit_iff.2 ⟨h3, rfl⟩), fun q => ?_⟩, by simp only [Int.toNat_natCast]; omega⟩
        rw [hkv', seen_succ]
        congr 1
        cases hb : hit G k q
        · simp [cnt]
        · have := one (hit_iff.2 ⟨(hit_iff.1 hb).1, rfl⟩)
          rw [(hit_iff.1 hb).2] at this
          rw [this]; rfl
  · have hkl : k = G.length := by have := ge_of_dec hge; omega
    subst hkl
    exact ⟨x2, _, rfl, by rw [decide_eq_true_eq]; exact ⟨fun q => ⟨ok, q⟩, fun q => q.2⟩⟩
end
end Mg
end Go.Proofs.Ytfdgjgjcppfmiaa
