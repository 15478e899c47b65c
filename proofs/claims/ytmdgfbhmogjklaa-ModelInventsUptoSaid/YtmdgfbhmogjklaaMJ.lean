/-
The laws of the lossy map, over heaps: second part.
-/
import Derived.Test.YtmdgfbhmogjklaaMI
namespace Go.Proofs.Ytmdgfbhmogjklaa
open Go Ml

theorem law_drops {h : Heap} {a : Option Addr} {c : Nat} {L : List Mv} (s : Sl eMv h a c L) (hl : L.length ≤ 1048576) (key : Str) (at_ : Int) :
    HC Try.prog 4 #[.slice a L.length c, .string key, .int .i64 at_] h (Yes h) := by
  have hle := s.le
  refine f4_sh _ _ _ _ _ _ _ fun h1 x1 => ?_
  refine (accepts_c (s.ext x1) (by omega)).mono ?_
  rintro _ h2 ⟨x2, ok, n, rfl, acc⟩
  have x12 := x1.trans x2
  rw [wadd L.length (by omega)]
  refine ⟨_, _, rfl, by omega, fun kk ekk => ?_⟩
  obtain ⟨k, hk, ek⟩ := at_mod (n := L.length + 1) (by omega) (by omega) at_
  have ek' : kk = (k : Int) := by
    rw [ekk, ← ek]
    by_cases hneg : Int.tmod at_ ((L.length + 1 : Nat) : Int) < 0
    · have h1 : -((L.length + 1 : Nat) : Int) < Int.tmod at_ ((L.length + 1 : Nat) : Int) := by
        rcases Int.le_total 0 at_ with hx | hx
        · have := Int.tmod_nonneg ((L.length + 1 : Nat) : Int) hx; omega
        · have h3 := Int.tmod_lt_of_pos (-at_) (show (0 : Int) < ((L.length + 1 : Nat) : Int) by omega)
          have h4 : Int.tmod at_ ((L.length + 1 : Nat) : Int) = - Int.tmod (-at_) ((L.length + 1 : Nat) : Int) := by rw [Int.neg_tmod, Int.neg_neg]
          omega
      simp only [hneg, decide_true, cond_true]
      rw [w64 (x := Int.tmod at_ ((L.length + 1 : Nat) : Int) + (L.length : Int)) (by omega) (by omega)]
      congr 1; omega
    · simp only [hneg, decide_false, cond_false]
  subst ek'
  clear ekk ek
  intro nb h3 eb eh
  obtain ⟨a3, c3, e3, x3, s3, w3⟩ := New.lit (E := eMv) (h0 := h) (n := 0) (L := ([] : List Mv)) x12 eb eh rfl rfl
  cases e3
  refine ⟨by omega, by omega, by omega, fun sl es => ?_⟩
  rw [es]
  refine app_own (n := 0) aMv x3 s3 w3 rfl ((s.ext x3).cut (l := 0) (r := k) (Nat.zero_le _) (by omega)) (by simp; omega) (by simp; omega) ?_
  intro a4 c4 h4 x4 _ s4 w4 _
  refine ⟨a4, _, c4, rfl, fun nb1 h5 eb1 eh1 => ?_⟩
  refine app_one (x := ⟨1, key, ByteArray.empty, 0, false, 0, 0, 3⟩) aMv eb1 eh1 rfl x4 s4 w4 (by simp; omega) (by simp; omega) ?_
  intro a6 c6 h6 x6 _ s6 w6 _
  refine ⟨a6, _, c6, rfl, by omega, by omega, by omega, fun sl1 es1 => ?_⟩
  rw [es1]
  refine app_own aMv x6 s6 w6 (by simp; omega) ((s.ext x6).cut (l := k) (r := L.length) (by omega) (Nat.le_refl _)) (by simp) (by simp; omega) ?_
  intro a7 c7 h7 x7 _ s7 w7 _
  have s7' : Sl eMv h7 a7 c7 (L.take k ++ [⟨1, key, ByteArray.empty, 0, false, 0, 0, 3⟩] ++ L.drop k) := s7.cast (by simp)
  have hlen : (0 + (Int.toNat (k : Int) - Int.toNat 0) + 1 + (Int.toNat (L.length : Int) - Int.toNat (k : Int))) = (L.take k ++ [(⟨1, key, ByteArray.empty, 0, false, 0, 0, 3⟩ : Mv)] ++ L.drop k).length := by simp; omega
  refine ⟨a7, _, c7, rfl, ?_⟩
  rw [hlen]
  refine (accepts_c s7' (by simp; omega)).mono ?_
  rintro _ h8 ⟨x8, ok8, n8, rfl, acc8⟩
  have same8 : ok8 = ok := by
    have h1 : Acc (L.take k ++ [⟨1, key, ByteArray.empty, 0, false, 0, 0, 3⟩] ++ L.drop k) ↔ Acc L := by
      rw [acc_iff, acc_iff]
      have : ∀ q, ends (L.take k ++ [⟨1, key, ByteArray.empty, 0, false, 0, 0, 3⟩] ++ L.drop k) q = ends L q := fun q => by
        rw [ends_miss _ _ _ rfl rfl, List.take_append_drop]
      simp only [this]
    have h2 := acc8.ok_iff; have h3 := acc.ok_iff
    rw [h1, ← h3] at h2
    cases ok8 <;> cases ok <;> simp at h2 ⊢
  refine ⟨_, _, rfl, fun e => by rw [same8] at e; simp at e, fun _ => ?_⟩
  refine ⟨fun i h' => ∃ j : Nat, i = j ∧ j ≤ L.length ∧ Ext h h', fun i _ => L.length - i.toNat, ⟨0, rfl, Nat.zero_le _, x7.trans x8⟩, ?_⟩
  rintro _ h9 ⟨j, rfl, hj, x9⟩
  refine ⟨fun hlt => ?_, fun _ => ⟨rfl, x9⟩⟩
  have hjl := lt_of_dec hlt
  obtain ⟨b, o, e0, d⟩ := (s.ext x9).at (List.getElem?_eq_getElem hjl)
  refine ⟨fun h' => Ext h h', ⟨b, o, e0, by omega, by omega, L[j].kind, d.1, fun _ => x9, fun e => ?_⟩, fun h10 x10 => ?_⟩
  · have hkind : L[j].kind = 1 := by simpa using e
    rw [← e0]
    refine (without_c (s.ext x9) (by omega) hjl).mono ?_
    rintro _ h11 ⟨a11, c11, rfl, x11, s11, _⟩
    refine ⟨a11, _, c11, rfl, (accepts_c s11 (by simp; omega)).mono ?_⟩
    rintro _ h12 ⟨x12', ok12, n12, rfl, acc12⟩
    refine ⟨_, _, rfl, fun e => ?_, fun _ => x9.trans (x11.trans x12')⟩
    exfalso
    have h1 : ok = true := by cases ok <;> simp at e ⊢
    have h2 : ok12 = true := acc12.ok_iff.2 (acc_without hjl hkind (acc.ok_iff.1 h1))
    rw [h1, h2] at e; cases e
  · rw [wadd j (by omega)]
    exact ⟨⟨j + 1, rfl, hjl, x10⟩, by simp only [Int.toNat_natCast]; omega⟩

theorem law_invents {h : Heap} {a : Option Addr} {c : Nat} {L : List Mv} (s : Sl eMv h a c L) (hl : L.length ≤ 1048576) :
    HC Try.prog 6 #[.slice a L.length c] h (Yes h) := by
  refine f6_sh _ _ _ _ _ fun h1 x1 => ?_
  refine (accepts_c (s.ext x1) (by omega)).mono ?_
  rintro _ h2 ⟨x2, ok, n0, rfl, acc⟩
  have x12 := x1.trans x2
  refine ⟨_, _, rfl, fun n en => ?_⟩
  have hn : ∃ N : Nat, n = N ∧ N ≤ L.length ∧ ∀ i, i < N → bad L i = false := by
    rcases acc with ⟨rfl, rfl, h⟩ | ⟨rfl, i, rfl, hi, _, h⟩
    · exact ⟨L.length, en, Nat.le_refl _, fun i _ => h i⟩
    · exact ⟨i, en, by omega, h⟩
  obtain ⟨N, rfl, hN, hb⟩ := hn
  clear en
  refine ⟨fun e => by simp at e; omega, fun _ => ?_⟩
  refine ⟨fun i => ∃ j : Nat, i = j ∧ j ≤ N, fun i => N - i.toNat, ⟨0, rfl, Nat.zero_le _⟩, ?_⟩
  rintro _ ⟨j, rfl, hj⟩
  refine ⟨fun hlt => ?_, fun _ h3 x3 => ⟨rfl, x12.trans x3⟩⟩
  have hjn := lt_of_dec hlt
  have hjl : j < L.length := by omega
  have s2 := s.ext x12
  obtain ⟨b, o, e0, d⟩ := s2.at (List.getElem?_eq_getElem hjl)
  have cells : ∀ i (hi : i < L.length), HCells h2 b (o + i * 8) (eMv.enc L[i]) := fun i hi => by
    obtain ⟨b', o', e', d'⟩ := s2.at (List.getElem?_eq_getElem hi)
    rw [e0] at e'; cases e'; exact d'
  refine ⟨True, ⟨b, o, e0, by omega, by omega, L[j].kind, L[j].key, L[j].val, L[j].err, L[j].hit, L[j].life, L[j].fr, L[j].to, d.1, d.2.1, d.2.2.1, d.2.2.2.1, d.2.2.2.2.1, d.2.2.2.2.2.1, d.2.2.2.2.2.2.1, d.2.2.2.2.2.2.2.1, fun _ => trivial, fun e => ?_⟩, fun _ => ?_⟩
  · have hh : hits L[j] = true := by
      simp [hits] at e ⊢
      omega
    obtain ⟨k0, m0, g0, g1, g2, g3, g4⟩ := hit_was hjl hh (hb j hjn)
    -- found, if it was passed
    refine ⟨fun found k => ∃ q : Nat, k = q ∧ q ≤ j ∧ (k0 < q → found = true), fun _ k => j - k.toNat, ⟨0, rfl, Nat.zero_le _, fun h => by omega⟩, ?_⟩
    rintro found _ ⟨q, rfl, hq, hf⟩
    refine ⟨fun hlt2 => ?_, fun hge2 => ?_⟩
    · have hqj := lt_of_dec hlt2
      have hql : q < L.length := by omega
      have dq := cells q hql
      rw [wadd q (by omega)]
      have step : ∀ b : Bool, (k0 < q + 1 → b = true) → (∃ q' : Nat, ((q + 1 : Nat) : Int) = q' ∧ q' ≤ j ∧ (k0 < q' → b = true)) ∧ j - Int.toNat ((q + 1 : Nat) : Int) < j - Int.toNat (q : Int) := fun b h =>
        ⟨⟨q + 1, rfl, hqj, h⟩, by simp only [Int.toNat_natCast]; omega⟩
      have pas : found = false → k0 < q + 1 → L[q].kind = 2 ∧ L[q].key = L[j].key ∧ L[q].val = L[j].val := fun ef h => by
        have hkq : ¬ k0 < q := fun h' => by have := hf h'; rw [ef] at this; cases this
        have hkq' : k0 = q := by omega
        subst hkq'
        rw [List.getElem?_eq_getElem hql] at g1
        cases g1
        exact ⟨g2, g3, g4⟩
      refine ⟨fun _ => step true fun _ => rfl, fun ef => ⟨by omega, by omega, L[q].kind, dq.1, fun e2 => ⟨L[q].key, dq.2.1, fun e3 => ⟨L[q].val, dq.2.2.1, step _ fun h => ?_⟩, fun e3 => step _ fun h => ?_⟩, fun e2 => step _ fun h => ?_⟩⟩
      · simp [(pas ef h).2.2]
      · simp [(pas ef h).2.1] at e3
      · simp [(pas ef h).1] at e2
    · have hqj : q = j := by have := ge_of_dec hge2; omega
      have := hf (by omega)
      rw [this]
      exact ⟨fun e => (by cases e), fun _ => trivial⟩
  · rw [wadd j (by omega)]
    exact ⟨⟨j + 1, rfl, hjn⟩, by simp only [Int.toNat_natCast]; omega⟩

/-- With, over and over. -/
def withs (L : List Mt) : List Mt := insAll [] (L.map norm)
theorem withs_srt (L : List Mt) : Srt (withs L) := insAll_srt _ _ List.Pairwise.nil
theorem insAll_nm : ∀ (ms l : List Mt), Nm l → Nm ms → Nm (insAll l ms) := fun ms l h1 h2 x hx => by
  rcases (insAll_mem ms l x).1 hx with h | h
  · exact h1 x h
  · exact h2 x h
theorem map_nm (L : List Mt) : Nm (L.map norm) := fun x hx => by
  obtain ⟨y, _, rfl⟩ := List.mem_map.1 hx; exact norm_nm y
theorem withs_nm (L : List Mt) : Nm (withs L) := insAll_nm _ _ (fun x hx => by cases hx) (map_nm L)
theorem withs_len (L : List Mt) : (withs L).length ≤ L.length := by
  have := insAll_len (L.map norm) []; simpa [withs] using this
theorem insAll_take (T L : List Mt) (j : Nat) (h : j < L.length) : insAll T ((L.take (j + 1)).map norm) = insW (insAll T ((L.take j).map norm)) (norm L[j]) := by
  rw [take_snoc L j h, List.map_append, insAll_app]; rfl

theorem law_unions {h : Heap} {a b : Option Addr} {c d : Nat} {A B : List Mt} (s : Sl eMt h a c A) (t : Sl eMt h b d B) (ha : A.length ≤ 1048576) (hb : B.length ≤ 1048576) (m : Mv) :
    HC Try.prog 8 #[.slice a A.length c, .slice b B.length d, mvV m] h (Yes h) := by
  refine f8_sh _ _ _ _ _ _ _ _ _ _ _ _ _ _ _ _ fun mb h2 lo lt x2 => ?_
  refine ⟨fun x' n' c' i h' => ∃ j : Nat, i = j ∧ j ≤ A.length ∧ n' = (withs (A.take j)).length ∧ Ext h2 h' ∧ Sl eMt h' x' c' (withs (A.take j)), fun _ _ _ i _ => A.length - i.toNat, ⟨0, rfl, Nat.zero_le _, rfl, Ext.refl _, Sl.nil _ _⟩, ?_⟩
  rintro x _ cx _ h3 ⟨j, rfl, hj, rfl, x3, s3⟩
  have bj := withs_len (A.take j)
  have bt : (A.take j).length ≤ A.length := by simp; omega
  refine ⟨fun hlt => ?_, fun hge => ?_⟩
  · have hjl := lt_of_dec hlt
    obtain ⟨b1, o1, e1, d1⟩ := (s.ext (x2.trans x3)).at (List.getElem?_eq_getElem hjl)
    refine ⟨b1, o1, e1, by omega, by omega, A[j].has, A[j].val, d1.1, d1.2.1, (with_c s3 (by omega) A[j]).mono ?_⟩
    rintro _ h4 ⟨x4, a4, c4, rfl, s4⟩
    rw [wadd j (by omega)]
    refine ⟨x4.kp _, a4, _, c4, rfl, ⟨j + 1, rfl, hjl, ?_, x3.trans x4, ?_⟩, by simp only [Int.toNat_natCast]; omega⟩
    · unfold withs; rw [insAll_take [] A j hjl]
    · unfold withs; rw [insAll_take [] A j hjl]; exact s4
  · have hjl : j = A.length := by have := ge_of_dec hge; omega
    subst hjl
    rw [List.take_length] at *
    have bA := withs_len A
    refine ⟨fun al nal cal y ny cy i h' => ∃ j : Nat, i = j ∧ j ≤ B.length ∧ nal = (insAll (withs A) ((B.take j).map norm)).length ∧ ny = (withs (B.take j)).length ∧ Ext h2 h' ∧ Sl eMt h' al cal (insAll (withs A) ((B.take j).map norm)) ∧ Sl eMt h' y cy (withs (B.take j)) ∧ Sl eMt h' x cx (withs A),
      fun _ _ _ _ _ _ i _ => B.length - i.toNat, ⟨0, rfl, Nat.zero_le _, rfl, rfl, x3, s3, Sl.nil _ _, s3⟩, ?_⟩
    rintro al _ cal y _ cy _ h5 ⟨k, rfl, hk, rfl, rfl, x5, sal, sy, sx⟩
    have bk := withs_len (B.take k)
    have bkt : (B.take k).length ≤ B.length := by simp; omega
    have bal := insAll_len ((B.take k).map norm) (withs A)
    rw [List.length_map] at bal
    refine ⟨fun hlt2 => ?_, fun hge2 => ?_⟩
    · have hkl := lt_of_dec hlt2
      obtain ⟨b1, o1, e1, d1⟩ := (t.ext (x2.trans x5)).at (List.getElem?_eq_getElem hkl)
      refine ⟨b1, o1, e1, by omega, by omega, B[k].has, B[k].val, d1.1, d1.2.1, (with_c sy (by omega) B[k]).mono ?_⟩
      rintro _ h6 ⟨x6, a6, c6, rfl, s6⟩
      refine ⟨x6.kp _, a6, _, c6, rfl, B[k].has, B[k].val, x6.cell d1.1, x6.cell d1.2.1, (with_c (sal.ext x6) (by omega) B[k]).mono ?_⟩
      rintro _ h7 ⟨x7, a7, c7, rfl, s7⟩
      rw [wadd k (by omega)]
      refine ⟨x7.kp _, a7, _, c7, rfl, ⟨k + 1, rfl, hkl, ?_, ?_, x5.trans (x6.trans x7), ?_, ?_, sx.ext (x6.trans x7)⟩, by simp only [Int.toNat_natCast]; omega⟩
      · rw [insAll_take _ B k hkl]
      · unfold withs; rw [insAll_take [] B k hkl]
      · rw [insAll_take _ B k hkl]; exact s7
      · unfold withs; rw [insAll_take [] B k hkl]; exact s6.ext x7
    · have hkl : k = B.length := by have := ge_of_dec hge2; omega
      subst hkl
      rw [List.take_length] at *
      have l1 := next_len2 (withs A) m
      have l2 := next_len2 (withs B) m
      refine ⟨Ext, fit_ext, fun _ x => x.kp _, (next_c sx (by omega) m).mono ?_⟩
      rintro _ h8 ⟨a8, c8, rfl, x8, s8, w8⟩
      refine ⟨x8, x8.kp _, a8, _, c8, rfl, (next_c (sy.ext x8) (by omega) m).mono ?_⟩
      rintro _ h9 ⟨a9, c9, rfl, x9, s9, _⟩
      refine ⟨x9.kp _, a9, _, c9, rfl, ?_⟩
      refine app_own aMt (x8.trans x9) (s8.ext x9) (w8.ext x9) rfl s9 rfl (by omega) ?_
      intro a10 c10 h10 x10 f10 s10 _ _
      have hmb : mb < h5.size := Nat.lt_of_lt_of_le lt x5.size
      have keep : ¬ blkA a8 mb := fun hq => absurd (w8.low hq).1 (Nat.not_le_of_lt hmb)
      refine ⟨f10.kp (fun q hq => by simp at hq; subst hq; exact keep), a10, _, c10, rfl, ?_⟩
      have hl10 : (next (withs A) m).length + (next (withs B) m).length = (next (withs A) m ++ next (withs B) m).length := by simp
      rw [hl10]
      generalize hG : next (withs A) m ++ next (withs B) m = G at *
      have nG : Nm G := fun z hz => by
        rw [← hG] at hz
        rcases List.mem_append.1 hz with hz | hz
        · exact next_nm (withs_nm A) z hz
        · exact next_nm (withs_nm B) z hz
      have mapG : ∀ K : List Mt, Nm K → K.map norm = K := fun K hK => by
        have := List.map_congr_left (l := K) (f := norm) (g := id) fun z hz => norm_id (hK z hz)
        rw [this, List.map_id]
      have gl : G.length ≤ 4194308 := by rw [← hl10]; omega
      have x510 := x10
      refine ⟨fun w' nw cw i h' => ∃ j : Nat, i = j ∧ j ≤ G.length ∧ nw = (insAll [] (G.take j)).length ∧ Ext h10 h' ∧ Sl eMt h' w' cw (insAll [] (G.take j)), fun _ _ _ i _ => G.length - i.toNat, ⟨0, rfl, Nat.zero_le _, rfl, Ext.refl _, Sl.nil _ _⟩, ?_⟩
      rintro w' _ cw _ h11 ⟨j, rfl, hj, rfl, x11, s11⟩
      have bw := insAll_len (G.take j) []
      have bwt : (G.take j).length ≤ G.length := by simp; omega
      rw [List.length_nil] at bw
      refine ⟨fun hlt3 => ?_, fun hge3 => ?_⟩
      · have hjl := lt_of_dec hlt3
        obtain ⟨b1, o1, e1, d1⟩ := (s10.ext x11).at (List.getElem?_eq_getElem hjl)
        refine ⟨b1, o1, e1, by omega, by omega, G[j].has, G[j].val, d1.1, d1.2.1, (with_c s11 (by omega) G[j]).mono ?_⟩
        rintro _ h12 ⟨x12, a12, c12, rfl, s12⟩
        have hst : insW (insAll [] (G.take j)) (norm G[j]) = insAll [] (G.take (j + 1)) := by
          rw [take_snoc G j hjl, insAll_app, norm_id (nG _ (List.getElem_mem hjl))]; rfl
        rw [hst] at s12 ⊢
        rw [wadd j (by omega)]
        exact ⟨x12.kp _, a12, _, c12, rfl, ⟨j + 1, rfl, hjl, rfl, x11.trans x12, s12⟩, by simp only [Int.toNat_natCast]; omega⟩
      · have hjl : j = G.length := by have := ge_of_dec hge3; omega
        subst hjl
        rw [List.take_length] at *
        have xal : Ext h5 h11 := x10.trans x11
        refine (next_c (sal.ext xal) (by omega) m).mono ?_
        rintro _ h13 ⟨a13, c13, rfl, x13, s13, _⟩
        have eU : next (insAll (withs A) (B.map norm)) m = insAll [] G := by
          rw [← hG]
          refine next_union (fun z => ?_) m
          unfold withs
          rw [insAll_mem, insAll_mem, insAll_mem]
          simp
        have l3 := next_len2 (insAll (withs A) (B.map norm)) m
        refine ⟨a13, _, c13, rfl, (same_c s13 (s11.ext x13) (by omega)).mono ?_⟩
        rintro _ h14 ⟨rfl, rfl⟩
        exact ⟨_, rfl, by rw [eU]; simp, x2.trans (x5.trans (xal.trans x13))⟩
end Go.Proofs.Ytmdgfbhmogjklaa
