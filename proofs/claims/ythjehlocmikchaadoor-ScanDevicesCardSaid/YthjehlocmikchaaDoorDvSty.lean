import Derived.Test.YthjehlocmikchaaDoorDvStx
namespace Go.Proofs.YthjehlocmikchaaDoor
namespace Stb
open Go
theorem dv1 {w a p : Nat} (ha : a % w = 0) (h1 : a ≤ p) (h2 : p < a + w) : p / w = a / w := by
  have hw : 0 < w := by omega
  obtain ⟨k, rfl⟩ := Nat.dvd_of_mod_eq_zero ha
  obtain ⟨r, rfl⟩ : ∃ r, p = w * k + r := ⟨p - w * k, by omega⟩
  rw [Nat.mul_add_div hw, Nat.div_eq_of_lt (by omega), Nat.mul_div_cancel_left _ hw, Nat.add_zero]
theorem dv2 {w a p q : Nat} (hw : 0 < w) (ha : a % w = 0) (h1 : p < a) (h2 : a ≤ q) : p / w < q / w := by
  obtain ⟨k, rfl⟩ := Nat.dvd_of_mod_eq_zero ha
  have e1 : p / w < k := (Nat.div_lt_iff_lt_mul hw).2 (by rw [Nat.mul_comm]; exact h1)
  have e2 : k ≤ q / w := (Nat.le_div_iff_mul_le hw).2 (by rw [Nat.mul_comm]; exact h2)
  omega
theorem dv3 {w p q : Nat} (h : p / w = q / w) : p / (2 * w) = q / (2 * w) := by
  rw [Nat.mul_comm 2 w, ← Nat.div_div_eq_div_mul, ← Nat.div_div_eq_div_mul, h]
theorem dv5 {w p q : Nat} (h : p / w < q / w) : p < q := by
  rcases Nat.lt_or_ge p q with c | c
  · exact c
  · have := Nat.div_le_div_right (c := w) c; omega
section
variable {h0 h h' : Heap} {a : Option Addr} {c N : Nat} {T : TypeId} {M : List (Int × Nat)} {cmp : Value} {cf : Int → Int → Int} {D : Int → Prop}
def BS (lt : Int × Nat → Int × Nat → Prop) (w : Nat) (Q : List (Int × Nat)) (lo hi : Nat) : Prop := ∀ (p q : Nat) x y, lo ≤ p → p < q → q < hi → p / w = q / w → Q[p]? = some x → Q[q]? = some y → lt x y
theorem BS.srt {lt : Int × Nat → Int × Nat → Prop} {w : Nat} {Q : List (Int × Nat)} {lo hi i b : Nat} (s : BS lt w Q lo hi) (hi' : i % w = 0) (h1 : lo ≤ i) (h2 : b ≤ hi) (h3 : b ≤ i + w) : Srt lt Q i b := fun p q x y k1 k2 k3 hx hy =>
  s p q x y (by omega) k2 (by omega) ((dv1 hi' k1 (by omega)).trans (dv1 hi' (by omega : i ≤ q) (by omega)).symm) hx hy
set_option maxHeartbeats 6400000 in
theorem stable_c (C : Cmp Tryd.prog h0 a cmp cf D) (s : St h0 a c N T h M) (o : Ok D M) (hb : Srt bf M 0 M.length) :
    HC Tryd.prog 74 #[.slice a M.length c, .int .i64 (M.length : Nat), cmp] h fun v h' => v = .tuple #[] ∧ ∃ M', St h0 a c N T h' M' ∧ Seg M M' 0 M.length ∧ Srt (ltD cf D) M' 0 M.length := by
  have hl := o.len
  generalize hn : M.length = n at *
  refine f74_sh _ _ _ _ _ _ _ ⟨fun u v h1 => ∃ (i : Nat) (Q : List (Int × Nat)), u = i ∧ v = i + 20 ∧ i % 20 = 0 ∧ i ≤ n ∧ St h0 a c N T h1 Q ∧ Seg M Q 0 i ∧ BS (ltD cf D) 20 Q 0 i ∧ ∀ p, p < n → ∃ q, q < n ∧ q / 20 = p / 20 ∧ Q[p]? = M[q]?, fun u _ _ => n - u.toNat,
    ⟨0, M, rfl, rfl, rfl, Nat.zero_le _, s, Seg.refl _ _ _, fun p q x y k1 k2 k3 => by omega, fun p hp => ⟨p, hp, rfl, rfl⟩⟩, ?_⟩
  rintro _ _ h1' ⟨i, Q, rfl, rfl, hi20, hin, sQ, gQ, bQ, lQ⟩
  have lenQ := gQ.len
  have oQ := o.seg gQ
  have hsb : ∀ b, i ≤ b → b ≤ n → Srt bf Q i b := fun b hib hbn p q x y k1 k2 k3 hx hy => hb p q x y (Nat.zero_le _) k2 (by omega) (by rw [← gQ.out (.inr (by omega))]; exact hx) (by rw [← gQ.out (.inr (by omega))]; exact hy)
  have after : ∀ {b : Nat} {X : List (Int × Nat)}, i ≤ b → b ≤ n → b ≤ i + 20 → Seg Q X i b → Srt (ltD cf D) X i b → Seg M X 0 b ∧ BS (ltD cf D) 20 X 0 b ∧ ∀ p, p < n → ∃ q, q < n ∧ q / 20 = p / 20 ∧ X[p]? = M[q]? := fun {b X} hib hbn hb20 gX rX => by
    refine ⟨(gQ.mono (Nat.le_refl _) hib).trans (gX.mono (by omega) (Nat.le_refl _)), fun p q x y k1 k2 k3 k4 hx hy => ?_, fun p hp => ?_⟩
    · rcases Nat.lt_or_ge q i with z | z
      · exact bQ p q x y k1 k2 z k4 (by rw [← gX.out (.inl (by omega))]; exact hx) (by rw [← gX.out (.inl z)]; exact hy)
      · rcases Nat.lt_or_ge p i with z2 | z2
        · have := dv2 (by decide) hi20 z2 z; omega
        · exact rX p q x y z2 k2 k3 hx hy
    · by_cases hpi : i ≤ p ∧ p < b
      · obtain ⟨q, q1, q2, q3⟩ := gX.mem hpi.1 hpi.2
        obtain ⟨r, r1, r2, r3⟩ := lQ q (by omega)
        exact ⟨r, r1, by rw [r2, dv1 hi20 q1 (by omega)]; exact (dv1 hi20 hpi.1 (by omega)).symm, q3.trans r3⟩
      · obtain ⟨r, r1, r2, r3⟩ := lQ p hp
        exact ⟨r, r1, r2, (gX.out (by omega)).trans r3⟩
  have e20 : ((i : Int) + 20) = ((i + 20 : Nat) : Int) := by omega
  refine ⟨fun e => ?_, fun e => ?_⟩
  · have hle := of_decide_eq_true e
    rw [e20]
    have := insertion_c C sQ oQ (i := i) (b := i + 20) (by omega) (by omega) (hsb _ (by omega) (by omega))
    rw [lenQ, hn] at this
    refine this.mono ?_
    rintro w h2' ⟨rfl, X, sX, gX, rX⟩
    obtain ⟨y1, y2, y3⟩ := after (by omega) (by omega) (Nat.le_refl _) gX rX
    rw [w64 (x := ((i + 20 : Nat) : Int) + 20) (by omega) (by omega)]
    exact ⟨rfl, ⟨i + 20, X, rfl, by omega, by omega, by omega, sX, y1, y2, y3⟩, by simp only [Int.toNat_natCast]; omega⟩
  · have hgt := of_decide_eq_false e
    have := insertion_c C sQ oQ (i := i) (b := n) hin (by omega) (hsb _ hin (Nat.le_refl _))
    rw [lenQ, hn] at this
    refine this.mono ?_
    rintro w h3' ⟨rfl, X, sX, gX, rX⟩
    obtain ⟨y1, y2, y3⟩ := after hin (Nat.le_refl _) (by omega) gX rX
    refine ⟨rfl, fun z h4 => ∃ (w : Nat) (Q : List (Int × Nat)), z = w ∧ 0 < w ∧ (w = 20 ∨ w ≤ 2 * n) ∧ St h0 a c N T h4 Q ∧ Seg M Q 0 n ∧ BS (ltD cf D) w Q 0 n ∧ ∀ p, p < n → ∃ q, q < n ∧ q / w = p / w ∧ Q[p]? = M[q]?, fun z _ => n - z.toNat,
      ⟨20, X, rfl, by decide, .inl rfl, sX, y1, y2, y3⟩, ?_⟩
    clear this y1 y2 y3 rX gX sX X after hsb oQ lenQ lQ bQ gQ sQ Q
    rintro _ h4' ⟨w, Q, rfl, hw, hwn, sQ, gQ, bQ, lQ⟩
    have lenQ := gQ.len
    refine ⟨fun e => ?_, fun e => ?_⟩
    rotate_left
    · have hge := ge_of_dec e
      exact ⟨rfl, Q, sQ, gQ, fun p q x y k1 k2 k3 hx hy => bQ p q x y k1 k2 k3 (by rw [Nat.div_eq_of_lt (by omega), Nat.div_eq_of_lt (by omega)]) hx hy⟩
    have hwlt := lt_of_dec e
    rw [show IntKind.i64.wrap (2 * (w : Int)) = ((2 * w : Nat) : Int) by rw [w64 (by omega) (by omega)]; omega]
    refine ⟨fun u v h5 => ∃ (i : Nat) (Q : List (Int × Nat)), u = i ∧ v = i + ((2 * w : Nat) : Int) ∧ i % (2 * w) = 0 ∧ i ≤ n ∧ St h0 a c N T h5 Q ∧ Seg M Q 0 n ∧ BS (ltD cf D) (2 * w) Q 0 i ∧ BS (ltD cf D) w Q i n ∧ ∀ p, p < n → ∃ q, q < n ∧ Q[p]? = M[q]? ∧ (p < i → q / (2 * w) = p / (2 * w)) ∧ (i ≤ p → q / w = p / w), fun u _ _ => n - u.toNat,
      ⟨0, Q, rfl, by omega, Nat.zero_mod _, Nat.zero_le _, sQ, gQ, fun p q x y k1 k2 k3 => by omega, bQ, fun p hp => ?_⟩, ?_⟩
    · obtain ⟨q, q1, q2, q3⟩ := lQ p hp
      exact ⟨q, q1, q3, fun z => by omega, fun _ => q2⟩
    clear lenQ lQ bQ gQ sQ Q
    rintro _ _ h5' ⟨i, Q, rfl, rfl, hiw, hin, sQ, gQ, b2Q, bQ, lQ⟩
    have lenQ := gQ.len
    have oQ := o.seg gQ
    have hiw1 : i % w = 0 := by
      obtain ⟨k, rfl⟩ := Nat.dvd_of_mod_eq_zero hiw
      rw [Nat.mul_comm 2 w, Nat.mul_assoc]; exact Nat.mul_mod_right _ _
    have hiw2 : (i + w) % w = 0 := by rw [Nat.add_mod_right]; exact hiw1
    have lab : ∀ b, b ≤ n → Lab bf Q i (i + w) b := fun b hbn p q x y k1 k2 k3 k4 hx hy => by
      obtain ⟨p1, a1, a2, _, a3⟩ := lQ p (by omega)
      obtain ⟨q1, b1, b2, _, b3⟩ := lQ q (by omega)
      have hlt := dv2 hw hiw2 k2 k3
      rw [← a3 k1, ← b3 (by omega)] at hlt
      exact hb p1 q1 x y (Nat.zero_le _) (dv5 hlt) b1 (by rw [← a2]; exact hx) (by rw [← b2]; exact hy)
    have after : ∀ {b : Nat} {X : List (Int × Nat)}, i ≤ b → b ≤ n → b ≤ i + 2 * w → (b = i + 2 * w ∨ b = n) → Seg Q X i b → Srt (ltD cf D) X i b → Seg M X 0 n ∧ BS (ltD cf D) (2 * w) X 0 b ∧ BS (ltD cf D) w X b n ∧ ∀ p, p < n → ∃ q, q < n ∧ X[p]? = M[q]? ∧ (p < b → q / (2 * w) = p / (2 * w)) ∧ (b ≤ p → q / w = p / w) := fun {b X} hib hbn hb2 hbe gX rX => by
      refine ⟨gQ.trans (gX.mono (by omega) hbn), fun p q x y k1 k2 k3 k4 hx hy => ?_, fun p q x y k1 k2 k3 k4 hx hy => ?_, fun p hp => ?_⟩
      · rcases Nat.lt_or_ge q i with z | z
        · exact b2Q p q x y k1 k2 z k4 (by rw [← gX.out (.inl (by omega))]; exact hx) (by rw [← gX.out (.inl z)]; exact hy)
        · rcases Nat.lt_or_ge p i with z2 | z2
          · have := dv2 (by omega) hiw z2 z; omega
          · exact rX p q x y z2 k2 k3 hx hy
      · exact bQ p q x y (by omega) k2 k3 k4 (by rw [← gX.out (.inr k1)]; exact hx) (by rw [← gX.out (.inr (by omega))]; exact hy)
      · by_cases hpi : i ≤ p ∧ p < b
        · obtain ⟨q, q1, q2, q3⟩ := gX.mem hpi.1 hpi.2
          obtain ⟨r, r1, r2, _, r3⟩ := lQ q (by omega)
          refine ⟨r, r1, q3.trans r2, fun _ => ?_, fun z => by omega⟩
          rw [dv3 (r3 q1), dv1 hiw q1 (by omega)]; exact (dv1 hiw hpi.1 (by omega)).symm
        · obtain ⟨r, r1, r2, r3, r4⟩ := lQ p hp
          exact ⟨r, r1, (gX.out (by omega)).trans r2, fun z => r3 (by omega), fun z => r4 (by omega)⟩
    have ei : IntKind.i64.wrap ((i : Int) + (w : Int)) = ((i + w : Nat) : Int) := by rw [w64 (by omega) (by omega)]; omega
    have ei2 : (i : Int) + ((2 * w : Nat) : Int) = ((i + 2 * w : Nat) : Int) := by omega
    rw [ei, ei2]
    refine ⟨fun e => ?_, fun e => ?_⟩
    · have hle := of_decide_eq_true e
      have := merge_c C (i + 2 * w) (i := i) (m := i + w) (b := i + 2 * w) (by omega) sQ oQ (by omega) (by omega) (by omega) (bQ.srt hiw1 (Nat.le_refl _) (by omega) (by omega)) (bQ.srt hiw2 (by omega) (by omega) (by omega)) (lab _ (by omega))
      rw [lenQ, hn] at this
      refine this.mono ?_
      rintro z h6' ⟨rfl, X, sX, gX, rX⟩
      obtain ⟨y1, y2, y3, y4⟩ := after (by omega) (by omega) (Nat.le_refl _) (.inl rfl) gX rX
      rw [w64 (x := ((i + 2 * w : Nat) : Int) + ((2 * w : Nat) : Int)) (by omega) (by omega)]
      refine ⟨rfl, ⟨i + 2 * w, X, rfl, rfl, ?_, by omega, sX, y1, y2, y3, y4⟩, by simp only [Int.toNat_natCast]; omega⟩
      rw [Nat.add_mod_right]; exact hiw
    · have hgt := of_decide_eq_false e
      refine ⟨fun h7 => ∃ X, St h0 a c N T h7 X ∧ Seg M X 0 n ∧ BS (ltD cf D) (2 * w) X 0 n ∧ ∀ p, p < n → ∃ q, q < n ∧ q / (2 * w) = p / (2 * w) ∧ X[p]? = M[q]?, ⟨fun e2 => ?_, fun e2 => ?_⟩, ?_⟩
      · have hlt := lt_of_dec e2
        have := merge_c C n (i := i) (m := i + w) (b := n) (by omega) sQ oQ (by omega) hlt (by omega) (bQ.srt hiw1 (Nat.le_refl _) (by omega) (by omega)) (bQ.srt hiw2 (by omega) (by omega) (by omega)) (lab _ (Nat.le_refl _))
        rw [lenQ, hn] at this
        refine this.mono ?_
        rintro z h6' ⟨rfl, X, sX, gX, rX⟩
        obtain ⟨y1, y2, _, y4⟩ := after hin (Nat.le_refl _) (by omega) (.inr rfl) gX rX
        refine ⟨rfl, X, sX, y1, y2, fun p hp => ?_⟩
        obtain ⟨r, r1, r2, r3, _⟩ := y4 p hp
        exact ⟨r, r1, r3 hp, r2⟩
      · have hge := ge_of_dec e2
        obtain ⟨y1, y2, _, y4⟩ := after hin (Nat.le_refl _) (by omega) (.inr rfl) (Seg.refl _ _ _) (bQ.srt hiw1 (Nat.le_refl _) (Nat.le_refl _) (by omega))
        refine ⟨Q, sQ, y1, y2, fun p hp => ?_⟩
        obtain ⟨r, r1, r2, r3, _⟩ := y4 p hp
        exact ⟨r, r1, r3 hp, r2⟩
      · rintro h7' ⟨X, sX, gX, bX, lX⟩
        rw [show IntKind.i64.wrap ((w : Int) * 2) = ((2 * w : Nat) : Int) by rw [w64 (by omega) (by omega)]; omega]
        exact ⟨⟨2 * w, X, rfl, by omega, .inr (by omega), sX, gX, bX, lX⟩, by simp only [Int.toNat_natCast]; omega⟩
def lbl (L : List Int) : List (Int × Nat) := L.zip (List.range L.length)
theorem lbl_fst (L : List Int) : (lbl L).map Prod.fst = L := by unfold lbl; rw [List.map_fst_zip (by simp)]
theorem lbl_len (L : List Int) : (lbl L).length = L.length := by unfold lbl; simp
theorem lbl_get {L : List Int} {p : Nat} {x : Int × Nat} (h : (lbl L)[p]? = some x) : x.2 = p ∧ L[p]? = some x.1 := by
  unfold lbl at h
  rw [List.getElem?_zip_eq_some] at h
  obtain ⟨h1, h2⟩ := h
  have hp := (List.getElem?_eq_some_iff.1 h2).1
  rw [List.getElem?_range (by simpa using hp)] at h2
  cases h2
  exact ⟨rfl, h1⟩
theorem lbl_ok {L : List Int} (hD : ∀ x ∈ L, D x) (hl : L.length ≤ 1152921504606846976) : Ok D (lbl L) ∧ Srt bf (lbl L) 0 (lbl L).length := by
  refine ⟨⟨fun p x h => hD _ (List.mem_of_getElem? (lbl_get h).2), fun p q x y hpq hx hy => ?_, by rw [lbl_len]; exact hl⟩, fun p q x y k1 k2 k3 hx hy => ?_⟩
  · rw [(lbl_get hx).1, (lbl_get hy).1]; exact hpq
  · show x.2 < y.2
    rw [(lbl_get hx).1, (lbl_get hy).1]; exact k2
theorem sort_stable {L : List Int} (C : Cmp Tryd.prog h a cmp cf D) (s : Sl eI h a c L) (w : Own eI.k T N h a c) (hD : ∀ x ∈ L, D x) (hl : L.length ≤ 1152921504606846976) :
    HC Tryd.prog 52 #[.slice a L.length c, cmp] h fun v h' => v = .tuple #[] ∧ Fr (blkA a) h h' ∧ ∃ M : List (Int × Nat), M.Perm (lbl L) ∧ M.Pairwise (ltD cf D) ∧ Sl eI h' a c (M.map Prod.fst) ∧ Own eI.k T N h' a c := by
  obtain ⟨o, hb⟩ := lbl_ok hD hl
  refine f52_sh _ _ _ _ _ _ ?_
  have := stable_c C (M := lbl L) ⟨by rw [lbl_fst]; exact s, w, Fr.refl _ _⟩ o hb
  rw [lbl_len] at this
  refine this.mono ?_
  rintro v h' ⟨rfl, M, sM, gM, rM⟩
  refine ⟨rfl, rfl, sM.fr, M, gM.perm, ?_, sM.sl, sM.own⟩
  rw [List.pairwise_iff_getElem]
  intro i j hi hj hij
  have hlen := gM.len
  rw [lbl_len] at hlen
  exact rM i j M[i] M[j] (Nat.zero_le _) hij (by omega) (List.getElem?_eq_getElem hi) (List.getElem?_eq_getElem hj)
end
end Stb
end Go.Proofs.YthjehlocmikchaaDoor
