import Derived.Test.YthjehlocmikchaaDoorDvStw
namespace Go.Proofs.YthjehlocmikchaaDoor
namespace Stb
open Go
section
variable {h0 h h' : Heap} {a : Option Addr} {c N : Nat} {T : TypeId} {M : List (Int × Nat)} {cmp : Value} {cf : Int → Int → Int} {D : Int → Prop}
set_option maxHeartbeats 3200000 in
theorem insertion_c (C : Cmp Tryd.prog h0 a cmp cf D) (s : St h0 a c N T h M) (o : Ok D M) {i b : Nat} (h1 : i ≤ b) (h2 : b ≤ M.length) (hb : Srt bf M i b) :
    HC Tryd.prog 88 #[.slice a M.length c, .int .i64 (i : Nat), .int .i64 (b : Nat), cmp] h fun v h' => v = .tuple #[] ∧ ∃ M', St h0 a c N T h' M' ∧ Seg M M' i b ∧ Srt (ltD cf D) M' i b := by
  have hl := o.len
  refine f88_sh _ _ _ _ _ _ _ _ ⟨fun k h1 => ∃ (k' : Nat) (Q : List (Int × Nat)), k = k' ∧ i < k' ∧ (k' ≤ b ∨ k' = i + 1) ∧ St h0 a c N T h1 Q ∧ Seg M Q i k' ∧ Srt (ltD cf D) Q i k', fun k _ => b - k.toNat, ?_, ?_⟩
  · rw [wadd i (by omega)]
    exact ⟨i + 1, M, rfl, by omega, .inr rfl, s, Seg.refl _ _ _, srt_one (Nat.le_refl _)⟩
  rintro _ hh ⟨k, Q, rfl, hik, hkb, sQ, gQ, rQ⟩
  refine ⟨fun e => ?_, fun e => ?_⟩
  rotate_left
  · have hge := ge_of_dec e
    rcases hkb with hkb | hkb
    · have : k = b := by omega
      subst this
      exact ⟨rfl, Q, sQ, gQ, rQ⟩
    · by_cases hbi : b = i
      · subst hbi
        have hQM : Q = M := by
          apply List.ext_getElem?
          intro p
          by_cases hp : p = b
          · subst hp
            obtain ⟨q, q1, q2, q3⟩ := gQ.mem (Nat.le_refl p) (by omega)
            rw [q3, show q = p by omega]
          · exact gQ.out (by omega)
        subst hQM
        exact ⟨rfl, Q, sQ, Seg.refl _ _ _, srt_one (by omega)⟩
      · have : k = b := by omega
        subst this
        exact ⟨rfl, Q, sQ, gQ, rQ⟩
  have hkn := lt_of_dec e
  have hk2 : k ≤ b := by omega
  have lQ := gQ.len
  obtain ⟨el, hel⟩ : ∃ x, Q[k]? = some x := ⟨_, List.getElem?_eq_getElem (by omega)⟩
  have helM : M[k]? = some el := by rw [← gQ.out (p := k) (.inr (Nat.le_refl _))]; exact hel
  have oQ := o.seg gQ
  have ordQ := ord_of C oQ
  have before : ∀ (p : Nat) y, i ≤ p → p < k → Q[p]? = some y → bf y el := fun p y k1 k2 hy => by
    obtain ⟨q, q1, q2, q3⟩ := gQ.mem k1 k2
    exact hb q k y el q1 q2 hkn (by rw [← q3]; exact hy) helM
  refine ⟨fun j h1 => ∃ (j' : Nat) (X : List (Int × Nat)), j = j' ∧ i ≤ j' ∧ j' ≤ k ∧ St h0 a c N T h1 X ∧ Seg Q X i (k + 1) ∧ X[j']? = some el ∧ Ins (ltD cf D) X i (k + 1) j' ∧ ∀ (p : Nat) y, i ≤ p → p < k + 1 → p ≠ j' → X[p]? = some y → bf y el, fun j _ => j.toNat,
    ⟨k, Q, rfl, by omega, Nat.le_refl _, sQ, Seg.refl _ _ _, hel, Ins.start rQ, fun p y k1 k2 k3 hy => before p y k1 (by omega) hy⟩, ?_⟩
  rintro _ h2' ⟨j, X, rfl, hij, hjk, sX, gX, hX, IX, bX⟩
  have lX := gX.len
  have oX := oQ.seg gX
  have fin : ∀ {h3 : Heap}, St h0 a c N T h3 X → (j ≤ i ∨ ∃ x y, X[j]? = some x ∧ X[j - 1]? = some y ∧ ¬ ltD cf D x y) → ((∃ (k' : Nat) (Q : List (Int × Nat)), IntKind.i64.wrap ((k : Int) + 1) = k' ∧ i < k' ∧ (k' ≤ b ∨ k' = i + 1) ∧ St h0 a c N T h3 Q ∧ Seg M Q i k' ∧ Srt (ltD cf D) Q i k') ∧ b - (IntKind.i64.wrap ((k : Int) + 1)).toNat < b - (k : Int).toNat) := fun {h3} s3 hc => by
    rw [wadd k (by omega)]
    exact ⟨⟨k + 1, X, rfl, by omega, .inl (by omega), s3, (gQ.mono (Nat.le_refl _) (by omega)).trans gX, Ins.done (ordQ.seg gX) IX (by omega) hc⟩, by simp only [Int.toNat_natCast]; omega⟩
  refine ⟨fun q h3 => St h0 a c N T h3 X ∧ (q = true → i < j ∧ ∃ y, X[j - 1]? = some y ∧ ltD cf D el y) ∧ (q = false → j ≤ i ∨ ∃ x y, X[j]? = some x ∧ X[j - 1]? = some y ∧ ¬ ltD cf D x y), ⟨fun e2 => ?_, fun e2 => ⟨sX, fun e => (by cases e), fun _ => .inl ?_⟩⟩, ?_⟩
  · have hji := of_decide_eq_true e2
    obtain ⟨y, hy⟩ : ∃ y, X[j - 1]? = some y := ⟨_, List.getElem?_eq_getElem (by omega)⟩
    obtain ⟨rb, ro, ea, c1⟩ := sX.get hX
    obtain ⟨rb', ro', ea', c2⟩ := sX.get hy
    rw [ea] at ea'; cases ea'
    rw [show IntKind.i64.wrap ((j : Int) - 1) = ((j - 1 : Nat) : Int) by rw [w64 (by omega) (by omega)]; omega]
    refine ⟨rb, ro, ea, by omega, by omega, _, c1, by omega, by omega, _, c2, HCV.mono (C.call h2' sX.fr _ _ (oX.dom j el hX) (oX.dom (j - 1) y hy)) ?_⟩
    rintro _ h3 ⟨rfl, x3⟩
    have hby := bX (j - 1) y (by omega) (by omega) (by omega) hy
    have hiff := ltD_before (cf := cf) hby (oX.dom (j - 1) y hy) (oX.dom j el hX)
    refine ⟨_, rfl, sX.ext x3, fun e3 => ⟨by omega, y, hy, hiff.2 (of_decide_eq_true e3)⟩, fun e3 => .inr ⟨el, y, hX, hy, fun q => of_decide_eq_false e3 (hiff.1 q)⟩⟩
  · have := of_decide_eq_false e2; omega
  · rintro q h3 ⟨s3, ht, hf⟩
    refine ⟨fun e3 => ?_, fun e3 => fin s3 (hf e3)⟩
    obtain ⟨hij2, y, hy, hlt⟩ := ht e3
    obtain ⟨rb, ro, ea, c1, c2, w1, w2⟩ := s3.swap hX hy
    rw [show IntKind.i64.wrap ((j : Int) - 1) = ((j - 1 : Nat) : Int) by rw [w64 (by omega) (by omega)]; omega]
    refine ⟨rb, ro, ea, by omega, by omega, _, c2, by omega, by omega, _, c1, w1, fun h5 e5 => ⟨(w2 h5 e5).1, fun h6 e6 => ?_⟩⟩
    have s6 := (w2 h5 e5).2 h6 e6
    have sw := Seg.swap (a := i) (b := k + 1) hX hy (by omega) (by omega) (by omega) (by omega)
    refine ⟨⟨j - 1, _, rfl, by omega, by omega, s6, gX.trans sw.1, ?_, IX.step hij2 hX hy hlt (by omega), fun p z k1 k2 k3 hz => ?_⟩, by simp only [Int.toNat_natCast]; omega⟩
    · rw [sw.2, if_neg (by omega), if_pos rfl]; exact hX
    · rw [sw.2] at hz
      by_cases e4 : p = j
      · rw [if_pos e4] at hz
        exact bX (j - 1) z (by omega) (by omega) (by omega) hz
      · rw [if_neg e4, if_neg k3] at hz
        exact bX p z k1 k2 e4 hz
set_option maxHeartbeats 12800000 in
theorem merge_c (C : Cmp Tryd.prog h0 a cmp cf D) : ∀ (n : Nat) {h : Heap} {M : List (Int × Nat)} {i m b : Nat}, b - i ≤ n → St h0 a c N T h M → Ok D M → i < m → m < b → b ≤ M.length → Srt (ltD cf D) M i m → Srt (ltD cf D) M m b → Lab bf M i m b →
    HC Tryd.prog 89 #[.slice a M.length c, .int .i64 (i : Nat), .int .i64 (m : Nat), .int .i64 (b : Nat), cmp] h fun v h' => v = .tuple #[] ∧ ∃ M', St h0 a c N T h' M' ∧ Seg M M' i b ∧ Srt (ltD cf D) M' i b
  | 0, h, M, i, m, b, hn, _, _, h1, h2, _, _, _, _ => by omega
  | n + 1, h, M, i, m, b, hn, s, o, h1, h2, h3, hL, hR, hlab => by
    have hl := o.len
    have ord := ord_of C o
    have got : ∀ r, r < M.length → ∃ z, M[r]? = some z := fun r hr => ⟨_, List.getElem?_eq_getElem hr⟩
    refine f89_sh _ _ _ _ _ _ _ _ _ ⟨fun e1 => ?_, fun e1 => ⟨fun e2 => ?_, fun e2 => ?_⟩⟩
    · -- one element ahead
      have hm : m = i + 1 := by rw [w64 (by omega) (by omega)] at e1; simp at e1; omega
      subst hm
      obtain ⟨x, hx⟩ := got i (by omega)
      refine ⟨fun u v h1 => ∃ u' v' : Nat, u = u' ∧ v = v' ∧ i + 1 ≤ u' ∧ u' ≤ v' ∧ v' ≤ b ∧ St h0 a c N T h1 M ∧ (∀ (q : Nat) y, i + 1 ≤ q → q < u' → M[q]? = some y → ltD cf D y x) ∧ (∀ (q : Nat) y, v' ≤ q → q < b → M[q]? = some y → ltD cf D x y), fun u v _ => v.toNat - u.toNat,
        ⟨i + 1, b, rfl, rfl, Nat.le_refl _, by omega, Nat.le_refl _, s, fun q y k1 k2 => by omega, fun q y k1 k2 => by omega⟩, ?_⟩
      rintro _ _ h1' ⟨u, v, rfl, rfl, k1, k2, k3, s1, fu, fv⟩
      refine ⟨fun e => ?_, fun e => ?_⟩
      · have huv := lt_of_dec e
        rw [half (i := u) (j := v) (by omega)]
        obtain ⟨y, hy⟩ := got ((u + v) / 2) (by omega)
        obtain ⟨rb, ro, ea, c1⟩ := s1.get hy
        obtain ⟨rb', ro', ea', c2⟩ := s1.get hx
        rw [ea] at ea'; cases ea'
        refine ⟨rb, ro, ea, by omega, by omega, _, c1, by omega, by omega, _, c2, HCV.mono (C.call h1' s1.fr _ _ (o.dom _ _ hy) (o.dom _ _ hx)) ?_⟩
        rintro _ h2' ⟨rfl, x2⟩
        have hby : bf x y := hlab i ((u + v) / 2) x y (Nat.le_refl _) (by omega) (by omega) (by omega) hx hy
        have hiff := ltD_before (cf := cf) hby (o.dom _ _ hx) (o.dom _ _ hy)
        refine ⟨_, rfl, fun e3 => ?_, fun e3 => ?_⟩
        · have hlt := hiff.2 (of_decide_eq_true e3)
          rw [wadd _ (by omega)]
          refine ⟨⟨(u + v) / 2 + 1, v, rfl, rfl, by omega, by omega, k3, s1.ext x2, fun q z q1 q2 hz => ?_, fv⟩, by simp only [Int.toNat_natCast]; omega⟩
          by_cases eq : q = (u + v) / 2
          · rw [eq, hy] at hz; cases hz; exact hlt
          · exact ord.tr _ _ _ (hR q _ z y q1 (by omega) (by omega) hz hy) hlt
        · have hlt : ltD cf D x y := ord.no (p := i) (q := (u + v) / 2) (by omega) hx hy fun q => of_decide_eq_false e3 (hiff.1 q)
          refine ⟨⟨u, (u + v) / 2, rfl, rfl, k1, by omega, by omega, s1.ext x2, fu, fun q z q1 q2 hz => ?_⟩, by simp only [Int.toNat_natCast]; omega⟩
          by_cases eq : q = (u + v) / 2
          · rw [eq, hy] at hz; cases hz; exact hlt
          · exact ord.tr _ _ _ hlt (hR _ q y z (by omega) (by omega) q2 hy hz)
      · have huv : u = v := by have := ge_of_dec e; omega
        subst huv
        rw [show IntKind.i64.wrap ((u : Int) - 1) = ((u - 1 : Nat) : Int) by rw [w64 (by omega) (by omega)]; omega]
        refine ⟨fun k h3 => ∃ (k' : Nat) (Q : List (Int × Nat)), k = k' ∧ i ≤ k' ∧ k' ≤ u - 1 ∧ St h0 a c N T h3 Q ∧ Rot M Q i (i + 1) (k' + 1), fun k _ => u - k.toNat, ⟨i, M, rfl, Nat.le_refl _, by omega, s1, Rot.none (.inr rfl)⟩, ?_⟩
        rintro _ h3' ⟨k, Q, rfl, q1, q2, sQ, rQ⟩
        have lQ := rQ.len
        refine ⟨fun e => ?_, fun e => ?_⟩
        · have hku := lt_of_dec e
          obtain ⟨z, hz⟩ : ∃ z, Q[k]? = some z := ⟨_, List.getElem?_eq_getElem (by omega)⟩
          obtain ⟨w, hw⟩ : ∃ w, Q[k + 1]? = some w := ⟨_, List.getElem?_eq_getElem (by omega)⟩
          obtain ⟨rb, ro, ea, c1, c2, w1, w2⟩ := sQ.swap hz hw
          rw [wadd k (by omega)]
          refine ⟨rb, ro, ea, by omega, by omega, _, c2, by omega, by omega, _, c1, w1, fun h5 e5 => ⟨(w2 h5 e5).1, fun h6 e6 => ?_⟩⟩
          have s6 := (w2 h5 e5).2 h6 e6
          refine ⟨⟨k + 1, _, rfl, by omega, by omega, s6, ⟨by simpa using lQ, fun p => ?_⟩⟩, by simp only [Int.toNat_natCast]; omega⟩
          rw [(Seg.swap (a := 0) (b := Q.length) hz hw (by omega) (by omega) (by omega) (by omega)).2, rQ.at_]
          congr 1
          unfold rho
          (repeat' split) <;> omega
        · have hku : k + 1 = u := by have := ge_of_dec e; omega
          rw [hku] at rQ
          exact ⟨rfl, Q, sQ, (rQ.seg (by omega) (by omega)).mono (Nat.le_refl _) (by omega), one_left hx hR rQ (by omega) (by omega) fu fv⟩
    · -- one element behind
      have hb : b = m + 1 := by rw [w64 (by omega) (by omega)] at e2; simp at e2; omega
      subst hb
      obtain ⟨x, hx⟩ := got m (by omega)
      refine ⟨fun u v h1 => ∃ u' v' : Nat, u = u' ∧ v = v' ∧ i ≤ u' ∧ u' ≤ v' ∧ v' ≤ m ∧ St h0 a c N T h1 M ∧ (∀ (q : Nat) y, i ≤ q → q < u' → M[q]? = some y → ltD cf D y x) ∧ (∀ (q : Nat) y, v' ≤ q → q < m → M[q]? = some y → ltD cf D x y), fun u v _ => v.toNat - u.toNat,
        ⟨i, m, rfl, rfl, Nat.le_refl _, by omega, Nat.le_refl _, s, fun q y k1 k2 => by omega, fun q y k1 k2 => by omega⟩, ?_⟩
      rintro _ _ h1' ⟨u, v, rfl, rfl, k1, k2, k3, s1, fu, fv⟩
      refine ⟨fun e => ?_, fun e => ?_⟩
      · have huv := lt_of_dec e
        rw [half (i := u) (j := v) (by omega)]
        obtain ⟨y, hy⟩ := got ((u + v) / 2) (by omega)
        obtain ⟨rb, ro, ea, c1⟩ := s1.get hy
        obtain ⟨rb', ro', ea', c2⟩ := s1.get hx
        rw [ea] at ea'; cases ea'
        refine ⟨rb, ro, ea, by omega, by omega, _, c2, by omega, by omega, _, c1, HCV.mono (C.call h1' s1.fr _ _ (o.dom _ _ hx) (o.dom _ _ hy)) ?_⟩
        rintro _ h2' ⟨rfl, x2⟩
        have hby : bf y x := hlab ((u + v) / 2) m y x (by omega) (by omega) (Nat.le_refl _) (by omega) hy hx
        have hiff := ltD_before (cf := cf) hby (o.dom _ _ hy) (o.dom _ _ hx)
        refine ⟨_, rfl, fun e3 => ?_, fun e3 => ?_⟩
        · have hlt : ltD cf D y x := ord.no (p := (u + v) / 2) (q := m) (by omega) hy hx fun q => by
            have := hiff.1 q
            simp [this] at e3
          rw [wadd _ (by omega)]
          refine ⟨⟨(u + v) / 2 + 1, v, rfl, rfl, by omega, by omega, k3, s1.ext x2, fun q z q1 q2 hz => ?_, fv⟩, by simp only [Int.toNat_natCast]; omega⟩
          by_cases eq : q = (u + v) / 2
          · rw [eq, hy] at hz; cases hz; exact hlt
          · exact ord.tr _ _ _ (hL q _ z y q1 (by omega) (by omega) hz hy) hlt
        · have hlt : ltD cf D x y := hiff.2 (by simpa using e3)
          refine ⟨⟨u, (u + v) / 2, rfl, rfl, k1, by omega, by omega, s1.ext x2, fu, fun q z q1 q2 hz => ?_⟩, by simp only [Int.toNat_natCast]; omega⟩
          by_cases eq : q = (u + v) / 2
          · rw [eq, hy] at hz; cases hz; exact hlt
          · exact ord.tr _ _ _ hlt (hL _ q y z (by omega) (by omega) q2 hy hz)
      · have huv : u = v := by have := ge_of_dec e; omega
        subst huv
        refine ⟨fun k h3 => ∃ (k' : Nat) (Q : List (Int × Nat)), k = k' ∧ u ≤ k' ∧ k' ≤ m ∧ St h0 a c N T h3 Q ∧ Rot M Q k' m (m + 1), fun k _ => k.toNat, ⟨m, M, rfl, by omega, Nat.le_refl _, s1, Rot.none (.inl rfl)⟩, ?_⟩
        rintro _ h3' ⟨k, Q, rfl, q1, q2, sQ, rQ⟩
        have lQ := rQ.len
        refine ⟨fun e => ?_, fun e => ?_⟩
        · have hku : u < k := by have := of_decide_eq_true e; omega
          obtain ⟨z, hz⟩ : ∃ z, Q[k]? = some z := ⟨_, List.getElem?_eq_getElem (by omega)⟩
          obtain ⟨w, hw⟩ : ∃ w, Q[k - 1]? = some w := ⟨_, List.getElem?_eq_getElem (by omega)⟩
          obtain ⟨rb, ro, ea, c1, c2, w1, w2⟩ := sQ.swap hz hw
          rw [show IntKind.i64.wrap ((k : Int) - 1) = ((k - 1 : Nat) : Int) by rw [w64 (by omega) (by omega)]; omega]
          refine ⟨rb, ro, ea, by omega, by omega, _, c2, by omega, by omega, _, c1, w1, fun h5 e5 => ⟨(w2 h5 e5).1, fun h6 e6 => ?_⟩⟩
          have s6 := (w2 h5 e5).2 h6 e6
          refine ⟨⟨k - 1, _, rfl, by omega, by omega, s6, ⟨by simpa using lQ, fun p => ?_⟩⟩, by simp only [Int.toNat_natCast]; omega⟩
          rw [(Seg.swap (a := 0) (b := Q.length) hz hw (by omega) (by omega) (by omega) (by omega)).2, rQ.at_]
          congr 1
          unfold rho
          (repeat' split) <;> omega
        · have hku : k = u := by have := of_decide_eq_false e; omega
          subst hku
          exact ⟨rfl, Q, sQ, (rQ.seg (by omega) (by omega)).mono (by omega) (Nat.le_refl _), one_right hx hL rQ (by omega) (by omega) fu fv⟩
    · -- halves
      have hm1 : i + 2 ≤ m := by rw [w64 (by omega) (by omega)] at e1; simp at e1; omega
      have hb1 : m + 2 ≤ b := by rw [w64 (by omega) (by omega)] at e2; simp at e2; omega
      rw [half (i := i) (j := b) (by omega)]
      generalize hmid : (i + b) / 2 = mid at *
      have hmid1 : i < mid := by omega
      have hmid2 : mid < b := by omega
      have e3 : IntKind.i64.wrap ((mid : Int) + (m : Int)) = ((mid + m : Nat) : Int) := by rw [w64 (by omega) (by omega)]; omega
      have e4 : IntKind.i64.wrap (((mid + m : Nat) : Int) - 1) = ((mid + m - 1 : Nat) : Int) := by rw [w64 (by omega) (by omega)]; omega
      rw [e3, e4]
      intro start hstart r hr
      obtain ⟨lo, hlo, hlo2, hlo3⟩ : ∃ lo : Nat, start = lo ∧ i ≤ lo ∧ ((m > mid ∧ lo + b = mid + m) ∨ (m ≤ mid ∧ lo = i)) := by
        by_cases hc : mid < m
        · have : decide ((m : Int) > (mid : Int)) = true := decide_eq_true (by omega)
          rw [this, cond_true] at hstart
          exact ⟨mid + m - b, by rw [hstart, w64 (by omega) (by omega)]; omega, by omega, .inl ⟨hc, by omega⟩⟩
        · have : decide ((m : Int) > (mid : Int)) = false := decide_eq_false (by omega)
          rw [this, cond_false] at hstart
          exact ⟨i, hstart, Nat.le_refl _, .inr ⟨by omega, rfl⟩⟩
      obtain ⟨hi, hhi, hhi2⟩ : ∃ hi : Nat, r = hi ∧ ((m > mid ∧ hi = mid) ∨ (m ≤ mid ∧ hi = m)) := by
        by_cases hc : mid < m
        · have : decide ((m : Int) > (mid : Int)) = true := decide_eq_true (by omega)
          rw [this, cond_true] at hr
          exact ⟨mid, hr, .inl ⟨hc, rfl⟩⟩
        · have : decide ((m : Int) > (mid : Int)) = false := decide_eq_false (by omega)
          rw [this, cond_false] at hr
          exact ⟨m, hr, .inr ⟨by omega, rfl⟩⟩
      subst hlo; subst hhi
      have hlohi : lo ≤ hi := by omega
      refine ⟨fun u v h1 => ∃ u' v' : Nat, u = u' ∧ v = v' ∧ lo ≤ u' ∧ u' ≤ v' ∧ v' ≤ hi ∧ St h0 a c N T h1 M ∧ (∀ (q : Nat) x y, lo ≤ q → q < u' → M[q]? = some x → M[mid + m - 1 - q]? = some y → ltD cf D x y) ∧ (∀ (q : Nat) x y, v' ≤ q → q < hi → M[mid + m - 1 - q]? = some x → M[q]? = some y → ltD cf D x y), fun u v _ => v.toNat - u.toNat,
        ⟨lo, hi, rfl, rfl, Nat.le_refl _, hlohi, Nat.le_refl _, s, fun q x y k1 k2 => by omega, fun q x y k1 k2 => by omega⟩, ?_⟩
      rintro _ _ h1' ⟨u, v, rfl, rfl, k1, k2, k3, s1, fu, fv⟩
      refine ⟨fun e => ?_, fun e => ?_⟩
      · have huv := lt_of_dec e
        rw [half (i := u) (j := v) (by omega)]
        generalize hq : (u + v) / 2 = q at *
        rw [show IntKind.i64.wrap (((mid + m - 1 : Nat) : Int) - (q : Int)) = ((mid + m - 1 - q : Nat) : Int) by rw [w64 (by omega) (by omega)]; omega]
        obtain ⟨x, hx⟩ := got q (by omega)
        obtain ⟨y, hy⟩ := got (mid + m - 1 - q) (by omega)
        obtain ⟨rb, ro, ea, c1⟩ := s1.get hx
        obtain ⟨rb', ro', ea', c2⟩ := s1.get hy
        rw [ea] at ea'; cases ea'
        refine ⟨rb, ro, ea, by omega, by omega, _, c2, by omega, by omega, _, c1, HCV.mono (C.call h1' s1.fr _ _ (o.dom _ _ hy) (o.dom _ _ hx)) ?_⟩
        rintro _ h2' ⟨rfl, x2⟩
        have hby : bf x y := hlab q _ x y (by omega) (by omega) (by omega) (by omega) hx hy
        have hiff := ltD_before (cf := cf) hby (o.dom _ _ hx) (o.dom _ _ hy)
        refine ⟨_, rfl, fun e3 => ?_, fun e3 => ?_⟩
        · have hlt : ltD cf D x y := ord.no (p := q) (q := mid + m - 1 - q) (by omega) hx hy fun z => by
            have := hiff.1 z
            simp [this] at e3
          rw [wadd _ (by omega)]
          refine ⟨⟨q + 1, v, rfl, rfl, by omega, by omega, k3, s1.ext x2, fun p z w p1 p2 hz hw => ?_, fv⟩, by simp only [Int.toNat_natCast]; omega⟩
          by_cases eq : p = q
          · subst eq; rw [hx] at hz; cases hz; rw [hy] at hw; cases hw; exact hlt
          · have g1 := hL p q z x (by omega) (by omega) (by omega) hz hx
            have g2 := hR (mid + m - 1 - q) (mid + m - 1 - p) y w (by omega) (by omega) (by omega) hy hw
            exact ord.tr _ _ _ g1 (ord.tr _ _ _ hlt g2)
        · have hlt : ltD cf D y x := hiff.2 (by simpa using e3)
          refine ⟨⟨u, q, rfl, rfl, k1, by omega, by omega, s1.ext x2, fu, fun p z w p1 p2 hz hw => ?_⟩, by simp only [Int.toNat_natCast]; omega⟩
          by_cases eq : p = q
          · subst eq; rw [hy] at hz; cases hz; rw [hx] at hw; cases hw; exact hlt
          · have g1 := hL q p x w (by omega) (by omega) (by omega) hx hw
            have g2 := hR (mid + m - 1 - p) (mid + m - 1 - q) z y (by omega) (by omega) (by omega) hz hy
            exact ord.tr _ _ _ g2 (ord.tr _ _ _ hlt g1)
      · have huv : u = v := by have := ge_of_dec e; omega
        subst huv
        rw [show IntKind.i64.wrap (((mid + m : Nat) : Int) - (u : Int)) = ((mid + m - u : Nat) : Int) by rw [w64 (by omega) (by omega)]; omega]
        have hme : m ≤ mid + m - u := by omega
        have heb : mid + m - u ≤ b := by omega
        have hum : u ≤ m := by omega
        refine ⟨fun h2 => ∃ Q, St h0 a c N T h2 Q ∧ Rot M Q u m (mid + m - u), ⟨fun e5 => ?_, fun e5 => ?_⟩, ?_⟩
        · simp only [Bool.and_eq_true, decide_eq_true_eq] at e5
          refine (rotate_c s1 hl (i := u) (m := m) (b := mid + m - u) (by omega) (by omega) (by omega)).mono ?_
          rintro w h2' ⟨rfl, Q, sQ, rQ⟩
          exact ⟨rfl, Q, sQ, rQ⟩
        · simp only [Bool.and_eq_false_iff, decide_eq_false_iff_not] at e5
          exact ⟨M, s1, Rot.none (by omega)⟩
        rintro h2' ⟨Q, sQ, rQ⟩
        have segQ := rQ.seg hum hme
        have lQ := rQ.len
        have oQ := o.seg segQ
        obtain ⟨p1, p2, p3, p4⟩ := rot_srt rQ hum hme hL hR (show i ≤ u by omega) heb
        obtain ⟨l1, l2⟩ := rot_lab rQ hum hme hlab (show i ≤ u by omega) heb
        have hmids : u + (mid + m - u - m) = mid := by omega
        rw [hmids] at p2 p3 l1 l2
        have crs : Crs (ltD cf D) Q i mid b := rot_crs ord hL hR h3 rQ (show i ≤ lo by omega) k1 k3 (show hi ≤ m by omega) (show hi ≤ mid by omega) (by omega) (by omega) (by omega) fu fv
        refine ⟨fun h3 => ∃ X, St h0 a c N T h3 X ∧ Seg Q X i mid ∧ Srt (ltD cf D) X i mid, ⟨fun e5 => ?_, fun e5 => ?_⟩, ?_⟩
        · simp only [Bool.and_eq_true, decide_eq_true_eq] at e5
          rw [← lQ]
          refine (merge_c C n (i := i) (m := u) (b := mid) (by omega) sQ oQ (by omega) (by omega) (by omega) p1 p2 l1).mono ?_
          rintro w h3' ⟨rfl, X, sX, gX, rX⟩
          exact ⟨rfl, X, sX, gX, rX⟩
        · simp only [Bool.and_eq_false_iff, decide_eq_false_iff_not] at e5
          refine ⟨Q, sQ, Seg.refl _ _ _, ?_⟩
          rcases Nat.lt_or_ge i u with q | q
          · have : u = mid := by omega
            rw [this] at p1; exact p1
          · have : u = i := by omega
            rw [this] at p2; exact p2
        rintro h3' ⟨X, sX, gX, rX⟩
        have lX := gX.len
        have oX := oQ.seg gX
        have crs2 : Crs (ltD cf D) X i mid b := crs_seg gX (.inl ⟨Nat.le_refl _, Nat.le_refl _⟩) crs
        have p3' := srt_out gX (.inr (Nat.le_refl _)) p3
        have p4' := srt_out gX (.inr (by omega)) p4
        have l2' : Lab bf X mid (mid + m - u) b := fun p q x y z1 z2 z3 z4 hx hy => l2 p q x y z1 z2 z3 z4 (by rw [← gX.out (by omega)]; exact hx) (by rw [← gX.out (by omega)]; exact hy)
        have done : ∀ {Y : List (Int × Nat)}, Seg X Y mid b → Srt (ltD cf D) Y mid b → Seg M Y i b ∧ Srt (ltD cf D) Y i b := fun {Y} gY rY =>
          ⟨((segQ.mono (by omega) heb).trans (gX.mono (Nat.le_refl _) (by omega))).trans (gY.mono (by omega) (Nat.le_refl _)), srt_join (srt_out gY (.inl (Nat.le_refl _)) rX) rY (crs_seg gY (.inr ⟨Nat.le_refl _, Nat.le_refl _⟩) crs2)⟩
        refine ⟨fun e5 => ?_, fun e5 => ?_⟩
        · simp only [Bool.and_eq_true, decide_eq_true_eq] at e5
          rw [← lQ, ← lX]
          refine (merge_c C n (i := mid) (m := mid + m - u) (b := b) (by omega) sX oX (by omega) (by omega) (by omega) p3' p4' l2').mono ?_
          rintro w h4' ⟨rfl, Y, sY, gY, rY⟩
          exact ⟨rfl, rfl, Y, sY, (done gY rY).1, (done gY rY).2⟩
        · simp only [Bool.and_eq_false_iff, decide_eq_false_iff_not] at e5
          have hs : Srt (ltD cf D) X mid b := by
            rcases Nat.lt_or_ge mid (mid + m - u) with q | q
            · have : mid + m - u = b := by omega
              rw [this] at p3'; exact p3'
            · have : mid + m - u = mid := by omega
              rw [this] at p4'; exact p4'
          exact ⟨rfl, X, sX, (done (Seg.refl _ _ _) hs).1, (done (Seg.refl _ _ _) hs).2⟩
end
end Stb
end Go.Proofs.YthjehlocmikchaaDoor
