import Derived.Test.YthjehlocmikchaaDoorDvSli
namespace Go.Proofs.YthjehlocmikchaaDoor
namespace Stb
section
variable {β : Type}
structure Seg (M M' : List β) (a b : Nat) : Prop where
  len : M'.length = M.length
  ex : ∃ σ τ : Nat → Nat, (∀ p, σ (τ p) = p) ∧ (∀ p, τ (σ p) = p) ∧ (∀ p, (p < a ∨ b ≤ p) → σ p = p) ∧ ∀ p : Nat, M'[p]? = M[σ p]?
theorem Seg.refl (M : List β) (a b : Nat) : Seg M M a b := ⟨rfl, id, id, fun _ => rfl, fun _ => rfl, fun _ _ => rfl, fun _ => rfl⟩
theorem Seg.trans {M M' M'' : List β} {a b : Nat} (x : Seg M M' a b) (y : Seg M' M'' a b) : Seg M M'' a b := by
  obtain ⟨s, t, h1, h2, h3, h4⟩ := x.ex
  obtain ⟨u, v, k1, k2, k3, k4⟩ := y.ex
  exact ⟨y.len.trans x.len, fun p => s (u p), fun p => v (t p), fun p => by simp only [k1, h1], fun p => by simp only [h2, k2], fun p hp => by simp only [k3 p hp, h3 p hp], fun p => by rw [k4, h4]⟩
theorem Seg.mono {M M' : List β} {a b c d : Nat} (x : Seg M M' c d) (h1 : a ≤ c) (h2 : d ≤ b) : Seg M M' a b :=
  let ⟨s, t, k1, k2, k3, k4⟩ := x.ex
  ⟨x.len, s, t, k1, k2, fun p hp => k3 p (by omega), k4⟩
theorem Seg.out {M M' : List β} {a b : Nat} (x : Seg M M' a b) {p : Nat} (hp : p < a ∨ b ≤ p) : M'[p]? = M[p]? := by
  obtain ⟨s, t, _, _, k3, k4⟩ := x.ex
  rw [k4, k3 p hp]
theorem Seg.mem {M M' : List β} {a b : Nat} (x : Seg M M' a b) {p : Nat} (h1 : a ≤ p) (h2 : p < b) : ∃ q, a ≤ q ∧ q < b ∧ M'[p]? = M[q]? := by
  obtain ⟨s, t, k1, k2, k3, k4⟩ := x.ex
  refine ⟨s p, ?_, ?_, k4 p⟩
  · rcases Nat.lt_or_ge (s p) a with q | q
    · have := k3 (s p) (.inl q)
      have e : t (s (s p)) = t (s p) := congrArg t this
      rw [k2, k2] at e; omega
    · exact q
  · rcases Nat.lt_or_ge (s p) b with q | q
    · exact q
    · have := k3 (s p) (.inr q)
      have e : t (s (s p)) = t (s p) := congrArg t this
      rw [k2, k2] at e; omega
theorem Seg.swap {M : List β} {a b i j : Nat} {x y : β} (hi : M[i]? = some x) (hj : M[j]? = some y) (h1 : a ≤ i) (h2 : i < b) (h3 : a ≤ j) (h4 : j < b) :
    Seg M ((M.set i y).set j x) a b ∧ ∀ p : Nat, ((M.set i y).set j x)[p]? = M[if p = i then j else if p = j then i else p]? := by
  have li := (List.getElem?_eq_some_iff.1 hi).1
  have lj := (List.getElem?_eq_some_iff.1 hj).1
  have key : ∀ p : Nat, ((M.set i y).set j x)[p]? = M[if p = i then j else if p = j then i else p]? := fun p => by
    by_cases e1 : j = p
    · subst e1
      rw [List.getElem?_set_self (by simpa using lj)]
      by_cases e2 : j = i
      · subst e2; rw [if_pos rfl, hi]
      · rw [if_neg e2, if_pos rfl, hi]
    · rw [List.getElem?_set_ne e1]
      by_cases e2 : i = p
      · subst e2; rw [List.getElem?_set_self li, if_pos rfl, hj]
      · rw [List.getElem?_set_ne e2, if_neg (Ne.symm e2), if_neg (Ne.symm e1)]
  refine ⟨⟨by simp, _, fun p => if p = i then j else if p = j then i else p, fun p => ?_, fun p => ?_, fun p hp => ?_, key⟩, key⟩
  · simp only; split <;> (try split) <;> (try split) <;> omega
  · simp only; split <;> (try split) <;> (try split) <;> omega
  · rw [if_neg (by omega), if_neg (by omega)]
def rho (a m b p : Nat) : Nat := if a ≤ p ∧ p < a + (b - m) then p + (m - a) else if a + (b - m) ≤ p ∧ p < b then p - (b - m) else p
structure Rot (M M' : List β) (a m b : Nat) : Prop where
  len : M'.length = M.length
  at_ : ∀ p : Nat, M'[p]? = M[rho a m b p]?
theorem Rot.seg {M M' : List β} {a m b : Nat} (r : Rot M M' a m b) (h1 : a ≤ m) (h2 : m ≤ b) : Seg M M' a b :=
  ⟨r.len, rho a m b, rho a (a + (b - m)) b, fun p => (by unfold rho; (repeat' split) <;> omega), fun p => (by unfold rho; (repeat' split) <;> omega), fun p hp => (by unfold rho; (repeat' split) <;> omega), r.at_⟩
theorem Rot.none {M : List β} {a m b : Nat} (h : a = m ∨ m = b) : Rot M M a m b :=
  ⟨rfl, fun p => by
    have : rho a m b p = p := by unfold rho; split <;> (try split) <;> omega
    rw [this]⟩
variable (lt : β → β → Prop)
structure Ord (M : List β) : Prop where
  irr : ∀ x, ¬ lt x x
  tr : ∀ x y z, lt x y → lt y z → lt x z
  tot : ∀ (p q : Nat) x y, p ≠ q → M[p]? = some x → M[q]? = some y → lt x y ∨ lt y x
variable {lt}
theorem Ord.seg {M M' : List β} {a b : Nat} (o : Ord lt M) (s : Seg M M' a b) : Ord lt M' := by
  obtain ⟨u, t, _, k2, _, k4⟩ := s.ex
  refine ⟨o.irr, o.tr, fun p q x y hpq hx hy => o.tot (u p) (u q) x y (fun e => hpq ?_) (by rw [← k4]; exact hx) (by rw [← k4]; exact hy)⟩
  have := congrArg t e
  rw [k2, k2] at this; exact this
theorem Ord.no {M : List β} (o : Ord lt M) {p q : Nat} {x y : β} (hpq : p ≠ q) (hx : M[p]? = some x) (hy : M[q]? = some y) (h : ¬ lt y x) : lt x y := (o.tot p q x y hpq hx hy).resolve_right h
variable (lt)
def Srt (M : List β) (a b : Nat) : Prop := ∀ (p q : Nat) x y, a ≤ p → p < q → q < b → M[p]? = some x → M[q]? = some y → lt x y
def Crs (M : List β) (a m b : Nat) : Prop := ∀ (p q : Nat) x y, a ≤ p → p < m → m ≤ q → q < b → M[p]? = some x → M[q]? = some y → lt x y
variable {lt}
theorem srt_join {M : List β} {a m b : Nat} (h1 : Srt lt M a m) (h2 : Srt lt M m b) (h3 : Crs lt M a m b) : Srt lt M a b := fun p q x y k1 k2 k3 hx hy => by
  rcases Nat.lt_or_ge q m with c | c
  · exact h1 p q x y k1 k2 c hx hy
  · rcases Nat.lt_or_ge p m with d | d
    · exact h3 p q x y k1 d c k3 hx hy
    · exact h2 p q x y d k2 k3 hx hy
theorem srt_one {M : List β} {a b : Nat} (h : b ≤ a + 1) : Srt lt M a b := fun p q x y k1 k2 k3 => by omega
theorem srt_out {M M' : List β} {a b c d : Nat} (s : Seg M M' c d) (h : b ≤ c ∨ d ≤ a) (hs : Srt lt M a b) : Srt lt M' a b := fun p q x y k1 k2 k3 hx hy =>
  hs p q x y k1 k2 k3 (by rw [← s.out (by omega)]; exact hx) (by rw [← s.out (by omega)]; exact hy)
theorem crs_seg {M M' : List β} {a m b c d : Nat} (s : Seg M M' c d) (h : a ≤ c ∧ d ≤ m ∨ m ≤ c ∧ d ≤ b) (hc : Crs lt M a m b) : Crs lt M' a m b := fun p q x y k1 k2 k3 k4 hx hy => by
  have f : ∀ (r lo hi : Nat) z, lo ≤ r → r < hi → (lo ≤ c ∧ d ≤ hi ∨ hi ≤ c ∨ d ≤ lo) → M'[r]? = some z → ∃ r', lo ≤ r' ∧ r' < hi ∧ M[r']? = some z := fun r lo hi z e1 e2 e3 hz => by
    by_cases hr : c ≤ r ∧ r < d
    · obtain ⟨r', q1, q2, q3⟩ := s.mem hr.1 hr.2
      exact ⟨r', by omega, by omega, by rw [← q3]; exact hz⟩
    · exact ⟨r, e1, e2, by rw [← s.out (by omega)]; exact hz⟩
  obtain ⟨p', a1, a2, a3⟩ := f p a m x k1 k2 (by omega) hx
  obtain ⟨q', b1, b2, b3⟩ := f q m b y k3 k4 (by omega) hy
  exact hc p' q' x y a1 a2 b1 b2 a3 b3
structure Ins (lt : β → β → Prop) (M : List β) (a b k : Nat) : Prop where
  rest : ∀ (p q : Nat) x y, a ≤ p → p < q → q < b → p ≠ k → q ≠ k → M[p]? = some x → M[q]? = some y → lt x y
  last : ∀ (q : Nat) x y, k < q → q < b → M[k]? = some x → M[q]? = some y → lt x y
theorem Ins.start {M : List β} {a i : Nat} (h : Srt lt M a i) : Ins lt M a (i + 1) i :=
  ⟨fun p q x y k1 k2 k3 k4 k5 => h p q x y k1 k2 (by omega), fun q x y k1 k2 => by omega⟩
theorem Ins.step {M : List β} {a b k : Nat} (I : Ins lt M a b k) {x y : β} (hk : a < k) (hx : M[k]? = some x) (hy : M[k - 1]? = some y) (hlt : lt x y) (kb : k < b) :
    Ins lt ((M.set k y).set (k - 1) x) a b (k - 1) := by
  have key := (Seg.swap (a := a) (b := b) hx hy (by omega) kb (by omega) (by omega)).2
  have g : ∀ (r : Nat) z, ((M.set k y).set (k - 1) x)[r]? = some z → M[if r = k then k - 1 else if r = k - 1 then k else r]? = some z := fun r z h => by rw [← key]; exact h
  refine ⟨fun p q u v k1 k2 k3 k4 k5 hu hv => ?_, fun q u v k1 k2 hu hv => ?_⟩
  · have hu := g p u hu
    have hv := g q v hv
    rw [if_neg (show ¬ p = k - 1 from k4)] at hu
    rw [if_neg (show ¬ q = k - 1 from k5)] at hv
    by_cases e1 : p = k
    · rw [if_pos e1] at hu
      rw [if_neg (by omega)] at hv
      exact I.rest (k - 1) q u v (by omega) (by omega) k3 (by omega) (by omega) hu hv
    · rw [if_neg e1] at hu
      by_cases e2 : q = k
      · rw [if_pos e2] at hv
        exact I.rest p (k - 1) u v k1 (by omega) (by omega) e1 (by omega) hu hv
      · rw [if_neg e2] at hv
        exact I.rest p q u v k1 k2 k3 e1 e2 hu hv
  · have hu := g (k - 1) u hu
    have hv := g q v hv
    rw [if_neg (by omega), if_pos rfl, hx] at hu
    cases hu
    by_cases e : q = k
    · rw [if_pos e, hy] at hv; cases hv; exact hlt
    · rw [if_neg e, if_neg (by omega)] at hv
      exact I.last q x v (by omega) k2 hx hv
theorem Ins.done {M : List β} {a b k : Nat} (o : Ord lt M) (I : Ins lt M a b k) (kb : k < b) (h : k ≤ a ∨ ∃ x y, M[k]? = some x ∧ M[k - 1]? = some y ∧ ¬ lt x y) : Srt lt M a b := fun p q u v k1 k2 k3 hu hv => by
  by_cases e1 : q = k
  · subst e1
    rcases h with h | ⟨x, y, hx, hy, hn⟩
    · omega
    · rw [hx] at hv; cases hv
      have hyx : lt y v := o.no (p := q - 1) (q := q) (by omega) hy hx hn
      by_cases e : p = q - 1
      · rw [e, hy] at hu; cases hu; exact hyx
      · exact o.tr u y v (I.rest p (q - 1) u y k1 (by omega) (by omega) (by omega) (by omega) hu hy) hyx
  · by_cases e2 : p = k
    · subst e2; exact I.last q u v k2 k3 hu hv
    · exact I.rest p q u v k1 k2 k3 e2 e1 hu hv
theorem rot_crs {M M2 : List β} {a m b mid lo hi s : Nat} (o : Ord lt M) (L : Srt lt M a m) (R : Srt lt M m b) (hb : b ≤ M.length) (rt : Rot M M2 s m (mid + m - s)) (h1 : a ≤ lo) (h2 : lo ≤ s) (h3 : s ≤ hi) (h4 : hi ≤ m) (h5 : hi ≤ mid) (h6 : mid + m ≤ b + s)
    (hlo : lo = a ∨ lo + b = mid + m) (hhi : hi = m ∨ hi = mid)
    (f1 : ∀ (c : Nat) x y, lo ≤ c → c < s → M[c]? = some x → M[mid + m - 1 - c]? = some y → lt x y)
    (f2 : ∀ (c : Nat) x y, s ≤ c → c < hi → M[mid + m - 1 - c]? = some x → M[c]? = some y → lt x y) : Crs lt M2 a mid b := fun p q x y k1 k2 k3 k4 hx hy => by
  rw [rt.at_] at hx hy
  have got : ∀ r, r < b → ∃ z, M[r]? = some z := fun r hr => ⟨_, List.getElem?_eq_getElem (by omega)⟩
  by_cases hp : p < s
  · have ep : rho s m (mid + m - s) p = p := by unfold rho; split <;> (try split) <;> omega
    rw [ep] at hx
    by_cases hq : q < mid + m - s
    · have eq : rho s m (mid + m - s) q = q - (mid - s) := by unfold rho; split <;> (try split) <;> omega
      rw [eq] at hy
      exact L p _ x y k1 (by omega) (by omega) hx hy
    · have eq : rho s m (mid + m - s) q = q := by unfold rho; split <;> (try split) <;> omega
      rw [eq] at hy
      have hls : lo < s := by omega
      obtain ⟨u, hu⟩ := got (s - 1) (by omega)
      obtain ⟨v, hv⟩ := got (mid + m - s) (by omega)
      have huv : lt u v := f1 (s - 1) u v (by omega) (by omega) hu (by rw [show mid + m - 1 - (s - 1) = mid + m - s by omega]; exact hv)
      have hxu : x = u ∨ lt x u := by
        by_cases e : p = s - 1
        · left; rw [e, hu] at hx; cases hx; rfl
        · right; exact L p (s - 1) x u k1 (by omega) (by omega) hx hu
      have hvy : y = v ∨ lt v y := by
        by_cases e : q = mid + m - s
        · left; rw [e, hv] at hy; cases hy; rfl
        · right; exact R _ q v y (by omega) (by omega) k4 hv hy
      have h8 : lt x v := by
        rcases hxu with e | e
        · rw [e]; exact huv
        · exact o.tr _ _ _ e huv
      rcases hvy with e | e
      · rw [e]; exact h8
      · exact o.tr _ _ _ h8 e
  · have ep : rho s m (mid + m - s) p = p + (m - s) := by unfold rho; split <;> (try split) <;> omega
    rw [ep] at hx
    by_cases hq : q < mid + m - s
    · have eq : rho s m (mid + m - s) q = q - (mid - s) := by unfold rho; split <;> (try split) <;> omega
      rw [eq] at hy
      have hsh : s < hi := by omega
      obtain ⟨u, hu⟩ := got (mid + m - 1 - s) (by omega)
      obtain ⟨v, hv⟩ := got s (by omega)
      have huv : lt u v := f2 s u v (Nat.le_refl _) hsh hu hv
      have hxu : x = u ∨ lt x u := by
        by_cases e : p + (m - s) = mid + m - 1 - s
        · left; rw [e, hu] at hx; cases hx; rfl
        · right; exact R _ _ x u (by omega) (by omega) (by omega) hx hu
      have hvy : y = v ∨ lt v y := by
        by_cases e : q - (mid - s) = s
        · left; rw [e, hv] at hy; cases hy; rfl
        · right; exact L s _ v y (by omega) (by omega) (by omega) hv hy
      have h8 : lt x v := by
        rcases hxu with e | e
        · rw [e]; exact huv
        · exact o.tr _ _ _ e huv
      rcases hvy with e | e
      · rw [e]; exact h8
      · exact o.tr _ _ _ h8 e
    · have eq : rho s m (mid + m - s) q = q := by unfold rho; split <;> (try split) <;> omega
      rw [eq] at hy
      exact R _ q x y (by omega) (by omega) k4 hx hy
theorem rot_srt {M M2 : List β} {a m b s e : Nat} (rt : Rot M M2 s m e) (hsm : s ≤ m) (hme : m ≤ e) (L : Srt lt M a m) (R : Srt lt M m b) (has : a ≤ s) (heb : e ≤ b) :
    Srt lt M2 a s ∧ Srt lt M2 s (s + (e - m)) ∧ Srt lt M2 (s + (e - m)) e ∧ Srt lt M2 e b := by
  refine ⟨fun p q x y k1 k2 k3 hx hy => ?_, fun p q x y k1 k2 k3 hx hy => ?_, fun p q x y k1 k2 k3 hx hy => ?_, fun p q x y k1 k2 k3 hx hy => ?_⟩ <;> rw [rt.at_] at hx hy
  · have e1 : rho s m e p = p := by unfold rho; split <;> (try split) <;> omega
    have e2 : rho s m e q = q := by unfold rho; split <;> (try split) <;> omega
    rw [e1] at hx; rw [e2] at hy
    exact L p q x y k1 k2 (by omega) hx hy
  · have e1 : rho s m e p = p + (m - s) := by unfold rho; split <;> (try split) <;> omega
    have e2 : rho s m e q = q + (m - s) := by unfold rho; split <;> (try split) <;> omega
    rw [e1] at hx; rw [e2] at hy
    exact R _ _ x y (by omega) (by omega) (by omega) hx hy
  · have e1 : rho s m e p = p - (e - m) := by unfold rho; split <;> (try split) <;> omega
    have e2 : rho s m e q = q - (e - m) := by unfold rho; split <;> (try split) <;> omega
    rw [e1] at hx; rw [e2] at hy
    exact L _ _ x y (by omega) (by omega) (by omega) hx hy
  · have e1 : rho s m e p = p := by unfold rho; split <;> (try split) <;> omega
    have e2 : rho s m e q = q := by unfold rho; split <;> (try split) <;> omega
    rw [e1] at hx; rw [e2] at hy
    exact R p q x y (by omega) k2 k3 hx hy
def Lab (bf : β → β → Prop) (M : List β) (a m b : Nat) : Prop := Crs bf M a m b
theorem rot_lab {bf : β → β → Prop} {M M2 : List β} {a m b s e : Nat} (rt : Rot M M2 s m e) (hsm : s ≤ m) (hme : m ≤ e) (hl : Lab bf M a m b) (has : a ≤ s) (heb : e ≤ b) :
    Lab bf M2 a s (s + (e - m)) ∧ Lab bf M2 (s + (e - m)) e b := by
  refine ⟨fun p q x y k1 k2 k3 k4 hx hy => ?_, fun p q x y k1 k2 k3 k4 hx hy => ?_⟩ <;> rw [rt.at_] at hx hy
  · have e1 : rho s m e p = p := by unfold rho; split <;> (try split) <;> omega
    have e2 : rho s m e q = q + (m - s) := by unfold rho; split <;> (try split) <;> omega
    rw [e1] at hx; rw [e2] at hy
    exact hl p _ x y k1 (by omega) (by omega) (by omega) hx hy
  · have e1 : rho s m e p = p - (e - m) := by unfold rho; split <;> (try split) <;> omega
    have e2 : rho s m e q = q := by unfold rho; split <;> (try split) <;> omega
    rw [e1] at hx; rw [e2] at hy
    exact hl _ q x y (by omega) (by omega) (by omega) k4 hx hy
theorem one_left {M M2 : List β} {a i b : Nat} {x : β} (hx : M[a]? = some x) (R : Srt lt M (a + 1) b) (rt : Rot M M2 a (a + 1) i) (h1 : a + 1 ≤ i) (h2 : i ≤ b)
    (f1 : ∀ (q : Nat) y, a + 1 ≤ q → q < i → M[q]? = some y → lt y x) (f2 : ∀ (q : Nat) y, i ≤ q → q < b → M[q]? = some y → lt x y) : Srt lt M2 a b := fun p q u v k1 k2 k3 hu hv => by
  rw [rt.at_] at hu hv
  by_cases hp : p < i - 1
  · have e1 : rho a (a + 1) i p = p + 1 := by unfold rho; split <;> (try split) <;> omega
    rw [e1] at hu
    by_cases hq : q < i - 1
    · have e2 : rho a (a + 1) i q = q + 1 := by unfold rho; split <;> (try split) <;> omega
      rw [e2] at hv; exact R _ _ u v (by omega) (by omega) (by omega) hu hv
    · by_cases hq2 : q = i - 1
      · have e2 : rho a (a + 1) i q = a := by unfold rho; split <;> (try split) <;> omega
        rw [e2, hx] at hv; cases hv
        exact f1 _ u (by omega) (by omega) hu
      · have e2 : rho a (a + 1) i q = q := by unfold rho; split <;> (try split) <;> omega
        rw [e2] at hv; exact R _ _ u v (by omega) (by omega) (by omega) hu hv
  · have e2 : rho a (a + 1) i q = q := by unfold rho; split <;> (try split) <;> omega
    rw [e2] at hv
    by_cases hp2 : p = i - 1
    · have e1 : rho a (a + 1) i p = a := by unfold rho; split <;> (try split) <;> omega
      rw [e1, hx] at hu; cases hu
      exact f2 q v (by omega) k3 hv
    · have e1 : rho a (a + 1) i p = p := by unfold rho; split <;> (try split) <;> omega
      rw [e1] at hu; exact R _ _ u v (by omega) (by omega) (by omega) hu hv
theorem one_right {M M2 : List β} {a i m : Nat} {x : β} (hx : M[m]? = some x) (L : Srt lt M a m) (rt : Rot M M2 i m (m + 1)) (h1 : a ≤ i) (h2 : i ≤ m)
    (f1 : ∀ (q : Nat) y, a ≤ q → q < i → M[q]? = some y → lt y x) (f2 : ∀ (q : Nat) y, i ≤ q → q < m → M[q]? = some y → lt x y) : Srt lt M2 a (m + 1) := fun p q u v k1 k2 k3 hu hv => by
  rw [rt.at_] at hu hv
  by_cases hp : p < i
  · have e1 : rho i m (m + 1) p = p := by unfold rho; split <;> (try split) <;> omega
    rw [e1] at hu
    by_cases hq : q < i
    · have e2 : rho i m (m + 1) q = q := by unfold rho; split <;> (try split) <;> omega
      rw [e2] at hv; exact L _ _ u v (by omega) (by omega) (by omega) hu hv
    · by_cases hq2 : q = i
      · have e2 : rho i m (m + 1) q = m := by unfold rho; split <;> (try split) <;> omega
        rw [e2, hx] at hv; cases hv
        exact f1 _ u (by omega) (by omega) hu
      · have e2 : rho i m (m + 1) q = q - 1 := by unfold rho; split <;> (try split) <;> omega
        rw [e2] at hv; exact L _ _ u v (by omega) (by omega) (by omega) hu hv
  · have e2 : rho i m (m + 1) q = q - 1 := by unfold rho; split <;> (try split) <;> omega
    rw [e2] at hv
    by_cases hp2 : p = i
    · have e1 : rho i m (m + 1) p = m := by unfold rho; split <;> (try split) <;> omega
      rw [e1, hx] at hu; cases hu
      exact f2 _ v (by omega) (by omega) hv
    · have e1 : rho i m (m + 1) p = p - 1 := by unfold rho; split <;> (try split) <;> omega
      rw [e1] at hu; exact L _ _ u v (by omega) (by omega) (by omega) hu hv
theorem rot_step {M C C' : List β} {a m b i j i' j' : Nat} (hC : ∀ p : Nat, C[rho (m - i) m (m + j) p]? = M[rho a m b p]?) (h1 : i ≤ m) (h2 : 0 < i) (h3 : 0 < j)
    (hs : (j < i ∧ i' = i - j ∧ j' = j ∧ ∀ p : Nat, C'[p]? = C[if m - i ≤ p ∧ p < m - i + j then p + i else if m ≤ p ∧ p < m + j then p - i else p]?) ∨ (i < j ∧ i' = i ∧ j' = j - i ∧ ∀ p : Nat, C'[p]? = C[if m - i ≤ p ∧ p < m then p + j else if m + j - i ≤ p ∧ p < m + j then p - j else p]?)) :
    ∀ p : Nat, C'[rho (m - i') m (m + j') p]? = M[rho a m b p]? := fun p => by
  rw [← hC p]
  rcases hs with ⟨k1, rfl, rfl, k4⟩ | ⟨k1, rfl, rfl, k4⟩
  · rw [k4]
    congr 1
    unfold rho
    repeat' split
    all_goals omega
  · rw [k4]
    congr 1
    unfold rho
    repeat' split
    all_goals omega
theorem rot_last {M C C' : List β} {a m b i : Nat} (hC : ∀ p : Nat, C[rho (m - i) m (m + i) p]? = M[rho a m b p]?) (h1 : i ≤ m) (hl : C'.length = M.length) (hs : ∀ p : Nat, C'[p]? = C[if m - i ≤ p ∧ p < m then p + i else if m ≤ p ∧ p < m + i then p - i else p]?) : Rot M C' a m b :=
  ⟨hl, fun p => by
    rw [← hC p, hs]
    congr 1
    unfold rho
    repeat' split
    all_goals omega⟩
theorem Seg.perm {M M' : List β} {a b : Nat} (s : Seg M M' a b) : M'.Perm M := by
  obtain ⟨u, t, k1, k2, k3, k4⟩ := s.ex
  have hlt : ∀ p, p < M.length → u p < M.length := fun p hp => by
    have hp' : p < M'.length := by rw [s.len]; exact hp
    have h1 : M'[p]? = some M'[p] := List.getElem?_eq_getElem hp'
    rw [k4] at h1
    exact (List.getElem?_eq_some_iff.1 h1).1
  have nd : ((List.range M.length).map u).Nodup := by
    rw [List.Nodup, List.pairwise_map]
    refine List.Pairwise.imp ?_ (List.nodup_range (n := M.length))
    intro x y hxy e
    have := congrArg t e
    rw [k2, k2] at this; exact hxy this
  have hle : ∀ p, M.length ≤ p → M.length ≤ u p := fun p hp => by
    have h1 : M'[p]? = none := List.getElem?_eq_none (by rw [s.len]; exact hp)
    rw [k4] at h1
    exact List.getElem?_eq_none_iff.1 h1
  have pr : ((List.range M.length).map u).Perm (List.range M.length) := by
    rw [List.perm_iff_count]
    intro x
    by_cases hx : x < M.length
    · have hm : x ∈ (List.range M.length).map u := by
        refine List.mem_map.2 ⟨t x, List.mem_range.2 ?_, k1 x⟩
        rcases Nat.lt_or_ge (t x) M.length with q | q
        · exact q
        · have := hle _ q
          rw [k1] at this; omega
      rw [List.Nodup.count nd, if_pos hm, List.Nodup.count List.nodup_range, if_pos (List.mem_range.2 hx)]
    · rw [List.count_eq_zero.2, List.count_eq_zero.2]
      · simp; omega
      · intro h
        obtain ⟨p, hp, e⟩ := List.mem_map.1 h
        have := hlt p (List.mem_range.1 hp); omega
  have e1 : M'.map some = ((List.range M.length).map u).map fun p => M[p]? := by
    apply List.ext_getElem?
    intro p
    simp only [List.getElem?_map]
    by_cases hp : p < M.length
    · rw [List.getElem?_range hp, List.getElem?_eq_getElem (by rw [s.len]; exact hp)]
      simp only [Option.map_some]
      rw [← k4, List.getElem?_eq_getElem (by rw [s.len]; exact hp)]
    · rw [List.getElem?_eq_none (by rw [s.len]; omega), List.getElem?_eq_none (by simp; omega)]; rfl
  have e2 : M.map some = (List.range M.length).map fun p => M[p]? := by
    apply List.ext_getElem?
    intro p
    simp only [List.getElem?_map]
    by_cases hp : p < M.length
    · rw [List.getElem?_range hp, List.getElem?_eq_getElem hp]
      simp only [Option.map_some]
      rw [List.getElem?_eq_getElem hp]
    · rw [List.getElem?_eq_none (by omega), List.getElem?_eq_none (by simp; omega)]; rfl
  have h3 : (M'.map some).Perm (M.map some) := by rw [e1, e2]; exact pr.map _
  have h4 := h3.filterMap id
  simpa [List.filterMap_map] using h4
end
end Stb
end Go.Proofs.YthjehlocmikchaaDoor
