import Derived.Test.YtkecmljalcfhoaaProg
import Derived.Test.YtkecmljalcfhoaaPa1
namespace Go.Proofs.Ytkecmljalcfhoaa
namespace RH
structure Ent where
  h : Nat
  a : Nat
  v : Nat
  k : Nat
  deriving DecidableEq
def z0 : Ent := ⟨0, 0, 0, 0⟩
def Ent.wf (e : Ent) : Prop := e.h < 18446744073709551616 ∧ e.a < 18446744073709551616 ∧ e.v < 18446744073709551616 ∧ e.k < 256
def hm (B x : Nat) : Nat := x / 2 ^ (64 - B)
def nx (N i : Nat) : Nat := if i + 1 = N then 0 else i + 1
def pv (N i : Nat) : Nat := if i = 0 then N - 1 else i - 1
def df (N m i : Nat) : Nat := if m ≤ i then i - m else i + N - m
def ds (N B i x : Nat) : Nat := df N (hm B x) i
def bk (N i k : Nat) : Nat := if k ≤ i then i - k else i + N - k
abbrev Sl := Nat → Ent
def occd (s : Sl) (i : Nat) : Prop := (s i).a ≠ 0
instance (s : Sl) (i : Nat) : Decidable (occd s i) := inferInstanceAs (Decidable (_ ≠ _))
def stt (s : Sl) (i : Nat) (e : Ent) : Sl := fun j => if j = i then e else s j
theorem st_same (s : Sl) (i : Nat) (e : Ent) : stt s i e i = e := by simp [stt]
theorem st_ne (s : Sl) {i j : Nat} (e : Ent) (h : j ≠ i) : stt s i e j = s j := by simp [stt, h]
def cntO (s : Sl) : Nat → Nat
  | 0 => 0
  | n + 1 => cntO s n + (if occd s n then 1 else 0)
theorem cnt_le (s : Sl) : ∀ n, cntO s n ≤ n
  | 0 => Nat.le_refl _
  | n + 1 => by have := cnt_le s n; simp only [cntO]; split <;> omega
theorem cnt_congr {s s' : Sl} : ∀ n, (∀ i, i < n → (occd s i ↔ occd s' i)) → cntO s n = cntO s' n
  | 0, _ => rfl
  | n + 1, h => by
    have h1 := cnt_congr n fun i hi => h i (by omega)
    have h2 := h n (by omega)
    simp only [cntO, h1]
    by_cases ho : occd s n
    · rw [if_pos ho, if_pos (h2.1 ho)]
    · rw [if_neg ho, if_neg (fun h => ho (h2.2 h))]
theorem cnt_hole {s : Sl} : ∀ n, cntO s n < n → ∃ z, z < n ∧ ¬ occd s z
  | 0, h => absurd h (Nat.not_lt_zero _)
  | n + 1, h => by
    by_cases ho : occd s n
    · simp only [cntO, if_pos ho] at h
      obtain ⟨z, h1, h2⟩ := cnt_hole (s := s) n (by omega)
      exact ⟨z, by omega, h2⟩
    · exact ⟨n, by omega, ho⟩
theorem cnt_st {s : Sl} {i : Nat} {e : Ent} : ∀ n, i < n → ¬ occd s i → e.a ≠ 0 → cntO (stt s i e) n = cntO s n + 1
  | 0, h, _, _ => absurd h (Nat.not_lt_zero _)
  | n + 1, h, ho, he => by
    by_cases hin : i = n
    · subst hin
      have h1 : cntO (stt s i e) i = cntO s i := cnt_congr i fun j hj => by unfold occd; rw [st_ne s e (by omega)]
      have h2 : occd (stt s i e) i := by unfold occd; rw [st_same]; exact he
      simp only [cntO, h1, if_pos h2, if_neg ho]
    · have h1 := cnt_st n (by omega) ho he
      have h2 : occd (stt s i e) n ↔ occd s n := by unfold occd; rw [st_ne s e (by omega)]
      simp only [cntO, h1]
      by_cases hn : occd s n
      · rw [if_pos hn, if_pos (h2.2 hn)]
      · rw [if_neg hn, if_neg (fun h => hn (h2.1 h))]
def LinkR (N B : Nat) (s : Sl) (p : Nat) (d x : Nat) : Prop := occd s p ∧ d ≤ ds N B p (s p).h + 1 ∧ (d = ds N B p (s p).h + 1 → (s p).h < x)
structure RGood (N B : Nat) (s : Sl) : Prop where
  right : ∀ i, i < N → occd s i → 0 < ds N B i (s i).h → LinkR N B s (pv N i) (ds N B i (s i).h) (s i).h
  zero : ∀ i, i < N → ¬ occd s i → s i = z0
  uniq : ∀ i j, i < N → j < N → occd s i → occd s j → (s i).h = (s j).h → i = j
  wf : ∀ i, i < N → (s i).wf
def InT (N : Nat) (s : Sl) (x : Ent) : Prop := ∃ i, i < N ∧ s i = x ∧ x.a ≠ 0
section
variable {N B : Nat}
theorem pow_split (hB : B ≤ 64) : 2 ^ B * 2 ^ (64 - B) = 18446744073709551616 := by
  rw [← Nat.pow_add]; have : B + (64 - B) = 64 := by omega
  rw [this]
theorem hm_lt (hN : N = 2 ^ B) (hB : B ≤ 64) {x : Nat} (hx : x < 18446744073709551616) : hm B x < N := by
  unfold hm; rw [hN]
  exact Nat.div_lt_of_lt_mul (by rw [Nat.mul_comm, pow_split hB]; exact hx)
theorem df_lt {m i : Nat} (hm : m < N) (hi : i < N) : df N m i < N := by unfold df; split <;> omega
theorem chain {s : Sl} (g : RGood N B s) {i d x : Nat} (hN0 : 0 < N) (hi : i < N) (hd : d < N) (hl : 0 < d → LinkR N B s (pv N i) d x) :
    ∀ k, 1 ≤ k → k ≤ d → occd s (bk N i k) ∧ d ≤ ds N B (bk N i k) (s (bk N i k)).h + k
  | 0, h, _ => absurd h (by omega)
  | 1, _, h => by
    obtain ⟨h1, h2, _⟩ := hl (by omega)
    have : bk N i 1 = pv N i := by unfold bk pv; split <;> split <;> omega
    rw [this]; exact ⟨h1, h2⟩
  | k + 2, _, h => by
    obtain ⟨h1, h2⟩ := chain g hN0 hi hd hl (k + 1) (by omega) (by omega)
    have hb : bk N i (k + 1) < N := by unfold bk; split <;> omega
    obtain ⟨h3, h4, _⟩ := g.right _ hb h1 (by omega)
    have : pv N (bk N i (k + 1)) = bk N i (k + 2) := by unfold bk pv; split <;> split <;> split <;> omega
    rw [this] at h3 h4
    exact ⟨h3, by omega⟩
theorem df_cases (m i : Nat) : df N m i = i - m ∧ m ≤ i ∨ df N m i = i + N - m ∧ i < m := by
  unfold df; split
  · exact .inl ⟨rfl, by omega⟩
  · exact .inr ⟨rfl, by omega⟩
theorem nx_cases (i : Nat) : nx N i = 0 ∧ i + 1 = N ∨ nx N i = i + 1 ∧ i + 1 ≠ N := by
  unfold nx; split
  · exact .inl ⟨rfl, by omega⟩
  · exact .inr ⟨rfl, by omega⟩
structure LayI (N B : Nat) (s0 : Sl) (e0 : Ent) (z : Nat) (s : Sl) (at_ far : Nat) (e : Ent) : Prop where
  g : RGood N B s
  at_lt : at_ < N
  z_lt : z < N
  hole : ¬ occd s z
  fareq : far = ds N B at_ e.h
  e_occ : e.a ≠ 0
  e_wf : e.wf
  fresh : ∀ i, i < N → occd s i → (s i).h ≠ e.h
  link : 0 < far → LinkR N B s (pv N at_) far e.h
  same : ∀ x, (InT N s x ∨ x = e) ↔ (InT N s0 x ∨ x = e0)
  full : ∀ i, i < N → (occd s i ↔ occd s0 i)
variable {s0 s : Sl} {e0 e : Ent} {z at_ far : Nat}
theorem LayI.start (hN : N = 2 ^ B) (hB : B ≤ 64) (g : RGood N B s0) (hz : z < N) (hh : ¬ occd s0 z) (ho : e0.a ≠ 0) (hw : e0.wf) (hf : ∀ i, i < N → occd s0 i → (s0 i).h ≠ e0.h) : LayI N B s0 e0 z s0 (hm B e0.h) 0 e0 := by
  have h1 := hm_lt hN hB hw.1
  have h2 : ds N B (hm B e0.h) e0.h = 0 := by unfold ds df; rw [if_pos (Nat.le_refl _)]; omega
  exact ⟨g, h1, hz, hh, h2.symm, ho, hw, hf, fun h => absurd h (by omega), fun _ => Iff.rfl, fun _ _ => Iff.rfl⟩
theorem LayI.far_lt (hN : N = 2 ^ B) (hB : B ≤ 64) (l : LayI N B s0 e0 z s at_ far e) : far < N := by
  rw [l.fareq]; exact df_lt (hm_lt hN hB l.e_wf.1) l.at_lt
theorem LayI.far_succ (hN : N = 2 ^ B) (hB : B ≤ 64) (l : LayI N B s0 e0 z s at_ far e) (ho : occd s at_) : far + 1 < N := by
  have h0 : 0 < N := by have := l.at_lt; omega
  have hne : at_ ≠ z := fun h => l.hole (h ▸ ho)
  have hlt := l.far_lt hN hB
  have hz := l.z_lt
  have ha := l.at_lt
  by_cases hk : df N z at_ ≤ far
  · have hpos : 1 ≤ df N z at_ := by unfold df; split <;> omega
    have := (chain l.g h0 l.at_lt hlt l.link (df N z at_) hpos hk).1
    have hb : bk N at_ (df N z at_) = z := by unfold bk df; (repeat' split) <;> omega
    rw [hb] at this
    exact absurd this l.hole
  · have := df_lt (N := N) hz ha
    omega
theorem in_st {s : Sl} {i : Nat} {e : Ent} (hi : i < N) (he : e.a ≠ 0) {x : Ent} : InT N (stt s i e) x ↔ x = e ∨ ∃ j, j < N ∧ j ≠ i ∧ s j = x ∧ x.a ≠ 0 := by
  constructor
  · rintro ⟨j, hj, hx, ha⟩
    by_cases hji : j = i
    · subst hji; rw [st_same] at hx; exact .inl hx.symm
    · rw [st_ne s e hji] at hx; exact .inr ⟨j, hj, hji, hx, ha⟩
  · rintro (rfl | ⟨j, hj, hji, hx, ha⟩)
    · exact ⟨i, hi, st_same _ _ _, he⟩
    · exact ⟨j, hj, by rw [st_ne s e hji]; exact hx, ha⟩
theorem LayI.put (hN : N = 2 ^ B) (hB : B ≤ 64) (l : LayI N B s0 e0 z s at_ far e) (ho : ¬ occd s at_) :
    RGood N B (stt s at_ e) ∧ (∀ x, InT N (stt s at_ e) x ↔ InT N s0 x ∨ x = e0) ∧ cntO (stt s at_ e) N = cntO s0 N + 1 := by
  have hat := l.at_lt
  have hocc : ∀ j, occd (stt s at_ e) j ↔ (j = at_ ∨ occd s j) := by
    intro j
    by_cases hj : j = at_
    · subst hj; unfold occd; rw [st_same]; exact ⟨fun _ => .inl rfl, fun _ => l.e_occ⟩
    · unfold occd; rw [st_ne s e hj]; exact ⟨.inr, fun h => h.resolve_left hj⟩
  refine ⟨⟨?_, ?_, ?_, ?_⟩, ?_, ?_⟩
  · intro i hi hoi hd
    have hlink : ∀ p d x, p ≠ at_ → LinkR N B s p d x → LinkR N B (stt s at_ e) p d x := by
      intro p d x hp ⟨h1, h2, h3⟩
      unfold LinkR occd at *
      rw [st_ne s e hp]; exact ⟨h1, h2, h3⟩
    have hpv : pv N at_ ≠ at_ := by
      have := l.z_lt
      have hne : at_ ≠ z ∨ at_ = z := by omega
      unfold pv
      by_cases h1 : N = 1
      · exfalso
        subst h1
        have h2 : i = 0 := by omega
        have h3 : at_ = 0 := by omega
        subst h2; subst h3
        rw [st_same] at hd
        have := hm_lt hN hB l.e_wf.1
        unfold ds df at hd
        split at hd <;> omega
      · split <;> omega
    by_cases hia : i = at_
    · subst hia
      rw [st_same] at hd ⊢
      exact hlink _ _ _ hpv (by have := l.link (by rw [l.fareq]; exact hd); rw [l.fareq] at this; exact this)
    · rw [st_ne s e hia] at hd ⊢
      have hos : occd s i := by have := (hocc i).1 hoi; exact this.resolve_left hia
      have := g_right l hi hos hd
      by_cases hp : pv N i = at_
      · exfalso; rw [hp] at this; exact ho this.1
      · exact hlink _ _ _ hp this
  · intro i hi hn
    by_cases hia : i = at_
    · subst hia; exact absurd ((hocc i).2 (.inl rfl)) hn
    · rw [st_ne s e hia]; exact l.g.zero i hi fun h => hn ((hocc i).2 (.inr h))
  · intro i j hi hj hoi hoj hh
    by_cases hia : i = at_ <;> by_cases hja : j = at_
    · omega
    · subst hia; rw [st_same, st_ne s e hja] at hh
      exact absurd hh.symm (l.fresh j hj (((hocc j).1 hoj).resolve_left hja))
    · subst hja; rw [st_same, st_ne s e hia] at hh
      exact absurd hh (l.fresh i hi (((hocc i).1 hoi).resolve_left hia))
    · rw [st_ne s e hia, st_ne s e hja] at hh
      exact l.g.uniq i j hi hj (((hocc i).1 hoi).resolve_left hia) (((hocc j).1 hoj).resolve_left hja) hh
  · intro i hi
    by_cases hia : i = at_
    · subst hia; rw [st_same]; exact l.e_wf
    · rw [st_ne s e hia]; exact l.g.wf i hi
  · intro x
    rw [in_st hat l.e_occ, ← l.same x]
    constructor
    · rintro (rfl | ⟨j, hj, _, hx, ha⟩)
      · exact .inr rfl
      · exact .inl ⟨j, hj, hx, ha⟩
    · rintro (⟨j, hj, hx, ha⟩ | rfl)
      · refine .inr ⟨j, hj, fun hja => ?_, hx, ha⟩
        subst hja; apply ho; unfold occd; rw [hx]; exact ha
      · exact .inl rfl
  · rw [cnt_st N hat ho l.e_occ, cnt_congr N l.full]
where
  g_right {s0 s : Sl} {e0 e : Ent} {z at_ far : Nat} (l : LayI N B s0 e0 z s at_ far e) {i : Nat} (hi : i < N) (hos : occd s i) (hd : 0 < ds N B i (s i).h) : LinkR N B s (pv N i) (ds N B i (s i).h) (s i).h := l.g.right i hi hos hd
theorem ds_next (hN : N = 2 ^ B) (hB : B ≤ 64) {i x : Nat} (hi : i < N) (hx : x < 18446744073709551616) (h : ds N B i x + 1 < N) : ds N B (nx N i) x = ds N B i x + 1 := by
  have := hm_lt hN hB hx
  unfold ds at *
  generalize hm B x = m at *
  unfold df nx at *
  split at h <;> (repeat' split) <;> omega
theorem pv_nx {i : Nat} (_hi : i < N) : pv N (nx N i) = i := by unfold pv nx; split <;> split <;> omega
theorem nx_lt {i : Nat} (hi : i < N) : nx N i < N := by unfold nx; split <;> omega
theorem nx_pv {i : Nat} (hi : i < N) : nx N (pv N i) = i := by unfold pv nx; split <;> split <;> omega
theorem LayI.pass (hN : N = 2 ^ B) (hB : B ≤ 64) (l : LayI N B s0 e0 z s at_ far e) (ho : occd s at_) (h1 : far ≤ ds N B at_ (s at_).h) (h2 : far = ds N B at_ (s at_).h → (s at_).h ≤ e.h) :
    LayI N B s0 e0 z s (nx N at_) (far + 1) e := by
  have hf := l.far_succ hN hB ho
  refine ⟨l.g, nx_lt l.at_lt, l.z_lt, l.hole, ?_, l.e_occ, l.e_wf, l.fresh, fun _ => ?_, l.same, l.full⟩
  · rw [ds_next hN hB l.at_lt l.e_wf.1 (by rw [← l.fareq]; exact hf), ← l.fareq]
  · rw [pv_nx l.at_lt]
    refine ⟨ho, by omega, fun h => ?_⟩
    have h3 := h2 (by omega)
    have h4 := l.fresh at_ l.at_lt ho
    omega
theorem LayI.swap (hN : N = 2 ^ B) (hB : B ≤ 64) (l : LayI N B s0 e0 z s at_ far e) (ho : occd s at_) (h : ds N B at_ (s at_).h < far ∨ far = ds N B at_ (s at_).h ∧ e.h < (s at_).h) :
    LayI N B s0 e0 z (stt s at_ e) (nx N at_) (ds N B at_ (s at_).h + 1) (s at_) := by
  have hf := l.far_succ hN hB ho
  have hat := l.at_lt
  have hwx := (l.g.wf at_ hat).1
  have hne : at_ ≠ z := fun h => l.hole (h ▸ ho)
  have hocc : ∀ j, occd (stt s at_ e) j ↔ occd s j := by
    intro j
    by_cases hj : j = at_
    · subst hj; unfold occd; rw [st_same]; exact ⟨fun _ => ho, fun _ => l.e_occ⟩
    · unfold occd; rw [st_ne s e hj]
  have hpv : pv N at_ ≠ at_ := by have := l.z_lt; unfold pv; split <;> omega
  have hds : ds N B at_ (s at_).h + 1 < N := by omega
  refine ⟨⟨?_, ?_, ?_, ?_⟩, nx_lt hat, l.z_lt, fun h => l.hole ((hocc z).1 h), ?_, ho, l.g.wf at_ hat, ?_, fun _ => ?_, ?_, fun i hi => (hocc i).trans (l.full i hi)⟩
  · intro i hi hoi hd
    by_cases hia : i = at_
    · subst hia
      rw [st_same] at hd ⊢
      have := l.link (by rw [l.fareq]; exact hd)
      obtain ⟨k1, k2, k3⟩ := this
      rw [← l.fareq]
      unfold LinkR occd at *
      rw [st_ne s e hpv]; exact ⟨k1, k2, k3⟩
    · have hos := (hocc i).1 hoi
      rw [st_ne s e hia] at hd ⊢
      obtain ⟨k1, k2, k3⟩ := l.g.right i hi hos hd
      by_cases hp : pv N i = at_
      · rw [hp] at k1 k2 k3 ⊢
        refine ⟨(hocc _).2 ho, ?_, ?_⟩
        · rw [st_same, ← l.fareq]; omega
        · rw [st_same, ← l.fareq]; intro hq
          have : (s at_).h < (s i).h := k3 (by omega)
          omega
      · unfold LinkR occd at *
        rw [st_ne s e hp]; exact ⟨k1, k2, k3⟩
  · intro i hi hn
    have hia : i ≠ at_ := fun h => hn ((hocc i).2 (h ▸ ho))
    rw [st_ne s e hia]; exact l.g.zero i hi fun h => hn ((hocc i).2 h)
  · intro i j hi hj hoi hoj hh
    have hoi' := (hocc i).1 hoi
    have hoj' := (hocc j).1 hoj
    by_cases hia : i = at_ <;> by_cases hja : j = at_
    · omega
    · subst hia; rw [st_same, st_ne s e hja] at hh; exact absurd hh.symm (l.fresh j hj hoj')
    · subst hja; rw [st_same, st_ne s e hia] at hh; exact absurd hh (l.fresh i hi hoi')
    · rw [st_ne s e hia, st_ne s e hja] at hh; exact l.g.uniq i j hi hj hoi' hoj' hh
  · intro i hi
    by_cases hia : i = at_
    · subst hia; rw [st_same]; exact l.e_wf
    · rw [st_ne s e hia]; exact l.g.wf i hi
  · exact (ds_next hN hB hat hwx hds).symm
  · intro i hi hoi
    have hoi' := (hocc i).1 hoi
    by_cases hia : i = at_
    · subst hia; rw [st_same]; exact fun h => l.fresh i hi ho h.symm
    · rw [st_ne s e hia]; exact fun h => hia (l.g.uniq i at_ hi hat hoi' ho h)
  · rw [pv_nx hat]
    refine ⟨(hocc at_).2 ho, ?_, ?_⟩
    · rw [st_same, ← l.fareq]; omega
    · rw [st_same, ← l.fareq]; intro hq; omega
  · intro x
    rw [in_st hat l.e_occ, ← l.same x]
    constructor
    · rintro ((rfl | ⟨j, hj, _, hx, ha⟩) | rfl)
      · exact .inr rfl
      · exact .inl ⟨j, hj, hx, ha⟩
      · exact .inl ⟨at_, hat, rfl, ho⟩
    · rintro (⟨j, hj, hx, ha⟩ | rfl)
      · by_cases hja : j = at_
        · subst hja; exact .inr hx.symm
        · exact .inl (.inr ⟨j, hj, hja, hx, ha⟩)
      · exact .inl (.inl rfl)
theorem df_step {z at_ : Nat} (hz : z < N) (ha : at_ < N) (hne : at_ ≠ z) : df N (nx N at_) z < df N at_ z := by
  unfold df nx; (repeat' split) <;> omega
theorem bk_df {m i at_ far : Nat} (hm : m < N) (hi : i < N) (ha : at_ < N) (hf : far = df N m at_) (hle : far ≤ df N m i) : bk N i (df N m i - far) = at_ := by
  subst hf
  have e1 : df N m at_ = at_ - m ∧ m ≤ at_ ∨ df N m at_ = at_ + N - m ∧ at_ < m := by
    unfold df; split
    · exact .inl ⟨rfl, by omega⟩
    · exact .inr ⟨rfl, by omega⟩
  have e2 : df N m i = i - m ∧ m ≤ i ∨ df N m i = i + N - m ∧ i < m := by
    unfold df; split
    · exact .inl ⟨rfl, by omega⟩
    · exact .inr ⟨rfl, by omega⟩
  unfold bk
  split <;> omega
theorem df_inj {m i j : Nat} (hm : m < N) (hi : i < N) (hj : j < N) (h : df N m i = df N m j) : i = j := by
  unfold df at h
  split at h <;> split at h <;> omega
theorem found_at {s : Sl} (g : RGood N B s) (hN : N = 2 ^ B) (hB : B ≤ 64) {x : Nat} (hx : x < 18446744073709551616) {i : Nat} (hi : i < N) (ho : occd s i) (hh : (s i).h = x) {at_ far : Nat} (ha : at_ < N) (hf : far = ds N B at_ x) (hle : far ≤ ds N B i x) :
    occd s at_ ∧ far ≤ ds N B at_ (s at_).h := by
  have h0 : 0 < N := by omega
  have hm' := hm_lt hN hB hx
  have hdl : ds N B i x < N := df_lt hm' hi
  by_cases he : far = ds N B i x
  · have : at_ = i := df_inj hm' ha hi (hf.symm.trans he)
    subst this; rw [hh]; exact ⟨ho, by omega⟩
  · have hl : 0 < ds N B i x → LinkR N B s (pv N i) (ds N B i x) x := fun h => by have := g.right i hi ho (by rw [hh]; exact h); rw [hh] at this; exact this
    obtain ⟨h1, h2⟩ := chain g h0 hi hdl hl (ds N B i x - far) (by omega) (by omega)
    have hb : bk N i (ds N B i x - far) = at_ := bk_df hm' hi ha hf hle
    rw [hb] at h1 h2
    exact ⟨h1, by omega⟩
theorem ds_prev (hN : N = 2 ^ B) (hB : B ≤ 64) {i x : Nat} (hi : i < N) (hx : x < 18446744073709551616) (h : 0 < ds N B (nx N i) x) : ds N B (nx N i) x = ds N B i x + 1 := by
  have := hm_lt hN hB hx
  unfold ds at *
  generalize hm B x = m at *
  have e1 := df_cases (N := N) m i
  have e2 := df_cases (N := N) m (nx N i)
  have e3 := nx_cases (N := N) i
  omega
structure RemI (N B : Nat) (s0 : Sl) (x0 : Ent) (z : Nat) (s : Sl) (at_ : Nat) : Prop where
  at_lt : at_ < N
  z_lt : z < N
  z_ne : z ≠ at_
  hole : ¬ occd s z
  g1 : ∀ i, i < N → i ≠ at_ → pv N i ≠ at_ → occd s i → 0 < ds N B i (s i).h → LinkR N B s (pv N i) (ds N B i (s i).h) (s i).h
  g2 : occd s (nx N at_) → 1 < ds N B (nx N at_) (s (nx N at_)).h → occd s (pv N at_) ∧ ds N B (nx N at_) (s (nx N at_)).h ≤ ds N B (pv N at_) (s (pv N at_)).h + 2 ∧
    (ds N B (nx N at_) (s (nx N at_)).h = ds N B (pv N at_) (s (pv N at_)).h + 2 → (s (pv N at_)).h < (s (nx N at_)).h)
  zero : ∀ i, i < N → i ≠ at_ → ¬ occd s i → s i = z0
  uniq : ∀ i j, i < N → j < N → i ≠ at_ → j ≠ at_ → occd s i → occd s j → (s i).h = (s j).h → i = j
  wf : ∀ i, i < N → (s i).wf
  same : ∀ x, (∃ i, i < N ∧ i ≠ at_ ∧ s i = x ∧ x.a ≠ 0) ↔ (InT N s0 x ∧ x ≠ x0)
  count : cntO (stt s at_ z0) N + 1 = cntO s0 N
theorem RemI.start {s0 : Sl} (g : RGood N B s0) {z at_ : Nat} (hz : z < N) (hh : ¬ occd s0 z) (ha : at_ < N) (ho : occd s0 at_) : RemI N B s0 (s0 at_) z s0 at_ := by
  have hne : z ≠ at_ := fun h => hh (h ▸ ho)
  refine ⟨ha, hz, hne, hh, fun i hi _ _ h1 h2 => g.right i hi h1 h2, fun h1 h2 => ?_, fun i hi _ => g.zero i hi, fun i j hi hj _ _ => g.uniq i j hi hj, g.wf, fun x => ?_, ?_⟩
  · obtain ⟨_, k2, k3⟩ := g.right _ (nx_lt ha) h1 (by omega)
    rw [pv_nx ha] at k2 k3
    obtain ⟨j1, j2, j3⟩ := g.right at_ ha ho (by omega)
    refine ⟨j1, by omega, fun hq => ?_⟩
    have := k3 (by omega)
    have := j3 (by omega)
    omega
  · constructor
    · rintro ⟨i, hi, hia, hx, hxa⟩
      refine ⟨⟨i, hi, hx, hxa⟩, fun hq => hia (g.uniq i at_ hi ha ?_ ho ?_)⟩
      · unfold occd; rw [hx]; exact hxa
      · rw [hx, hq]
    · rintro ⟨⟨i, hi, hx, hxa⟩, hq⟩
      exact ⟨i, hi, fun h => hq (by rw [← hx, h]), hx, hxa⟩
  · have h1 : ¬ occd (stt s0 at_ z0) at_ := by unfold occd; rw [st_same]; simp [z0]
    have h2 := cnt_st (s := stt s0 at_ z0) (i := at_) (e := s0 at_) N ha h1 ho
    rw [← h2]
    refine cnt_congr N fun i _ => ?_
    unfold occd
    by_cases hi : i = at_
    · subst hi; rw [st_same]
    · rw [st_ne _ _ hi, st_ne _ _ hi]
theorem four_le (hN : N = 2 ^ B) (hB2 : 2 ≤ B) : 4 ≤ N := by
  rw [hN]
  calc 4 = 2 ^ 2 := rfl
    _ ≤ 2 ^ B := Nat.pow_le_pow_right (by omega) hB2
theorem RemI.move (hN : N = 2 ^ B) (hB2 : 2 ≤ B) (hB : B ≤ 64) {s0 s : Sl} {x0 : Ent} {z at_ : Nat} (r : RemI N B s0 x0 z s at_) (ho : occd s (nx N at_)) (hd : 0 < ds N B (nx N at_) (s (nx N at_)).h) :
    RemI N B s0 x0 z (stt s at_ (s (nx N at_))) (nx N at_) := by
  have h4 := four_le hN hB2
  have ha := r.at_lt
  have hf := nx_lt (N := N) ha
  have hfa : nx N at_ ≠ at_ := by unfold nx; split <;> omega
  have hpa : pv N at_ ≠ at_ := by unfold pv; split <;> omega
  have hpf : pv N at_ ≠ nx N at_ := by unfold pv nx; split <;> split <;> omega
  have hx := (r.wf (nx N at_) hf).1
  have hdp := ds_prev hN hB ha hx hd
  have hocc : ∀ j, occd (stt s at_ (s (nx N at_))) j ↔ (j = at_ ∨ occd s j) := by
    intro j
    by_cases hj : j = at_
    · subst hj; unfold occd; rw [st_same]; exact ⟨fun _ => .inl rfl, fun _ => ho⟩
    · unfold occd; rw [st_ne _ _ hj]; exact ⟨.inr, fun h => h.resolve_left hj⟩
  have hzf : z ≠ nx N at_ := fun h => r.hole (h ▸ ho)
  refine ⟨hf, r.z_lt, hzf, fun h => r.hole (((hocc z).1 h).resolve_left r.z_ne), ?_, ?_, ?_, ?_, ?_, ?_, ?_⟩
  · intro i hi hif hpif hoi hdi
    by_cases hia : i = at_
    · subst hia
      rw [st_same] at hdi ⊢
      obtain ⟨k1, k2, k3⟩ := r.g2 ho (by omega)
      unfold LinkR
      refine ⟨(hocc _).2 (.inr k1), ?_, ?_⟩ <;> rw [st_ne _ _ hpa]
      · omega
      · intro hq; exact k3 (by omega)
    · rw [st_ne _ _ hia] at hdi ⊢
      have hpia : pv N i ≠ at_ := fun h => hif (by rw [← h, nx_pv hi])
      obtain ⟨k1, k2, k3⟩ := r.g1 i hi hia hpia (((hocc i).1 hoi).resolve_left hia) hdi
      unfold LinkR
      refine ⟨(hocc _).2 (.inr k1), ?_, ?_⟩ <;> rw [st_ne _ _ hpia]
      · exact k2
      · exact k3
  · have hn2 := nx_lt (N := N) hf
    have hn2a : nx N (nx N at_) ≠ at_ := by unfold nx; split <;> split <;> omega
    have hn2f : nx N (nx N at_) ≠ nx N at_ := by unfold nx; split <;> split <;> omega
    rw [pv_nx ha, st_ne _ _ hn2a, st_same]
    intro h1 h2
    have ho2 := ((hocc _).1 h1).resolve_left hn2a
    obtain ⟨k1, k2, k3⟩ := r.g1 _ hn2 hn2a (by rw [pv_nx hf]; exact hfa) ho2 (by omega)
    rw [pv_nx hf] at k1 k2 k3
    refine ⟨(hocc _).2 (.inl rfl), by omega, fun hq => k3 (by omega)⟩
  · intro i hi hif hn
    have hia : i ≠ at_ := fun h => hn ((hocc i).2 (.inl h))
    rw [st_ne _ _ hia]; exact r.zero i hi hia fun h => hn ((hocc i).2 (.inr h))
  · intro i j hi hj hif hjf hoi hoj hh
    by_cases hia : i = at_ <;> by_cases hja : j = at_
    · omega
    · subst hia; rw [st_same, st_ne _ _ hja] at hh
      exact absurd (r.uniq _ j hf hj hfa hja ho (((hocc j).1 hoj).resolve_left hja) hh).symm hjf
    · subst hja; rw [st_same, st_ne _ _ hia] at hh
      exact absurd (r.uniq i _ hi hf hia hfa (((hocc i).1 hoi).resolve_left hia) ho hh) hif
    · rw [st_ne _ _ hia, st_ne _ _ hja] at hh
      exact r.uniq i j hi hj hia hja (((hocc i).1 hoi).resolve_left hia) (((hocc j).1 hoj).resolve_left hja) hh
  · intro i hi
    by_cases hia : i = at_
    · subst hia; rw [st_same]; exact r.wf _ hf
    · rw [st_ne _ _ hia]; exact r.wf i hi
  · intro x
    rw [← r.same x]
    constructor
    · rintro ⟨i, hi, hif, hx', hxa⟩
      by_cases hia : i = at_
      · subst hia; rw [st_same] at hx'; exact ⟨nx N i, hf, hfa, hx', hxa⟩
      · rw [st_ne _ _ hia] at hx'; exact ⟨i, hi, hia, hx', hxa⟩
    · rintro ⟨i, hi, hia, hx', hxa⟩
      by_cases hif : i = nx N at_
      · subst hif; exact ⟨at_, ha, Ne.symm hfa, by rw [st_same]; exact hx', hxa⟩
      · exact ⟨i, hi, hif, by rw [st_ne _ _ hia]; exact hx', hxa⟩
  · rw [← r.count]
    let t : Sl := stt (stt s at_ z0) (nx N at_) z0
    have hz0 : ∀ (u : Sl) i, ¬ occd (stt u i z0) i := fun u i => by unfold occd; rw [st_same]; simp [z0]
    have t1 : ¬ occd t (nx N at_) := hz0 _ _
    have t2 : ¬ occd t at_ := by unfold occd; show ¬ (stt (stt s at_ z0) (nx N at_) z0 at_).a ≠ 0; rw [st_ne _ _ (Ne.symm hfa), st_same]; simp [z0]
    have c1 := cnt_st (s := t) (i := nx N at_) (e := s (nx N at_)) N hf t1 ho
    have c2 := cnt_st (s := t) (i := at_) (e := s (nx N at_)) N ha t2 ho
    have e1 : cntO (stt s at_ z0) N = cntO (stt t (nx N at_) (s (nx N at_))) N := by
      refine cnt_congr N fun i _ => ?_
      unfold occd
      by_cases h1 : i = nx N at_
      · subst h1; rw [st_same, st_ne _ _ hfa]
      · rw [st_ne _ _ h1]; show _ ↔ (stt (stt s at_ z0) (nx N at_) z0 i).a ≠ 0; rw [st_ne _ _ h1]
    have e2 : cntO (stt (stt s at_ (s (nx N at_))) (nx N at_) z0) N = cntO (stt t at_ (s (nx N at_))) N := by
      refine cnt_congr N fun i _ => ?_
      unfold occd
      by_cases h1 : i = at_
      · subst h1; rw [st_same, st_ne _ _ (Ne.symm hfa), st_same]
      · rw [st_ne t _ h1]; show _ ↔ (stt (stt s at_ z0) (nx N at_) z0 i).a ≠ 0
        by_cases h2 : i = nx N at_
        · subst h2; rw [st_same, st_same]
        · rw [st_ne _ _ h2, st_ne _ _ h2, st_ne _ _ h1, st_ne _ _ h1]
    omega
theorem RemI.done (hN : N = 2 ^ B) (hB2 : 2 ≤ B) {s0 s : Sl} {x0 : Ent} {z at_ : Nat} (r : RemI N B s0 x0 z s at_) (h : ¬ occd s (nx N at_) ∨ ds N B (nx N at_) (s (nx N at_)).h = 0) :
    RGood N B (stt s at_ z0) ∧ (∀ x, InT N (stt s at_ z0) x ↔ InT N s0 x ∧ x ≠ x0) ∧ cntO (stt s at_ z0) N + 1 = cntO s0 N := by
  have h4 := four_le hN hB2
  have ha := r.at_lt
  have hn0 : ¬ occd (stt s at_ z0) at_ := by unfold occd; rw [st_same]; simp [z0]
  have hocc : ∀ j, j ≠ at_ → (occd (stt s at_ z0) j ↔ occd s j) := fun j hj => by unfold occd; rw [st_ne _ _ hj]
  refine ⟨⟨?_, ?_, ?_, ?_⟩, ?_, r.count⟩
  · intro i hi hoi hd
    have hia : i ≠ at_ := fun h => hn0 (h ▸ hoi)
    rw [st_ne _ _ hia] at hd ⊢
    have hos := (hocc i hia).1 hoi
    have hpi : pv N i ≠ at_ := fun hp => by
      have : i = nx N at_ := by rw [← hp, nx_pv hi]
      subst this
      rcases h with h | h
      · exact h hos
      · omega
    obtain ⟨k1, k2, k3⟩ := r.g1 i hi hia hpi hos hd
    unfold LinkR
    refine ⟨(hocc _ hpi).2 k1, ?_, ?_⟩ <;> rw [st_ne _ _ hpi]
    · exact k2
    · exact k3
  · intro i hi hn
    by_cases hia : i = at_
    · subst hia; rw [st_same]
    · rw [st_ne _ _ hia]; exact r.zero i hi hia fun h => hn ((hocc i hia).2 h)
  · intro i j hi hj hoi hoj hh
    have hia : i ≠ at_ := fun h => hn0 (h ▸ hoi)
    have hja : j ≠ at_ := fun h => hn0 (h ▸ hoj)
    rw [st_ne _ _ hia, st_ne _ _ hja] at hh
    exact r.uniq i j hi hj hia hja ((hocc i hia).1 hoi) ((hocc j hja).1 hoj) hh
  · intro i hi
    by_cases hia : i = at_
    · subst hia; rw [st_same]; simp [Ent.wf, z0]
    · rw [st_ne _ _ hia]; exact r.wf i hi
  · intro x
    rw [← r.same x]
    constructor
    · rintro ⟨i, hi, hx, hxa⟩
      have hia : i ≠ at_ := fun h => by subst h; rw [st_same] at hx; subst hx; exact hxa rfl
      rw [st_ne _ _ hia] at hx
      exact ⟨i, hi, hia, hx, hxa⟩
    · rintro ⟨i, hi, hia, hx, hxa⟩
      exact ⟨i, hi, by rw [st_ne _ _ hia]; exact hx, hxa⟩
theorem good_zero : RGood N B (fun _ => z0) :=
  ⟨fun i _ h => absurd rfl h, fun _ _ _ => rfl, fun i _ _ _ h => absurd rfl h, fun _ _ => by simp [Ent.wf, z0]⟩
theorem cnt_zero : ∀ n, cntO (fun _ => z0) n = 0
  | 0 => rfl
  | n + 1 => by simp only [cntO, cnt_zero n]; rw [if_neg (fun h => h rfl)]
theorem good_upd {s : Sl} (g : RGood N B s) {i : Nat} (hi : i < N) {e : Ent} (hh : e.h = (s i).h) (hw : e.wf) (ho : occd s i) (he : e.a ≠ 0) : RGood N B (stt s i e) := by
  have hocc : ∀ j, occd (stt s i e) j ↔ occd s j := by
    intro j
    by_cases hj : j = i
    · subst hj; unfold occd; rw [st_same]; exact ⟨fun _ => ho, fun _ => he⟩
    · unfold occd; rw [st_ne _ _ hj]
  have hhash : ∀ j, (stt s i e j).h = (s j).h := by
    intro j
    by_cases hj : j = i
    · subst hj; rw [st_same]; exact hh
    · rw [st_ne _ _ hj]
  refine ⟨?_, ?_, ?_, ?_⟩
  · intro j hj hoj hd
    rw [hhash] at hd ⊢
    obtain ⟨k1, k2, k3⟩ := g.right j hj ((hocc j).1 hoj) hd
    unfold LinkR
    rw [hhash, hocc]
    exact ⟨k1, k2, k3⟩
  · intro j hj hn
    have hji : j ≠ i := fun h => hn ((hocc j).2 (h ▸ ho))
    rw [st_ne _ _ hji]; exact g.zero j hj fun h => hn ((hocc j).2 h)
  · intro j k hj hk hoj hok hjk
    rw [hhash, hhash] at hjk
    exact g.uniq j k hj hk ((hocc j).1 hoj) ((hocc k).1 hok) hjk
  · intro j hj
    by_cases hji : j = i
    · subst hji; rw [st_same]; exact hw
    · rw [st_ne _ _ hji]; exact g.wf j hj
theorem cnt_upd {s : Sl} {i : Nat} {e : Ent} (ho : occd s i) (he : e.a ≠ 0) : cntO (stt s i e) N = cntO s N :=
  cnt_congr N fun j _ => by
    by_cases hj : j = i
    · subst hj; unfold occd; rw [st_same]; exact ⟨fun _ => ho, fun _ => he⟩
    · unfold occd; rw [st_ne _ _ hj]
end
end RH
end Go.Proofs.Ytkecmljalcfhoaa
namespace Go.Proofs.Ytkecmljalcfhoaa
namespace RH
section
variable {N B : Nat}
theorem chain2 {s : Sl} (g : RGood N B s) {i d x : Nat} (hN0 : 0 < N) (hi : i < N) (hd : d < N) (hl : 0 < d → LinkR N B s (pv N i) d x) :
    ∀ k, 1 ≤ k → k ≤ d → occd s (bk N i k) ∧ d ≤ ds N B (bk N i k) (s (bk N i k)).h + k ∧ (d = ds N B (bk N i k) (s (bk N i k)).h + k → (s (bk N i k)).h < x)
  | 0, h, _ => absurd h (by omega)
  | 1, _, h => by
    obtain ⟨h1, h2, h3⟩ := hl (by omega)
    have : bk N i 1 = pv N i := by unfold bk pv; split <;> split <;> omega
    rw [this]; exact ⟨h1, h2, h3⟩
  | k + 2, _, h => by
    obtain ⟨h1, h2, h5⟩ := chain2 g hN0 hi hd hl (k + 1) (by omega) (by omega)
    have hb : bk N i (k + 1) < N := by unfold bk; split <;> omega
    obtain ⟨h3, h4, h6⟩ := g.right _ hb h1 (by omega)
    have : pv N (bk N i (k + 1)) = bk N i (k + 2) := by unfold bk pv; split <;> split <;> split <;> omega
    rw [this] at h3 h4 h6
    refine ⟨h3, by omega, fun hq => ?_⟩
    have e1 := h5 (by omega)
    have e2 := h6 (by omega)
    omega
theorem no_later (hN : N = 2 ^ B) (hB : B ≤ 64) {s s' : Sl} (g : RGood N B s) (g' : RGood N B s') (hs : ∀ e, InT N s' e → InT N s e) {z : Nat} (hz : z < N) (hh : ¬ occd s' z) :
    ∀ n p q, df N z p = n → p < N → q < N → occd s p → s' q = s p → ds N B p (s p).h < ds N B q (s p).h → False := by
  intro n
  induction n using Nat.strongRecOn with
  | ind n ih =>
    intro p q hn hp hq ho he hlt
    have h0 : 0 < N := by omega
    have hx := (g.wf p hp).1
    have hmq := hm_lt hN hB hx
    have hoq : occd s' q := by unfold occd; rw [he]; exact ho
    have hd : ds N B q (s p).h < N := df_lt hmq hq
    have hl : 0 < ds N B q (s p).h → LinkR N B s' (pv N q) (ds N B q (s p).h) (s p).h := fun h => by
      have := g'.right q hq hoq (by rw [he]; exact h)
      rw [he] at this; exact this
    have hb : bk N q (ds N B q (s p).h - ds N B p (s p).h) = p := bk_df hmq hq hp rfl (Nat.le_of_lt hlt)
    obtain ⟨c1, c2, c3⟩ := chain2 g' h0 hq hd hl (ds N B q (s p).h - ds N B p (s p).h) (by omega) (by omega)
    rw [hb] at c1 c2 c3
    obtain ⟨p2, hp2, e2, ha2⟩ := hs (s' p) ⟨p, hp, rfl, c1⟩
    have hx2 := (g'.wf p hp).1
    have hm2 := hm_lt hN hB hx2
    have hop2 : occd s p2 := by unfold occd; rw [e2]; exact ha2
    have hd1 : ds N B p (s' p).h < N := df_lt hm2 hp
    have hd2 : ds N B p2 (s' p).h < N := df_lt hm2 hp2
    rcases Nat.lt_trichotomy (ds N B p2 (s' p).h) (ds N B p (s' p).h) with hc | hc | hc
    · have hz1 : ds N B p (s' p).h < df N z p := by
        refine Nat.lt_of_not_le fun hle => ?_
        have hzp : z ≠ p := fun h => hh (h ▸ c1)
        have hpos : 1 ≤ df N z p := by unfold df; split <;> omega
        have hl' : 0 < ds N B p (s' p).h → LinkR N B s' (pv N p) (ds N B p (s' p).h) (s' p).h := fun h => g'.right p hp c1 h
        have := (chain2 g' h0 hp hd1 hl' (df N z p) hpos hle).1
        have hbz : bk N p (df N z p) = z := by unfold bk df; (repeat' split) <;> omega
        rw [hbz] at this
        exact hh this
      refine ih (df N z p2) ?_ p2 p rfl hp2 hp hop2 e2.symm (by rw [e2]; exact hc)
      rw [← hn]
      unfold ds at hc hz1
      have a1 := df_cases (N := N) z p
      have a2 := df_cases (N := N) z p2
      have a3 := df_cases (N := N) (hm B (s' p).h) p
      have a4 := df_cases (N := N) (hm B (s' p).h) p2
      generalize hm B (s' p).h = m at *
      omega
    · have : p2 = p := df_inj hm2 hp2 hp hc
      subst this
      have hqp := g'.uniq q p2 hq hp hoq c1 (by rw [he, e2])
      subst hqp
      omega
    · have hl2 : 0 < ds N B p2 (s' p).h → LinkR N B s (pv N p2) (ds N B p2 (s' p).h) (s' p).h := fun h => by
        have := g.right p2 hp2 hop2 (by rw [e2]; exact h)
        rw [e2] at this; exact this
      have hb2 : bk N p2 (ds N B p2 (s' p).h - ds N B p (s' p).h) = p := bk_df hm2 hp2 hp rfl (Nat.le_of_lt hc)
      obtain ⟨d1, d2, d3⟩ := chain2 g h0 hp2 hd2 hl2 (ds N B p2 (s' p).h - ds N B p (s' p).h) (by omega) (by omega)
      rw [hb2] at d1 d2 d3
      have k1 := c3 (by omega)
      have k2 := d3 (by omega)
      omega
theorem layout_one (hN : N = 2 ^ B) (hB : B ≤ 64) {s s' : Sl} (g : RGood N B s) (g' : RGood N B s') (he : ∀ e, InT N s e ↔ InT N s' e) {z z' : Nat} (hz : z < N) (hh : ¬ occd s z) (hz' : z' < N) (hh' : ¬ occd s' z') :
    ∀ i, i < N → s i = s' i := by
  have key : ∀ i, i < N → occd s i → s' i = s i := by
    intro i hi ho
    obtain ⟨q, hq, e, ha⟩ := (he (s i)).1 ⟨i, hi, rfl, ho⟩
    have hm := hm_lt hN hB (g.wf i hi).1
    have hoq : occd s' q := by unfold occd; rw [e]; exact ha
    rcases Nat.lt_trichotomy (ds N B i (s i).h) (ds N B q (s i).h) with hc | hc | hc
    · exact (no_later hN hB g g' (fun e h => (he e).2 h) hz' hh' _ i q rfl hi hq ho e hc).elim
    · have := df_inj hm hi hq hc
      subst this; exact e
    · exact (no_later hN hB g' g (fun e h => (he e).1 h) hz hh _ q i rfl hq hi hoq e.symm (by rw [e]; exact hc)).elim
  intro i hi
  by_cases ho : occd s i
  · exact (key i hi ho).symm
  · by_cases ho' : occd s' i
    · obtain ⟨p, hp, e, ha⟩ := (he (s' i)).2 ⟨i, hi, rfl, ho'⟩
      have hop : occd s p := by unfold occd; rw [e]; exact ha
      have := key p hp hop
      rw [e] at this
      have hpi := g'.uniq p i hp hi (by unfold occd; rw [this]; exact ha) ho' (by rw [this])
      subst hpi; exact absurd hop ho
    · rw [g.zero i hi ho, g'.zero i hi ho']
def Srt (L : List Ent) : Prop := L.Pairwise fun a b => a.h < b.h
theorem srt_ext : ∀ {L M : List Ent}, Srt L → Srt M → (∀ e, e ∈ L ↔ e ∈ M) → L = M
  | [], [], _, _, _ => rfl
  | [], b :: M, _, _, h => absurd ((h b).2 (by simp)) (by simp)
  | a :: L, [], _, _, h => absurd ((h a).1 (by simp)) (by simp)
  | a :: L, b :: M, hL, hM, h => by
    have l1 := List.pairwise_cons.1 hL
    have m1 := List.pairwise_cons.1 hM
    have hab : a = b := by
      rcases List.mem_cons.1 ((h a).1 (by simp)) with e | e
      · exact e
      · rcases List.mem_cons.1 ((h b).2 (by simp)) with e' | e'
        · exact e'.symm
        · have := m1.1 a e; have := l1.1 b e'; omega
    subst hab
    congr 1
    refine srt_ext l1.2 m1.2 fun e => ⟨fun he => ?_, fun he => ?_⟩
    · rcases List.mem_cons.1 ((h e).1 (by simp [he])) with r | r
      · subst r; have := l1.1 _ he; omega
      · exact r
    · rcases List.mem_cons.1 ((h e).2 (by simp [he])) with r | r
      · subst r; have := m1.1 _ he; omega
      · exact r
theorem Srt.eq {L : List Ent} (hL : Srt L) {a b : Ent} (ha : a ∈ L) (hb : b ∈ L) (h : a.h = b.h) : a = b := by
  induction L with
  | nil => cases ha
  | cons c L ih =>
    have l1 := List.pairwise_cons.1 hL
    rcases List.mem_cons.1 ha with e1 | e1 <;> rcases List.mem_cons.1 hb with e2 | e2
    · rw [e1, e2]
    · have := l1.1 _ e2; rw [← e1] at this; omega
    · have := l1.1 _ e1; rw [← e2] at this; omega
    · exact ih l1.2 e1 e2
def lay (N : Nat) (s : Sl) : List Ent := (List.range N).map s
def oc (N : Nat) (s : Sl) : List Ent := (lay N s).filter fun e => e.a != 0
theorem lay_len (N : Nat) (s : Sl) : (lay N s).length = N := by simp [lay]
theorem lay_get (N : Nat) (s : Sl) {i : Nat} (hi : i < N) : (lay N s)[i]? = some (s i) := by simp [lay, hi]
theorem in_oc {N : Nat} {s : Sl} {e : Ent} : e ∈ oc N s ↔ InT N s e := by
  simp only [oc, lay, List.mem_filter, List.mem_map, List.mem_range, bne_iff_ne, ne_eq]
  constructor
  · rintro ⟨⟨i, hi, rfl⟩, ha⟩; exact ⟨i, hi, rfl, ha⟩
  · rintro ⟨i, hi, rfl, ha⟩; exact ⟨⟨i, hi, rfl⟩, ha⟩
theorem oc_len (s : Sl) : ∀ N, (oc N s).length = cntO s N
  | 0 => rfl
  | N + 1 => by
    have := oc_len s N
    unfold oc lay at *
    rw [List.range_succ, List.map_append, List.filter_append, List.length_append, this]
    simp only [cntO, List.map_cons, List.map_nil, List.filter_cons, List.filter_nil]
    by_cases ho : occd s N
    · rw [if_pos ho, if_pos (by simpa [occd] using ho)]; rfl
    · rw [if_neg ho, if_neg (by simpa [occd] using ho)]; rfl
theorem oc_ne {N : Nat} {s : Sl} (g : ∀ i j, i < N → j < N → occd s i → occd s j → (s i).h = (s j).h → i = j) : (oc N s).Pairwise fun a b => a.h ≠ b.h := by
  unfold oc lay
  rw [List.pairwise_filter, List.pairwise_map]
  refine List.Pairwise.imp_of_mem ?_ List.pairwise_lt_range
  intro i j hi hj hij h1 h2 he
  have := g i j (List.mem_range.1 hi) (List.mem_range.1 hj) (by simpa [occd] using h1) (by simpa [occd] using h2) he
  omega
structure Rel (B : Nat) (s : Sl) (L : List Ent) : Prop where
  srt : Srt L
  mem : ∀ e, InT (2 ^ B) s e ↔ e ∈ L
theorem Srt.nodup {L : List Ent} (h : Srt L) : L.Nodup := h.imp fun {a b} h e => by rw [e] at h; omega
theorem Rel.perm {B : Nat} {s : Sl} {L : List Ent} (r : Rel B s L) (g : RGood (2 ^ B) B s) : (oc (2 ^ B) s).Perm L :=
  (List.perm_ext_iff_of_nodup ((oc_ne g.uniq).imp fun {a b} h e => h (by rw [e])) r.srt.nodup).2 fun e => in_oc.trans (r.mem e)
theorem Rel.len {B : Nat} {s : Sl} {L : List Ent} (r : Rel B s L) (g : RGood (2 ^ B) B s) : cntO s (2 ^ B) = L.length := by
  rw [← oc_len]; exact (r.perm g).length_eq
theorem Rel.sorted {B : Nat} {s : Sl} {L M : List Ent} (r : Rel B s L) (g : RGood (2 ^ B) B s) (hp : M.Perm (oc (2 ^ B) s)) (hs : M.Pairwise fun a b => a.h ≤ b.h) : M = L := by
  refine srt_ext ?_ r.srt fun e => hp.mem_iff.trans (in_oc.trans (r.mem e))
  have h1 : M.Pairwise fun a b => a.h ≠ b.h := (hp.pairwise_iff (fun {a b} h e => h e.symm)).2 (oc_ne g.uniq)
  exact (List.Pairwise.and hs h1).imp fun {a b} h => Nat.lt_of_le_of_ne h.1 h.2
theorem rel_empty (B : Nat) : Rel B (fun _ => z0) [] := ⟨List.Pairwise.nil, fun e => ⟨fun ⟨_, _, h, ha⟩ => by subst h; exact absurd rfl ha, fun h => by cases h⟩⟩
theorem Rel.uniq {B : Nat} {s s' : Sl} {L : List Ent} (hB : B ≤ 64) (r : Rel B s L) (r' : Rel B s' L) (g : RGood (2 ^ B) B s) (g' : RGood (2 ^ B) B s') (hl : L.length < 2 ^ B) : lay (2 ^ B) s = lay (2 ^ B) s' := by
  obtain ⟨z, hz, hh⟩ := cnt_hole (s := s) (2 ^ B) (by rw [r.len g]; exact hl)
  obtain ⟨z', hz', hh'⟩ := cnt_hole (s := s') (2 ^ B) (by rw [r'.len g']; exact hl)
  have := layout_one rfl hB g g' (fun e => (r.mem e).trans (r'.mem e).symm) hz hh hz' hh'
  unfold lay
  exact List.map_congr_left fun i hi => this i (List.mem_range.1 hi)
structure Pos (L : List Ent) (x i : Nat) (is : Bool) : Prop where
  le : i ≤ L.length
  lo : ∀ e ∈ L.take i, e.h < x
  hi : ∀ e ∈ L.drop i, x ≤ e.h
  yes : is = true → ∃ e, L[i]? = some e ∧ e.h = x
  no : is = false → ∀ e ∈ L, e.h ≠ x
theorem split_at {L : List Ent} {i : Nat} {o : Ent} (h : L[i]? = some o) : L = L.take i ++ o :: L.drop (i + 1) := by
  have := (List.getElem?_eq_some_iff.1 h)
  obtain ⟨hi, e⟩ := this
  rw [← e, List.getElem_cons_drop, List.take_append_drop]
theorem ins_ok {L : List Ent} (hL : Srt L) {x i : Nat} (p : Pos L x i false) {e : Ent} (he : e.h = x) : Srt (L.take i ++ e :: L.drop i) ∧ (∀ y, y ∈ L.take i ++ e :: L.drop i ↔ y ∈ L ∨ y = e) := by
  have hno := p.no rfl
  have hs := hL
  rw [← List.take_append_drop i L] at hs
  have h3 := List.pairwise_append.1 hs
  refine ⟨List.pairwise_append.2 ⟨h3.1, List.pairwise_cons.2 ⟨fun b hb => ?_, h3.2.1⟩, fun a ha b hb => ?_⟩, fun y => ?_⟩
  · have := p.hi b hb; have := hno b (List.mem_of_mem_drop hb); omega
  · rcases List.mem_cons.1 hb with r | r
    · subst r; have := p.lo a ha; omega
    · exact h3.2.2 a ha b r
  · have hm : y ∈ L ↔ y ∈ L.take i ∨ y ∈ L.drop i := by rw [← List.mem_append, List.take_append_drop]
    simp only [List.mem_append, List.mem_cons, hm]
    constructor
    · rintro (h | h | h)
      · exact .inl (.inl h)
      · exact .inr h
      · exact .inl (.inr h)
    · rintro ((h | h) | h)
      · exact .inl h
      · exact .inr (.inr h)
      · exact .inr (.inl h)
theorem mid_ne {A C : List Ent} {o : Ent} (h : Srt (A ++ o :: C)) {y : Ent} (hy : y ∈ A ∨ y ∈ C) : y ≠ o := by
  have h3 := List.pairwise_append.1 h
  have h4 := List.pairwise_cons.1 h3.2.1
  intro e
  rcases hy with r | r
  · have := h3.2.2 y r o (by simp); rw [e] at this; omega
  · have := h4.1 y r; rw [e] at this; omega
theorem del_ok {L : List Ent} (hL : Srt L) {i : Nat} {o : Ent} (h : L[i]? = some o) : Srt (L.take i ++ L.drop (i + 1)) ∧ (∀ y, y ∈ L.take i ++ L.drop (i + 1) ↔ y ∈ L ∧ y ≠ o) := by
  have e := split_at h
  have hs := hL
  rw [e] at hs
  have h3 := List.pairwise_append.1 hs
  have h4 := List.pairwise_cons.1 h3.2.1
  refine ⟨List.pairwise_append.2 ⟨h3.1, h4.2, fun a ha b hb => h3.2.2 a ha b (List.mem_cons_of_mem _ hb)⟩, fun y => ?_⟩
  have hm : y ∈ L ↔ y ∈ L.take i ∨ y = o ∨ y ∈ L.drop (i + 1) := by
    conv => lhs; rw [e]
    simp
  rw [List.mem_append, hm]
  constructor
  · intro q; exact ⟨q.elim .inl fun r => .inr (.inr r), mid_ne hs q⟩
  · rintro ⟨q | q | q, hne⟩
    · exact .inl q
    · exact absurd q hne
    · exact .inr q
theorem set_split {L : List Ent} {i : Nat} {o : Ent} (h : L[i]? = some o) (e : Ent) : L.set i e = L.take i ++ e :: L.drop (i + 1) := by
  rw [List.set_eq_take_append_cons_drop, if_pos (List.getElem?_eq_some_iff.1 h).1]
theorem set_ok {L : List Ent} (hL : Srt L) {i : Nat} {o e : Ent} (h : L[i]? = some o) (he : e.h = o.h) : Srt (L.set i e) ∧ (∀ y, y ∈ L.set i e ↔ (y ∈ L ∧ y ≠ o) ∨ y = e) := by
  have hd := del_ok hL h
  have hs := hL
  rw [split_at h] at hs
  have h3 := List.pairwise_append.1 hs
  have h4 := List.pairwise_cons.1 h3.2.1
  rw [set_split h]
  refine ⟨List.pairwise_append.2 ⟨h3.1, List.pairwise_cons.2 ⟨fun b hb => by rw [he]; exact h4.1 b hb, h4.2⟩, fun a ha b hb => ?_⟩, fun y => ?_⟩
  · rcases List.mem_cons.1 hb with r | r
    · subst r; rw [he]; exact h3.2.2 a ha o (by simp)
    · exact h3.2.2 a ha b (List.mem_cons_of_mem _ r)
  · rw [← hd.2 y]
    simp only [List.mem_append, List.mem_cons]
    constructor
    · rintro (q | q | q)
      · exact .inl (.inl q)
      · exact .inr q
      · exact .inl (.inr q)
    · rintro ((q | q) | q)
      · exact .inl q
      · exact .inr (.inr q)
      · exact .inr (.inl q)
end
end RH
end Go.Proofs.Ytkecmljalcfhoaa
namespace Go.Proofs.Ytkecmljalcfhoaa
open Go
set_option maxRecDepth 100000
set_option maxHeartbeats 4000000
theorem Ty.agg29 : aggB Try.prog 29 = some false := by kernel_rfl
theorem Ty.agg3 : aggB Try.prog 3 = some false := by kernel_rfl
theorem Ty.agg31 : aggB Try.prog 31 = some true := by kernel_rfl
theorem Ty.agg47 : aggB Try.prog 47 = some false := by kernel_rfl
theorem Ty.by31 : byB Try.prog 31 = some 32 := by kernel_rfl
theorem Ty.cb58 : CallB Try.prog 58 := fun _ _ => Try.call58 _ _
theorem Ty.cb62 : CallB Try.prog 62 := fun _ _ => Try.call62 _ _
theorem Ty.cb63 : CallB Try.prog 63 := fun _ _ => Try.call63 _ _
theorem Ty.cb64 : CallB Try.prog 64 := fun _ _ => Try.call64 _ _
theorem Ty.cb65 : CallB Try.prog 65 := fun _ _ => Try.call65 _ _
theorem Ty.cb66 : CallB Try.prog 66 := fun _ _ => Try.call66 _ _
theorem Ty.cb69 : CallB Try.prog 69 := fun _ _ => Try.call69 _ _
theorem Ty.el47 : elB Try.prog 47 = some 4 := by kernel_rfl
theorem Ty.fld31_0 : fldB Try.prog 31 0 = some 0 := by kernel_rfl
theorem Ty.fld31_1 : fldB Try.prog 31 1 = some 1 := by kernel_rfl
theorem Ty.fld87_0 : fldB Try.prog 87 0 = some 0 := by kernel_rfl
theorem Ty.fld87_1 : fldB Try.prog 87 1 = some 1 := by kernel_rfl
theorem Ty.fld87_3 : fldB Try.prog 87 3 = some 3 := by kernel_rfl
theorem Ty.mixed : Try.prog.follows .mixedOrders = true := by kernel_rfl
theorem Ty.sz3 : szB Try.prog 3 = some 1 := by kernel_rfl
theorem Ty.sz31 : szB Try.prog 31 = some 4 := by kernel_rfl
theorem Ty.sz47 : szB Try.prog 47 = some 1 := by kernel_rfl
theorem Ty.u29 : Try.prog.underlying 29 = some (.int .u64) := by kernel_rfl
theorem Ty.u3 : Try.prog.underlying 3 = some (.int .i64) := by kernel_rfl
theorem Ty.u47 : Try.prog.underlying 47 = some (.slice 31) := by kernel_rfl
theorem Ty.up70 : Try.prog.underlying 70 = some (.pointer 87) := by kernel_rfl
theorem Ty.z31 : zeroB Try.prog 31 (.agg #[(.int .u64 0), (.int .u64 0), (.int .u64 0), (.int .u8 0)]) := by unfold zeroB; kernel_rfl
theorem f64_sh (t : Option Addr) (h : Heap) (R : Value → Heap → Prop)
    (H : (∃ j : Bool, ((t.isSome = true → (∃ t_b t_o : Nat, t = some ⟨t_b, t_o, none⟩ ∧ (∃ x : Option Addr, ∃ x_n x_c : Nat, hcell h t_b t_o = some (.slice x x_n x_c) ∧ (j = (decide ((x_n : Int) > 0)))))) ∧ (t.isSome = false → (j = false))) ∧ R (.bool j) h)) :
    HC Try.prog 64 #[(.pointer t)] h R := by
  refine hc_of (args := [(.pointer t)]) Try.func64 rfl Try.ntmps64 (Nat.le_of_ble_eq_true rfl) ?_
  refine hx_seq ?_
  refine hx_region ?_
  refine hl_val rfl rfl (v := (.bool false)) (hv_assign rfl) ?_
  refine hl_nil ?_
  refine seqQ_n ?_
  obtain ⟨j, Hx3, Hy4⟩ := H
  refine hx_cut (fun ρ h' => h = h' ∧ Has ρ [(2, (.bool j))]) ?_ ?_
  · have H := Hx3; clear Hx3 Hy4
    refine hx_region ?_
    refine hl_val rfl rfl (v := (.pointer t)) (hv_move rfl) ?_
    refine hl_val rfl rfl (v := (.bool t.isSome)) (hv_ptrNil Ty.up70 rfl rfl) ?_
    refine hl_val rfl rfl (v := (.bool t.isSome)) (hv_move rfl) ?_
    rcases bool_or (t.isSome) with hg1 | hg1
    · replace H := H.1 hg1
      refine hl_yes (wanted_y rfl rfl rfl hg1) rfl (HStep.of_val (v := (.pointer t)) (hv_move rfl) ?_)
      obtain ⟨t_b, t_o, hqe, Hq⟩ := H
      subst hqe
      have H := Hq; clear Hq
      refine hl_yes (wanted_y rfl rfl rfl hg1) rfl (HStep.of_val (v := (ptr t_b t_o)) (hv_nil rfl) ?_)
      refine hl_yes (wanted_y rfl rfl rfl hg1) rfl (HStep.of_val (v := (ptr t_b t_o)) (hv_field Ty.fld87_0 (b := t_b) (o := t_o) rfl) ?_)
      obtain ⟨x, x_n, x_c, hc2, H⟩ := H
      refine hl_yes (wanted_y rfl rfl rfl hg1) rfl (HStep.of_val (v := (.slice x x_n x_c)) (hv_load Ty.agg47 rfl hc2) ?_)
      refine hl_yes (wanted_y rfl rfl rfl hg1) rfl (HStep.of_val (v := (.int .i64 (x_n : Int))) (hv_len (n := x_n) Ty.u47 rfl) ?_)
      refine hl_yes (wanted_y rfl rfl rfl hg1) rfl (HStep.of_val (v := (.bool (decide ((x_n : Int) > 0)))) (hv_arith rfl rfl rfl) ?_)
      refine hl_val rfl rfl (v := (.bool (decide ((x_n : Int) > 0)))) (hv_pick_t rfl hg1 rfl) ?_
      refine hl_val rfl rfl (v := (.bool (decide ((x_n : Int) > 0)))) (hv_assign rfl) ?_
      refine hl_nil ?_
      refine seqQ_n ?_
      obtain rfl := H
      exact ⟨rfl, (has_cons rfl has_nil)⟩
    · replace H := H.2 hg1
      refine hl_no (wanted_n rfl rfl rfl hg1) rfl ?_
      refine hl_no (wanted_n rfl rfl rfl hg1) rfl ?_
      refine hl_no (wanted_n rfl rfl rfl hg1) rfl ?_
      refine hl_no (wanted_n rfl rfl rfl hg1) rfl ?_
      refine hl_no (wanted_n rfl rfl rfl hg1) rfl ?_
      refine hl_no (wanted_n rfl rfl rfl hg1) rfl ?_
      refine hl_val rfl rfl (v := (.bool false)) (hv_pick_f rfl hg1 rfl) ?_
      refine hl_val rfl rfl (v := (.bool false)) (hv_assign rfl) ?_
      refine hl_nil ?_
      refine seqQ_n ?_
      obtain rfl := H
      exact ⟨rfl, (has_cons rfl has_nil)⟩
  · have H := Hy4; clear Hx3 Hy4
    rintro ρ _ ⟨rfl, hH⟩
    refine hx_has _ hH ?_
    refine hx_ret ?_
    exact endQ_ret _ (res_one Try.results64 (rv_tmp rfl)) H
theorem f58_sh (e_Hash : Int) (e_At : Int) (e_Version : Int) (e_Hits : Int) (h : Heap) (R : Value → Heap → Prop)
    (H : (∀ e h1, e = Array.size h → h1 = Array.push h (.cells #[(.int .u64 e_Hash), (.int .u64 e_At), (.int .u64 e_Version), (.int .u8 e_Hits)] 31) → (∃ x : Int, hcell h1 e 1 = some (.int .u64 x) ∧ R (.bool (x == 0)) h1))) :
    HC Try.prog 58 #[(.agg #[(.int .u64 e_Hash), (.int .u64 e_At), (.int .u64 e_Version), (.int .u8 e_Hits)])] h R := by
  refine hc_of (args := [(.agg #[(.int .u64 e_Hash), (.int .u64 e_At), (.int .u64 e_Version), (.int .u8 e_Hits)])]) Try.func58 rfl Try.ntmps58 (Nat.le_of_ble_eq_true rfl) ?_
  refine hx_seq ?_
  refine hx_region ?_
  refine hl_step rfl rfl (hn_box (v := (.agg #[(.int .u64 e_Hash), (.int .u64 e_At), (.int .u64 e_Version), (.int .u8 e_Hits)])) rfl ?_)
  intro e h1 eb1 eh2
  replace H := H e h1 eb1 eh2
  refine hl_val rfl rfl (v := (.bool false)) (hv_assign rfl) ?_
  refine hl_nil ?_
  refine seqQ_n ?_
  refine hx_seq ?_
  refine hx_region ?_
  refine hl_val rfl rfl (v := (ptr e 1)) (hv_field Ty.fld31_1 (b := e) (o := 0) rfl) ?_
  obtain ⟨x, hc3, H⟩ := H
  refine hl_val rfl rfl (v := (.int .u64 x)) (hv_load Ty.agg29 rfl hc3) ?_
  refine hl_val rfl rfl (v := (.bool (x == 0))) (hv_arith rfl rfl rfl) ?_
  refine hl_val rfl rfl (v := (.bool (x == 0))) (hv_assign rfl) ?_
  refine hl_nil ?_
  refine seqQ_n ?_
  refine hx_ret ?_
  exact endQ_ret _ (res_one Try.results58 (rv_tmp rfl)) H
theorem f50_sh (t : Option Addr) (hash : Int) (h : Heap) (R : Value → Heap → Prop)
    (H : (∃ r : Bool, HC Try.prog 64 #[(.pointer t)] h (fun vv h' => vv = (.bool r) ∧ h' = h) ∧ (((!r) = true → R (.int .i64 (-1)) h) ∧ ((!r) = false → (∃ r_1 : Int, HC Try.prog 66 #[(.pointer t), (.int .u64 hash)] h (fun vv h' => vv = (.int .i64 r_1) ∧ h' = h) ∧ (∃ A3 : Heap → Prop, (∃ (I4 : Int → Int → Heap → Prop) (mu5 : Int → Int → Heap → Nat), I4 r_1 0 h ∧ (∀ (atv : Int) (far : Int) (h2 : Heap), I4 atv far h2 → (∃ t_b t_o : Nat, t = some ⟨t_b, t_o, none⟩ ∧ (∃ x : Option Addr, ∃ x_n x_c : Nat, hcell h2 t_b t_o = some (.slice x x_n x_c) ∧ (∃ x_b x_o : Nat, x = some ⟨x_b, x_o, none⟩ ∧ (0 : Int) ≤ atv ∧ atv < (x_n : Int) ∧ (∃ x_Hash x_At x_Version x_Hits : Int, hcell h2 x_b (x_o + (Int.toNat atv) * 4) = some (.int .u64 x_Hash) ∧ hcell h2 x_b ((x_o + (Int.toNat atv) * 4) + 1) = some (.int .u64 x_At) ∧ hcell h2 x_b ((x_o + (Int.toNat atv) * 4) + 2) = some (.int .u64 x_Version) ∧ hcell h2 x_b ((x_o + (Int.toNat atv) * 4) + 3) = some (.int .u8 x_Hits) ∧ HC Try.prog 58 #[(.agg #[(.int .u64 x_Hash), (.int .u64 x_At), (.int .u64 x_Version), (.int .u8 x_Hits)])] h2 (fun vv h3 => ∃ r_2 : Bool, vv = (.bool r_2) ∧ (((!r_2) = true → (∃ x_1 : Option Addr, ∃ x_n_1 x_c_1 : Nat, hcell h3 t_b t_o = some (.slice x_1 x_n_1 x_c_1) ∧ (∃ x_1_b x_1_o : Nat, x_1 = some ⟨x_1_b, x_1_o, none⟩ ∧ (0 : Int) ≤ atv ∧ atv < (x_n_1 : Int) ∧ (∃ x_2 : Int, hcell h3 x_1_b (x_1_o + (Int.toNat atv) * 4) = some (.int .u64 x_2) ∧ (((x_2 == hash) = true → R (.int .i64 atv) h3) ∧ ((x_2 == hash) = false → (∃ r_3 : Int, HC Try.prog 63 #[(ptr t_b t_o), (.int .i64 atv)] h3 (fun vv h' => vv = (.int .i64 r_3) ∧ h' = h3) ∧ (((decide (r_3 < far)) = true → (A3 h3)) ∧ ((decide (r_3 < far)) = false → (∃ r_4 : Int, HC Try.prog 62 #[(ptr t_b t_o), (.int .i64 atv)] h3 (fun vv h' => vv = (.int .i64 r_4) ∧ h' = h3) ∧ (I4 r_4 (IntKind.i64.wrap (far + 1)) h3 ∧ mu5 r_4 (IntKind.i64.wrap (far + 1)) h3 < mu5 atv far h2))))))))))) ∧ ((!r_2) = false → (A3 h3)))))))))) ∧ (∀ (h1 : Heap), A3 h1 → R (.int .i64 (-1)) h1))))))) :
    HC Try.prog 50 #[(.pointer t), (.int .u64 hash)] h R := by
  refine hc_of (args := [(.pointer t), (.int .u64 hash)]) Try.func50 rfl Try.ntmps50 (Nat.le_of_ble_eq_true rfl) ?_
  refine hx_seq ?_
  refine hx_region ?_
  refine hl_val rfl rfl (v := (.int .i64 0)) (hv_assign rfl) ?_
  refine hl_nil ?_
  refine seqQ_n ?_
  refine hx_scope ?_
  refine hx_seq ?_
  refine hx_seq ?_
  refine hx_region ?_
  refine hl_val rfl rfl (v := (.pointer t)) (hv_move rfl) ?_
  obtain ⟨r, hr1, H⟩ := H
  refine hl_val rfl rfl (v := (.bool r)) (hv_call Ty.cb64 (vs := [(.pointer t)]) rfl hr1) ?_
  refine hl_val rfl rfl (v := (.bool (!r))) (hv_not (b := r) rfl) ?_
  refine hl_nil ?_
  refine seqQ_n ?_
  refine hx_cond (b := !r) rfl (fun hb28 => ?_) (fun hb28 => ?_)
  · replace H := H.1 hb28
    refine hx_seq ?_
    refine hx_region ?_
    refine hl_val rfl rfl (v := (.int .i64 (-1))) (hv_assign rfl) ?_
    refine hl_nil ?_
    refine seqQ_n ?_
    refine hx_ret ?_
    refine seqQ_ret ?_
    refine scopeQ_ret ?_
    exact endQ_ret _ (res_one Try.results50 (rv_tmp rfl)) H
  · replace H := H.2 hb28
    refine hx_skip ?_
    refine seqQ_n ?_
    refine hx_seq ?_
    refine hx_region ?_
    refine hl_val rfl rfl (v := (.pointer t)) (hv_move rfl) ?_
    refine hl_val rfl rfl (v := (.int .u64 hash)) (hv_move rfl) ?_
    obtain ⟨r_1, hr2, H⟩ := H
    refine hl_val rfl rfl (v := (.int .i64 r_1)) (hv_call Ty.cb66 (vs := [(.pointer t), (.int .u64 hash)]) rfl hr2) ?_
    refine hl_val rfl rfl (v := (.int .i64 r_1)) (hv_assign rfl) ?_
    refine hl_val rfl rfl (v := (.int .i64 0)) (hv_assign rfl) ?_
    refine hl_nil ?_
    refine seqQ_n ?_
    refine hx_seq ?_
    refine hx_label ?_
    refine seqQ_n ?_
    obtain ⟨A3, Hx25, Hy26⟩ := H
    refine hx_cut (fun ρ h' => A3 h' ∧ Has ρ []) ?_ ?_
    · have H := Hx25; clear Hx25 Hy26
      refine hx_block ?_
      obtain ⟨I4, mu5, Ha6, Hr7⟩ := H
      refine hx_loopT (σ := Int × Int) (fun s => [(0, (.pointer t)), (1, (.int .u64 hash)), (5, (.int .i64 s.1)), (6, (.int .i64 s.2))]) (fun s h' => I4 s.1 s.2 h') (fun s h' => mu5 s.1 s.2 h') (r_1, 0) Ha6 (has_cons rfl (has_cons rfl (has_cons rfl (has_cons rfl has_nil)))) ?_
      rintro ⟨atv, far⟩ ρ h2 Hi8
      have H := Hr7 atv far h2 Hi8
      refine hx_seq ?_
      refine hx_seq ?_
      refine hx_region ?_
      refine hl_val rfl rfl (v := (.pointer t)) (hv_move rfl) ?_
      obtain ⟨t_b, t_o, hqe, Hq⟩ := H
      subst hqe
      have H := Hq; clear Hq
      refine hl_val rfl rfl (v := (ptr t_b t_o)) (hv_nil rfl) ?_
      refine hl_val rfl rfl (v := (ptr t_b t_o)) (hv_field Ty.fld87_0 (b := t_b) (o := t_o) rfl) ?_
      obtain ⟨x, x_n, x_c, hc24, H⟩ := H
      refine hl_val rfl rfl (v := (.slice x x_n x_c)) (hv_load Ty.agg47 rfl hc24) ?_
      refine hl_val rfl rfl (v := (.int .i64 atv)) (hv_move rfl) ?_
      obtain ⟨x_b, x_o, hqe, hi9, hi10, Hq⟩ := H
      subst hqe
      have H := Hq; clear Hq
      refine hl_val rfl rfl (v := (ptr x_b (x_o + (Int.toNat atv) * 4))) (hv_index Ty.el47 rfl rfl hi9 hi10) ?_
      obtain ⟨x_Hash, x_At, x_Version, x_Hits, hc20, hc21, hc22, hc23, H⟩ := H
      refine hl_val rfl rfl (v := (.agg #[(.int .u64 x_Hash), (.int .u64 x_At), (.int .u64 x_Version), (.int .u8 x_Hits)])) (hv_loads (vs := [(.int .u64 x_Hash), (.int .u64 x_At), (.int .u64 x_Version), (.int .u8 x_Hits)]) Ty.agg31 Ty.sz31 rfl (hcells_cons hc20 (hcells_cons hc21 (hcells_cons hc22 (hcells_cons hc23 hcells_nil))))) ?_
      refine hl_step rfl rfl (hs_call Ty.cb58 (vs := [(.agg #[(.int .u64 x_Hash), (.int .u64 x_At), (.int .u64 x_Version), (.int .u8 x_Hits)])]) rfl (HC.mono H ?_))
      rintro _ h3 ⟨r_2, rfl, H⟩
      refine hl_val rfl rfl (v := (.bool (!r_2))) (hv_not (b := r_2) rfl) ?_
      refine hl_nil ?_
      refine seqQ_n ?_
      refine hx_cond (b := !r_2) rfl (fun hb19 => ?_) (fun hb19 => ?_)
      · replace H := H.1 hb19
        refine hx_skip ?_
        refine seqQ_n ?_
        refine hx_block ?_
        refine hx_seq ?_
        refine hx_block ?_
        refine hx_seq ?_
        refine hx_region ?_
        refine hl_val rfl rfl (v := (ptr t_b t_o)) (hv_move rfl) ?_
        refine hl_val rfl rfl (v := (ptr t_b t_o)) (hv_nil rfl) ?_
        refine hl_val rfl rfl (v := (ptr t_b t_o)) (hv_field Ty.fld87_0 (b := t_b) (o := t_o) rfl) ?_
        obtain ⟨x_1, x_n_1, x_c_1, hc18, H⟩ := H
        refine hl_val rfl rfl (v := (.slice x_1 x_n_1 x_c_1)) (hv_load Ty.agg47 rfl hc18) ?_
        refine hl_val rfl rfl (v := (.int .i64 atv)) (hv_move rfl) ?_
        obtain ⟨x_1_b, x_1_o, hqe, hi11, hi12, Hq⟩ := H
        subst hqe
        have H := Hq; clear Hq
        refine hl_val rfl rfl (v := (ptr x_1_b (x_1_o + (Int.toNat atv) * 4))) (hv_index Ty.el47 rfl rfl hi11 hi12) ?_
        refine hl_val rfl rfl (v := (ptr x_1_b (x_1_o + (Int.toNat atv) * 4))) (hv_field Ty.fld31_0 (b := x_1_b) (o := x_1_o + (Int.toNat atv) * 4) rfl) ?_
        obtain ⟨x_2, hc17, H⟩ := H
        refine hl_val rfl rfl (v := (.int .u64 x_2)) (hv_load Ty.agg29 rfl hc17) ?_
        refine hl_val rfl rfl (v := (.int .u64 hash)) (hv_move rfl) ?_
        refine hl_val rfl rfl (v := (.bool (x_2 == hash))) (hv_arith rfl rfl rfl) ?_
        refine hl_val rfl rfl (v := (.bool (x_2 == hash))) (hv_assign rfl) ?_
        refine hl_nil ?_
        refine seqQ_n ?_
        refine hx_cond (b := x_2 == hash) rfl (fun hb16 => ?_) (fun hb16 => ?_)
        · replace H := H.1 hb16
          refine hx_seq ?_
          refine hx_region ?_
          refine hl_val rfl rfl (v := (.int .i64 atv)) (hv_move rfl) ?_
          refine hl_val rfl rfl (v := (.int .i64 atv)) (hv_assign rfl) ?_
          refine hl_nil ?_
          refine seqQ_n ?_
          refine hx_ret ?_
          refine blockQ_ret ?_
          refine seqQ_ret ?_
          refine blockQ_ret ?_
          refine seqQ_ret ?_
          refine blockQ_ret ?_
          refine seqQ_ret ?_
          refine scopeQ_ret ?_
          exact endQ_ret _ (res_one Try.results50 (rv_tmp rfl)) H
        · replace H := H.2 hb16
          refine hx_seq ?_
          refine hx_region ?_
          refine hl_val rfl rfl (v := (ptr t_b t_o)) (hv_move rfl) ?_
          refine hl_val rfl rfl (v := (.int .i64 atv)) (hv_move rfl) ?_
          obtain ⟨r_3, hr13, H⟩ := H
          refine hl_val rfl rfl (v := (.int .i64 r_3)) (hv_call Ty.cb63 (vs := [(ptr t_b t_o), (.int .i64 atv)]) rfl hr13) ?_
          refine hl_val rfl rfl (v := (.int .i64 far)) (hv_move rfl) ?_
          refine hl_val rfl rfl (v := (.bool (decide (r_3 < far)))) (hv_arith rfl rfl rfl) ?_
          refine hl_val rfl rfl (v := (.bool (decide (r_3 < far)))) (hv_assign rfl) ?_
          refine hl_nil ?_
          refine seqQ_n ?_
          refine hx_cond (b := decide (r_3 < far)) rfl (fun hb15 => ?_) (fun hb15 => ?_)
          · replace H := H.1 hb15
            refine hx_exit ?_
            refine blockQ_past rfl ?_
            refine seqQ_exit ?_
            refine blockQ_past rfl ?_
            refine seqQ_exit ?_
            refine blockQ_here ?_
            refine seqQ_n ?_
            exact ⟨H, has_nil⟩
          · replace H := H.2 hb15
            refine hx_skip ?_
            refine blockQ_n ?_
            refine seqQ_n ?_
            refine hx_region ?_
            refine hl_val rfl rfl (v := (ptr t_b t_o)) (hv_move rfl) ?_
            refine hl_val rfl rfl (v := (.int .i64 atv)) (hv_move rfl) ?_
            obtain ⟨r_4, hr14, H⟩ := H
            refine hl_val rfl rfl (v := (.int .i64 r_4)) (hv_call Ty.cb62 (vs := [(ptr t_b t_o), (.int .i64 atv)]) rfl hr14) ?_
            refine hl_val rfl rfl (v := (.int .i64 far)) (hv_move rfl) ?_
            refine hl_val rfl rfl (v := (.int .i64 (IntKind.i64.wrap (far + 1)))) (hv_arith rfl rfl rfl) ?_
            refine hl_val rfl rfl (v := (.int .i64 r_4)) (hv_assign rfl) ?_
            refine hl_val rfl rfl (v := (.int .i64 (IntKind.i64.wrap (far + 1)))) (hv_assign rfl) ?_
            refine hl_nil ?_
            refine blockQ_n ?_
            refine seqQ_n ?_
            exact ⟨(r_4, IntKind.i64.wrap (far + 1)), H, (has_cons rfl (has_cons rfl (has_cons rfl (has_cons rfl has_nil))))⟩
      · replace H := H.2 hb19
        refine hx_exit ?_
        refine seqQ_exit ?_
        refine seqQ_exit ?_
        refine blockQ_here ?_
        refine seqQ_n ?_
        exact ⟨H, has_nil⟩
    · rintro ρ h1 ⟨HA27, hH⟩
      have H := Hy26 h1 HA27; clear Hx25 Hy26
      refine hx_has _ hH ?_
      refine hx_seq ?_
      refine hx_region ?_
      refine hl_val rfl rfl (v := (.int .i64 (-1))) (hv_assign rfl) ?_
      refine hl_nil ?_
      refine seqQ_n ?_
      refine hx_ret ?_
      refine scopeQ_ret ?_
      exact endQ_ret _ (res_one Try.results50 (rv_tmp rfl)) H
theorem f67_sh (t_b : Nat) (t_o : Nat) (h : Heap) (R : Value → Heap → Prop)
    (H : (∃ x : Int, hcell h t_b (t_o + 3) = some (.int .i64 x) ∧ (∃ x_1 : Option Addr, ∃ x_n x_c : Nat, hcell h t_b t_o = some (.slice x_1 x_n x_c) ∧ R (.bool (decide ((IntKind.i64.wrap (8 * (IntKind.i64.wrap (x + 1)))) > (IntKind.i64.wrap (7 * (x_n : Int)))))) h))) :
    HC Try.prog 67 #[(ptr t_b t_o)] h R := by
  refine hc_of (args := [(ptr t_b t_o)]) Try.func67 rfl Try.ntmps67 (Nat.le_of_ble_eq_true rfl) ?_
  refine hx_seq ?_
  refine hx_region ?_
  refine hl_val rfl rfl (v := (.bool false)) (hv_assign rfl) ?_
  refine hl_nil ?_
  refine seqQ_n ?_
  refine hx_seq ?_
  refine hx_draw Ty.mixed [.pure, .pure, .pure, .read, .pure, .pure, .pure, .pure, .pure, .read, .pure, .pure, .pure, .pure] [0, 1, 2, 3, 4, 5, 6, 7, 8, 9, 10, 11, 12, 13] (by kernel_rfl) ?_
  refine hp_pure (i := 0) rfl (wanted_0 rfl) rfl (ptr t_b t_o) (fun _ => hv_move rfl) ?_
  refine hp_pure (i := 1) rfl (wanted_0 rfl) rfl (ptr t_b t_o) (fun _ => hv_nil rfl) ?_
  refine hp_pure (i := 2) rfl (wanted_0 rfl) rfl (ptr t_b (t_o + 3)) (fun _ => hv_field Ty.fld87_3 (b := t_b) (o := t_o) rfl) ?_
  obtain ⟨x, hc2, H⟩ := H
  refine hp_read (i := 3) rfl (wanted_0 rfl) rfl (.int .i64 x) (fun _ he => hv_load Ty.agg3 rfl (he.cell hc2)) ?_
  refine hp_pure (i := 4) rfl (wanted_0 rfl) rfl (.int .i64 (IntKind.i64.wrap (x + 1))) (fun _ => hv_arith rfl rfl rfl) ?_
  refine hp_pure (i := 5) rfl (wanted_0 rfl) rfl (.int .i64 (IntKind.i64.wrap (8 * (IntKind.i64.wrap (x + 1))))) (fun _ => hv_arith rfl rfl rfl) ?_
  refine hp_pure (i := 6) rfl (wanted_0 rfl) rfl (ptr t_b t_o) (fun _ => hv_move rfl) ?_
  refine hp_pure (i := 7) rfl (wanted_0 rfl) rfl (ptr t_b t_o) (fun _ => hv_nil rfl) ?_
  refine hp_pure (i := 8) rfl (wanted_0 rfl) rfl (ptr t_b t_o) (fun _ => hv_field Ty.fld87_0 (b := t_b) (o := t_o) rfl) ?_
  obtain ⟨x_1, x_n, x_c, hc1, H⟩ := H
  refine hp_read (i := 9) rfl (wanted_0 rfl) rfl (.slice x_1 x_n x_c) (fun _ he => hv_load Ty.agg47 rfl (he.cell hc1)) ?_
  refine hp_pure (i := 10) rfl (wanted_0 rfl) rfl (.int .i64 (x_n : Int)) (fun _ => hv_len (n := x_n) Ty.u47 rfl) ?_
  refine hp_pure (i := 11) rfl (wanted_0 rfl) rfl (.int .i64 (IntKind.i64.wrap (7 * (x_n : Int)))) (fun _ => hv_arith rfl rfl rfl) ?_
  refine hp_pure (i := 12) rfl (wanted_0 rfl) rfl (.bool (decide ((IntKind.i64.wrap (8 * (IntKind.i64.wrap (x + 1)))) > (IntKind.i64.wrap (7 * (x_n : Int)))))) (fun _ => hv_arith rfl rfl rfl) ?_
  refine hp_pure (i := 13) rfl (wanted_0 rfl) rfl (.bool (decide ((IntKind.i64.wrap (8 * (IntKind.i64.wrap (x + 1)))) > (IntKind.i64.wrap (7 * (x_n : Int)))))) (fun _ => hv_assign rfl) ?_
  refine hp_nil ?_
  refine seqQ_n ?_
  refine hx_ret ?_
  exact endQ_ret _ (res_one Try.results67 (rv_tmp rfl)) H
theorem f62_sh (t_b : Nat) (t_o : Nat) (atv : Int) (h : Heap) (R : Value → Heap → Prop)
    (H : (∃ x : Option Addr, ∃ x_n x_c : Nat, hcell h t_b t_o = some (.slice x x_n x_c) ∧ ((x_n : Int) ≠ 0 ∧ R (.int .i64 (Int.tmod (IntKind.i64.wrap (atv + 1)) (x_n : Int))) h))) :
    HC Try.prog 62 #[(ptr t_b t_o), (.int .i64 atv)] h R := by
  refine hc_of (args := [(ptr t_b t_o), (.int .i64 atv)]) Try.func62 rfl Try.ntmps62 (Nat.le_of_ble_eq_true rfl) ?_
  refine hx_seq ?_
  refine hx_region ?_
  refine hl_val rfl rfl (v := (.int .i64 0)) (hv_assign rfl) ?_
  refine hl_nil ?_
  refine seqQ_n ?_
  refine hx_seq ?_
  refine hx_region ?_
  refine hl_val rfl rfl (v := (.int .i64 atv)) (hv_move rfl) ?_
  refine hl_val rfl rfl (v := (.int .i64 (IntKind.i64.wrap (atv + 1)))) (hv_arith rfl rfl rfl) ?_
  refine hl_val rfl rfl (v := (ptr t_b t_o)) (hv_move rfl) ?_
  refine hl_val rfl rfl (v := (ptr t_b t_o)) (hv_nil rfl) ?_
  refine hl_val rfl rfl (v := (ptr t_b t_o)) (hv_field Ty.fld87_0 (b := t_b) (o := t_o) rfl) ?_
  obtain ⟨x, x_n, x_c, hc2, H⟩ := H
  refine hl_val rfl rfl (v := (.slice x x_n x_c)) (hv_load Ty.agg47 rfl hc2) ?_
  refine hl_val rfl rfl (v := (.int .i64 (x_n : Int))) (hv_len (n := x_n) Ty.u47 rfl) ?_
  obtain ⟨hz1, H⟩ := H
  refine hl_val rfl rfl (v := (.int .i64 (Int.tmod (IntKind.i64.wrap (atv + 1)) (x_n : Int)))) (hv_rem rfl rfl hz1) ?_
  refine hl_val rfl rfl (v := (.int .i64 (Int.tmod (IntKind.i64.wrap (atv + 1)) (x_n : Int)))) (hv_assign rfl) ?_
  refine hl_nil ?_
  refine seqQ_n ?_
  refine hx_ret ?_
  exact endQ_ret _ (res_one Try.results62 (rv_tmp rfl)) H
theorem f63_sh (t_b : Nat) (t_o : Nat) (atv : Int) (h : Heap) (R : Value → Heap → Prop)
    (H : (∃ x : Option Addr, ∃ x_n x_c : Nat, hcell h t_b t_o = some (.slice x x_n x_c) ∧ (∃ x_b x_o : Nat, x = some ⟨x_b, x_o, none⟩ ∧ (0 : Int) ≤ atv ∧ atv < (x_n : Int) ∧ (∃ x_1 : Int, hcell h x_b (x_o + (Int.toNat atv) * 4) = some (.int .u64 x_1) ∧ (∃ r : Int, (∀ h1, Ext h h1 → HC Try.prog 66 #[(ptr t_b t_o), (.int .u64 x_1)] h1 (fun vv h' => vv = (.int .i64 r) ∧ h' = h1)) ∧ (∃ x_2 : Option Addr, ∃ x_n_1 x_c_1 : Nat, hcell h t_b t_o = some (.slice x_2 x_n_1 x_c_1) ∧ (∃ x_3 : Option Addr, ∃ x_n_2 x_c_2 : Nat, hcell h t_b t_o = some (.slice x_3 x_n_2 x_c_2) ∧ ((x_n_2 : Int) ≠ 0 ∧ R (.int .i64 (Int.tmod (IntKind.i64.wrap ((IntKind.i64.wrap (atv - r)) + (x_n_1 : Int))) (x_n_2 : Int))) h)))))))) :
    HC Try.prog 63 #[(ptr t_b t_o), (.int .i64 atv)] h R := by
  refine hc_of (args := [(ptr t_b t_o), (.int .i64 atv)]) Try.func63 rfl Try.ntmps63 (Nat.le_of_ble_eq_true rfl) ?_
  refine hx_seq ?_
  refine hx_region ?_
  refine hl_val rfl rfl (v := (.int .i64 0)) (hv_assign rfl) ?_
  refine hl_nil ?_
  refine seqQ_n ?_
  refine hx_seq ?_
  refine hx_draw Ty.mixed [.pure, .pure, .pure, .pure, .pure, .read, .pure, .pure, .pure, .read, .read, .pure, .pure, .pure, .pure, .read, .pure, .pure, .pure, .pure, .pure, .read, .pure, .pure, .pure] [0, 1, 2, 3, 4, 5, 6, 7, 8, 9, 10, 11, 12, 13, 14, 15, 16, 17, 18, 19, 20, 21, 22, 23, 24] (by kernel_rfl) ?_
  refine hp_pure (i := 0) rfl (wanted_0 rfl) rfl (.int .i64 atv) (fun _ => hv_move rfl) ?_
  refine hp_pure (i := 1) rfl (wanted_0 rfl) rfl (ptr t_b t_o) (fun _ => hv_move rfl) ?_
  refine hp_pure (i := 2) rfl (wanted_0 rfl) rfl (ptr t_b t_o) (fun _ => hv_move rfl) ?_
  refine hp_pure (i := 3) rfl (wanted_0 rfl) rfl (ptr t_b t_o) (fun _ => hv_nil rfl) ?_
  refine hp_pure (i := 4) rfl (wanted_0 rfl) rfl (ptr t_b t_o) (fun _ => hv_field Ty.fld87_0 (b := t_b) (o := t_o) rfl) ?_
  obtain ⟨x, x_n, x_c, hc8, H⟩ := H
  refine hp_read (i := 5) rfl (wanted_0 rfl) rfl (.slice x x_n x_c) (fun _ he => hv_load Ty.agg47 rfl (he.cell hc8)) ?_
  refine hp_pure (i := 6) rfl (wanted_0 rfl) rfl (.int .i64 atv) (fun _ => hv_move rfl) ?_
  obtain ⟨x_b, x_o, hqe, hi1, hi2, Hq⟩ := H
  subst hqe
  have H := Hq; clear Hq
  refine hp_pure (i := 7) rfl (wanted_0 rfl) rfl (ptr x_b (x_o + (Int.toNat atv) * 4)) (fun _ => hv_index Ty.el47 rfl rfl hi1 hi2) ?_
  refine hp_pure (i := 8) rfl (wanted_0 rfl) rfl (ptr x_b (x_o + (Int.toNat atv) * 4)) (fun _ => hv_field Ty.fld31_0 (b := x_b) (o := x_o + (Int.toNat atv) * 4) rfl) ?_
  obtain ⟨x_1, hc7, H⟩ := H
  refine hp_read (i := 9) rfl (wanted_0 rfl) rfl (.int .u64 x_1) (fun _ he => hv_load Ty.agg29 rfl (he.cell hc7)) ?_
  obtain ⟨r, hr3, H⟩ := H
  refine hp_read (i := 10) rfl (wanted_0 rfl) rfl (.int .i64 r) (fun _ he => hv_call Ty.cb66 (vs := [(ptr t_b t_o), (.int .u64 x_1)]) rfl (hr3 _ he)) ?_
  refine hp_pure (i := 11) rfl (wanted_0 rfl) rfl (.int .i64 (IntKind.i64.wrap (atv - r))) (fun _ => hv_arith rfl rfl rfl) ?_
  refine hp_pure (i := 12) rfl (wanted_0 rfl) rfl (ptr t_b t_o) (fun _ => hv_move rfl) ?_
  refine hp_pure (i := 13) rfl (wanted_0 rfl) rfl (ptr t_b t_o) (fun _ => hv_nil rfl) ?_
  refine hp_pure (i := 14) rfl (wanted_0 rfl) rfl (ptr t_b t_o) (fun _ => hv_field Ty.fld87_0 (b := t_b) (o := t_o) rfl) ?_
  obtain ⟨x_2, x_n_1, x_c_1, hc6, H⟩ := H
  refine hp_read (i := 15) rfl (wanted_0 rfl) rfl (.slice x_2 x_n_1 x_c_1) (fun _ he => hv_load Ty.agg47 rfl (he.cell hc6)) ?_
  refine hp_pure (i := 16) rfl (wanted_0 rfl) rfl (.int .i64 (x_n_1 : Int)) (fun _ => hv_len (n := x_n_1) Ty.u47 rfl) ?_
  refine hp_pure (i := 17) rfl (wanted_0 rfl) rfl (.int .i64 (IntKind.i64.wrap ((IntKind.i64.wrap (atv - r)) + (x_n_1 : Int)))) (fun _ => hv_arith rfl rfl rfl) ?_
  refine hp_pure (i := 18) rfl (wanted_0 rfl) rfl (ptr t_b t_o) (fun _ => hv_move rfl) ?_
  refine hp_pure (i := 19) rfl (wanted_0 rfl) rfl (ptr t_b t_o) (fun _ => hv_nil rfl) ?_
  refine hp_pure (i := 20) rfl (wanted_0 rfl) rfl (ptr t_b t_o) (fun _ => hv_field Ty.fld87_0 (b := t_b) (o := t_o) rfl) ?_
  obtain ⟨x_3, x_n_2, x_c_2, hc5, H⟩ := H
  refine hp_read (i := 21) rfl (wanted_0 rfl) rfl (.slice x_3 x_n_2 x_c_2) (fun _ he => hv_load Ty.agg47 rfl (he.cell hc5)) ?_
  refine hp_pure (i := 22) rfl (wanted_0 rfl) rfl (.int .i64 (x_n_2 : Int)) (fun _ => hv_len (n := x_n_2) Ty.u47 rfl) ?_
  obtain ⟨hz4, H⟩ := H
  refine hp_pure (i := 23) rfl (wanted_0 rfl) rfl (.int .i64 (Int.tmod (IntKind.i64.wrap ((IntKind.i64.wrap (atv - r)) + (x_n_1 : Int))) (x_n_2 : Int))) (fun _ => hv_rem rfl rfl hz4) ?_
  refine hp_pure (i := 24) rfl (wanted_0 rfl) rfl (.int .i64 (Int.tmod (IntKind.i64.wrap ((IntKind.i64.wrap (atv - r)) + (x_n_1 : Int))) (x_n_2 : Int))) (fun _ => hv_assign rfl) ?_
  refine hp_nil ?_
  refine seqQ_n ?_
  refine hx_ret ?_
  exact endQ_ret _ (res_one Try.results63 (rv_tmp rfl)) H
theorem f66_sh (t_b : Nat) (t_o : Nat) (hash : Int) (h : Heap) (R : Value → Heap → Prop)
    (H : (∃ x : Int, hcell h t_b (t_o + 1) = some (.int .i64 x) ∧ ((0 : Int) ≤ IntKind.i64.wrap (64 - x) ∧ R (.int .i64 (IntKind.i64.wrap (Int.fdiv hash (2 ^ min (Int.toNat (IntKind.i64.wrap (64 - x))) 64)))) h))) :
    HC Try.prog 66 #[(ptr t_b t_o), (.int .u64 hash)] h R := by
  refine hc_of (args := [(ptr t_b t_o), (.int .u64 hash)]) Try.func66 rfl Try.ntmps66 (Nat.le_of_ble_eq_true rfl) ?_
  refine hx_seq ?_
  refine hx_region ?_
  refine hl_val rfl rfl (v := (.int .i64 0)) (hv_assign rfl) ?_
  refine hl_nil ?_
  refine seqQ_n ?_
  refine hx_seq ?_
  refine hx_region ?_
  refine hl_val rfl rfl (v := (.int .u64 hash)) (hv_move rfl) ?_
  refine hl_val rfl rfl (v := (ptr t_b t_o)) (hv_move rfl) ?_
  refine hl_val rfl rfl (v := (ptr t_b t_o)) (hv_nil rfl) ?_
  refine hl_val rfl rfl (v := (ptr t_b (t_o + 1))) (hv_field Ty.fld87_1 (b := t_b) (o := t_o) rfl) ?_
  obtain ⟨x, hc2, H⟩ := H
  refine hl_val rfl rfl (v := (.int .i64 x)) (hv_load Ty.agg3 rfl hc2) ?_
  refine hl_val rfl rfl (v := (.int .i64 (IntKind.i64.wrap (64 - x)))) (hv_arith rfl rfl rfl) ?_
  obtain ⟨hz1, H⟩ := H
  refine hl_val rfl rfl (v := (.int .u64 (Int.fdiv hash (2 ^ min (Int.toNat (IntKind.i64.wrap (64 - x))) 64)))) (hv_shift rfl rfl hz1 rfl) ?_
  refine hl_val rfl rfl (v := (.int .i64 (IntKind.i64.wrap (Int.fdiv hash (2 ^ min (Int.toNat (IntKind.i64.wrap (64 - x))) 64))))) (hv_convInt Ty.u29 Ty.u3 rfl) ?_
  refine hl_val rfl rfl (v := (.int .i64 (IntKind.i64.wrap (Int.fdiv hash (2 ^ min (Int.toNat (IntKind.i64.wrap (64 - x))) 64))))) (hv_assign rfl) ?_
  refine hl_nil ?_
  refine seqQ_n ?_
  refine hx_ret ?_
  exact endQ_ret _ (res_one Try.results66 (rv_tmp rfl)) H
theorem f69_sh (t_b : Nat) (t_o : Nat) (e_Hash : Int) (e_At : Int) (e_Version : Int) (e_Hits : Int) (h : Heap) (R : Value → Heap → Prop)
    (H : (∀ e h1, e = Array.size h → h1 = Array.push h (.cells #[(.int .u64 e_Hash), (.int .u64 e_At), (.int .u64 e_Version), (.int .u8 e_Hits)] 31) → (∃ x : Int, hcell h1 e 0 = some (.int .u64 x) ∧ (∃ r : Int, HC Try.prog 66 #[(ptr t_b t_o), (.int .u64 x)] h1 (fun vv h' => vv = (.int .i64 r) ∧ h' = h1) ∧ (∃ (I4 : Int → Int → Heap → Prop) (mu5 : Int → Int → Heap → Nat), I4 r 0 h1 ∧ (∀ (atv : Int) (far : Int) (h2 : Heap), I4 atv far h2 → (∃ x_1 : Option Addr, ∃ x_n x_c : Nat, hcell h2 t_b t_o = some (.slice x_1 x_n x_c) ∧ (∃ x_1_b x_1_o : Nat, x_1 = some ⟨x_1_b, x_1_o, none⟩ ∧ (0 : Int) ≤ atv ∧ atv < (x_n : Int) ∧ (∃ x_Hash x_At x_Version x_Hits : Int, hcell h2 x_1_b (x_1_o + (Int.toNat atv) * 4) = some (.int .u64 x_Hash) ∧ hcell h2 x_1_b ((x_1_o + (Int.toNat atv) * 4) + 1) = some (.int .u64 x_At) ∧ hcell h2 x_1_b ((x_1_o + (Int.toNat atv) * 4) + 2) = some (.int .u64 x_Version) ∧ hcell h2 x_1_b ((x_1_o + (Int.toNat atv) * 4) + 3) = some (.int .u8 x_Hits) ∧ HC Try.prog 58 #[(.agg #[(.int .u64 x_Hash), (.int .u64 x_At), (.int .u64 x_Version), (.int .u8 x_Hits)])] h2 (fun vv h3 => ∃ r_1 : Bool, vv = (.bool r_1) ∧ ((r_1 = true → (∃ x_2 : Option Addr, ∃ x_n_1 x_c_1 : Nat, hcell h3 t_b t_o = some (.slice x_2 x_n_1 x_c_1) ∧ (∃ x_Hash_1 x_At_1 x_Version_1 x_Hits_1 : Int, hcell h3 e 0 = some (.int .u64 x_Hash_1) ∧ hcell h3 e 1 = some (.int .u64 x_At_1) ∧ hcell h3 e 2 = some (.int .u64 x_Version_1) ∧ hcell h3 e 3 = some (.int .u8 x_Hits_1) ∧ (∃ x_2_b x_2_o : Nat, x_2 = some ⟨x_2_b, x_2_o, none⟩ ∧ (0 : Int) ≤ atv ∧ atv < (x_n_1 : Int) ∧ (HWs h3 x_2_b (x_2_o + (Int.toNat atv) * 4) 4 ∧ ∀ h4, h4 = hsets h3 x_2_b (x_2_o + (Int.toNat atv) * 4) [(.int .u64 x_Hash_1), (.int .u64 x_At_1), (.int .u64 x_Version_1), (.int .u8 x_Hits_1)] → (∃ x_3 : Int, hcell h4 t_b (t_o + 3) = some (.int .i64 x_3) ∧ (HW h4 t_b (t_o + 3) ∧ ∀ h5, h5 = hset h4 t_b (t_o + 3) (.int .i64 (IntKind.i64.wrap (x_3 + 1))) → R (.tuple #[]) h5))))))) ∧ (r_1 = false → (∃ r_2 : Int, HC Try.prog 63 #[(ptr t_b t_o), (.int .i64 atv)] h3 (fun vv h' => vv = (.int .i64 r_2) ∧ h' = h3) ∧ (∃ A24 : Int → Heap → Prop, (∃ j : Bool, (((decide (r_2 < far)) = true → (j = true)) ∧ ((decide (r_2 < far)) = false → (((r_2 == far) = true → (∃ x_2 : Option Addr, ∃ x_n_1 x_c_1 : Nat, hcell h3 t_b t_o = some (.slice x_2 x_n_1 x_c_1) ∧ (∃ x_2_b x_2_o : Nat, x_2 = some ⟨x_2_b, x_2_o, none⟩ ∧ (0 : Int) ≤ atv ∧ atv < (x_n_1 : Int) ∧ (∃ x_3 : Int, hcell h3 x_2_b (x_2_o + (Int.toNat atv) * 4) = some (.int .u64 x_3) ∧ (∃ x_4 : Int, hcell h3 e 0 = some (.int .u64 x_4) ∧ (j = (decide (x_3 > x_4)))))))) ∧ ((r_2 == far) = false → (j = false))))) ∧ ((j = true → (∃ x_5 : Option Addr, ∃ x_n_2 x_c_2 : Nat, hcell h3 t_b t_o = some (.slice x_5 x_n_2 x_c_2) ∧ (∃ x_Hash_1 x_At_1 x_Version_1 x_Hits_1 : Int, hcell h3 e 0 = some (.int .u64 x_Hash_1) ∧ hcell h3 e 1 = some (.int .u64 x_At_1) ∧ hcell h3 e 2 = some (.int .u64 x_Version_1) ∧ hcell h3 e 3 = some (.int .u8 x_Hits_1) ∧ (∃ x_6 : Option Addr, ∃ x_n_3 x_c_3 : Nat, hcell h3 t_b t_o = some (.slice x_6 x_n_3 x_c_3) ∧ (∃ x_6_b x_6_o : Nat, x_6 = some ⟨x_6_b, x_6_o, none⟩ ∧ (0 : Int) ≤ atv ∧ atv < (x_n_3 : Int) ∧ (∃ x_Hash_2 x_At_2 x_Version_2 x_Hits_2 : Int, hcell h3 x_6_b (x_6_o + (Int.toNat atv) * 4) = some (.int .u64 x_Hash_2) ∧ hcell h3 x_6_b ((x_6_o + (Int.toNat atv) * 4) + 1) = some (.int .u64 x_At_2) ∧ hcell h3 x_6_b ((x_6_o + (Int.toNat atv) * 4) + 2) = some (.int .u64 x_Version_2) ∧ hcell h3 x_6_b ((x_6_o + (Int.toNat atv) * 4) + 3) = some (.int .u8 x_Hits_2) ∧ (∃ x_5_b x_5_o : Nat, x_5 = some ⟨x_5_b, x_5_o, none⟩ ∧ (0 : Int) ≤ atv ∧ atv < (x_n_2 : Int) ∧ (HWs h3 x_5_b (x_5_o + (Int.toNat atv) * 4) 4 ∧ ∀ h7, h7 = hsets h3 x_5_b (x_5_o + (Int.toNat atv) * 4) [(.int .u64 x_Hash_1), (.int .u64 x_At_1), (.int .u64 x_Version_1), (.int .u8 x_Hits_1)] → (HWs h7 e 0 4 ∧ ∀ h8, h8 = hsets h7 e 0 [(.int .u64 x_Hash_2), (.int .u64 x_At_2), (.int .u64 x_Version_2), (.int .u8 x_Hits_2)] → (A24 r_2 h8)))))))))) ∧ (j = false → (A24 far h3)))) ∧ (∀ (far_1 : Int) (h6 : Heap), A24 far_1 h6 → (∃ r_3 : Int, HC Try.prog 62 #[(ptr t_b t_o), (.int .i64 atv)] h6 (fun vv h' => vv = (.int .i64 r_3) ∧ h' = h6) ∧ (I4 r_3 (IntKind.i64.wrap (far_1 + 1)) h6 ∧ mu5 r_3 (IntKind.i64.wrap (far_1 + 1)) h6 < mu5 atv far h2))))))))))))))))) :
    HC Try.prog 69 #[(ptr t_b t_o), (.agg #[(.int .u64 e_Hash), (.int .u64 e_At), (.int .u64 e_Version), (.int .u8 e_Hits)])] h R := by
  refine hc_of (args := [(ptr t_b t_o), (.agg #[(.int .u64 e_Hash), (.int .u64 e_At), (.int .u64 e_Version), (.int .u8 e_Hits)])]) Try.func69 rfl Try.ntmps69 (Nat.le_of_ble_eq_true rfl) ?_
  refine hx_seq ?_
  refine hx_region ?_
  refine hl_step rfl rfl (hn_box (v := (.agg #[(.int .u64 e_Hash), (.int .u64 e_At), (.int .u64 e_Version), (.int .u8 e_Hits)])) rfl ?_)
  intro e h1 eb1 eh2
  replace H := H e h1 eb1 eh2
  refine hl_nil ?_
  refine seqQ_n ?_
  refine hx_seq ?_
  refine hx_region ?_
  refine hl_val rfl rfl (v := (ptr t_b t_o)) (hv_move rfl) ?_
  refine hl_val rfl rfl (v := (ptr e 0)) (hv_field Ty.fld31_0 (b := e) (o := 0) rfl) ?_
  obtain ⟨x, hc63, H⟩ := H
  refine hl_val rfl rfl (v := (.int .u64 x)) (hv_load Ty.agg29 rfl hc63) ?_
  obtain ⟨r, hr3, H⟩ := H
  refine hl_val rfl rfl (v := (.int .i64 r)) (hv_call Ty.cb66 (vs := [(ptr t_b t_o), (.int .u64 x)]) rfl hr3) ?_
  refine hl_val rfl rfl (v := (.int .i64 r)) (hv_assign rfl) ?_
  refine hl_val rfl rfl (v := (.int .i64 0)) (hv_assign rfl) ?_
  refine hl_nil ?_
  refine seqQ_n ?_
  refine hx_block ?_
  obtain ⟨I4, mu5, Ha6, Hr7⟩ := H
  refine hx_loopT (σ := Int × Int) (fun s => [(0, (ptr t_b t_o)), (3, (ptr e 0)), (4, (.int .i64 s.1)), (5, (.int .i64 s.2))]) (fun s h' => I4 s.1 s.2 h') (fun s h' => mu5 s.1 s.2 h') (r, 0) Ha6 (has_cons rfl (has_cons rfl (has_cons rfl (has_cons rfl has_nil)))) ?_
  rintro ⟨atv, far⟩ ρ h2 Hi8
  have H := Hr7 atv far h2 Hi8
  refine hx_block ?_
  refine hx_seq ?_
  refine hx_seq ?_
  refine hx_region ?_
  refine hl_val rfl rfl (v := (ptr t_b t_o)) (hv_move rfl) ?_
  refine hl_val rfl rfl (v := (ptr t_b t_o)) (hv_nil rfl) ?_
  refine hl_val rfl rfl (v := (ptr t_b t_o)) (hv_field Ty.fld87_0 (b := t_b) (o := t_o) rfl) ?_
  obtain ⟨x_1, x_n, x_c, hc62, H⟩ := H
  refine hl_val rfl rfl (v := (.slice x_1 x_n x_c)) (hv_load Ty.agg47 rfl hc62) ?_
  refine hl_val rfl rfl (v := (.int .i64 atv)) (hv_move rfl) ?_
  obtain ⟨x_1_b, x_1_o, hqe, hi9, hi10, Hq⟩ := H
  subst hqe
  have H := Hq; clear Hq
  refine hl_val rfl rfl (v := (ptr x_1_b (x_1_o + (Int.toNat atv) * 4))) (hv_index Ty.el47 rfl rfl hi9 hi10) ?_
  obtain ⟨x_Hash, x_At, x_Version, x_Hits, hc58, hc59, hc60, hc61, H⟩ := H
  refine hl_val rfl rfl (v := (.agg #[(.int .u64 x_Hash), (.int .u64 x_At), (.int .u64 x_Version), (.int .u8 x_Hits)])) (hv_loads (vs := [(.int .u64 x_Hash), (.int .u64 x_At), (.int .u64 x_Version), (.int .u8 x_Hits)]) Ty.agg31 Ty.sz31 rfl (hcells_cons hc58 (hcells_cons hc59 (hcells_cons hc60 (hcells_cons hc61 hcells_nil))))) ?_
  refine hl_step rfl rfl (hs_call Ty.cb58 (vs := [(.agg #[(.int .u64 x_Hash), (.int .u64 x_At), (.int .u64 x_Version), (.int .u8 x_Hits)])]) rfl (HC.mono H ?_))
  rintro _ h3 ⟨r_1, rfl, H⟩
  refine hl_nil ?_
  refine seqQ_n ?_
  refine hx_cond (b := r_1) rfl (fun hb57 => ?_) (fun hb57 => ?_)
  · replace H := H.1 hb57
    refine hx_seq ?_
    refine hx_draw Ty.mixed [.pure, .pure, .pure, .read, .pure, .read, .pure, .wild] [0, 1, 2, 3, 4, 5, 6, 7] (by kernel_rfl) ?_
    refine hp_pure (i := 0) rfl (wanted_0 rfl) rfl (ptr t_b t_o) (fun _ => hv_move rfl) ?_
    refine hp_pure (i := 1) rfl (wanted_0 rfl) rfl (ptr t_b t_o) (fun _ => hv_nil rfl) ?_
    refine hp_pure (i := 2) rfl (wanted_0 rfl) rfl (ptr t_b t_o) (fun _ => hv_field Ty.fld87_0 (b := t_b) (o := t_o) rfl) ?_
    obtain ⟨x_2, x_n_1, x_c_1, hc22, H⟩ := H
    refine hp_read (i := 3) rfl (wanted_0 rfl) rfl (.slice x_2 x_n_1 x_c_1) (fun _ he => hv_load Ty.agg47 rfl (he.cell hc22)) ?_
    refine hp_pure (i := 4) rfl (wanted_0 rfl) rfl (.int .i64 atv) (fun _ => hv_move rfl) ?_
    obtain ⟨x_Hash_1, x_At_1, x_Version_1, x_Hits_1, hc18, hc19, hc20, hc21, H⟩ := H
    refine hp_read (i := 5) rfl (wanted_0 rfl) rfl (.agg #[(.int .u64 x_Hash_1), (.int .u64 x_At_1), (.int .u64 x_Version_1), (.int .u8 x_Hits_1)]) (fun _ he => hv_loads (vs := [(.int .u64 x_Hash_1), (.int .u64 x_At_1), (.int .u64 x_Version_1), (.int .u8 x_Hits_1)]) Ty.agg31 Ty.sz31 rfl (hcells_cons (he.cell hc18) (hcells_cons (he.cell hc19) (hcells_cons (he.cell hc20) (hcells_cons (he.cell hc21) hcells_nil))))) ?_
    obtain ⟨x_2_b, x_2_o, hqe, hi11, hi12, Hq⟩ := H
    subst hqe
    have H := Hq; clear Hq
    refine hp_pure (i := 6) rfl (wanted_0 rfl) rfl (ptr x_2_b (x_2_o + (Int.toNat atv) * 4)) (fun _ => hv_index Ty.el47 rfl rfl hi11 hi12) ?_
    obtain ⟨hw13, H⟩ := H
    refine hp_wild (i := 7) rfl (wanted_0 rfl) rfl (hn_stores (vs := [(.int .u64 x_Hash_1), (.int .u64 x_At_1), (.int .u64 x_Version_1), (.int .u8 x_Hits_1)]) rfl rfl Ty.sz31 rfl hw13 ?_)
    intro h4 eh14
    replace H := H h4 eh14
    refine hp_nil ?_
    refine seqQ_n ?_
    refine hx_seq ?_
    refine hx_region ?_
    refine hl_val rfl rfl (v := (ptr t_b t_o)) (hv_move rfl) ?_
    refine hl_val rfl rfl (v := (ptr t_b t_o)) (hv_nil rfl) ?_
    refine hl_val rfl rfl (v := (ptr t_b (t_o + 3))) (hv_field Ty.fld87_3 (b := t_b) (o := t_o) rfl) ?_
    obtain ⟨x_3, hc17, H⟩ := H
    refine hl_val rfl rfl (v := (.int .i64 x_3)) (hv_load Ty.agg3 rfl hc17) ?_
    refine hl_val rfl rfl (v := (.int .i64 (IntKind.i64.wrap (x_3 + 1)))) (hv_arith rfl rfl rfl) ?_
    refine hl_val rfl rfl (v := (ptr t_b t_o)) (hv_nil rfl) ?_
    refine hl_val rfl rfl (v := (ptr t_b (t_o + 3))) (hv_field Ty.fld87_3 (b := t_b) (o := t_o) rfl) ?_
    obtain ⟨hw15, H⟩ := H
    refine hl_step rfl rfl (hn_store (v := (.int .i64 (IntKind.i64.wrap (x_3 + 1)))) rfl rfl Ty.sz3 rfl hw15 ?_)
    intro h5 eh16
    replace H := H h5 eh16
    refine hl_nil ?_
    refine seqQ_n ?_
    refine hx_ret ?_
    refine seqQ_ret ?_
    refine blockQ_ret ?_
    refine seqQ_ret ?_
    refine blockQ_ret ?_
    exact endQ_ret _ (res_none Try.results69 ) H
  · replace H := H.2 hb57
    refine hx_skip ?_
    refine seqQ_n ?_
    refine hx_seq ?_
    refine hx_region ?_
    refine hl_val rfl rfl (v := (ptr t_b t_o)) (hv_move rfl) ?_
    refine hl_val rfl rfl (v := (.int .i64 atv)) (hv_move rfl) ?_
    obtain ⟨r_2, hr23, H⟩ := H
    refine hl_val rfl rfl (v := (.int .i64 r_2)) (hv_call Ty.cb63 (vs := [(ptr t_b t_o), (.int .i64 atv)]) rfl hr23) ?_
    refine hl_val rfl rfl (v := (.int .i64 r_2)) (hv_assign rfl) ?_
    refine hl_nil ?_
    refine seqQ_n ?_
    obtain ⟨A24, Hx54, Hy55⟩ := H
    refine hx_cut (fun ρ h' => ∃ far_1 : Int, A24 far_1 h' ∧ Has ρ [(0, (ptr t_b t_o)), (3, (ptr e 0)), (4, (.int .i64 atv)), (5, (.int .i64 far_1))]) ?_ ?_
    · have H := Hx54; clear Hx54 Hy55
      obtain ⟨j, Hx51, Hy52⟩ := H
      refine hx_cut (fun ρ h' => h3 = h' ∧ Has ρ [(0, (ptr t_b t_o)), (3, (ptr e 0)), (4, (.int .i64 atv)), (5, (.int .i64 far)), (6, (.int .i64 r_2)), (56, (.bool j))]) ?_ ?_
      · have H := Hx51; clear Hx51 Hy52
        refine hx_draw Ty.mixed [.pure, .pure, .pure, .pure, .pure, .pure, .pure, .pure, .pure, .pure, .pure, .read, .pure, .pure, .pure, .read, .pure, .read, .pure, .pure, .pure] [0, 1, 2, 3, 4, 5, 6, 7, 8, 9, 10, 11, 12, 13, 14, 15, 16, 17, 18, 19, 20] (by kernel_rfl) ?_
        refine hp_pure (i := 0) rfl (wanted_0 rfl) rfl (.int .i64 r_2) (fun _ => hv_move rfl) ?_
        refine hp_pure (i := 1) rfl (wanted_0 rfl) rfl (.int .i64 far) (fun _ => hv_move rfl) ?_
        refine hp_pure (i := 2) rfl (wanted_0 rfl) rfl (.bool (decide (r_2 < far))) (fun _ => hv_arith rfl rfl rfl) ?_
        refine hp_pure (i := 3) rfl (wanted_0 rfl) rfl (.bool (decide (r_2 < far))) (fun _ => hv_move rfl) ?_
        rcases bool_or (decide (r_2 < far)) with hg25 | hg25
        · replace H := H.1 hg25
          refine hp_no (i := 4) rfl (wanted_n rfl rfl rfl hg25) ?_
          refine hp_no (i := 5) rfl (wanted_n rfl rfl rfl hg25) ?_
          refine hp_no (i := 6) rfl (wanted_n rfl rfl rfl hg25) ?_
          refine hp_no (i := 7) rfl (wanted_n rfl rfl rfl hg25) ?_
          refine hp_no (i := 8) rfl (wanted_u rfl rfl rfl) ?_
          refine hp_no (i := 9) rfl (wanted_u rfl rfl rfl) ?_
          refine hp_no (i := 10) rfl (wanted_u rfl rfl rfl) ?_
          refine hp_no (i := 11) rfl (wanted_u rfl rfl rfl) ?_
          refine hp_no (i := 12) rfl (wanted_u rfl rfl rfl) ?_
          refine hp_no (i := 13) rfl (wanted_u rfl rfl rfl) ?_
          refine hp_no (i := 14) rfl (wanted_u rfl rfl rfl) ?_
          refine hp_no (i := 15) rfl (wanted_u rfl rfl rfl) ?_
          refine hp_no (i := 16) rfl (wanted_u rfl rfl rfl) ?_
          refine hp_no (i := 17) rfl (wanted_u rfl rfl rfl) ?_
          refine hp_no (i := 18) rfl (wanted_u rfl rfl rfl) ?_
          refine hp_no (i := 19) rfl (wanted_n rfl rfl rfl hg25) ?_
          refine hp_pure (i := 20) rfl (wanted_0 rfl) rfl (.bool true) (fun _ => hv_pick_t rfl hg25 rfl) ?_
          refine hp_nil ?_
          refine seqQ_n ?_
          obtain rfl := H
          exact ⟨rfl, (has_cons rfl (has_cons rfl (has_cons rfl (has_cons rfl (has_cons rfl (has_cons rfl has_nil))))))⟩
        · replace H := H.2 hg25
          refine hp_pure (i := 4) rfl (wanted_y rfl rfl rfl hg25) rfl (.int .i64 r_2) (fun _ => hv_move rfl) ?_
          refine hp_pure (i := 5) rfl (wanted_y rfl rfl rfl hg25) rfl (.int .i64 far) (fun _ => hv_move rfl) ?_
          refine hp_pure (i := 6) rfl (wanted_y rfl rfl rfl hg25) rfl (.bool (r_2 == far)) (fun _ => hv_arith rfl rfl rfl) ?_
          refine hp_pure (i := 7) rfl (wanted_y rfl rfl rfl hg25) rfl (.bool (r_2 == far)) (fun _ => hv_move rfl) ?_
          rcases bool_or (r_2 == far) with hg26 | hg26
          · replace H := H.1 hg26
            refine hp_pure (i := 8) rfl (wanted_y rfl rfl rfl hg26) rfl (ptr t_b t_o) (fun _ => hv_move rfl) ?_
            refine hp_pure (i := 9) rfl (wanted_y rfl rfl rfl hg26) rfl (ptr t_b t_o) (fun _ => hv_nil rfl) ?_
            refine hp_pure (i := 10) rfl (wanted_y rfl rfl rfl hg26) rfl (ptr t_b t_o) (fun _ => hv_field Ty.fld87_0 (b := t_b) (o := t_o) rfl) ?_
            obtain ⟨x_2, x_n_1, x_c_1, hc31, H⟩ := H
            refine hp_read (i := 11) rfl (wanted_y rfl rfl rfl hg26) rfl (.slice x_2 x_n_1 x_c_1) (fun _ he => hv_load Ty.agg47 rfl (he.cell hc31)) ?_
            refine hp_pure (i := 12) rfl (wanted_y rfl rfl rfl hg26) rfl (.int .i64 atv) (fun _ => hv_move rfl) ?_
            obtain ⟨x_2_b, x_2_o, hqe, hi27, hi28, Hq⟩ := H
            subst hqe
            have H := Hq; clear Hq
            refine hp_pure (i := 13) rfl (wanted_y rfl rfl rfl hg26) rfl (ptr x_2_b (x_2_o + (Int.toNat atv) * 4)) (fun _ => hv_index Ty.el47 rfl rfl hi27 hi28) ?_
            refine hp_pure (i := 14) rfl (wanted_y rfl rfl rfl hg26) rfl (ptr x_2_b (x_2_o + (Int.toNat atv) * 4)) (fun _ => hv_field Ty.fld31_0 (b := x_2_b) (o := x_2_o + (Int.toNat atv) * 4) rfl) ?_
            obtain ⟨x_3, hc30, H⟩ := H
            refine hp_read (i := 15) rfl (wanted_y rfl rfl rfl hg26) rfl (.int .u64 x_3) (fun _ he => hv_load Ty.agg29 rfl (he.cell hc30)) ?_
            refine hp_pure (i := 16) rfl (wanted_y rfl rfl rfl hg26) rfl (ptr e 0) (fun _ => hv_field Ty.fld31_0 (b := e) (o := 0) rfl) ?_
            obtain ⟨x_4, hc29, H⟩ := H
            refine hp_read (i := 17) rfl (wanted_y rfl rfl rfl hg26) rfl (.int .u64 x_4) (fun _ he => hv_load Ty.agg29 rfl (he.cell hc29)) ?_
            refine hp_pure (i := 18) rfl (wanted_y rfl rfl rfl hg26) rfl (.bool (decide (x_3 > x_4))) (fun _ => hv_arith rfl rfl rfl) ?_
            refine hp_pure (i := 19) rfl (wanted_y rfl rfl rfl hg25) rfl (.bool (decide (x_3 > x_4))) (fun _ => hv_pick_t rfl hg26 rfl) ?_
            refine hp_pure (i := 20) rfl (wanted_0 rfl) rfl (.bool (decide (x_3 > x_4))) (fun _ => hv_pick_f rfl hg25 rfl) ?_
            refine hp_nil ?_
            refine seqQ_n ?_
            obtain rfl := H
            exact ⟨rfl, (has_cons rfl (has_cons rfl (has_cons rfl (has_cons rfl (has_cons rfl (has_cons rfl has_nil))))))⟩
          · replace H := H.2 hg26
            refine hp_no (i := 8) rfl (wanted_n rfl rfl rfl hg26) ?_
            refine hp_no (i := 9) rfl (wanted_n rfl rfl rfl hg26) ?_
            refine hp_no (i := 10) rfl (wanted_n rfl rfl rfl hg26) ?_
            refine hp_no (i := 11) rfl (wanted_n rfl rfl rfl hg26) ?_
            refine hp_no (i := 12) rfl (wanted_n rfl rfl rfl hg26) ?_
            refine hp_no (i := 13) rfl (wanted_n rfl rfl rfl hg26) ?_
            refine hp_no (i := 14) rfl (wanted_n rfl rfl rfl hg26) ?_
            refine hp_no (i := 15) rfl (wanted_n rfl rfl rfl hg26) ?_
            refine hp_no (i := 16) rfl (wanted_n rfl rfl rfl hg26) ?_
            refine hp_no (i := 17) rfl (wanted_n rfl rfl rfl hg26) ?_
            refine hp_no (i := 18) rfl (wanted_n rfl rfl rfl hg26) ?_
            refine hp_pure (i := 19) rfl (wanted_y rfl rfl rfl hg25) rfl (.bool false) (fun _ => hv_pick_f rfl hg26 rfl) ?_
            refine hp_pure (i := 20) rfl (wanted_0 rfl) rfl (.bool false) (fun _ => hv_pick_f rfl hg25 rfl) ?_
            refine hp_nil ?_
            refine seqQ_n ?_
            obtain rfl := H
            exact ⟨rfl, (has_cons rfl (has_cons rfl (has_cons rfl (has_cons rfl (has_cons rfl (has_cons rfl has_nil))))))⟩
      · have H := Hy52; clear Hx51 Hy52
        rintro ρ _ ⟨rfl, hH⟩
        refine hx_has _ hH ?_
        refine hx_cond (b := j) rfl (fun hb50 => ?_) (fun hb50 => ?_)
        · replace H := H.1 hb50
          refine hx_seq ?_
          refine hx_draw Ty.mixed [.pure, .pure, .pure, .read, .pure, .read, .pure, .pure, .pure, .read, .pure, .pure, .read, .pure, .wild, .wild] [0, 1, 2, 3, 4, 5, 6, 7, 8, 9, 10, 11, 12, 13, 14, 15] (by kernel_rfl) ?_
          refine hp_pure (i := 0) rfl (wanted_0 rfl) rfl (ptr t_b t_o) (fun _ => hv_move rfl) ?_
          refine hp_pure (i := 1) rfl (wanted_0 rfl) rfl (ptr t_b t_o) (fun _ => hv_nil rfl) ?_
          refine hp_pure (i := 2) rfl (wanted_0 rfl) rfl (ptr t_b t_o) (fun _ => hv_field Ty.fld87_0 (b := t_b) (o := t_o) rfl) ?_
          obtain ⟨x_5, x_n_2, x_c_2, hc49, H⟩ := H
          refine hp_read (i := 3) rfl (wanted_0 rfl) rfl (.slice x_5 x_n_2 x_c_2) (fun _ he => hv_load Ty.agg47 rfl (he.cell hc49)) ?_
          refine hp_pure (i := 4) rfl (wanted_0 rfl) rfl (.int .i64 atv) (fun _ => hv_move rfl) ?_
          obtain ⟨x_Hash_1, x_At_1, x_Version_1, x_Hits_1, hc45, hc46, hc47, hc48, H⟩ := H
          refine hp_read (i := 5) rfl (wanted_0 rfl) rfl (.agg #[(.int .u64 x_Hash_1), (.int .u64 x_At_1), (.int .u64 x_Version_1), (.int .u8 x_Hits_1)]) (fun _ he => hv_loads (vs := [(.int .u64 x_Hash_1), (.int .u64 x_At_1), (.int .u64 x_Version_1), (.int .u8 x_Hits_1)]) Ty.agg31 Ty.sz31 rfl (hcells_cons (he.cell hc45) (hcells_cons (he.cell hc46) (hcells_cons (he.cell hc47) (hcells_cons (he.cell hc48) hcells_nil))))) ?_
          refine hp_pure (i := 6) rfl (wanted_0 rfl) rfl (ptr t_b t_o) (fun _ => hv_move rfl) ?_
          refine hp_pure (i := 7) rfl (wanted_0 rfl) rfl (ptr t_b t_o) (fun _ => hv_nil rfl) ?_
          refine hp_pure (i := 8) rfl (wanted_0 rfl) rfl (ptr t_b t_o) (fun _ => hv_field Ty.fld87_0 (b := t_b) (o := t_o) rfl) ?_
          obtain ⟨x_6, x_n_3, x_c_3, hc44, H⟩ := H
          refine hp_read (i := 9) rfl (wanted_0 rfl) rfl (.slice x_6 x_n_3 x_c_3) (fun _ he => hv_load Ty.agg47 rfl (he.cell hc44)) ?_
          refine hp_pure (i := 10) rfl (wanted_0 rfl) rfl (.int .i64 atv) (fun _ => hv_move rfl) ?_
          obtain ⟨x_6_b, x_6_o, hqe, hi32, hi33, Hq⟩ := H
          subst hqe
          have H := Hq; clear Hq
          refine hp_pure (i := 11) rfl (wanted_0 rfl) rfl (ptr x_6_b (x_6_o + (Int.toNat atv) * 4)) (fun _ => hv_index Ty.el47 rfl rfl hi32 hi33) ?_
          obtain ⟨x_Hash_2, x_At_2, x_Version_2, x_Hits_2, hc40, hc41, hc42, hc43, H⟩ := H
          refine hp_read (i := 12) rfl (wanted_0 rfl) rfl (.agg #[(.int .u64 x_Hash_2), (.int .u64 x_At_2), (.int .u64 x_Version_2), (.int .u8 x_Hits_2)]) (fun _ he => hv_loads (vs := [(.int .u64 x_Hash_2), (.int .u64 x_At_2), (.int .u64 x_Version_2), (.int .u8 x_Hits_2)]) Ty.agg31 Ty.sz31 rfl (hcells_cons (he.cell hc40) (hcells_cons (he.cell hc41) (hcells_cons (he.cell hc42) (hcells_cons (he.cell hc43) hcells_nil))))) ?_
          obtain ⟨x_5_b, x_5_o, hqe, hi34, hi35, Hq⟩ := H
          subst hqe
          have H := Hq; clear Hq
          refine hp_pure (i := 13) rfl (wanted_0 rfl) rfl (ptr x_5_b (x_5_o + (Int.toNat atv) * 4)) (fun _ => hv_index Ty.el47 rfl rfl hi34 hi35) ?_
          obtain ⟨hw36, H⟩ := H
          refine hp_wild (i := 14) rfl (wanted_0 rfl) rfl (hn_stores (vs := [(.int .u64 x_Hash_1), (.int .u64 x_At_1), (.int .u64 x_Version_1), (.int .u8 x_Hits_1)]) rfl rfl Ty.sz31 rfl hw36 ?_)
          intro h7 eh37
          replace H := H h7 eh37
          obtain ⟨hw38, H⟩ := H
          refine hp_wild (i := 15) rfl (wanted_0 rfl) rfl (hn_stores (vs := [(.int .u64 x_Hash_2), (.int .u64 x_At_2), (.int .u64 x_Version_2), (.int .u8 x_Hits_2)]) rfl rfl Ty.sz31 rfl hw38 ?_)
          intro h8 eh39
          replace H := H h8 eh39
          refine hp_nil ?_
          refine seqQ_n ?_
          refine hx_region ?_
          refine hl_val rfl rfl (v := (.int .i64 r_2)) (hv_move rfl) ?_
          refine hl_val rfl rfl (v := (.int .i64 r_2)) (hv_assign rfl) ?_
          refine hl_nil ?_
          refine seqQ_n ?_
          exact ⟨_, H, (has_cons rfl (has_cons rfl (has_cons rfl (has_cons rfl has_nil))))⟩
        · replace H := H.2 hb50
          refine hx_skip ?_
          refine seqQ_n ?_
          exact ⟨_, H, (has_cons rfl (has_cons rfl (has_cons rfl (has_cons rfl has_nil))))⟩
    · rintro ρ h6 ⟨far_1, HA56, hH⟩
      have H := Hy55 far_1 h6 HA56; clear Hx54 Hy55
      refine hx_has _ hH ?_
      refine hx_region ?_
      refine hl_val rfl rfl (v := (ptr t_b t_o)) (hv_move rfl) ?_
      refine hl_val rfl rfl (v := (.int .i64 atv)) (hv_move rfl) ?_
      obtain ⟨r_3, hr53, H⟩ := H
      refine hl_val rfl rfl (v := (.int .i64 r_3)) (hv_call Ty.cb62 (vs := [(ptr t_b t_o), (.int .i64 atv)]) rfl hr53) ?_
      refine hl_val rfl rfl (v := (.int .i64 far_1)) (hv_move rfl) ?_
      refine hl_val rfl rfl (v := (.int .i64 (IntKind.i64.wrap (far_1 + 1)))) (hv_arith rfl rfl rfl) ?_
      refine hl_val rfl rfl (v := (.int .i64 r_3)) (hv_assign rfl) ?_
      refine hl_val rfl rfl (v := (.int .i64 (IntKind.i64.wrap (far_1 + 1)))) (hv_assign rfl) ?_
      refine hl_nil ?_
      refine blockQ_n ?_
      refine seqQ_n ?_
      exact ⟨(r_3, IntKind.i64.wrap (far_1 + 1)), H, (has_cons rfl (has_cons rfl (has_cons rfl (has_cons rfl has_nil))))⟩
theorem f68_sh (t_b : Nat) (t_o : Nat) (h : Heap) (R : Value → Heap → Prop)
    (H : (∃ x : Option Addr, ∃ x_n x_c : Nat, hcell h t_b t_o = some (.slice x x_n x_c) ∧ (∃ x_1 : Int, hcell h t_b (t_o + 1) = some (.int .i64 x_1) ∧ (HW h t_b (t_o + 1) ∧ ∀ h1, h1 = hset h t_b (t_o + 1) (.int .i64 (IntKind.i64.wrap (x_1 + 1))) → (∃ x_2 : Int, hcell h1 t_b (t_o + 1) = some (.int .i64 x_2) ∧ ((0 : Int) ≤ x_2 ∧ ((0 : Int) ≤ IntKind.i64.wrap (1 * 2 ^ min (Int.toNat x_2) 64) ∧ 32 * (IntKind.i64.wrap (1 * 2 ^ min (Int.toNat x_2) 64)) ≤ 140737488355328 ∧ IntKind.i64.wrap (1 * 2 ^ min (Int.toNat x_2) 64) ≤ 140737488355328 ∧ ∀ nb h2, nb = Array.size h1 → h2 = Array.push h1 (.cells (zcells [(.int .u64 0), (.int .u64 0), (.int .u64 0), (.int .u8 0)] (Int.toNat (IntKind.i64.wrap (1 * 2 ^ min (Int.toNat x_2) 64)))).toArray 31) → (HW h2 t_b t_o ∧ ∀ h3, h3 = hset h2 t_b t_o (.slice (some ⟨nb, 0, none⟩) (Int.toNat (IntKind.i64.wrap (1 * 2 ^ min (Int.toNat x_2) 64))) (Int.toNat (IntKind.i64.wrap (1 * 2 ^ min (Int.toNat x_2) 64)))) → (HW h3 t_b (t_o + 3) ∧ ∀ h4, h4 = hset h3 t_b (t_o + 3) (.int .i64 0) → (∃ (I12 : Int → Heap → Prop) (mu13 : Int → Heap → Nat), I12 0 h4 ∧ (∀ (v : Int) (h5 : Heap), I12 v h5 → (((decide (v < (x_n : Int))) = true → (∃ A17 : Heap → Prop, (∃ x_b x_o : Nat, x = some ⟨x_b, x_o, none⟩ ∧ (0 : Int) ≤ v ∧ v < (x_n : Int) ∧ (∃ x_Hash x_At x_Version x_Hits : Int, hcell h5 x_b (x_o + (Int.toNat v) * 4) = some (.int .u64 x_Hash) ∧ hcell h5 x_b ((x_o + (Int.toNat v) * 4) + 1) = some (.int .u64 x_At) ∧ hcell h5 x_b ((x_o + (Int.toNat v) * 4) + 2) = some (.int .u64 x_Version) ∧ hcell h5 x_b ((x_o + (Int.toNat v) * 4) + 3) = some (.int .u8 x_Hits) ∧ (∀ e h7, e = Array.size h5 → h7 = Array.push h5 (.cells #[(.int .u64 0), (.int .u64 0), (.int .u64 0), (.int .u8 0)] 31) → (HWs h7 e 0 4 ∧ ∀ h8, h8 = hsets h7 e 0 [(.int .u64 x_Hash), (.int .u64 x_At), (.int .u64 x_Version), (.int .u8 x_Hits)] → (∃ x_Hash_1 x_At_1 x_Version_1 x_Hits_1 : Int, hcell h8 e 0 = some (.int .u64 x_Hash_1) ∧ hcell h8 e 1 = some (.int .u64 x_At_1) ∧ hcell h8 e 2 = some (.int .u64 x_Version_1) ∧ hcell h8 e 3 = some (.int .u8 x_Hits_1) ∧ HC Try.prog 58 #[(.agg #[(.int .u64 x_Hash_1), (.int .u64 x_At_1), (.int .u64 x_Version_1), (.int .u8 x_Hits_1)])] h8 (fun vv h9 => ∃ r : Bool, vv = (.bool r) ∧ ((r = true → (A17 h9)) ∧ (r = false → (∃ x_Hash_2 x_At_2 x_Version_2 x_Hits_2 : Int, hcell h9 e 0 = some (.int .u64 x_Hash_2) ∧ hcell h9 e 1 = some (.int .u64 x_At_2) ∧ hcell h9 e 2 = some (.int .u64 x_Version_2) ∧ hcell h9 e 3 = some (.int .u8 x_Hits_2) ∧ HC Try.prog 69 #[(ptr t_b t_o), (.agg #[(.int .u64 x_Hash_2), (.int .u64 x_At_2), (.int .u64 x_Version_2), (.int .u8 x_Hits_2)])] h9 (fun vv h10 => vv = (.tuple #[]) ∧ (A17 h10))))))))))) ∧ (∀ (h6 : Heap), A17 h6 → (I12 (IntKind.i64.wrap (v + 1)) h6 ∧ mu13 (IntKind.i64.wrap (v + 1)) h6 < mu13 v h5)))) ∧ ((decide (v < (x_n : Int))) = false → R (.tuple #[]) h5))))))))))))) :
    HC Try.prog 68 #[(ptr t_b t_o)] h R := by
  refine hc_of (args := [(ptr t_b t_o)]) Try.func68 rfl Try.ntmps68 (Nat.le_of_ble_eq_true rfl) ?_
  refine hx_seq ?_
  refine hx_region ?_
  refine hl_val rfl rfl (v := (ptr t_b t_o)) (hv_move rfl) ?_
  refine hl_val rfl rfl (v := (ptr t_b t_o)) (hv_nil rfl) ?_
  refine hl_val rfl rfl (v := (ptr t_b t_o)) (hv_field Ty.fld87_0 (b := t_b) (o := t_o) rfl) ?_
  obtain ⟨x, x_n, x_c, hc44, H⟩ := H
  refine hl_val rfl rfl (v := (.slice x x_n x_c)) (hv_load Ty.agg47 rfl hc44) ?_
  refine hl_val rfl rfl (v := (.slice x x_n x_c)) (hv_assign rfl) ?_
  refine hl_nil ?_
  refine seqQ_n ?_
  refine hx_seq ?_
  refine hx_region ?_
  refine hl_val rfl rfl (v := (ptr t_b t_o)) (hv_move rfl) ?_
  refine hl_val rfl rfl (v := (ptr t_b t_o)) (hv_nil rfl) ?_
  refine hl_val rfl rfl (v := (ptr t_b (t_o + 1))) (hv_field Ty.fld87_1 (b := t_b) (o := t_o) rfl) ?_
  obtain ⟨x_1, hc43, H⟩ := H
  refine hl_val rfl rfl (v := (.int .i64 x_1)) (hv_load Ty.agg3 rfl hc43) ?_
  refine hl_val rfl rfl (v := (.int .i64 (IntKind.i64.wrap (x_1 + 1)))) (hv_arith rfl rfl rfl) ?_
  refine hl_val rfl rfl (v := (ptr t_b t_o)) (hv_nil rfl) ?_
  refine hl_val rfl rfl (v := (ptr t_b (t_o + 1))) (hv_field Ty.fld87_1 (b := t_b) (o := t_o) rfl) ?_
  obtain ⟨hw1, H⟩ := H
  refine hl_step rfl rfl (hn_store (v := (.int .i64 (IntKind.i64.wrap (x_1 + 1)))) rfl rfl Ty.sz3 rfl hw1 ?_)
  intro h1 eh2
  replace H := H h1 eh2
  refine hl_nil ?_
  refine seqQ_n ?_
  refine hx_seq ?_
  refine hx_region ?_
  refine hl_val rfl rfl (v := (ptr t_b t_o)) (hv_move rfl) ?_
  refine hl_val rfl rfl (v := (ptr t_b t_o)) (hv_move rfl) ?_
  refine hl_val rfl rfl (v := (ptr t_b t_o)) (hv_move rfl) ?_
  refine hl_val rfl rfl (v := (ptr t_b t_o)) (hv_nil rfl) ?_
  refine hl_val rfl rfl (v := (ptr t_b (t_o + 1))) (hv_field Ty.fld87_1 (b := t_b) (o := t_o) rfl) ?_
  obtain ⟨x_2, hc42, H⟩ := H
  refine hl_val rfl rfl (v := (.int .i64 x_2)) (hv_load Ty.agg3 rfl hc42) ?_
  obtain ⟨hz41, H⟩ := H
  refine hl_val rfl rfl (v := (.int .i64 (IntKind.i64.wrap (1 * 2 ^ min (Int.toNat x_2) 64)))) (hv_shift rfl rfl hz41 rfl) ?_
  obtain ⟨hm5, hm6, hm7, H⟩ := H
  refine hl_step rfl rfl (hn_make (z := (.agg #[(.int .u64 0), (.int .u64 0), (.int .u64 0), (.int .u8 0)])) (zs := [(.int .u64 0), (.int .u64 0), (.int .u64 0), (.int .u8 0)]) (n := IntKind.i64.wrap (1 * 2 ^ min (Int.toNat x_2) 64)) Ty.u47 Ty.sz31 Ty.by31 Ty.z31 rfl rfl hm5 hm6 hm7 rfl rfl ?_)
  intro nb h2 eb3 eh4
  replace H := H nb h2 eb3 eh4
  refine hl_val rfl rfl (v := (ptr t_b t_o)) (hv_nil rfl) ?_
  refine hl_val rfl rfl (v := (ptr t_b t_o)) (hv_field Ty.fld87_0 (b := t_b) (o := t_o) rfl) ?_
  obtain ⟨hw8, H⟩ := H
  refine hl_step rfl rfl (hn_store (v := (.slice (some ⟨nb, 0, none⟩) (Int.toNat (IntKind.i64.wrap (1 * 2 ^ min (Int.toNat x_2) 64))) (Int.toNat (IntKind.i64.wrap (1 * 2 ^ min (Int.toNat x_2) 64))))) rfl rfl Ty.sz47 rfl hw8 ?_)
  intro h3 eh9
  replace H := H h3 eh9
  refine hl_val rfl rfl (v := (ptr t_b t_o)) (hv_nil rfl) ?_
  refine hl_val rfl rfl (v := (ptr t_b (t_o + 3))) (hv_field Ty.fld87_3 (b := t_b) (o := t_o) rfl) ?_
  obtain ⟨hw10, H⟩ := H
  refine hl_step rfl rfl (hn_store (v := (.int .i64 0)) rfl rfl Ty.sz3 rfl hw10 ?_)
  intro h4 eh11
  replace H := H h4 eh11
  refine hl_nil ?_
  refine seqQ_n ?_
  refine hx_seq ?_
  refine hx_region ?_
  refine hl_val rfl rfl (v := (.slice x x_n x_c)) (hv_move rfl) ?_
  refine hl_val rfl rfl (v := (.int .i64 (x_n : Int))) (hv_len (n := x_n) Ty.u47 rfl) ?_
  refine hl_val rfl rfl (v := (.int .i64 0)) (hv_move rfl) ?_
  refine hl_nil ?_
  refine seqQ_n ?_
  refine hx_block ?_
  obtain ⟨I12, mu13, Ha14, Hr15⟩ := H
  refine hx_loopT (σ := Int) (fun s => [(0, (ptr t_b t_o)), (28, (.slice x x_n x_c)), (29, (.int .i64 (x_n : Int))), (30, (.int .i64 s))]) (fun s h' => I12 s h') (fun s h' => mu13 s h') 0 Ha14 (has_cons rfl (has_cons rfl (has_cons rfl (has_cons rfl has_nil)))) ?_
  rintro v ρ h5 Hi16
  have H := Hr15 v h5 Hi16
  refine hx_seq ?_
  refine hx_region ?_
  refine hl_val rfl rfl (v := (.bool (decide (v < (x_n : Int))))) (hv_arith rfl rfl rfl) ?_
  refine hl_nil ?_
  refine seqQ_n ?_
  refine hx_seq ?_
  refine hx_cond (b := decide (v < (x_n : Int))) rfl (fun hb40 => ?_) (fun hb40 => ?_)
  · replace H := H.1 hb40
    refine hx_skip ?_
    refine seqQ_n ?_
    obtain ⟨A17, Hx37, Hy38⟩ := H
    refine hx_cut (fun ρ h' => A17 h' ∧ Has ρ [(0, (ptr t_b t_o)), (28, (.slice x x_n x_c)), (29, (.int .i64 (x_n : Int))), (30, (.int .i64 v))]) ?_ ?_
    · have H := Hx37; clear Hx37 Hy38
      refine hx_block ?_
      refine hx_seq ?_
      refine hx_region ?_
      obtain ⟨x_b, x_o, hqe, hi18, hi19, Hq⟩ := H
      subst hqe
      have H := Hq; clear Hq
      refine hl_val rfl rfl (v := (ptr x_b (x_o + (Int.toNat v) * 4))) (hv_index Ty.el47 rfl rfl hi18 hi19) ?_
      obtain ⟨x_Hash, x_At, x_Version, x_Hits, hc33, hc34, hc35, hc36, H⟩ := H
      refine hl_val rfl rfl (v := (.agg #[(.int .u64 x_Hash), (.int .u64 x_At), (.int .u64 x_Version), (.int .u8 x_Hits)])) (hv_loads (vs := [(.int .u64 x_Hash), (.int .u64 x_At), (.int .u64 x_Version), (.int .u8 x_Hits)]) Ty.agg31 Ty.sz31 rfl (hcells_cons hc33 (hcells_cons hc34 (hcells_cons hc35 (hcells_cons hc36 hcells_nil))))) ?_
      refine hl_step rfl rfl (hn_alloc Ty.z31 ?_)
      intro e h7 eb20 eh21
      replace H := H e h7 eb20 eh21
      obtain ⟨hw22, H⟩ := H
      refine hl_step rfl rfl (hn_stores (vs := [(.int .u64 x_Hash), (.int .u64 x_At), (.int .u64 x_Version), (.int .u8 x_Hits)]) rfl rfl Ty.sz31 rfl hw22 ?_)
      intro h8 eh23
      replace H := H h8 eh23
      refine hl_nil ?_
      refine seqQ_n ?_
      refine hx_seq ?_
      refine hx_seq ?_
      refine hx_region ?_
      obtain ⟨x_Hash_1, x_At_1, x_Version_1, x_Hits_1, hc29, hc30, hc31, hc32, H⟩ := H
      refine hl_val rfl rfl (v := (.agg #[(.int .u64 x_Hash_1), (.int .u64 x_At_1), (.int .u64 x_Version_1), (.int .u8 x_Hits_1)])) (hv_loads (vs := [(.int .u64 x_Hash_1), (.int .u64 x_At_1), (.int .u64 x_Version_1), (.int .u8 x_Hits_1)]) Ty.agg31 Ty.sz31 rfl (hcells_cons hc29 (hcells_cons hc30 (hcells_cons hc31 (hcells_cons hc32 hcells_nil))))) ?_
      refine hl_step rfl rfl (hs_call Ty.cb58 (vs := [(.agg #[(.int .u64 x_Hash_1), (.int .u64 x_At_1), (.int .u64 x_Version_1), (.int .u8 x_Hits_1)])]) rfl (HC.mono H ?_))
      rintro _ h9 ⟨r, rfl, H⟩
      refine hl_nil ?_
      refine seqQ_n ?_
      refine hx_cond (b := r) rfl (fun hb28 => ?_) (fun hb28 => ?_)
      · replace H := H.1 hb28
        refine hx_exit ?_
        refine seqQ_exit ?_
        refine blockQ_here ?_
        refine seqQ_n ?_
        exact ⟨H, (has_cons rfl (has_cons rfl (has_cons rfl (has_cons rfl has_nil))))⟩
      · replace H := H.2 hb28
        refine hx_skip ?_
        refine seqQ_n ?_
        refine hx_region ?_
        refine hl_val rfl rfl (v := (ptr t_b t_o)) (hv_move rfl) ?_
        obtain ⟨x_Hash_2, x_At_2, x_Version_2, x_Hits_2, hc24, hc25, hc26, hc27, H⟩ := H
        refine hl_val rfl rfl (v := (.agg #[(.int .u64 x_Hash_2), (.int .u64 x_At_2), (.int .u64 x_Version_2), (.int .u8 x_Hits_2)])) (hv_loads (vs := [(.int .u64 x_Hash_2), (.int .u64 x_At_2), (.int .u64 x_Version_2), (.int .u8 x_Hits_2)]) Ty.agg31 Ty.sz31 rfl (hcells_cons hc24 (hcells_cons hc25 (hcells_cons hc26 (hcells_cons hc27 hcells_nil))))) ?_
        refine hl_step rfl rfl (hs_call Ty.cb69 (vs := [(ptr t_b t_o), (.agg #[(.int .u64 x_Hash_2), (.int .u64 x_At_2), (.int .u64 x_Version_2), (.int .u8 x_Hits_2)])]) rfl (HC.mono H ?_))
        rintro _ h10 ⟨rfl, H⟩
        refine hl_nil ?_
        refine blockQ_n ?_
        refine seqQ_n ?_
        exact ⟨H, (has_cons rfl (has_cons rfl (has_cons rfl (has_cons rfl has_nil))))⟩
    · rintro ρ h6 ⟨HA39, hH⟩
      have H := Hy38 h6 HA39; clear Hx37 Hy38
      refine hx_has _ hH ?_
      refine hx_region ?_
      refine hl_val rfl rfl (v := (.int .i64 (IntKind.i64.wrap (v + 1)))) (hv_arith rfl rfl rfl) ?_
      refine hl_val rfl rfl (v := (.int .i64 (IntKind.i64.wrap (v + 1)))) (hv_move rfl) ?_
      refine hl_nil ?_
      refine seqQ_n ?_
      exact ⟨IntKind.i64.wrap (v + 1), H, (has_cons rfl (has_cons rfl (has_cons rfl (has_cons rfl has_nil))))⟩
  · replace H := H.2 hb40
    refine hx_exit ?_
    refine seqQ_exit ?_
    refine seqQ_exit ?_
    refine blockQ_here ?_
    exact endQ_n _ (res_none Try.results68 ) H
theorem f65_sh (sv : Option Addr) (s_n : Nat) (s_c : Nat) (h : Heap) (R : Value → Heap → Prop)
    (H : ((sv.isNone = true → R (.slice none 0 0) h) ∧ (sv.isNone = false → (∀ nb h1, nb = Array.size h → h1 = Array.push h (.cells #[] 31) → HAppend Try.prog 47 47 (.slice (some ⟨nb, 0, none⟩) 0 0) (.slice sv s_n s_c) h1 (fun vv h2 => ∃ ap : Option Addr, ∃ ap_n ap_c : Nat, vv = (.slice ap ap_n ap_c) ∧ R (.slice ap ap_n ap_c) h2))))) :
    HC Try.prog 65 #[(.slice sv s_n s_c)] h R := by
  refine hc_of (args := [(.slice sv s_n s_c)]) Try.func65 rfl Try.ntmps65 (Nat.le_of_ble_eq_true rfl) ?_
  refine hx_seq ?_
  refine hx_region ?_
  refine hl_val rfl rfl (v := (.slice none 0 0)) (hv_assign rfl) ?_
  refine hl_nil ?_
  refine seqQ_n ?_
  refine hx_seq ?_
  refine hx_seq ?_
  refine hx_region ?_
  refine hl_val rfl rfl (v := (.slice sv s_n s_c)) (hv_move rfl) ?_
  refine hl_val rfl rfl (v := (.bool sv.isNone)) (hv_sliceNil Ty.u47 rfl rfl) ?_
  refine hl_nil ?_
  refine seqQ_n ?_
  refine hx_cond (b := sv.isNone) rfl (fun hb3 => ?_) (fun hb3 => ?_)
  · replace H := H.1 hb3
    refine hx_seq ?_
    refine hx_region ?_
    refine hl_val rfl rfl (v := (.slice none 0 0)) (hv_assign rfl) ?_
    refine hl_nil ?_
    refine seqQ_n ?_
    refine hx_ret ?_
    refine seqQ_ret ?_
    exact endQ_ret _ (res_one Try.results65 (rv_tmp rfl)) H
  · replace H := H.2 hb3
    refine hx_skip ?_
    refine seqQ_n ?_
    refine hx_seq ?_
    refine hx_region ?_
    refine hl_step rfl rfl (hn_buildSlice (n := 0) (vs := []) (cs := #[]) Ty.u47 Ty.sz31 Ty.z31 rfl rfl (by kernel_rfl) ?_)
    intro nb h1 eb1 eh2
    replace H := H nb h1 eb1 eh2
    refine hl_val rfl rfl (v := (.slice sv s_n s_c)) (hv_move rfl) ?_
    refine hl_step rfl rfl (hs_append rfl rfl (HAppend.mono H ?_))
    rintro _ h2 ⟨ap, ap_n, ap_c, rfl, H⟩
    refine hl_val rfl rfl (v := (.slice ap ap_n ap_c)) (hv_assign rfl) ?_
    refine hl_nil ?_
    refine seqQ_n ?_
    refine hx_ret ?_
    exact endQ_ret _ (res_one Try.results65 (rv_tmp rfl)) H
theorem f57_sh (t_b : Nat) (t_o : Nat) (h : Heap) (R : Value → Heap → Prop)
    (H : (∃ r : Bool, HC Try.prog 64 #[(ptr t_b t_o)] h (fun vv h' => vv = (.bool r) ∧ h' = h) ∧ (((!r) = true → R (.slice none 0 0) h) ∧ ((!r) = false → (∃ x : Option Addr, ∃ x_n x_c : Nat, hcell h t_b t_o = some (.slice x x_n x_c) ∧ HC Try.prog 65 #[(.slice x x_n x_c)] h (fun vv h1 => ∃ r_1 : Option Addr, ∃ r_n r_c : Nat, vv = (.slice r_1 r_n r_c) ∧ R (.slice r_1 r_n r_c) h1)))))) :
    HC Try.prog 57 #[(ptr t_b t_o)] h R := by
  refine hc_of (args := [(ptr t_b t_o)]) Try.func57 rfl Try.ntmps57 (Nat.le_of_ble_eq_true rfl) ?_
  refine hx_seq ?_
  refine hx_region ?_
  refine hl_val rfl rfl (v := (.slice none 0 0)) (hv_assign rfl) ?_
  refine hl_nil ?_
  refine seqQ_n ?_
  refine hx_seq ?_
  refine hx_seq ?_
  refine hx_region ?_
  refine hl_val rfl rfl (v := (ptr t_b t_o)) (hv_move rfl) ?_
  obtain ⟨r, hr1, H⟩ := H
  refine hl_val rfl rfl (v := (.bool r)) (hv_call Ty.cb64 (vs := [(ptr t_b t_o)]) rfl hr1) ?_
  refine hl_val rfl rfl (v := (.bool (!r))) (hv_not (b := r) rfl) ?_
  refine hl_nil ?_
  refine seqQ_n ?_
  refine hx_cond (b := !r) rfl (fun hb3 => ?_) (fun hb3 => ?_)
  · replace H := H.1 hb3
    refine hx_seq ?_
    refine hx_region ?_
    refine hl_val rfl rfl (v := (.slice none 0 0)) (hv_assign rfl) ?_
    refine hl_nil ?_
    refine seqQ_n ?_
    refine hx_ret ?_
    refine seqQ_ret ?_
    exact endQ_ret _ (res_one Try.results57 (rv_tmp rfl)) H
  · replace H := H.2 hb3
    refine hx_skip ?_
    refine seqQ_n ?_
    refine hx_seq ?_
    refine hx_region ?_
    refine hl_val rfl rfl (v := (ptr t_b t_o)) (hv_move rfl) ?_
    refine hl_val rfl rfl (v := (ptr t_b t_o)) (hv_nil rfl) ?_
    refine hl_val rfl rfl (v := (ptr t_b t_o)) (hv_field Ty.fld87_0 (b := t_b) (o := t_o) rfl) ?_
    obtain ⟨x, x_n, x_c, hc2, H⟩ := H
    refine hl_val rfl rfl (v := (.slice x x_n x_c)) (hv_load Ty.agg47 rfl hc2) ?_
    refine hl_step rfl rfl (hs_call Ty.cb65 (vs := [(.slice x x_n x_c)]) rfl (HC.mono H ?_))
    rintro _ h1 ⟨r_1, r_n, r_c, rfl, H⟩
    refine hl_val rfl rfl (v := (.slice r_1 r_n r_c)) (hv_assign rfl) ?_
    refine hl_nil ?_
    refine seqQ_n ?_
    refine hx_ret ?_
    exact endQ_ret _ (res_one Try.results57 (rv_tmp rfl)) H
end Go.Proofs.Ytkecmljalcfhoaa
namespace Go.Proofs.Ytkecmljalcfhoaa
open Go RH
structure EntAt (c : Array Value) (i : Nat) (e : Ent) : Prop where
  c0 : c[i * 4]? = some (.int .u64 e.h)
  c1 : c[i * 4 + 1]? = some (.int .u64 e.a)
  c2 : c[i * 4 + 2]? = some (.int .u64 e.v)
  c3 : c[i * 4 + 3]? = some (.int .u8 e.k)
structure TabAt (h : Heap) (p q B m n cap : Nat) (cs : Array Value) (s : RH.Sl) : Prop where
  tab : h[p]? = some (.cells #[.slice (some ⟨q, 0, none⟩) (2 ^ B) cap, .int .i64 B, .int .i64 m, .int .i64 n] 87 (0, 0))
  row : h[q]? = some (.cells cs 31 (0, 0))
  len : 2 ^ B * 4 ≤ cs.size
  cap : 2 ^ B ≤ cap
  ents : ∀ i, i < 2 ^ B → EntAt cs i (s i)
  b2 : 2 ≤ B
  bm : B ≤ m
  m16 : m ≤ 16
theorem pow_le {B : Nat} (h : B ≤ 16) : 2 ^ B ≤ 65536 := by
  calc 2 ^ B ≤ 2 ^ 16 := Nat.pow_le_pow_right (by omega) h
    _ = 65536 := rfl
section
variable {h : Heap} {p q B m n cap : Nat} {cs : Array Value} {s : RH.Sl}
theorem TabAt.c0 (t : TabAt h p q B m n cap cs s) : hcell h p 0 = some (.slice (some ⟨q, 0, none⟩) (2 ^ B) cap) := by rw [hcell_row t.tab]; rfl
theorem TabAt.c1 (t : TabAt h p q B m n cap cs s) : hcell h p 1 = some (.int .i64 B) := by rw [hcell_row t.tab]; rfl
theorem TabAt.c2 (t : TabAt h p q B m n cap cs s) : hcell h p 2 = some (.int .i64 m) := by rw [hcell_row t.tab]; rfl
theorem TabAt.c3 (t : TabAt h p q B m n cap cs s) : hcell h p 3 = some (.int .i64 n) := by rw [hcell_row t.tab]; rfl
theorem TabAt.e0 (t : TabAt h p q B m n cap cs s) {i : Int} (h0 : 0 ≤ i) (h1 : i < ((2 ^ B : Nat) : Int)) : hcell h q (0 + i.toNat * 4) = some (.int .u64 (s i.toNat).h) := by
  rw [hcell_row t.row, Nat.zero_add]; exact (t.ents i.toNat (by omega)).c0
theorem TabAt.e1 (t : TabAt h p q B m n cap cs s) {i : Int} (h0 : 0 ≤ i) (h1 : i < ((2 ^ B : Nat) : Int)) : hcell h q (0 + i.toNat * 4 + 1) = some (.int .u64 (s i.toNat).a) := by
  rw [hcell_row t.row, Nat.zero_add]; exact (t.ents i.toNat (by omega)).c1
theorem TabAt.e2 (t : TabAt h p q B m n cap cs s) {i : Int} (h0 : 0 ≤ i) (h1 : i < ((2 ^ B : Nat) : Int)) : hcell h q (0 + i.toNat * 4 + 2) = some (.int .u64 (s i.toNat).v) := by
  rw [hcell_row t.row, Nat.zero_add]; exact (t.ents i.toNat (by omega)).c2
theorem TabAt.e3 (t : TabAt h p q B m n cap cs s) {i : Int} (h0 : 0 ≤ i) (h1 : i < ((2 ^ B : Nat) : Int)) : hcell h q (0 + i.toNat * 4 + 3) = some (.int .u8 (s i.toNat).k) := by
  rw [hcell_row t.row, Nat.zero_add]; exact (t.ents i.toNat (by omega)).c3
theorem TabAt.le (t : TabAt h p q B m n cap cs s) : 2 ^ B ≤ 65536 := pow_le (Nat.le_trans t.bm t.m16)
theorem TabAt.ext (t : TabAt h p q B m n cap cs s) {h' : Heap} (he : Ext h h') : TabAt h' p q B m n cap cs s :=
  ⟨he.row t.tab, he.row t.row, t.len, t.cap, t.ents, t.b2, t.bm, t.m16⟩
theorem TabAt.fr (t : TabAt h p q B m n cap cs s) {h' : Heap} {S : Nat → Prop} (he : Fr S h h') (hp : ¬ S p) (hq : ¬ S q) : TabAt h' p q B m n cap cs s :=
  ⟨he.row t.tab hp, he.row t.row hq, t.len, t.cap, t.ents, t.b2, t.bm, t.m16⟩
theorem TabAt.ne (t : TabAt h p q B m n cap cs s) : p ≠ q := by
  intro e
  have h1 := t.tab
  rw [e, t.row] at h1
  simp at h1
theorem pow4 (hb : 2 ≤ B) : 4 ≤ 2 ^ B := by
  calc 4 = 2 ^ 2 := rfl
    _ ≤ 2 ^ B := Nat.pow_le_pow_right (by omega) hb
theorem fdiv_nat (a b : Nat) : Int.fdiv (a : Int) (b : Int) = ((a / b : Nat) : Int) := by
  rw [Int.fdiv_eq_ediv_of_nonneg _ (by omega)]; rfl
theorem home_c (t : TabAt h p q B m n cap cs s) {x : Nat} (hx : x < 18446744073709551616) : HC Try.prog 66 #[ptr p 0, .int .u64 x] h fun v h' => v = .int .i64 (hm B x) ∧ h' = h := by
  have hB : B ≤ 16 := Nat.le_trans t.bm t.m16
  have hlt := hm_lt (N := 2 ^ B) rfl (by omega : B ≤ 64) hx
  have hle := t.le
  refine f66_sh _ _ _ _ _ ⟨_, t.c1, ?_, ?_, rfl⟩
  · rw [w64 (by omega) (by omega)]; omega
  · rw [w64 (x := 64 - (B : Int)) (by omega) (by omega)]
    have e1 : min (Int.toNat (64 - (B : Int))) 64 = 64 - B := by omega
    have e2 : ((2 : Int) ^ (64 - B)) = ((2 ^ (64 - B) : Nat) : Int) := by norm_cast
    rw [e1, e2, fdiv_nat]
    unfold hm at hlt ⊢
    generalize x / 2 ^ (64 - B) = y at *
    rw [w64 (by omega) (by omega)]
theorem next_c (t : TabAt h p q B m n cap cs s) {i : Nat} (hi : i < 2 ^ B) : HC Try.prog 62 #[ptr p 0, .int .i64 i] h fun v h' => v = .int .i64 (nx (2 ^ B) i) ∧ h' = h := by
  have hle := t.le
  refine f62_sh _ _ _ _ _ ⟨_, _, _, t.c0, by omega, ?_, rfl⟩
  rw [w64 (by omega) (by omega)]
  have e : ((i : Int) + 1) = ((i + 1 : Nat) : Int) := by omega
  rw [e, tmod_nat]
  unfold nx
  split
  · rename_i h1; rw [h1, Nat.mod_self]
  · rename_i h1; rw [Nat.mod_eq_of_lt (by omega)]
theorem dist_c (t : TabAt h p q B m n cap cs s) {i : Nat} (hi : i < 2 ^ B) (hw : (s i).wf) : HC Try.prog 63 #[ptr p 0, .int .i64 i] h fun v h' => v = .int .i64 (ds (2 ^ B) B i (s i).h) ∧ h' = h := by
  have hB : B ≤ 16 := Nat.le_trans t.bm t.m16
  have hlt := hm_lt (N := 2 ^ B) rfl (by omega : B ≤ 64) hw.1
  have hle := t.le
  refine f63_sh _ _ _ _ _ ⟨_, _, _, t.c0, _, _, rfl, by omega, by omega, _, t.e0 (by omega) (by omega), _, fun h1 he => home_c (t.ext he) (by simpa using hw.1), _, _, _, t.c0, _, _, _, t.c0, by omega, ?_, rfl⟩
  simp only [Int.toNat_natCast]
  rw [w64 (x := (i : Int) - (hm B (s i).h : Int)) (by omega) (by omega), w64 (by omega) (by omega)]
  unfold ds df
  split
  · have e : ((i : Int) - (hm B (s i).h : Int) + ((2 ^ B : Nat) : Int)) = ((i - hm B (s i).h + 2 ^ B : Nat) : Int) := by omega
    rw [e, tmod_nat, Nat.add_mod_right, Nat.mod_eq_of_lt (by omega)]
  · have e : ((i : Int) - (hm B (s i).h : Int) + ((2 ^ B : Nat) : Int)) = ((i + 2 ^ B - hm B (s i).h : Nat) : Int) := by omega
    rw [e, tmod_nat, Nat.mod_eq_of_lt (by omega)]
theorem empty_c (a b c d : Int) (h : Heap) : HC Try.prog 58 #[.agg #[.int .u64 a, .int .u64 b, .int .u64 c, .int .u8 d]] h fun v h' => v = .bool (b == 0) ∧ Ext h h' := by
  refine f58_sh _ _ _ _ _ _ ?_
  rintro e h1 rfl rfl
  refine ⟨b, ?_, rfl, Ext.push _ _⟩
  rw [hcell_row (push_new rfl)]; rfl
theorem made_c (t : TabAt h p q B m n cap cs s) : HC Try.prog 64 #[.pointer (some ⟨p, 0, none⟩)] h fun v h' => v = .bool true ∧ h' = h := by
  have h4 := pow4 t.b2
  refine f64_sh _ _ _ ⟨true, ⟨fun _ => ⟨_, _, rfl, _, _, _, t.c0, ?_⟩, fun h => by cases h⟩, rfl, rfl⟩
  exact (decide_eq_true (by omega)).symm
theorem full_c (t : TabAt h p q B m n cap cs s) (hn : n ≤ 2 ^ B) : HC Try.prog 67 #[ptr p 0] h fun v h' => v = .bool (decide (7 * 2 ^ B < 8 * (n + 1))) ∧ h' = h := by
  have hle := t.le
  refine f67_sh _ _ _ _ ⟨_, t.c3, _, _, _, t.c0, ?_, rfl⟩
  rw [w64 (x := (n : Int) + 1) (by omega) (by omega), w64 (by omega) (by omega), w64 (by omega) (by omega)]
  congr 1
  rw [decide_eq_decide]; omega
theorem find_c (t : TabAt h p q B m n cap cs s) (g : RGood (2 ^ B) B s) {z : Nat} (hz : z < 2 ^ B) (hh : ¬ occd s z) {x : Nat} (hx : x < 18446744073709551616) :
    HC Try.prog 50 #[.pointer (some ⟨p, 0, none⟩), .int .u64 x] h fun v h' => Ext h h' ∧ ((∃ i, i < 2 ^ B ∧ occd s i ∧ (s i).h = x ∧ v = .int .i64 i) ∨ ((∀ i, i < 2 ^ B → occd s i → (s i).h ≠ x) ∧ v = .int .i64 (-1))) := by
  have hB : B ≤ 64 := by have := t.bm; have := t.m16; omega
  have hlt := hm_lt (N := 2 ^ B) rfl hB hx
  have hle := t.le
  have h0 : ds (2 ^ B) B (hm B x) x = 0 := by unfold ds df; rw [if_pos (Nat.le_refl _)]; omega
  refine f50_sh _ _ _ _ ⟨true, made_c t, fun h => by simp at h, fun _ => ⟨_, home_c t hx, fun h' => Ext h h' ∧ (∀ i, i < 2 ^ B → occd s i → (s i).h ≠ x), ⟨
    fun a f h' => Ext h h' ∧ ∃ an fn : Nat, a = an ∧ f = fn ∧ an < 2 ^ B ∧ fn = ds (2 ^ B) B an x ∧ (∀ i, i < 2 ^ B → occd s i → (s i).h = x → fn ≤ ds (2 ^ B) B i x) ∧ fn + df (2 ^ B) an z < 2 ^ B,
    fun a _ _ => df (2 ^ B) a.toNat z, ⟨Ext.refl _, hm B x, 0, rfl, rfl, hlt, h0.symm, fun _ _ _ _ => Nat.zero_le _, ?_⟩, ?_⟩, ?_⟩⟩
  · have := df_lt (N := 2 ^ B) hlt hz; omega
  · rintro _ _ h2 ⟨he, a, f, rfl, rfl, ha, hf, hmin, hsum⟩
    have t2 := t.ext he
    have hwa := g.wf a ha
    refine ⟨_, _, rfl, _, _, _, t2.c0, _, _, rfl, by omega, by omega, _, _, _, _, t2.e0 (by omega) (by omega), t2.e1 (by omega) (by omega), t2.e2 (by omega) (by omega), t2.e3 (by omega) (by omega), (empty_c _ _ _ _ _).mono ?_⟩
    rintro _ h3 ⟨rfl, he3⟩
    have t3 := t2.ext he3
    refine ⟨_, rfl, ?_, ?_⟩
    · intro hb
      have ho : occd s a := by unfold occd; simpa using hb
      have hne : a ≠ z := fun e => hh (e ▸ ho)
      refine ⟨_, _, _, t3.c0, _, _, rfl, by omega, by omega, _, t3.e0 (by omega) (by omega), ?_, ?_⟩
      · intro he'
        exact ⟨he.trans he3, .inl ⟨a, ha, ho, by have := eq_of_beq he'; simp only [Int.toNat_natCast] at this; omega, rfl⟩⟩
      · intro hne'
        have hax : (s a).h ≠ x := fun e => by simp [e] at hne'
        refine ⟨_, dist_c t3 ha hwa, ?_, ?_⟩
        · intro hd
          have hd' : ds (2 ^ B) B a (s a).h < f := by simpa using hd
          refine ⟨he.trans he3, fun i hi hoi hix => ?_⟩
          have := found_at g rfl hB hx hi hoi hix ha hf (hmin i hi hoi hix)
          omega
        · intro hd
          have hds := df_step hz ha hne
          refine ⟨_, next_c t3 ha, ⟨he.trans he3, nx (2 ^ B) a, f + 1, rfl, ?_, nx_lt ha, ?_, ?_, ?_⟩, ?_⟩
          · rw [w64 (by omega) (by omega)]; omega
          · rw [ds_next rfl hB ha hx (by omega), hf]
          · intro i hi hoi hix
            have h1 := hmin i hi hoi hix
            have h2 : f ≠ ds (2 ^ B) B i x := fun e => hax (by rw [df_inj hlt ha hi (hf.symm.trans e)]; exact hix)
            omega
          · omega
          · simpa using hds
    · intro hb
      have ho : ¬ occd s a := by unfold occd; simpa using hb
      refine ⟨he.trans he3, fun i hi hoi hix => ho ?_⟩
      exact (found_at g rfl hB hx hi hoi hix ha hf (hmin i hi hoi hix)).1
  · rintro h1 ⟨he, hn⟩
    exact ⟨he, .inr ⟨hn, rfl⟩⟩
def Box (h : Heap) (b : Nat) (e : Ent) : Prop := h[b]? = some (.cells #[.int .u64 e.h, .int .u64 e.a, .int .u64 e.v, .int .u8 e.k] 31 (0, 0))
theorem Box.c0 {b : Nat} {e : Ent} (x : Box h b e) : hcell h b 0 = some (.int .u64 e.h) := by rw [hcell_row x]; rfl
theorem Box.c1 {b : Nat} {e : Ent} (x : Box h b e) : hcell h b 1 = some (.int .u64 e.a) := by rw [hcell_row x]; rfl
theorem Box.c2 {b : Nat} {e : Ent} (x : Box h b e) : hcell h b 2 = some (.int .u64 e.v) := by rw [hcell_row x]; rfl
theorem Box.c3 {b : Nat} {e : Ent} (x : Box h b e) : hcell h b 3 = some (.int .u8 e.k) := by rw [hcell_row x]; rfl
theorem Box.hw {b : Nat} {e : Ent} (x : Box h b e) : HWs h b 0 4 := HWs_row x (by simp)
theorem Box.new {b : Nat} (e : Ent) (hb : b = h.size) : Box (Array.push h (.cells #[.int .u64 e.h, .int .u64 e.a, .int .u64 e.v, .int .u8 e.k] 31)) b e := push_new hb
theorem Box.put {b : Nat} {e : Ent} (x : Box h b e) (e' : Ent) : Box (hsets h b 0 [.int .u64 e'.h, .int .u64 e'.a, .int .u64 e'.v, .int .u8 e'.k]) b e' := by
  unfold Box; rw [hsets_row _ x]; rfl
theorem Box.ext {b : Nat} {e : Ent} (x : Box h b e) {h' : Heap} (he : Ext h h') : Box h' b e := he.row x
theorem Box.fr {b : Nat} {e : Ent} (x : Box h b e) {h' : Heap} {S : Nat → Prop} (he : Fr S h h') (hn : ¬ S b) : Box h' b e := he.row x hn
theorem TabAt.hw (t : TabAt h p q B m n cap cs s) {i : Int} (h0 : 0 ≤ i) (h1 : i < ((2 ^ B : Nat) : Int)) : HWs h q (0 + i.toNat * 4) 4 := HWs_row t.row (by have := t.len; omega)
theorem ents_set {cs : Array Value} {N : Nat} {s : RH.Sl} (hl : N * 4 ≤ cs.size) (he : ∀ i, i < N → EntAt cs i (s i)) {j : Nat} (hj : j < N) (e : Ent) :
    ∀ i, i < N → EntAt (sets cs (0 + j * 4) [.int .u64 e.h, .int .u64 e.a, .int .u64 e.v, .int .u8 e.k]) i (stt s j e i) := by
  intro i hi
  have hs : (0 + j * 4) + [Value.int .u64 e.h, .int .u64 e.a, .int .u64 e.v, .int .u8 e.k].length ≤ cs.size := by simp only [List.length_cons, List.length_nil]; omega
  have key : ∀ k, k < 4 → (sets cs (0 + j * 4) [Value.int .u64 e.h, .int .u64 e.a, .int .u64 e.v, .int .u8 e.k])[i * 4 + k]? = if i = j then [Value.int .u64 e.h, .int .u64 e.a, .int .u64 e.v, .int .u8 e.k][k]? else cs[i * 4 + k]? := by
    intro k hk
    rw [sets_get _ _ _ _ hs]
    simp only [List.length_cons, List.length_nil]
    by_cases hij : i = j
    · subst hij
      rw [if_pos (by omega), if_pos rfl]
      have : i * 4 + k - (0 + i * 4) = k := by omega
      rw [this]
    · rw [if_neg (by omega), if_neg hij]
  by_cases hij : i = j
  · subst hij
    rw [st_same]
    constructor
    · have := key 0 (by omega); rw [if_pos rfl] at this; exact this
    · have := key 1 (by omega); rw [if_pos rfl] at this; exact this
    · have := key 2 (by omega); rw [if_pos rfl] at this; exact this
    · have := key 3 (by omega); rw [if_pos rfl] at this; exact this
  · rw [st_ne _ _ hij]
    have h0 := he i hi
    constructor
    · have := key 0 (by omega); rw [if_neg hij] at this; exact this.trans h0.c0
    · have := key 1 (by omega); rw [if_neg hij] at this; exact this.trans h0.c1
    · have := key 2 (by omega); rw [if_neg hij] at this; exact this.trans h0.c2
    · have := key 3 (by omega); rw [if_neg hij] at this; exact this.trans h0.c3
theorem TabAt.put (t : TabAt h p q B m n cap cs s) {i : Nat} (hi : i < 2 ^ B) (e : Ent) :
    TabAt (hsets h q (0 + i * 4) [.int .u64 e.h, .int .u64 e.a, .int .u64 e.v, .int .u8 e.k]) p q B m n cap (sets cs (0 + i * 4) [.int .u64 e.h, .int .u64 e.a, .int .u64 e.v, .int .u8 e.k]) (stt s i e) :=
  ⟨by rw [hsets_ne _ t.ne]; exact t.tab, hsets_row _ t.row, by rw [sets_size]; exact t.len, t.cap, ents_set t.len t.ents hi e, t.b2, t.bm, t.m16⟩
theorem TabAt.setN (t : TabAt h p q B m n cap cs s) (n' : Nat) : TabAt (hset h p 3 (.int .i64 n')) p q B m n' cap cs s :=
  ⟨by rw [hset_row t.tab]; rfl, by rw [hset_ne (Ne.symm t.ne)]; exact t.row, t.len, t.cap, t.ents, t.b2, t.bm, t.m16⟩
theorem TabAt.hw3 (t : TabAt h p q B m n cap cs s) (o : Nat) (ho : o < 4) : HW h p o := HW_row t.tab (by simpa using ho)
theorem TabAt.lt (t : TabAt h p q B m n cap cs s) : p < h.size ∧ q < h.size := ⟨row_lt t.tab, row_lt t.row⟩
def PQ (p q : Nat) : Nat → Prop := fun b => b = p ∨ b = q
theorem lay_c (t : TabAt h p q B m n cap cs s) (g : RGood (2 ^ B) B s) {z : Nat} (hz : z < 2 ^ B) (hh : ¬ occd s z) {e : Ent} (ha : e.a ≠ 0) (hw : e.wf) (hf : ∀ i, i < 2 ^ B → occd s i → (s i).h ≠ e.h) (hn : n ≤ 65536) :
    HC Try.prog 69 #[ptr p 0, .agg #[.int .u64 e.h, .int .u64 e.a, .int .u64 e.v, .int .u8 e.k]] h fun v h' => v = .tuple #[] ∧ ∃ cs' s', TabAt h' p q B m (n + 1) cap cs' s' ∧ RGood (2 ^ B) B s' ∧
      (∀ x, InT (2 ^ B) s' x ↔ InT (2 ^ B) s x ∨ x = e) ∧ cntO s' (2 ^ B) = cntO s (2 ^ B) + 1 ∧ Fr (PQ p q) h h' := by
  have hB : B ≤ 64 := by have := t.bm; have := t.m16; omega
  have hle := t.le
  obtain ⟨hpl, hql⟩ := t.lt
  refine f69_sh _ _ _ _ _ _ _ _ ?_
  rintro eb h1 rfl rfl
  have x1 := Box.new (h := h) e rfl
  have t1 := t.ext (Ext.push h (.cells #[.int .u64 e.h, .int .u64 e.a, .int .u64 e.v, .int .u8 e.k] 31))
  have hxlt := row_lt x1
  have f1 : Fr (PQ p q) h (Array.push h (.cells #[.int .u64 e.h, .int .u64 e.a, .int .u64 e.v, .int .u8 e.k] 31)) := fr_push _
  refine ⟨_, x1.c0, _, home_c t1 hw.1, fun a f h2 => ∃ (an fn : Nat) (cs' : Array Value) (s' : RH.Sl) (e' : Ent), a = an ∧ f = fn ∧ TabAt h2 p q B m n cap cs' s' ∧ LayI (2 ^ B) B s e z s' an fn e' ∧ Box h2 h.size e' ∧ Fr (PQ p q) h h2,
    fun a _ _ => df (2 ^ B) a.toNat z, ⟨_, 0, cs, s, e, rfl, rfl, t1, LayI.start rfl hB g hz hh ha hw hf, x1, f1⟩, ?_⟩
  rintro _ _ h2 ⟨a, f, cs', s', e', rfl, rfl, t2, l, x2, f2⟩
  have hal := l.at_lt
  refine ⟨_, _, _, t2.c0, _, _, rfl, by omega, by omega, _, _, _, _, t2.e0 (by omega) (by omega), t2.e1 (by omega) (by omega), t2.e2 (by omega) (by omega), t2.e3 (by omega) (by omega), (empty_c _ _ _ _ _).mono ?_⟩
  rintro _ h3 ⟨rfl, he3⟩
  have t3 := t2.ext he3
  have x3 := x2.ext he3
  have hne : h.size ≠ q := by omega
  refine ⟨_, rfl, ?_, ?_⟩
  · intro hb
    have ho : ¬ occd s' a := by unfold occd; simpa using hb
    obtain ⟨k1, k2, k3⟩ := l.put rfl hB ho
    refine ⟨_, _, _, t3.c0, _, _, _, _, x3.c0, x3.c1, x3.c2, x3.c3, _, _, rfl, by omega, by omega, t3.hw (by omega) (by omega), ?_⟩
    rintro h4 rfl
    have t4 := t3.put hal e'
    refine ⟨_, t4.c3, t4.hw3 3 (by omega), ?_⟩
    rintro h5 rfl
    rw [w64 (by omega) (by omega)]
    have t5 := t4.setN (n + 1)
    refine ⟨rfl, _, _, t5, k1, k2, k3, ?_⟩
    exact (f2.trans (he3.fr (PQ p q)) (fun _ _ h => h)).trans ((fr_hsets (PQ p q) (fun _ => .inr rfl)).trans (fr_hset (PQ p q) (fun _ => .inl rfl)) (fun _ _ h => h)) (fun _ _ h => h)
  · intro hb
    have ho : occd s' a := by unfold occd; simpa using hb
    have hzne : a ≠ z := fun e => l.hole (e ▸ ho)
    have hds := df_step l.z_lt hal hzne
    have hfs := l.far_succ rfl hB ho
    have hwa := l.g.wf a hal
    have hdl := df_lt (N := 2 ^ B) (hm_lt (N := 2 ^ B) rfl hB hwa.1) hal
    refine ⟨_, dist_c t3 hal hwa, fun f' h6 => ∃ (fn : Nat) (cs2 : Array Value) (s2 : RH.Sl) (e2 : Ent), f' = fn ∧ TabAt h6 p q B m n cap cs2 s2 ∧ LayI (2 ^ B) B s e z s2 (nx (2 ^ B) a) (fn + 1) e2 ∧ Box h6 h.size e2 ∧ Fr (PQ p q) h h6 ∧ fn < 2 ^ B,
      ⟨decide (ds (2 ^ B) B a (s' a).h < f ∨ f = ds (2 ^ B) B a (s' a).h ∧ e'.h < (s' a).h), ⟨?_, ?_⟩, ?_, ?_⟩, ?_⟩
    · intro hd; simp only [decide_eq_true_eq] at hd ⊢; left; omega
    · intro hd
      simp only [decide_eq_false_iff_not] at hd
      refine ⟨fun he => ⟨_, _, _, t3.c0, _, _, rfl, by omega, by omega, _, t3.e0 (by omega) (by omega), _, x3.c0, ?_⟩, fun he => ?_⟩
      · rw [decide_eq_decide]
        have := eq_of_beq he
        simp only [Int.toNat_natCast]; omega
      · have : ((ds (2 ^ B) B a (s' a).h : Nat) : Int) ≠ f := by simpa using he
        simp only [decide_eq_false_iff_not]; omega
    · intro hsw
      simp only [decide_eq_true_eq] at hsw
      refine ⟨_, _, _, t3.c0, _, _, _, _, x3.c0, x3.c1, x3.c2, x3.c3, _, _, _, t3.c0, _, _, rfl, by omega, by omega, _, _, _, _, t3.e0 (by omega) (by omega), t3.e1 (by omega) (by omega), t3.e2 (by omega) (by omega), t3.e3 (by omega) (by omega),
        _, _, rfl, by omega, by omega, t3.hw (by omega) (by omega), ?_⟩
      rintro h7 rfl
      have t7 := t3.put hal e'
      have x7 := x3.fr (fr_hsets (h := h3) (b := q) (o := 0 + a * 4) (vs := [.int .u64 e'.h, .int .u64 e'.a, .int .u64 e'.v, .int .u8 e'.k]) (fun b => b = q) (fun _ => rfl)) hne
      refine ⟨x7.hw, ?_⟩
      intro h8 e8
      rw [e8]
      clear e8
      have x8 := x7.put (s' a)
      have hfr := fr_hsets (h := hsets h3 q (0 + a * 4) [.int .u64 e'.h, .int .u64 e'.a, .int .u64 e'.v, .int .u8 e'.k]) (b := h.size) (o := 0) (vs := [.int .u64 (s' a).h, .int .u64 (s' a).a, .int .u64 (s' a).v, .int .u8 (s' a).k]) (fun b => b = h.size) (fun _ => rfl)
      have t8 := t7.fr hfr (by omega) (by omega)
      refine ⟨_, _, _, _, rfl, t8, l.swap rfl hB ho hsw, x8, ?_, hdl⟩
      refine ((f2.trans (he3.fr (PQ p q)) (fun _ _ h => h)).trans (fr_hsets (PQ p q) (fun _ => .inr rfl)) (fun _ _ h => h)).trans hfr (fun i hi h' => ?_)
      omega
    · intro hsw
      simp only [decide_eq_false_iff_not, not_or, not_and] at hsw
      exact ⟨f, cs', s', e', rfl, t3, l.pass rfl hB ho (by omega) (fun h => by have := hsw.2 h; omega), x3, f2.trans (he3.fr (PQ p q)) (fun _ _ h => h), by omega⟩
    · rintro _ h6 ⟨f', cs2, s2, e2, rfl, t6, l6, x6, f6, hfl⟩
      refine ⟨_, next_c t6 hal, ⟨_, f' + 1, cs2, s2, e2, rfl, ?_, t6, l6, x6, f6⟩, ?_⟩
      · rw [w64 (by omega) (by omega)]; omega
      · simpa using hds
end
end Go.Proofs.Ytkecmljalcfhoaa
