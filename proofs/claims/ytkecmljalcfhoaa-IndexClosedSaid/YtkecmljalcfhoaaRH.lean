/-
Robin Hood's order, in plain Lean: what laying and taking out keep.
-/
namespace Go.Proofs.Ytkecmljalcfhoaa
namespace RH

structure Ent where
  h : Nat
  a : Nat
  v : Nat
  k : Nat
  deriving DecidableEq

def z0 : Ent := ⟨0, 0, 0, 0⟩
def Ent.wf (e : Ent) : Prop := e.h < 18446744073709551616 ∧ e.a < 18446744073709551616 ∧ e.v < 18446744073709551616 ∧ e.k < 256

/-- The home of a hash, among 2 to B slots. -/
def hm (B x : Nat) : Nat := x / 2 ^ (64 - B)
def nx (N i : Nat) : Nat := if i + 1 = N then 0 else i + 1
def pv (N i : Nat) : Nat := if i = 0 then N - 1 else i - 1
/-- How far slot i lies behind slot m, going round. -/
def df (N m i : Nat) : Nat := if m ≤ i then i - m else i + N - m
def ds (N B i x : Nat) : Nat := df N (hm B x) i
def bk (N i k : Nat) : Nat := if k ≤ i then i - k else i + N - k

abbrev Sl := Nat → Ent
def occd (s : Sl) (i : Nat) : Prop := (s i).a ≠ 0
instance (s : Sl) (i : Nat) : Decidable (occd s i) := inferInstanceAs (Decidable (_ ≠ _))
def stt (s : Sl) (i : Nat) (e : Ent) : Sl := fun j => if j = i then e else s j
theorem st_same (s : Sl) (i : Nat) (e : Ent) : stt s i e i = e := by simp [stt]
theorem st_ne (s : Sl) {i j : Nat} (e : Ent) (h : j ≠ i) : stt s i e j = s j := by simp [stt, h]

def cntO (s : Sl) : Nat → Nat
  | 0 => 0
  | n + 1 => cntO s n + (if occd s n then 1 else 0)

theorem cnt_le (s : Sl) : ∀ n, cntO s n ≤ n
  | 0 => Nat.le_refl _
  | n + 1 => by have := cnt_le s n; simp only [cntO]; split <;> omega
theorem cnt_congr {s s' : Sl} : ∀ n, (∀ i, i < n → (occd s i ↔ occd s' i)) → cntO s n = cntO s' n
  | 0, _ => rfl
  | n + 1, h => by
    have h1 := cnt_congr n fun i hi => h i (by omega)
    have h2 := h n (by omega)
    simp only [cntO, h1]
    by_cases ho : occd s n
    · rw [if_pos ho, if_pos (h2.1 ho)]
    · rw [if_neg ho, if_neg (fun h => ho (h2.2 h))]
theorem cnt_hole {s : Sl} : ∀ n, cntO s n < n → ∃ z, z < n ∧ ¬ occd s z
  | 0, h => absurd h (Nat.not_lt_zero _)
  | n + 1, h => by
    by_cases ho : occd s n
    · simp only [cntO, if_pos ho] at h
      obtain ⟨z, h1, h2⟩ := cnt_hole (s := s) n (by omega)
      exact ⟨z, by omega, h2⟩
    · exact ⟨n, by omega, ho⟩
theorem cnt_st {s : Sl} {i : Nat} {e : Ent} : ∀ n, i < n → ¬ occd s i → e.a ≠ 0 → cntO (stt s i e) n = cntO s n + 1
  | 0, h, _, _ => absurd h (Nat.not_lt_zero _)
  | n + 1, h, ho, he => by
    by_cases hin : i = n
    · subst hin
      have h1 : cntO (stt s i e) i = cntO s i := cnt_congr i fun j hj => by unfold occd; rw [st_ne s e (by omega)]
      have h2 : occd (stt s i e) i := by unfold occd; rw [st_same]; exact he
      simp only [cntO, h1, if_pos h2, if_neg ho]
    · have h1 := cnt_st n (by omega) ho he
      have h2 : occd (stt s i e) n ↔ occd s n := by unfold occd; rw [st_ne s e (by omega)]
      simp only [cntO, h1]
      by_cases hn : occd s n
      · rw [if_pos hn, if_pos (h2.2 hn)]
      · rw [if_neg hn, if_neg (fun h => hn (h2.1 h))]

/-- The order between a slot and the one ahead of it. -/
def LinkR (N B : Nat) (s : Sl) (p : Nat) (d x : Nat) : Prop := occd s p ∧ d ≤ ds N B p (s p).h + 1 ∧ (d = ds N B p (s p).h + 1 → (s p).h < x)

structure RGood (N B : Nat) (s : Sl) : Prop where
  right : ∀ i, i < N → occd s i → 0 < ds N B i (s i).h → LinkR N B s (pv N i) (ds N B i (s i).h) (s i).h
  zero : ∀ i, i < N → ¬ occd s i → s i = z0
  uniq : ∀ i j, i < N → j < N → occd s i → occd s j → (s i).h = (s j).h → i = j
  wf : ∀ i, i < N → (s i).wf

def InT (N : Nat) (s : Sl) (x : Ent) : Prop := ∃ i, i < N ∧ s i = x ∧ x.a ≠ 0

section
variable {N B : Nat}

theorem pow_split (hB : B ≤ 64) : 2 ^ B * 2 ^ (64 - B) = 18446744073709551616 := by
  rw [← Nat.pow_add]; have : B + (64 - B) = 64 := by omega
  rw [this]
theorem hm_lt (hN : N = 2 ^ B) (hB : B ≤ 64) {x : Nat} (hx : x < 18446744073709551616) : hm B x < N := by
  unfold hm; rw [hN]
  exact Nat.div_lt_of_lt_mul (by rw [Nat.mul_comm, pow_split hB]; exact hx)
theorem hm_mono {x y : Nat} (h : x ≤ y) : hm B x ≤ hm B y := Nat.div_le_div_right h

theorem df_lt {m i : Nat} (hm : m < N) (hi : i < N) : df N m i < N := by unfold df; split <;> omega

/-- The slots on the way of whoever stands d behind its home are full, and far enough behind theirs. -/
theorem chain {s : Sl} (g : RGood N B s) {i d x : Nat} (hN0 : 0 < N) (hi : i < N) (hd : d < N) (hl : 0 < d → LinkR N B s (pv N i) d x) :
    ∀ k, 1 ≤ k → k ≤ d → occd s (bk N i k) ∧ d ≤ ds N B (bk N i k) (s (bk N i k)).h + k
  | 0, h, _ => absurd h (by omega)
  | 1, _, h => by
    obtain ⟨h1, h2, _⟩ := hl (by omega)
    have : bk N i 1 = pv N i := by unfold bk pv; split <;> split <;> omega
    rw [this]; exact ⟨h1, h2⟩
  | k + 2, _, h => by
    obtain ⟨h1, h2⟩ := chain g hN0 hi hd hl (k + 1) (by omega) (by omega)
    have hb : bk N i (k + 1) < N := by unfold bk; split <;> omega
    obtain ⟨h3, h4, _⟩ := g.right _ hb h1 (by omega)
    have : pv N (bk N i (k + 1)) = bk N i (k + 2) := by unfold bk pv; split <;> split <;> split <;> omega
    rw [this] at h3 h4
    exact ⟨h3, by omega⟩

theorem df_cases (m i : Nat) : df N m i = i - m ∧ m ≤ i ∨ df N m i = i + N - m ∧ i < m := by
  unfold df; split
  · exact .inl ⟨rfl, by omega⟩
  · exact .inr ⟨rfl, by omega⟩
theorem nx_cases (i : Nat) : nx N i = 0 ∧ i + 1 = N ∨ nx N i = i + 1 ∧ i + 1 ≠ N := by
  unfold nx; split
  · exact .inl ⟨rfl, by omega⟩
  · exact .inr ⟨rfl, by omega⟩

/-! ### laying -/
structure LayI (N B : Nat) (s0 : Sl) (e0 : Ent) (z : Nat) (s : Sl) (at_ far : Nat) (e : Ent) : Prop where
  g : RGood N B s
  at_lt : at_ < N
  z_lt : z < N
  hole : ¬ occd s z
  fareq : far = ds N B at_ e.h
  e_occ : e.a ≠ 0
  e_wf : e.wf
  fresh : ∀ i, i < N → occd s i → (s i).h ≠ e.h
  link : 0 < far → LinkR N B s (pv N at_) far e.h
  same : ∀ x, (InT N s x ∨ x = e) ↔ (InT N s0 x ∨ x = e0)
  full : ∀ i, i < N → (occd s i ↔ occd s0 i)

variable {s0 s : Sl} {e0 e : Ent} {z at_ far : Nat}

theorem LayI.start (hN : N = 2 ^ B) (hB : B ≤ 64) (g : RGood N B s0) (hz : z < N) (hh : ¬ occd s0 z) (ho : e0.a ≠ 0) (hw : e0.wf) (hf : ∀ i, i < N → occd s0 i → (s0 i).h ≠ e0.h) : LayI N B s0 e0 z s0 (hm B e0.h) 0 e0 := by
  have h1 := hm_lt hN hB hw.1
  have h2 : ds N B (hm B e0.h) e0.h = 0 := by unfold ds df; rw [if_pos (Nat.le_refl _)]; omega
  exact ⟨g, h1, hz, hh, h2.symm, ho, hw, hf, fun h => absurd h (by omega), fun _ => Iff.rfl, fun _ _ => Iff.rfl⟩

theorem LayI.far_lt (hN : N = 2 ^ B) (hB : B ≤ 64) (l : LayI N B s0 e0 z s at_ far e) : far < N := by
  rw [l.fareq]; exact df_lt (hm_lt hN hB l.e_wf.1) l.at_lt

/-- A full slot: whoever is carried is not yet all the way round. -/
theorem LayI.far_succ (hN : N = 2 ^ B) (hB : B ≤ 64) (l : LayI N B s0 e0 z s at_ far e) (ho : occd s at_) : far + 1 < N := by
  have h0 : 0 < N := by have := l.at_lt; omega
  have hne : at_ ≠ z := fun h => l.hole (h ▸ ho)
  have hlt := l.far_lt hN hB
  have hz := l.z_lt
  have ha := l.at_lt
  by_cases hk : df N z at_ ≤ far
  · have hpos : 1 ≤ df N z at_ := by unfold df; split <;> omega
    have := (chain l.g h0 l.at_lt hlt l.link (df N z at_) hpos hk).1
    have hb : bk N at_ (df N z at_) = z := by unfold bk df; (repeat' split) <;> omega
    rw [hb] at this
    exact absurd this l.hole
  · have := df_lt (N := N) hz ha
    omega

theorem in_st {s : Sl} {i : Nat} {e : Ent} (hi : i < N) (he : e.a ≠ 0) {x : Ent} : InT N (stt s i e) x ↔ x = e ∨ ∃ j, j < N ∧ j ≠ i ∧ s j = x ∧ x.a ≠ 0 := by
  constructor
  · rintro ⟨j, hj, hx, ha⟩
    by_cases hji : j = i
    · subst hji; rw [st_same] at hx; exact .inl hx.symm
    · rw [st_ne s e hji] at hx; exact .inr ⟨j, hj, hji, hx, ha⟩
  · rintro (rfl | ⟨j, hj, hji, hx, ha⟩)
    · exact ⟨i, hi, st_same _ _ _, he⟩
    · exact ⟨j, hj, by rw [st_ne s e hji]; exact hx, ha⟩

/-- It is put into an empty slot. -/
theorem LayI.put (hN : N = 2 ^ B) (hB : B ≤ 64) (l : LayI N B s0 e0 z s at_ far e) (ho : ¬ occd s at_) :
    RGood N B (stt s at_ e) ∧ (∀ x, InT N (stt s at_ e) x ↔ InT N s0 x ∨ x = e0) ∧ cntO (stt s at_ e) N = cntO s0 N + 1 := by
  have hat := l.at_lt
  have hocc : ∀ j, occd (stt s at_ e) j ↔ (j = at_ ∨ occd s j) := by
    intro j
    by_cases hj : j = at_
    · subst hj; unfold occd; rw [st_same]; exact ⟨fun _ => .inl rfl, fun _ => l.e_occ⟩
    · unfold occd; rw [st_ne s e hj]; exact ⟨.inr, fun h => h.resolve_left hj⟩
  refine ⟨⟨?_, ?_, ?_, ?_⟩, ?_, ?_⟩
  · intro i hi hoi hd
    have hlink : ∀ p d x, p ≠ at_ → LinkR N B s p d x → LinkR N B (stt s at_ e) p d x := by
      intro p d x hp ⟨h1, h2, h3⟩
      unfold LinkR occd at *
      rw [st_ne s e hp]; exact ⟨h1, h2, h3⟩
    have hpv : pv N at_ ≠ at_ := by
      have := l.z_lt
      have hne : at_ ≠ z ∨ at_ = z := by omega
      unfold pv
      by_cases h1 : N = 1
      · exfalso
        subst h1
        have h2 : i = 0 := by omega
        have h3 : at_ = 0 := by omega
        subst h2; subst h3
        rw [st_same] at hd
        have := hm_lt hN hB l.e_wf.1
        unfold ds df at hd
        split at hd <;> omega
      · split <;> omega
    by_cases hia : i = at_
    · subst hia
      rw [st_same] at hd ⊢
      exact hlink _ _ _ hpv (by have := l.link (by rw [l.fareq]; exact hd); rw [l.fareq] at this; exact this)
    · rw [st_ne s e hia] at hd ⊢
      have hos : occd s i := by have := (hocc i).1 hoi; exact this.resolve_left hia
      have := g_right l hi hos hd
      by_cases hp : pv N i = at_
      · exfalso; rw [hp] at this; exact ho this.1
      · exact hlink _ _ _ hp this
  · intro i hi hn
    by_cases hia : i = at_
    · subst hia; exact absurd ((hocc i).2 (.inl rfl)) hn
    · rw [st_ne s e hia]; exact l.g.zero i hi fun h => hn ((hocc i).2 (.inr h))
  · intro i j hi hj hoi hoj hh
    by_cases hia : i = at_ <;> by_cases hja : j = at_
    · omega
    · subst hia; rw [st_same, st_ne s e hja] at hh
      exact absurd hh.symm (l.fresh j hj (((hocc j).1 hoj).resolve_left hja))
    · subst hja; rw [st_same, st_ne s e hia] at hh
      exact absurd hh (l.fresh i hi (((hocc i).1 hoi).resolve_left hia))
    · rw [st_ne s e hia, st_ne s e hja] at hh
      exact l.g.uniq i j hi hj (((hocc i).1 hoi).resolve_left hia) (((hocc j).1 hoj).resolve_left hja) hh
  · intro i hi
    by_cases hia : i = at_
    · subst hia; rw [st_same]; exact l.e_wf
    · rw [st_ne s e hia]; exact l.g.wf i hi
  · intro x
    rw [in_st hat l.e_occ, ← l.same x]
    constructor
    · rintro (rfl | ⟨j, hj, _, hx, ha⟩)
      · exact .inr rfl
      · exact .inl ⟨j, hj, hx, ha⟩
    · rintro (⟨j, hj, hx, ha⟩ | rfl)
      · refine .inr ⟨j, hj, fun hja => ?_, hx, ha⟩
        subst hja; apply ho; unfold occd; rw [hx]; exact ha
      · exact .inl rfl
  · rw [cnt_st N hat ho l.e_occ, cnt_congr N l.full]
where
  g_right {s0 s : Sl} {e0 e : Ent} {z at_ far : Nat} (l : LayI N B s0 e0 z s at_ far e) {i : Nat} (hi : i < N) (hos : occd s i) (hd : 0 < ds N B i (s i).h) : LinkR N B s (pv N i) (ds N B i (s i).h) (s i).h := l.g.right i hi hos hd

theorem ds_next (hN : N = 2 ^ B) (hB : B ≤ 64) {i x : Nat} (hi : i < N) (hx : x < 18446744073709551616) (h : ds N B i x + 1 < N) : ds N B (nx N i) x = ds N B i x + 1 := by
  have := hm_lt hN hB hx
  unfold ds at *
  generalize hm B x = m at *
  unfold df nx at *
  split at h <;> (repeat' split) <;> omega

theorem pv_nx {i : Nat} (_hi : i < N) : pv N (nx N i) = i := by unfold pv nx; split <;> split <;> omega
theorem nx_lt {i : Nat} (hi : i < N) : nx N i < N := by unfold nx; split <;> omega
theorem nx_pv {i : Nat} (hi : i < N) : nx N (pv N i) = i := by unfold pv nx; split <;> split <;> omega
theorem pv_lt {i : Nat} (hi : i < N) : pv N i < N := by unfold pv; split <;> omega

/-- It goes by. -/
theorem LayI.pass (hN : N = 2 ^ B) (hB : B ≤ 64) (l : LayI N B s0 e0 z s at_ far e) (ho : occd s at_) (h1 : far ≤ ds N B at_ (s at_).h) (h2 : far = ds N B at_ (s at_).h → (s at_).h ≤ e.h) :
    LayI N B s0 e0 z s (nx N at_) (far + 1) e := by
  have hf := l.far_succ hN hB ho
  refine ⟨l.g, nx_lt l.at_lt, l.z_lt, l.hole, ?_, l.e_occ, l.e_wf, l.fresh, fun _ => ?_, l.same, l.full⟩
  · rw [ds_next hN hB l.at_lt l.e_wf.1 (by rw [← l.fareq]; exact hf), ← l.fareq]
  · rw [pv_nx l.at_lt]
    refine ⟨ho, by omega, fun h => ?_⟩
    have h3 := h2 (by omega)
    have h4 := l.fresh at_ l.at_lt ho
    omega

/-- It takes the slot, and who stood there is carried on. -/
theorem LayI.swap (hN : N = 2 ^ B) (hB : B ≤ 64) (l : LayI N B s0 e0 z s at_ far e) (ho : occd s at_) (h : ds N B at_ (s at_).h < far ∨ far = ds N B at_ (s at_).h ∧ e.h < (s at_).h) :
    LayI N B s0 e0 z (stt s at_ e) (nx N at_) (ds N B at_ (s at_).h + 1) (s at_) := by
  have hf := l.far_succ hN hB ho
  have hat := l.at_lt
  have hwx := (l.g.wf at_ hat).1
  have hne : at_ ≠ z := fun h => l.hole (h ▸ ho)
  have hocc : ∀ j, occd (stt s at_ e) j ↔ occd s j := by
    intro j
    by_cases hj : j = at_
    · subst hj; unfold occd; rw [st_same]; exact ⟨fun _ => ho, fun _ => l.e_occ⟩
    · unfold occd; rw [st_ne s e hj]
  have hpv : pv N at_ ≠ at_ := by have := l.z_lt; unfold pv; split <;> omega
  have hds : ds N B at_ (s at_).h + 1 < N := by omega
  refine ⟨⟨?_, ?_, ?_, ?_⟩, nx_lt hat, l.z_lt, fun h => l.hole ((hocc z).1 h), ?_, ho, l.g.wf at_ hat, ?_, fun _ => ?_, ?_, fun i hi => (hocc i).trans (l.full i hi)⟩
  · intro i hi hoi hd
    by_cases hia : i = at_
    · subst hia
      rw [st_same] at hd ⊢
      have := l.link (by rw [l.fareq]; exact hd)
      obtain ⟨k1, k2, k3⟩ := this
      rw [← l.fareq]
      unfold LinkR occd at *
      rw [st_ne s e hpv]; exact ⟨k1, k2, k3⟩
    · have hos := (hocc i).1 hoi
      rw [st_ne s e hia] at hd ⊢
      obtain ⟨k1, k2, k3⟩ := l.g.right i hi hos hd
      by_cases hp : pv N i = at_
      · rw [hp] at k1 k2 k3 ⊢
        refine ⟨(hocc _).2 ho, ?_, ?_⟩
        · rw [st_same, ← l.fareq]; omega
        · rw [st_same, ← l.fareq]; intro hq
          have : (s at_).h < (s i).h := k3 (by omega)
          omega
      · unfold LinkR occd at *
        rw [st_ne s e hp]; exact ⟨k1, k2, k3⟩
  · intro i hi hn
    have hia : i ≠ at_ := fun h => hn ((hocc i).2 (h ▸ ho))
    rw [st_ne s e hia]; exact l.g.zero i hi fun h => hn ((hocc i).2 h)
  · intro i j hi hj hoi hoj hh
    have hoi' := (hocc i).1 hoi
    have hoj' := (hocc j).1 hoj
    by_cases hia : i = at_ <;> by_cases hja : j = at_
    · omega
    · subst hia; rw [st_same, st_ne s e hja] at hh; exact absurd hh.symm (l.fresh j hj hoj')
    · subst hja; rw [st_same, st_ne s e hia] at hh; exact absurd hh (l.fresh i hi hoi')
    · rw [st_ne s e hia, st_ne s e hja] at hh; exact l.g.uniq i j hi hj hoi' hoj' hh
  · intro i hi
    by_cases hia : i = at_
    · subst hia; rw [st_same]; exact l.e_wf
    · rw [st_ne s e hia]; exact l.g.wf i hi
  · exact (ds_next hN hB hat hwx hds).symm
  · intro i hi hoi
    have hoi' := (hocc i).1 hoi
    by_cases hia : i = at_
    · subst hia; rw [st_same]; exact fun h => l.fresh i hi ho h.symm
    · rw [st_ne s e hia]; exact fun h => hia (l.g.uniq i at_ hi hat hoi' ho h)
  · rw [pv_nx hat]
    refine ⟨(hocc at_).2 ho, ?_, ?_⟩
    · rw [st_same, ← l.fareq]; omega
    · rw [st_same, ← l.fareq]; intro hq; omega
  · intro x
    rw [in_st hat l.e_occ, ← l.same x]
    constructor
    · rintro ((rfl | ⟨j, hj, _, hx, ha⟩) | rfl)
      · exact .inr rfl
      · exact .inl ⟨j, hj, hx, ha⟩
      · exact .inl ⟨at_, hat, rfl, ho⟩
    · rintro (⟨j, hj, hx, ha⟩ | rfl)
      · by_cases hja : j = at_
        · subst hja; exact .inr hx.symm
        · exact .inl (.inr ⟨j, hj, hja, hx, ha⟩)
      · exact .inl (.inl rfl)

/-- How far it is to the hole. -/
theorem df_step {z at_ : Nat} (hz : z < N) (ha : at_ < N) (hne : at_ ≠ z) : df N (nx N at_) z < df N at_ z := by
  unfold df nx; (repeat' split) <;> omega

theorem bk_df {m i at_ far : Nat} (hm : m < N) (hi : i < N) (ha : at_ < N) (hf : far = df N m at_) (hle : far ≤ df N m i) : bk N i (df N m i - far) = at_ := by
  subst hf
  have e1 : df N m at_ = at_ - m ∧ m ≤ at_ ∨ df N m at_ = at_ + N - m ∧ at_ < m := by
    unfold df; split
    · exact .inl ⟨rfl, by omega⟩
    · exact .inr ⟨rfl, by omega⟩
  have e2 : df N m i = i - m ∧ m ≤ i ∨ df N m i = i + N - m ∧ i < m := by
    unfold df; split
    · exact .inl ⟨rfl, by omega⟩
    · exact .inr ⟨rfl, by omega⟩
  unfold bk
  split <;> omega
theorem df_inj {m i j : Nat} (hm : m < N) (hi : i < N) (hj : j < N) (h : df N m i = df N m j) : i = j := by
  unfold df at h
  split at h <;> split at h <;> omega

/-! ### finding -/
theorem found_at {s : Sl} (g : RGood N B s) (hN : N = 2 ^ B) (hB : B ≤ 64) {x : Nat} (hx : x < 18446744073709551616) {i : Nat} (hi : i < N) (ho : occd s i) (hh : (s i).h = x) {at_ far : Nat} (ha : at_ < N) (hf : far = ds N B at_ x) (hle : far ≤ ds N B i x) :
    occd s at_ ∧ far ≤ ds N B at_ (s at_).h := by
  have h0 : 0 < N := by omega
  have hm' := hm_lt hN hB hx
  have hdl : ds N B i x < N := df_lt hm' hi
  by_cases he : far = ds N B i x
  · have : at_ = i := df_inj hm' ha hi (hf.symm.trans he)
    subst this; rw [hh]; exact ⟨ho, by omega⟩
  · have hl : 0 < ds N B i x → LinkR N B s (pv N i) (ds N B i x) x := fun h => by have := g.right i hi ho (by rw [hh]; exact h); rw [hh] at this; exact this
    obtain ⟨h1, h2⟩ := chain g h0 hi hdl hl (ds N B i x - far) (by omega) (by omega)
    have hb : bk N i (ds N B i x - far) = at_ := bk_df hm' hi ha hf hle
    rw [hb] at h1 h2
    exact ⟨h1, by omega⟩

/-! ### taking out -/
theorem ds_prev (hN : N = 2 ^ B) (hB : B ≤ 64) {i x : Nat} (hi : i < N) (hx : x < 18446744073709551616) (h : 0 < ds N B (nx N i) x) : ds N B (nx N i) x = ds N B i x + 1 := by
  have := hm_lt hN hB hx
  unfold ds at *
  generalize hm B x = m at *
  have e1 := df_cases (N := N) m i
  have e2 := df_cases (N := N) m (nx N i)
  have e3 := nx_cases (N := N) i
  omega

/-- The slot at_ is to be empty: what stands behind it may step up. -/
structure RemI (N B : Nat) (s0 : Sl) (x0 : Ent) (z : Nat) (s : Sl) (at_ : Nat) : Prop where
  at_lt : at_ < N
  z_lt : z < N
  z_ne : z ≠ at_
  hole : ¬ occd s z
  g1 : ∀ i, i < N → i ≠ at_ → pv N i ≠ at_ → occd s i → 0 < ds N B i (s i).h → LinkR N B s (pv N i) (ds N B i (s i).h) (s i).h
  g2 : occd s (nx N at_) → 1 < ds N B (nx N at_) (s (nx N at_)).h → occd s (pv N at_) ∧ ds N B (nx N at_) (s (nx N at_)).h ≤ ds N B (pv N at_) (s (pv N at_)).h + 2 ∧
    (ds N B (nx N at_) (s (nx N at_)).h = ds N B (pv N at_) (s (pv N at_)).h + 2 → (s (pv N at_)).h < (s (nx N at_)).h)
  zero : ∀ i, i < N → i ≠ at_ → ¬ occd s i → s i = z0
  uniq : ∀ i j, i < N → j < N → i ≠ at_ → j ≠ at_ → occd s i → occd s j → (s i).h = (s j).h → i = j
  wf : ∀ i, i < N → (s i).wf
  same : ∀ x, (∃ i, i < N ∧ i ≠ at_ ∧ s i = x ∧ x.a ≠ 0) ↔ (InT N s0 x ∧ x ≠ x0)
  count : cntO (stt s at_ z0) N + 1 = cntO s0 N

theorem RemI.start {s0 : Sl} (g : RGood N B s0) {z at_ : Nat} (hz : z < N) (hh : ¬ occd s0 z) (ha : at_ < N) (ho : occd s0 at_) : RemI N B s0 (s0 at_) z s0 at_ := by
  have hne : z ≠ at_ := fun h => hh (h ▸ ho)
  refine ⟨ha, hz, hne, hh, fun i hi _ _ h1 h2 => g.right i hi h1 h2, fun h1 h2 => ?_, fun i hi _ => g.zero i hi, fun i j hi hj _ _ => g.uniq i j hi hj, g.wf, fun x => ?_, ?_⟩
  · obtain ⟨_, k2, k3⟩ := g.right _ (nx_lt ha) h1 (by omega)
    rw [pv_nx ha] at k2 k3
    obtain ⟨j1, j2, j3⟩ := g.right at_ ha ho (by omega)
    refine ⟨j1, by omega, fun hq => ?_⟩
    have := k3 (by omega)
    have := j3 (by omega)
    omega
  · constructor
    · rintro ⟨i, hi, hia, hx, hxa⟩
      refine ⟨⟨i, hi, hx, hxa⟩, fun hq => hia (g.uniq i at_ hi ha ?_ ho ?_)⟩
      · unfold occd; rw [hx]; exact hxa
      · rw [hx, hq]
    · rintro ⟨⟨i, hi, hx, hxa⟩, hq⟩
      exact ⟨i, hi, fun h => hq (by rw [← hx, h]), hx, hxa⟩
  · have h1 : ¬ occd (stt s0 at_ z0) at_ := by unfold occd; rw [st_same]; simp [z0]
    have h2 := cnt_st (s := stt s0 at_ z0) (i := at_) (e := s0 at_) N ha h1 ho
    rw [← h2]
    refine cnt_congr N fun i _ => ?_
    unfold occd
    by_cases hi : i = at_
    · subst hi; rw [st_same]
    · rw [st_ne _ _ hi, st_ne _ _ hi]

theorem four_le (hN : N = 2 ^ B) (hB2 : 2 ≤ B) : 4 ≤ N := by
  rw [hN]
  calc 4 = 2 ^ 2 := rfl
    _ ≤ 2 ^ B := Nat.pow_le_pow_right (by omega) hB2

theorem RemI.move (hN : N = 2 ^ B) (hB2 : 2 ≤ B) (hB : B ≤ 64) {s0 s : Sl} {x0 : Ent} {z at_ : Nat} (r : RemI N B s0 x0 z s at_) (ho : occd s (nx N at_)) (hd : 0 < ds N B (nx N at_) (s (nx N at_)).h) :
    RemI N B s0 x0 z (stt s at_ (s (nx N at_))) (nx N at_) := by
  have h4 := four_le hN hB2
  have ha := r.at_lt
  have hf := nx_lt (N := N) ha
  have hfa : nx N at_ ≠ at_ := by unfold nx; split <;> omega
  have hpa : pv N at_ ≠ at_ := by unfold pv; split <;> omega
  have hpf : pv N at_ ≠ nx N at_ := by unfold pv nx; split <;> split <;> omega
  have hx := (r.wf (nx N at_) hf).1
  have hdp := ds_prev hN hB ha hx hd
  have hocc : ∀ j, occd (stt s at_ (s (nx N at_))) j ↔ (j = at_ ∨ occd s j) := by
    intro j
    by_cases hj : j = at_
    · subst hj; unfold occd; rw [st_same]; exact ⟨fun _ => .inl rfl, fun _ => ho⟩
    · unfold occd; rw [st_ne _ _ hj]; exact ⟨.inr, fun h => h.resolve_left hj⟩
  have hzf : z ≠ nx N at_ := fun h => r.hole (h ▸ ho)
  refine ⟨hf, r.z_lt, hzf, fun h => r.hole (((hocc z).1 h).resolve_left r.z_ne), ?_, ?_, ?_, ?_, ?_, ?_, ?_⟩
  · intro i hi hif hpif hoi hdi
    by_cases hia : i = at_
    · subst hia
      rw [st_same] at hdi ⊢
      obtain ⟨k1, k2, k3⟩ := r.g2 ho (by omega)
      unfold LinkR
      refine ⟨(hocc _).2 (.inr k1), ?_, ?_⟩ <;> rw [st_ne _ _ hpa]
      · omega
      · intro hq; exact k3 (by omega)
    · rw [st_ne _ _ hia] at hdi ⊢
      have hpia : pv N i ≠ at_ := fun h => hif (by rw [← h, nx_pv hi])
      obtain ⟨k1, k2, k3⟩ := r.g1 i hi hia hpia (((hocc i).1 hoi).resolve_left hia) hdi
      unfold LinkR
      refine ⟨(hocc _).2 (.inr k1), ?_, ?_⟩ <;> rw [st_ne _ _ hpia]
      · exact k2
      · exact k3
  · have hn2 := nx_lt (N := N) hf
    have hn2a : nx N (nx N at_) ≠ at_ := by unfold nx; split <;> split <;> omega
    have hn2f : nx N (nx N at_) ≠ nx N at_ := by unfold nx; split <;> split <;> omega
    rw [pv_nx ha, st_ne _ _ hn2a, st_same]
    intro h1 h2
    have ho2 := ((hocc _).1 h1).resolve_left hn2a
    obtain ⟨k1, k2, k3⟩ := r.g1 _ hn2 hn2a (by rw [pv_nx hf]; exact hfa) ho2 (by omega)
    rw [pv_nx hf] at k1 k2 k3
    refine ⟨(hocc _).2 (.inl rfl), by omega, fun hq => k3 (by omega)⟩
  · intro i hi hif hn
    have hia : i ≠ at_ := fun h => hn ((hocc i).2 (.inl h))
    rw [st_ne _ _ hia]; exact r.zero i hi hia fun h => hn ((hocc i).2 (.inr h))
  · intro i j hi hj hif hjf hoi hoj hh
    by_cases hia : i = at_ <;> by_cases hja : j = at_
    · omega
    · subst hia; rw [st_same, st_ne _ _ hja] at hh
      exact absurd (r.uniq _ j hf hj hfa hja ho (((hocc j).1 hoj).resolve_left hja) hh).symm hjf
    · subst hja; rw [st_same, st_ne _ _ hia] at hh
      exact absurd (r.uniq i _ hi hf hia hfa (((hocc i).1 hoi).resolve_left hia) ho hh) hif
    · rw [st_ne _ _ hia, st_ne _ _ hja] at hh
      exact r.uniq i j hi hj hia hja (((hocc i).1 hoi).resolve_left hia) (((hocc j).1 hoj).resolve_left hja) hh
  · intro i hi
    by_cases hia : i = at_
    · subst hia; rw [st_same]; exact r.wf _ hf
    · rw [st_ne _ _ hia]; exact r.wf i hi
  · intro x
    rw [← r.same x]
    constructor
    · rintro ⟨i, hi, hif, hx', hxa⟩
      by_cases hia : i = at_
      · subst hia; rw [st_same] at hx'; exact ⟨nx N i, hf, hfa, hx', hxa⟩
      · rw [st_ne _ _ hia] at hx'; exact ⟨i, hi, hia, hx', hxa⟩
    · rintro ⟨i, hi, hia, hx', hxa⟩
      by_cases hif : i = nx N at_
      · subst hif; exact ⟨at_, ha, Ne.symm hfa, by rw [st_same]; exact hx', hxa⟩
      · exact ⟨i, hi, hif, by rw [st_ne _ _ hia]; exact hx', hxa⟩
  · rw [← r.count]
    let t : Sl := stt (stt s at_ z0) (nx N at_) z0
    have hz0 : ∀ (u : Sl) i, ¬ occd (stt u i z0) i := fun u i => by unfold occd; rw [st_same]; simp [z0]
    have t1 : ¬ occd t (nx N at_) := hz0 _ _
    have t2 : ¬ occd t at_ := by unfold occd; show ¬ (stt (stt s at_ z0) (nx N at_) z0 at_).a ≠ 0; rw [st_ne _ _ (Ne.symm hfa), st_same]; simp [z0]
    have c1 := cnt_st (s := t) (i := nx N at_) (e := s (nx N at_)) N hf t1 ho
    have c2 := cnt_st (s := t) (i := at_) (e := s (nx N at_)) N ha t2 ho
    have e1 : cntO (stt s at_ z0) N = cntO (stt t (nx N at_) (s (nx N at_))) N := by
      refine cnt_congr N fun i _ => ?_
      unfold occd
      by_cases h1 : i = nx N at_
      · subst h1; rw [st_same, st_ne _ _ hfa]
      · rw [st_ne _ _ h1]; show _ ↔ (stt (stt s at_ z0) (nx N at_) z0 i).a ≠ 0; rw [st_ne _ _ h1]
    have e2 : cntO (stt (stt s at_ (s (nx N at_))) (nx N at_) z0) N = cntO (stt t at_ (s (nx N at_))) N := by
      refine cnt_congr N fun i _ => ?_
      unfold occd
      by_cases h1 : i = at_
      · subst h1; rw [st_same, st_ne _ _ (Ne.symm hfa), st_same]
      · rw [st_ne t _ h1]; show _ ↔ (stt (stt s at_ z0) (nx N at_) z0 i).a ≠ 0
        by_cases h2 : i = nx N at_
        · subst h2; rw [st_same, st_same]
        · rw [st_ne _ _ h2, st_ne _ _ h2, st_ne _ _ h1, st_ne _ _ h1]
    omega

theorem RemI.done (hN : N = 2 ^ B) (hB2 : 2 ≤ B) {s0 s : Sl} {x0 : Ent} {z at_ : Nat} (r : RemI N B s0 x0 z s at_) (h : ¬ occd s (nx N at_) ∨ ds N B (nx N at_) (s (nx N at_)).h = 0) :
    RGood N B (stt s at_ z0) ∧ (∀ x, InT N (stt s at_ z0) x ↔ InT N s0 x ∧ x ≠ x0) ∧ cntO (stt s at_ z0) N + 1 = cntO s0 N := by
  have h4 := four_le hN hB2
  have ha := r.at_lt
  have hn0 : ¬ occd (stt s at_ z0) at_ := by unfold occd; rw [st_same]; simp [z0]
  have hocc : ∀ j, j ≠ at_ → (occd (stt s at_ z0) j ↔ occd s j) := fun j hj => by unfold occd; rw [st_ne _ _ hj]
  refine ⟨⟨?_, ?_, ?_, ?_⟩, ?_, r.count⟩
  · intro i hi hoi hd
    have hia : i ≠ at_ := fun h => hn0 (h ▸ hoi)
    rw [st_ne _ _ hia] at hd ⊢
    have hos := (hocc i hia).1 hoi
    have hpi : pv N i ≠ at_ := fun hp => by
      have : i = nx N at_ := by rw [← hp, nx_pv hi]
      subst this
      rcases h with h | h
      · exact h hos
      · omega
    obtain ⟨k1, k2, k3⟩ := r.g1 i hi hia hpi hos hd
    unfold LinkR
    refine ⟨(hocc _ hpi).2 k1, ?_, ?_⟩ <;> rw [st_ne _ _ hpi]
    · exact k2
    · exact k3
  · intro i hi hn
    by_cases hia : i = at_
    · subst hia; rw [st_same]
    · rw [st_ne _ _ hia]; exact r.zero i hi hia fun h => hn ((hocc i hia).2 h)
  · intro i j hi hj hoi hoj hh
    have hia : i ≠ at_ := fun h => hn0 (h ▸ hoi)
    have hja : j ≠ at_ := fun h => hn0 (h ▸ hoj)
    rw [st_ne _ _ hia, st_ne _ _ hja] at hh
    exact r.uniq i j hi hj hia hja ((hocc i hia).1 hoi) ((hocc j hja).1 hoj) hh
  · intro i hi
    by_cases hia : i = at_
    · subst hia; rw [st_same]; simp [Ent.wf, z0]
    · rw [st_ne _ _ hia]; exact r.wf i hi
  · intro x
    rw [← r.same x]
    constructor
    · rintro ⟨i, hi, hx, hxa⟩
      have hia : i ≠ at_ := fun h => by subst h; rw [st_same] at hx; subst hx; exact hxa rfl
      rw [st_ne _ _ hia] at hx
      exact ⟨i, hi, hia, hx, hxa⟩
    · rintro ⟨i, hi, hia, hx, hxa⟩
      exact ⟨i, hi, by rw [st_ne _ _ hia]; exact hx, hxa⟩

theorem good_zero : RGood N B (fun _ => z0) :=
  ⟨fun i _ h => absurd rfl h, fun _ _ _ => rfl, fun i _ _ _ h => absurd rfl h, fun _ _ => by simp [Ent.wf, z0]⟩
theorem cnt_zero : ∀ n, cntO (fun _ => z0) n = 0
  | 0 => rfl
  | n + 1 => by simp only [cntO, cnt_zero n]; rw [if_neg (fun h => h rfl)]

/-- A field that does not tell where it stands is changed. -/
theorem good_upd {s : Sl} (g : RGood N B s) {i : Nat} (hi : i < N) {e : Ent} (hh : e.h = (s i).h) (hw : e.wf) (ho : occd s i) (he : e.a ≠ 0) : RGood N B (stt s i e) := by
  have hocc : ∀ j, occd (stt s i e) j ↔ occd s j := by
    intro j
    by_cases hj : j = i
    · subst hj; unfold occd; rw [st_same]; exact ⟨fun _ => ho, fun _ => he⟩
    · unfold occd; rw [st_ne _ _ hj]
  have hhash : ∀ j, (stt s i e j).h = (s j).h := by
    intro j
    by_cases hj : j = i
    · subst hj; rw [st_same]; exact hh
    · rw [st_ne _ _ hj]
  refine ⟨?_, ?_, ?_, ?_⟩
  · intro j hj hoj hd
    rw [hhash] at hd ⊢
    obtain ⟨k1, k2, k3⟩ := g.right j hj ((hocc j).1 hoj) hd
    unfold LinkR
    rw [hhash, hocc]
    exact ⟨k1, k2, k3⟩
  · intro j hj hn
    have hji : j ≠ i := fun h => hn ((hocc j).2 (h ▸ ho))
    rw [st_ne _ _ hji]; exact g.zero j hj fun h => hn ((hocc j).2 h)
  · intro j k hj hk hoj hok hjk
    rw [hhash, hhash] at hjk
    exact g.uniq j k hj hk ((hocc j).1 hoj) ((hocc k).1 hok) hjk
  · intro j hj
    by_cases hji : j = i
    · subst hji; rw [st_same]; exact hw
    · rw [st_ne _ _ hji]; exact g.wf j hj
theorem cnt_upd {s : Sl} {i : Nat} {e : Ent} (ho : occd s i) (he : e.a ≠ 0) : cntO (stt s i e) N = cntO s N :=
  cnt_congr N fun j _ => by
    by_cases hj : j = i
    · subst hj; unfold occd; rw [st_same]; exact ⟨fun _ => ho, fun _ => he⟩
    · unfold occd; rw [st_ne _ _ hj]

end
end RH
end Go.Proofs.Ytkecmljalcfhoaa
