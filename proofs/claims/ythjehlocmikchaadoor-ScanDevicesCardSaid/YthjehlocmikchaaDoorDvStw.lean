import Derived.Test.YthjehlocmikchaaDoorDvStb
import Derived.Test.YthjehlocmikchaaDoorDvCel
import Derived.Test.YthjehlocmikchaaDoorDvTS
namespace Go.Proofs.YthjehlocmikchaaDoor
namespace Stb
open Go
abbrev eI : Elt Int := eInt .i64
structure St (h0 : Heap) (a : Option Addr) (c N : Nat) (T : TypeId) (h : Heap) (M : List (Int × Nat)) : Prop where
  sl : Sl eI h a c (M.map Prod.fst)
  own : Own eI.k T N h a c
  fr : Fr (blkA a) h0 h
section
variable {h0 h h' : Heap} {a : Option Addr} {c N : Nat} {T : TypeId} {M : List (Int × Nat)}
theorem map_get {M : List (Int × Nat)} {i : Nat} {x : Int × Nat} (hx : M[i]? = some x) : (M.map Prod.fst)[i]? = some x.1 := by rw [List.getElem?_map, hx]; rfl
theorem St.ext (s : St h0 a c N T h M) (x : Ext h h') : St h0 a c N T h' M := ⟨s.sl.ext x, s.own.ext x, s.fr.trans (x.fr _) fun _ _ q => q⟩
theorem St.get (s : St h0 a c N T h M) {i : Nat} {x : Int × Nat} (hx : M[i]? = some x) : ∃ b o, a = some ⟨b, o, none⟩ ∧ hcell h b (o + i * 1) = some (.int .i64 x.1) := by
  obtain ⟨b, o, e, d⟩ := s.sl.at (map_get hx)
  exact ⟨b, o, e, d.1⟩
theorem St.swap (s : St h0 a c N T h M) {i j : Nat} {x y : Int × Nat} (hx : M[i]? = some x) (hy : M[j]? = some y) : ∃ b o, a = some ⟨b, o, none⟩ ∧ hcell h b (o + i * 1) = some (.int .i64 x.1) ∧ hcell h b (o + j * 1) = some (.int .i64 y.1) ∧
    HW h b (o + i * 1) ∧ ∀ h2, h2 = hset h b (o + i * 1) (.int .i64 y.1) → HW h2 b (o + j * 1) ∧ ∀ h3, h3 = hset h2 b (o + j * 1) (.int .i64 x.1) → St h0 a c N T h3 ((M.set i y).set j x) := by
  obtain ⟨b, o, e, d⟩ := s.get hx
  obtain ⟨b', o', e', d'⟩ := s.get hy
  rw [e] at e'; cases e'
  subst e
  have li := (List.getElem?_eq_some_iff.1 hx).1
  have lj := (List.getElem?_eq_some_iff.1 hy).1
  obtain ⟨u1, u2⟩ := s.sl.word s.own (i := i) (r := 0) (x' := y.1) (v := .int .i64 y.1) (by simpa using li) (by decide) rfl (p := o + i * 1) rfl
  refine ⟨b, o, rfl, d, d', u1, fun h2 e2 => ?_⟩
  obtain ⟨s2, w2, f2⟩ := u2 h2 e2
  obtain ⟨v1, v2⟩ := s2.word w2 (i := j) (r := 0) (x' := x.1) (v := .int .i64 x.1) (by simpa using lj) (by decide) rfl (p := o + j * 1) rfl
  refine ⟨v1, fun h3 e3 => ?_⟩
  obtain ⟨s3, w3, f3⟩ := v2 h3 e3
  refine ⟨?_, w3, s.fr.trans ((f2.trans f3 fun _ _ q => q).mono fun i _ q => by subst q; exact blkA_of rfl) fun _ _ q => q⟩
  rw [List.map_set, List.map_set]; exact s3
theorem St.len (s : St h0 a c N T h M) (hl : M.length ≤ 1152921504606846976) {i : Nat} {x : Int × Nat} (hx : M[i]? = some x) : i < M.length := (List.getElem?_eq_some_iff.1 hx).1
theorem half {i j : Nat} (h : i + j ≤ 4611686018427387904) : IntKind.i64.wrap (Int.fdiv (IntKind.u64.wrap (IntKind.i64.wrap ((i : Int) + (j : Int)))) (2 ^ min (Int.toNat 1) 64)) = (((i + j) / 2 : Nat) : Int) := by
  rw [w64 (x := (i : Int) + j) (by omega) (by omega), wu64 (by omega) (by omega)]
  have e : (2 : Int) ^ min (Int.toNat 1) 64 = 2 := by decide
  rw [e, Int.fdiv_eq_ediv_of_nonneg _ (by decide), w64 (by omega) (by omega)]
  omega
variable {cmp : Value} {cf : Int → Int → Int} {D : Int → Prop}
def bf (x y : Int × Nat) : Prop := x.2 < y.2
def ltS (cf : Int → Int → Int) (x y : Int × Nat) : Prop := cf x.1 y.1 < 0 ∨ (¬ cf y.1 x.1 < 0 ∧ x.2 < y.2)
structure Cmp (P : Program) (h0 : Heap) (a : Option Addr) (cmp : Value) (cf : Int → Int → Int) (D : Int → Prop) : Prop where
  call : ∀ h2, Fr (blkA a) h0 h2 → ∀ u v, D u → D v → HCV P cmp [.int .i64 u, .int .i64 v] h2 fun w h3 => w = .int .i64 (cf u v) ∧ Ext h2 h3
  tr : ∀ x y z, D x → D y → D z → cf x y < 0 → cf y z < 0 → cf x z < 0
  asy : ∀ x y, D x → D y → cf x y < 0 → ¬ cf y x < 0
  nt : ∀ x y z, D x → D y → D z → ¬ cf x y < 0 → ¬ cf y z < 0 → ¬ cf x z < 0
structure Ok (D : Int → Prop) (M : List (Int × Nat)) : Prop where
  dom : ∀ (p : Nat) x, M[p]? = some x → D x.1
  lab : ∀ (p q : Nat) x y, p ≠ q → M[p]? = some x → M[q]? = some y → x.2 ≠ y.2
  len : M.length ≤ 1152921504606846976
theorem Ok.seg {M M' : List (Int × Nat)} {a b : Nat} (o : Ok D M) (s : Seg M M' a b) : Ok D M' := by
  have sl := s.len
  obtain ⟨u, t, _, k2, _, k4⟩ := s.ex
  refine ⟨fun p x h => o.dom (u p) x (by rw [← k4]; exact h), fun p q x y hpq hx hy => o.lab (u p) (u q) x y (fun e => hpq ?_) (by rw [← k4]; exact hx) (by rw [← k4]; exact hy), by rw [sl]; exact o.len⟩
  have := congrArg t e
  rw [k2, k2] at this; exact this
theorem lt_before {x y : Int × Nat} (h : bf x y) : ltS cf y x ↔ cf y.1 x.1 < 0 := ⟨fun q => q.resolve_right fun r => by have := r.2; unfold bf at h; omega, .inl⟩
def ltD (cf : Int → Int → Int) (D : Int → Prop) (x y : Int × Nat) : Prop := ltS cf x y ∧ D x.1 ∧ D y.1
theorem ord_of {P : Program} (C : Cmp P h0 a cmp cf D) (o : Ok D M) : Ord (ltD cf D) M := by
  refine ⟨fun x h => ?_, fun x y z h1 h2 => ⟨?_, h1.2.1, h2.2.2⟩, fun p q x y hpq hx hy => ?_⟩
  · obtain ⟨h, d, _⟩ := h
    rcases h with h | h
    · exact C.asy _ _ d d h h
    · exact absurd h.2 (Nat.lt_irrefl _)
  · obtain ⟨h1, dx, dy⟩ := h1
    obtain ⟨h2, _, dz⟩ := h2
    have key : ∀ u v w, D u → D v → D w → ¬ cf v u < 0 → cf v w < 0 → cf u w < 0 := fun u v w du dv dw q1 q2 => by
      rcases Decidable.em (cf u w < 0) with r | r
      · exact r
      · exact absurd q2 (C.nt v u w dv du dw q1 r)
    have key2 : ∀ u v w, D u → D v → D w → cf u v < 0 → ¬ cf w v < 0 → cf u w < 0 := fun u v w du dv dw q1 q2 => by
      rcases Decidable.em (cf u w < 0) with r | r
      · exact r
      · exact absurd q1 (C.nt u w v du dw dv r q2)
    rcases h1 with h1 | ⟨h1, l1⟩
    · rcases h2 with h2 | ⟨h2, _⟩
      · exact .inl (C.tr _ _ _ dx dy dz h1 h2)
      · exact .inl (key2 _ _ _ dx dy dz h1 h2)
    · rcases h2 with h2 | ⟨h2, l2⟩
      · exact .inl (key _ _ _ dx dy dz h1 h2)
      · exact .inr ⟨C.nt _ _ _ dz dy dx h2 h1, by omega⟩
  · have dx := o.dom p x hx
    have dy := o.dom q y hy
    have hl := o.lab p q x y hpq hx hy
    by_cases h1 : cf x.1 y.1 < 0
    · exact .inl ⟨.inl h1, dx, dy⟩
    · by_cases h2 : cf y.1 x.1 < 0
      · exact .inr ⟨.inl h2, dy, dx⟩
      · rcases Nat.lt_or_ge x.2 y.2 with q | q
        · exact .inl ⟨.inr ⟨h2, q⟩, dx, dy⟩
        · exact .inr ⟨.inr ⟨h1, by omega⟩, dy, dx⟩
theorem ltD_before {x y : Int × Nat} (h : bf x y) (dx : D x.1) (dy : D y.1) : ltD cf D y x ↔ cf y.1 x.1 < 0 := ⟨fun q => (lt_before h).1 q.1, fun q => ⟨(lt_before h).2 q, dy, dx⟩⟩
set_option maxHeartbeats 1600000 in
theorem swapRange_c (s : St h0 a c N T h M) (hl : M.length ≤ 1152921504606846976) {i j n : Nat} (h1 : i + n ≤ j) (h2 : j + n ≤ M.length) :
    HC Tryd.prog 116 #[.slice a M.length c, .int .i64 (i : Nat), .int .i64 (j : Nat), .int .i64 (n : Nat), cmp] h fun v h' => v = .tuple #[] ∧ ∃ M', St h0 a c N T h' M' ∧ M'.length = M.length ∧
      ∀ p : Nat, M'[p]? = M[if i ≤ p ∧ p < i + n then p + (j - i) else if j ≤ p ∧ p < j + n then p - (j - i) else p]? := by
  refine f116_sh _ _ _ _ _ _ _ _ _ ⟨fun k h1 => ∃ (k' : Nat) (C : List (Int × Nat)), k = k' ∧ k' ≤ n ∧ St h0 a c N T h1 C ∧ C.length = M.length ∧ ∀ p : Nat, C[p]? = M[if i ≤ p ∧ p < i + k' then p + (j - i) else if j ≤ p ∧ p < j + k' then p - (j - i) else p]?, fun k _ => n - k.toNat,
    ⟨0, M, rfl, Nat.zero_le _, s, rfl, fun p => by rw [if_neg (by omega), if_neg (by omega)]⟩, ?_⟩
  rintro _ hh ⟨k, C, rfl, hk, sC, lC, hC⟩
  refine ⟨fun e => ?_, fun e => ?_⟩
  · have hkn := lt_of_dec e
    have ex : ∃ x, C[i + k]? = some x := ⟨_, List.getElem?_eq_getElem (by omega)⟩
    have ey : ∃ y, C[j + k]? = some y := ⟨_, List.getElem?_eq_getElem (by omega)⟩
    obtain ⟨x, hx⟩ := ex
    obtain ⟨y, hy⟩ := ey
    rw [w64 (x := (j : Int) + k) (by omega) (by omega), w64 (x := (i : Int) + k) (by omega) (by omega)]
    have e1 : Int.toNat ((j : Int) + k) = j + k := by omega
    have e2 : Int.toNat ((i : Int) + k) = i + k := by omega
    rw [e1, e2]
    obtain ⟨b, o, ea, c1, c2, w1, w2⟩ := sC.swap hx hy
    refine ⟨b, o, ea, by omega, by omega, _, c2, by omega, by omega, _, c1, w1, fun h2' e2' => ⟨(w2 h2' e2').1, fun h3' e3' => ?_⟩⟩
    have s3 := (w2 h2' e2').2 h3' e3'
    rw [wadd k (by omega)]
    refine ⟨⟨k + 1, _, rfl, hkn, s3, by simpa using lC, fun p => ?_⟩, by simp only [Int.toNat_natCast]; omega⟩
    have key := (Seg.swap (a := 0) (b := C.length) hx hy (by omega) (by omega) (by omega) (by omega)).2 p
    rw [key, hC]
    congr 1
    (repeat' split) <;> omega
  · have hkn : k = n := by have := ge_of_dec e; omega
    subst hkn
    exact ⟨rfl, C, sC, lC, hC⟩
set_option maxHeartbeats 1600000 in
theorem rotate_c (s : St h0 a c N T h M) (hl : M.length ≤ 1152921504606846976) {i m b : Nat} (h1 : i < m) (h2 : m < b) (h3 : b ≤ M.length) :
    HC Tryd.prog 107 #[.slice a M.length c, .int .i64 (i : Nat), .int .i64 (m : Nat), .int .i64 (b : Nat), cmp] h fun v h' => v = .tuple #[] ∧ ∃ M', St h0 a c N T h' M' ∧ Rot M M' i m b := by
  refine f107_sh _ _ _ _ _ _ _ _ _ ⟨fun u v h1 => ∃ (i' j' : Nat) (C : List (Int × Nat)), u = i' ∧ v = j' ∧ 0 < i' ∧ 0 < j' ∧ i' ≤ m - i ∧ j' ≤ b - m ∧ St h0 a c N T h1 C ∧ C.length = M.length ∧ ∀ p : Nat, C[rho (m - i') m (m + j') p]? = M[rho i m b p]?, fun u v _ => u.toNat + v.toNat, ?_, ?_⟩
  · rw [w64 (x := (m : Int) - i) (by omega) (by omega), w64 (x := (b : Int) - m) (by omega) (by omega)]
    refine ⟨m - i, b - m, M, by omega, by omega, by omega, by omega, Nat.le_refl _, Nat.le_refl _, s, rfl, fun p => ?_⟩
    congr 1
    unfold rho
    (repeat' split) <;> omega
  rintro _ _ hh ⟨i', j', C, rfl, rfl, k1, k2, k3, k4, sC, lC, hC⟩
  have e1 : IntKind.i64.wrap ((m : Int) - (i' : Int)) = ((m - i' : Nat) : Int) := by rw [w64 (by omega) (by omega)]; omega
  rw [← lC]
  refine ⟨fun e => ⟨fun e2 => ?_, fun e2 => ?_⟩, fun e => ?_⟩
  · have hlt := of_decide_eq_true e2
    rw [e1]
    refine (swapRange_c sC (by omega) (i := m - i') (j := m) (n := j') (by omega) (by omega)).mono ?_
    rintro v h2' ⟨rfl, M', s', l', hM⟩
    rw [show IntKind.i64.wrap ((i' : Int) - (j' : Int)) = ((i' - j' : Nat) : Int) by rw [w64 (by omega) (by omega)]; omega]
    refine ⟨rfl, ⟨i' - j', j', M', rfl, rfl, by omega, by omega, by omega, by omega, s', by omega, ?_⟩, by simp only [Int.toNat_natCast]; omega⟩
    refine rot_step hC (by omega) k1 k2 (.inl ⟨by omega, rfl, rfl, fun p => ?_⟩)
    rw [hM]
    congr 1
    (repeat' split) <;> omega
  · have hlt := of_decide_eq_false e2
    have hne : ¬ (i' : Int) = j' := by simpa using e
    rw [e1, show IntKind.i64.wrap (IntKind.i64.wrap ((m : Int) + (j' : Int)) - (i' : Int)) = ((m + j' - i' : Nat) : Int) by rw [w64 (x := (m : Int) + j') (by omega) (by omega), w64 (by omega) (by omega)]; omega]
    refine (swapRange_c sC (by omega) (i := m - i') (j := m + j' - i') (n := i') (by omega) (by omega)).mono ?_
    rintro v h2' ⟨rfl, M', s', l', hM⟩
    rw [show IntKind.i64.wrap ((j' : Int) - (i' : Int)) = ((j' - i' : Nat) : Int) by rw [w64 (by omega) (by omega)]; omega]
    refine ⟨rfl, ⟨i', j' - i', M', rfl, rfl, by omega, by omega, by omega, by omega, s', by omega, ?_⟩, by simp only [Int.toNat_natCast]; omega⟩
    refine rot_step hC (by omega) k1 k2 (.inr ⟨by omega, rfl, rfl, fun p => ?_⟩)
    rw [hM]
    congr 1
    (repeat' split) <;> omega
  · have he : (i' : Int) = j' := by simpa using e
    have he : i' = j' := by omega
    subst he
    rw [e1]
    refine (swapRange_c sC (by omega) (i := m - i') (j := m) (n := i') (by omega) (by omega)).mono ?_
    rintro v h2' ⟨rfl, M', s', l', hM⟩
    refine ⟨rfl, rfl, M', s', rot_last hC (by omega) (by omega) fun p => ?_⟩
    rw [hM]
    congr 1
    (repeat' split) <;> omega
end
end Stb
end Go.Proofs.YthjehlocmikchaaDoor
