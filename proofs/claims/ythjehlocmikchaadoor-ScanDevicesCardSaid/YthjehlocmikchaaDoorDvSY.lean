import Derived.Test.YthjehlocmikchaaDoorDvSX
namespace Go.Proofs.YthjehlocmikchaaDoor
namespace Sc
open Go
theorem le_leb : ∀ (k : Nat) (n : Int), 0 ≤ n → n < 256 ^ k → le (leb k n) = n
 | 0, n, h0, h1 => by simp at h1; simp [leb, le]; omega
 | k + 1, n, h0, h1 => by
  rw [Int.pow_succ] at h1
  simp only [leb, le]
  rw [le_leb k (n / 256) (by omega) (by omega)]
  omega
theorem drop_len {α : Type} {P Q : List α} {n : Nat} (h : P.length = n) : (P ++ Q).drop n = Q := by rw [← h, List.drop_left]
theorem take_len {α : Type} {P Q : List α} {n : Nat} (h : P.length = n) : (P ++ Q).take n = P := by rw [← h, List.take_left]
theorem toL_ofL_take (b : ByteArray) (Q : List Int) : ofL ((toL b ++ Q).take b.size) = b := by rw [take_len (toL_len b), ofL_toL]
theorem rc_back {g : Geo} {salt : Int} {r : Rc} {Q : List Int} (he : encE g r = 0) (hv : 0 ≤ r.ver ∧ r.ver < 18446744073709551616) :
  recOk g salt (encR salt r ++ Q) ∧ rcOf (encR salt r ++ Q) = r ∧ szR (encR salt r ++ Q) = (encR salt r).length := by
 have hk : kindOk r := by
  unfold encE at he
  split at he
  ·cases he
  ·split at he
   ·cases he
   ·rename_i q; exact Decidable.not_not.1 q
 have hz : szE g r.key.size r.val.size = 0 := by
  unfold encE at he
  split at he
  ·cases he
  ·first
    | exact he
    | (rw [if_neg (not_not_intro hk)] at he; exact he)
 obtain ⟨hg, k1, k2, v1, v2, v3⟩ := sz_bounds hz
 have e2 : ((encR salt r ++ Q).drop 2).take 2 = leb 2 r.key.size := rfl
 have e4 : ((encR salt r ++ Q).drop 4).take 4 = leb 4 r.val.size := rfl
 have e8 : ((encR salt r ++ Q).drop 8).take 8 = leb 8 r.ver := rfl
 have e24 : (encR salt r ++ Q).drop 24 = toL r.key ++ (toL r.val ++ Q) := by
  rw [← List.append_assoc]; rfl
 have hkL : kL (encR salt r ++ Q) = r.key.size := by unfold kL; rw [e2, le_leb _ _ (by omega) (by omega)]; omega
 have hvL : vL (encR salt r ++ Q) = r.val.size := by unfold vL; rw [e4, le_leb _ _ (by omega) (by omega)]; omega
 have hsz : szR (encR salt r ++ Q) = (encR salt r).length := by unfold szR; rw [hkL, hvL, encR_len]
 have hrc : rcOf (encR salt r ++ Q) = r := by
  unfold rcOf
  rw [hkL, hvL, e8, le_leb _ _ hv.1 (by omega), e24, toL_ofL_take, ← List.drop_drop, e24, drop_len (toL_len r.key), toL_ofL_take]
  rfl
 refine ⟨⟨⟨?_, ?_⟩, ?_, ?_⟩, hrc, hsz⟩
 ·rw [List.length_append, encR_len]; omega
 ·rw [hsz, List.length_append]; omega
 ·rw [hrc]; exact he
 ·rw [hrc, hsz, List.take_left]
theorem hd_back {g : Geo} {x : Hd} {Q : List Int} (hg : Gok g) (ok : hdOk g x) (he : 0 ≤ x.ep ∧ x.ep < 18446744073709551616) (hq : 0 ≤ x.sq ∧ x.sq < 18446744073709551616) : headD g (encH g x ++ Q) = some x := by
 have hr := ok
 have hg3 := hg.2.2.1
 have e1 : hdOf (encH g x ++ Q) = x := by
  have h8 : ((encH g x ++ Q).drop 8).take 8 = leb 8 x.ep := rfl
  have h16 : ((encH g x ++ Q).drop 16).take 8 = leb 8 x.sq := rfl
  have h24 : ((encH g x ++ Q).drop 24).take 4 = leb 4 x.rg := rfl
  unfold hdOf
  rw [h8, h16, h24, le_leb _ _ he.1 (by omega), le_leb _ _ hq.1 (by omega), le_leb _ _ ok.1 (by have := ok.2.1; omega)]
 unfold headD
 rw [e1, if_pos ⟨hg, by rw [List.length_append, encH_len]; omega, ok, by rw [take_len (encH_len g x)]⟩]
theorem goOn_fuel {g : Geo} (hg : Gok g) {salt rg : Int} {L : List Int} : ∀ (n m : Nat) (p : Int), 0 ≤ p → (L.length : Int) ≤ n + p → (L.length : Int) ≤ m + p → goOn g salt rg L n p = goOn g salt rg L m p
 | 0, m, p, h0, h1, _ => by rw [goOn_far (n := m) (by omega), goOn_far (by omega)]
 | n + 1, 0, p, h0, _, h2 => by rw [goOn_far (n := n + 1) (by omega), goOn_far (by omega)]
 | n + 1, m + 1, p, h0, h1, h2 => by
  have b := ok_bounds hg
  unfold goOn
  split
  ·rfl
  ·split
   ·have m1 := Int.emod_add_mul_ediv p g.page
    have m3 := Int.emod_lt_of_pos p (show 0 < g.page by omega)
    have e5 : (p / g.page + 1) * g.page = g.page * (p / g.page) + g.page := by rw [Int.add_mul, Int.one_mul, Int.mul_comm]
    exact goOn_fuel hg n m _ (by omega) (by omega) (by omega)
   ·split
    ·rfl
    ·split
     ·have up := upTo_ge (n := p + (szR (L.drop p.toNat) : Int)) (al := g.al) (by omega)
      have hz2 : (24 : Nat) ≤ szR (L.drop p.toNat) := by unfold szR; omega
      simp only
      rw [goOn_fuel hg n m _ (by omega) (by omega) (by omega)]
     ·rfl
structure LS where
 P : List Int
 at_ : Int
 out : List Fo
def nxt (g : Geo) (e : Int) (gap : Bool) : Int := if gap then upTo (upTo e g.al) g.page else upTo e g.al
def lays (g : Geo) (salt : Int) (s : LS) (r : Rc) : Prop := encE g r = 0 ∧ ((encR salt r).length : Int) ≤ g.sz - 24 - s.at_
instance (g : Geo) (salt : Int) (s : LS) (r : Rc) : Decidable (lays g salt s r) := by unfold lays; infer_instance
def layOne (g : Geo) (salt rg : Int) (s : LS) (r : Rc) (gap : Bool) : LS :=
 if lays g salt s r then
  ⟨s.P ++ encR salt r ++ List.replicate (min (nxt g (s.at_ + (encR salt r).length) gap) (g.sz - 24) - (s.at_ + (encR salt r).length)).toNat 0, nxt g (s.at_ + (encR salt r).length) gap, s.out ++ [⟨rg, s.at_, (encR salt r).length, r⟩]⟩
 else s
def lay0 (g : Geo) (x : Hd) : LS := ⟨encH g x ++ List.replicate (fst0 g - 32).toNat 0, fst0 g, []⟩
def layTo (g : Geo) (x : Hd) (rs : List Rc) (gaps : List Bool) : Nat → LS
 | 0 => lay0 g x
 | k + 1 => match rs[k]? with
  | some r => layOne g (x.sq % 4294967296) x.rg (layTo g x rs gaps k) r (gaps.getD k false)
  | none => layTo g x rs gaps k
def layImg (g : Geo) (P : List Int) : List Int := P ++ List.replicate (g.sz - P.length).toNat 255
structure Laid (g : Geo) (x : Hd) (s : LS) (q : Bool) : Prop where
 head : ∃ Q, s.P = encH g x ++ Q
 byte : isB s.P
 len : (s.P.length : Int) = min s.at_ (g.sz - 24)
 lo : fst0 g ≤ s.at_
 hi : s.at_ ≤ g.sz + 8192
 walk : ∀ Y : List Int, ((s.P ++ Y).length : Int) = g.sz → (goOn g (x.sq % 4294967296) x.rg (s.P ++ Y) (s.P ++ Y).length (fst0 g)).1 = s.out ++ (goOn g (x.sq % 4294967296) x.rg (s.P ++ Y) (s.P ++ Y).length s.at_).1 ∧
  (goOn g (x.sq % 4294967296) x.rg (s.P ++ Y) (s.P ++ Y).length (fst0 g)).2.2 = (goOn g (x.sq % 4294967296) x.rg (s.P ++ Y) (s.P ++ Y).length s.at_).2.2 ∧
  (q = true → (goOn g (x.sq % 4294967296) x.rg (s.P ++ Y) (s.P ++ Y).length (fst0 g)).2.1 = (goOn g (x.sq % 4294967296) x.rg (s.P ++ Y) (s.P ++ Y).length s.at_).2.1)
theorem isB_rep (n : Nat) (b : Int) (h : 0 ≤ b ∧ b < 256) : isB (List.replicate n b) := fun x hx => by rw [(List.mem_replicate.1 hx).2]; exact h
theorem laid0 {g : Geo} {x : Hd} (hg : Gok g) : Laid g x (lay0 g x) true := by
 have b := ok_bounds hg
 have fb := fst_bounds hg
 refine ⟨⟨_, rfl⟩, isB_app (encH_isB hg x) (isB_rep _ _ ⟨by decide, by decide⟩), ?_, Int.le_refl _, ?_, fun Y _ => ⟨rfl, rfl, fun _ => rfl⟩⟩
 ·show ((encH g x ++ List.replicate (fst0 g - 32).toNat 0).length : Int) = min (fst0 g) (g.sz - 24)
  rw [List.length_append, encH_len, List.length_replicate]; omega
 ·show fst0 g ≤ g.sz + 8192
  omega
theorem page_up {p u : Int} (hp : 1 ≤ p) (hu : 0 ≤ u) : upTo u p = u ∨ (u < upTo u p ∧ upTo u p = (u / p + 1) * p) := by
 have up := upTo_ge (n := u) (al := p) hp
 have m1 := Int.emod_add_mul_ediv u p
 have m2 := Int.emod_nonneg u (show p ≠ 0 by omega)
 have m3 := Int.emod_lt_of_pos u (show 0 < p by omega)
 have e5 : (u / p + 1) * p = p * (u / p) + p := by rw [Int.add_mul, Int.one_mul, Int.mul_comm]
 by_cases h : u % p = 0
 ·left; exact (upTo_first hp (Int.le_refl _) up.1 h).symm
 ·right
  have e6 : ((u / p + 1) * p) % p = 0 := Int.mul_emod_left _ _
  have e7 : upTo u p = (u / p + 1) * p := by
   refine (upTo_first hp (by omega) ?_ e6).symm
   rcases Int.lt_or_le (upTo u p) ((u / p + 1) * p) with q | q
   ·exfalso
    obtain ⟨z, hz⟩ := Int.dvd_of_emod_eq_zero up.2.2
    rw [hz] at q up
    have : p * z < p * (u / p + 1) := by rw [Int.mul_comm p (u / p + 1)]; exact q
    have h9 := Int.lt_of_mul_lt_mul_left this (by omega)
    have : p * z ≤ p * (u / p) := Int.mul_le_mul_of_nonneg_left (by omega) (by omega)
    have : p * z = u := by omega
    rw [← this] at h
    exact h (Int.mul_emod_right _ _)
   ·exact q
  exact ⟨by omega, e7⟩
theorem getD_mid {P Q : List Int} {k : Nat} (h : P.length ≤ k) : (P ++ Q).getD k 0 = Q.getD (k - P.length) 0 := by
 rw [List.getD_eq_getElem?_getD, List.getElem?_append_right h, ← List.getD_eq_getElem?_getD]
theorem laidOne {g : Geo} {x : Hd} {s : LS} {q : Bool} {r : Rc} {gap : Bool} (hg : Gok g) (I : Laid g x s q) (hv : 0 ≤ r.ver ∧ r.ver < 18446744073709551616) : Laid g x (layOne g (x.sq % 4294967296) x.rg s r gap) (q && !gap) := by
 have b := ok_bounds hg
 have fb := fst_bounds hg
 unfold layOne
 split
 rotate_left
 ·exact ⟨I.head, I.byte, I.len, I.lo, I.hi, fun Y hY => ⟨(I.walk Y hY).1, (I.walk Y hY).2.1, fun h => (I.walk Y hY).2.2 (by simp at h; exact h.1)⟩⟩
 rename_i hl
 obtain ⟨he, hn⟩ := hl
 have hk : kindOk r := by
  unfold encE at he
  split at he
  ·cases he
  ·split at he
   ·cases he
   ·rename_i q; exact Decidable.not_not.1 q
 generalize hsalt : x.sq % 4294967296 = salt at *
 generalize hE : (encR salt r).length = n at *
 have hn24 : 24 ≤ n := by rw [← hE, encR_len]; omega
 have hlen : (s.P.length : Int) = s.at_ := by rw [I.len]; omega
 have up := upTo_ge (n := s.at_ + n) (al := g.al) (by omega)
 have up2 := upTo_ge (n := upTo (s.at_ + n) g.al) (al := g.page) (by omega)
 have hnx : s.at_ + n ≤ nxt g (s.at_ + n) gap ∧ nxt g (s.at_ + n) gap < g.sz + 8192 := by unfold nxt; split <;> omega
 refine ⟨?_, ?_, ?_, ?_, ?_, ?_⟩
 ·obtain ⟨Q, hQ⟩ := I.head
  exact ⟨_, by show s.P ++ _ ++ _ = _; rw [hQ, List.append_assoc, List.append_assoc]⟩
 ·exact isB_app (isB_app I.byte (encR_isB hk)) (isB_rep _ _ ⟨by decide, by decide⟩)
 ·show ((s.P ++ _ ++ List.replicate _ _).length : Int) = min (nxt g (s.at_ + n) gap) (g.sz - 24)
  rw [List.length_append, List.length_append, hE, List.length_replicate]; omega
 ·show fst0 g ≤ nxt g (s.at_ + n) gap
  have := I.lo; omega
 ·show nxt g (s.at_ + n) gap ≤ g.sz + 8192
  omega
 ·rw [hsalt]
  intro Y hY
  have hlo := I.lo
  generalize hz : (min (nxt g (s.at_ + n) gap) (g.sz - 24) - (s.at_ + n)).toNat = z at *
  simp only at hY ⊢
  have eX : s.P ++ encR salt r ++ List.replicate z 0 ++ Y = s.P ++ (encR salt r ++ (List.replicate z 0 ++ Y)) := by simp only [List.append_assoc]
  have hW := I.walk (encR salt r ++ (List.replicate z 0 ++ Y)) (by rw [← eX]; exact hY)
  rw [← eX] at hW
  rw [hsalt] at hW
  have eD : (s.P ++ encR salt r ++ List.replicate z 0 ++ Y).drop s.at_.toNat = encR salt r ++ (List.replicate z 0 ++ Y) := by
   rw [eX]; exact drop_len (by omega)
  obtain ⟨k1, k2, k3⟩ := rc_back (Q := List.replicate z 0 ++ Y) (salt := salt) he hv
  have eK : (s.P ++ encR salt r ++ List.replicate z 0 ++ Y).getD s.at_.toNat 0 = r.kind := by
   rw [eX, getD_mid (by omega), show s.at_.toNat - s.P.length = 0 by omega]; rfl
  have hu : ∀ (k : Nat), s.P.length + n ≤ k → k < s.P.length + n + z → (s.P ++ encR salt r ++ List.replicate z 0 ++ Y).getD k 0 = 0 := fun k a1 a2 => by
   rw [List.append_assoc, getD_mid (by rw [List.length_append, hE]; omega), List.getD_eq_getElem?_getD, List.getElem?_append_left (by rw [List.length_append, hE, List.length_replicate]; omega), List.getElem?_replicate]
   split <;> rfl
  generalize (s.P ++ encR salt r ++ List.replicate z 0 ++ Y) = X at *
  have hF : X.length = X.length - 1 + 1 := by omega
  have hstep : goOn g salt x.rg X X.length s.at_ = (⟨x.rg, s.at_, n, r⟩ :: (goOn g salt x.rg X X.length (upTo (s.at_ + n) g.al)).1, (goOn g salt x.rg X X.length (upTo (s.at_ + n) g.al)).2) := by
   have h1 : ¬ s.at_ > X.length - 48 := by omega
   have h2 : ¬ X.getD s.at_.toNat 0 = 0 := by rw [eK]; rcases hk with q | q <;> omega
   have h3 : ¬ X.getD s.at_.toNat 0 = 255 := by rw [eK]; rcases hk with q | q <;> omega
   conv => lhs; rw [hF]
   rw [goOn, if_neg h1, if_neg h2, if_neg h3, if_pos (by rw [eD]; exact k1), eD, k2, k3, hE]
   simp only
   rw [goOn_fuel hg (X.length - 1) X.length _ (by omega) (by omega) (by omega)]
  rw [hstep] at hW
  simp only at hW
  have hgap : (goOn g salt x.rg X X.length (upTo (s.at_ + n) g.al)).1 = (goOn g salt x.rg X X.length (nxt g (s.at_ + n) gap)).1 ∧ (goOn g salt x.rg X X.length (upTo (s.at_ + n) g.al)).2.2 = (goOn g salt x.rg X X.length (nxt g (s.at_ + n) gap)).2.2 ∧ (gap = false → (goOn g salt x.rg X X.length (upTo (s.at_ + n) g.al)).2.1 = (goOn g salt x.rg X X.length (nxt g (s.at_ + n) gap)).2.1) := by
   cases gap with
   | false => exact ⟨rfl, rfl, fun _ => rfl⟩
   | true =>
    unfold nxt at hz ⊢
    rw [if_pos rfl] at hz ⊢
    rcases page_up (p := g.page) (u := upTo (s.at_ + n) g.al) (by omega) (by omega) with e | ⟨e1, e2⟩
    ·rw [e]; exact ⟨rfl, rfl, fun _ => rfl⟩
    ·by_cases hfar : upTo (s.at_ + n) g.al > X.length - 48
     ·rw [goOn_far hfar, goOn_far (by omega)]
      exact ⟨rfl, rfl, fun e => by cases e⟩
     ·have h0 : X.getD (upTo (s.at_ + n) g.al).toNat 0 = 0 := hu _ (by omega) (by omega)
      have : goOn g salt x.rg X X.length (upTo (s.at_ + n) g.al) = goOn g salt x.rg X X.length (upTo (upTo (s.at_ + n) g.al) g.page) := by
       conv => lhs; rw [hF]
       rw [goOn, if_neg hfar, if_pos h0, ← e2]
       exact goOn_fuel hg _ _ _ (by omega) (by omega) (by omega)
      rw [this]; exact ⟨rfl, rfl, fun e => by cases e⟩
  refine ⟨?_, hW.2.1.trans hgap.2.1, fun h => ?_⟩
  ·rw [hW.1, hgap.1, List.append_assoc]; rfl
  ·simp only [Bool.and_eq_true, Bool.not_eq_true'] at h
   exact (hW.2.2 h.1).trans (hgap.2.2 h.2)
theorem laidTo {g : Geo} {x : Hd} {rs : List Rc} {gaps : List Bool} (hg : Gok g) (hv : ∀ r ∈ rs, 0 ≤ r.ver ∧ r.ver < 18446744073709551616) : ∀ k, ∃ q, Laid g x (layTo g x rs gaps k) q ∧ (gaps = [] → q = true)
 | 0 => ⟨true, laid0 hg, fun _ => rfl⟩
 | k + 1 => by
  obtain ⟨q, I, hq⟩ := laidTo (gaps := gaps) hg hv k
  unfold layTo
  cases hr : rs[k]? with
  | none => exact ⟨q, I, hq⟩
  | some r => exact ⟨_, laidOne hg I (hv r (List.mem_of_getElem? hr)), fun e => by rw [hq e, e]; rfl⟩
theorem img_len {g : Geo} {P : List Int} (h : (P.length : Int) ≤ g.sz) : ((layImg g P).length : Int) = g.sz := by
 unfold layImg; rw [List.length_append, List.length_replicate]; omega
theorem law_back {g : Geo} {x : Hd} {s : LS} {q : Bool} (hg : Gok g) (I : Laid g x s q) (ok : hdOk g x) (he : 0 ≤ x.ep ∧ x.ep < 18446744073709551616) (hq : 0 ≤ x.sq ∧ x.sq < 18446744073709551616) :
  ∃ S, surOf g x.rg (layImg g s.P) = (S, 0) ∧ S.has = true ∧ S.ep = x.ep ∧ S.sq = x.sq ∧ S.hr = x.rg ∧ S.recs = s.out ∧ (S.why = 2 ∨ S.why = 4) ∧ (q = true → s.at_ ≤ g.sz - 48 → S.at_ = s.at_ ∧ S.why = 2) := by
 have b := ok_bounds hg
 have fb := fst_bounds hg
 have hPl := I.len
 have hlen := img_len (g := g) (P := s.P) (by omega)
 obtain ⟨Q, hQ⟩ := I.head
 have hhd : headD g (layImg g s.P) = some x := by
  unfold layImg; rw [hQ, List.append_assoc]; exact hd_back hg ok he hq
 refine ⟨surGo g x.rg x (layImg g s.P), ?_, rfl, rfl, rfl, rfl, ?_⟩
 ·unfold surOf
  rw [if_neg (not_not_intro hg), if_neg (by have := ok.1; have := ok.2.1; omega), hhd]
  simp only
  rw [if_neg (by simp)]
 ·have hW := I.walk (List.replicate (g.sz - s.P.length).toNat 255) hlen
  change (goOn g _ x.rg (layImg g s.P) (layImg g s.P).length (fst0 g)).1 = s.out ++ (goOn g _ x.rg (layImg g s.P) (layImg g s.P).length s.at_).1 ∧ (goOn g _ x.rg (layImg g s.P) (layImg g s.P).length (fst0 g)).2.2 = (goOn g _ x.rg (layImg g s.P) (layImg g s.P).length s.at_).2.2 ∧ (q = true → (goOn g _ x.rg (layImg g s.P) (layImg g s.P).length (fst0 g)).2.1 = (goOn g _ x.rg (layImg g s.P) (layImg g s.P).length s.at_).2.1) at hW
  show (goOn g _ x.rg (layImg g s.P) (layImg g s.P).length (fst0 g)).1 = _ ∧ ((goOn g _ x.rg (layImg g s.P) (layImg g s.P).length (fst0 g)).2.2 = 2 ∨ (goOn g _ x.rg (layImg g s.P) (layImg g s.P).length (fst0 g)).2.2 = 4) ∧ (_ → _ → (goOn g _ x.rg (layImg g s.P) (layImg g s.P).length (fst0 g)).2.1 = _ ∧ (goOn g _ x.rg (layImg g s.P) (layImg g s.P).length (fst0 g)).2.2 = _)
  rw [hW.1, hW.2.1]
  have hlo := I.lo
  by_cases hfar : s.at_ > (layImg g s.P).length - 48
  ·rw [goOn_far hfar] at hW ⊢
   exact ⟨by simp, .inr rfl, fun _ h => by omega⟩
  ·have h255 : (layImg g s.P).getD s.at_.toNat 0 = 255 := by
    unfold layImg
    rw [getD_mid (by omega), List.getD_eq_getElem?_getD, List.getElem?_replicate, if_pos (by omega)]; rfl
   have e : goOn g (x.sq % 4294967296) x.rg (layImg g s.P) (layImg g s.P).length s.at_ = ([], s.at_, 2) := by
    rw [show (layImg g s.P).length = (layImg g s.P).length - 1 + 1 by omega, goOn]
    rw [if_neg hfar, if_neg (by rw [h255]; decide), if_pos h255]
   rw [e] at hW ⊢
   exact ⟨by simp, .inl rfl, fun h _ => ⟨hW.2.2 h, rfl⟩⟩
end Sc
end Go.Proofs.YthjehlocmikchaaDoor
