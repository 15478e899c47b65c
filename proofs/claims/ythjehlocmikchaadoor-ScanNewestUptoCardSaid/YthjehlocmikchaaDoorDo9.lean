import Derived.Test.YthjehlocmikchaaDoorDo6
import Derived.Test.YthjehlocmikchaaDoorDo8
namespace Go.Proofs.YthjehlocmikchaaDoor
namespace Sc
open Go
theorem ins_has (f : Fo) {D : List Fo} (s : D.Pairwise kLt) : ∃ x ∈ insF f D, x.rc.key = f.rc.key ∧ x.rc.ver ≥ f.rc.ver := by
 have h := fnd_ins (f := f) f.rc.key s
 rw [if_pos rfl] at h
 cases hq : fnd D f.rc.key with
 | none =>
  rw [hq] at h
  exact ⟨f, (fnd_mem h).1, rfl, Int.le_refl _⟩
 | some x =>
  rw [hq] at h
  simp only at h
  by_cases hv : f.rc.ver ≥ x.rc.ver
  ·rw [if_pos hv] at h; exact ⟨f, (fnd_mem h).1, rfl, Int.le_refl _⟩
  ·rw [if_neg hv] at h; exact ⟨x, (fnd_mem h).1, (fnd_mem h).2, by omega⟩
theorem ins_keep (f : Fo) {D : List Fo} (s : D.Pairwise kLt) {x : Fo} (hx : x ∈ D) : ∃ y ∈ insF f D, y.rc.key = x.rc.key ∧ y.rc.ver ≥ x.rc.ver := by
 have h := fnd_ins (f := f) x.rc.key s
 rw [fnd_self s hx] at h
 by_cases hk : f.rc.key = x.rc.key
 ·rw [if_pos hk] at h
  simp only at h
  by_cases hv : f.rc.ver ≥ x.rc.ver
  ·rw [if_pos hv] at h; exact ⟨f, (fnd_mem h).1, hk, hv⟩
  ·rw [if_neg hv] at h; exact ⟨x, (fnd_mem h).1, rfl, Int.le_refl _⟩
 ·rw [if_neg hk] at h
  exact ⟨x, (fnd_mem h).1, rfl, Int.le_refl _⟩
theorem fold_keep : ∀ (rs : List Fo) {D : List Fo}, D.Pairwise kLt → ∀ {x : Fo}, x ∈ D → ∃ y ∈ rs.foldl (fun D f => insF f D) D, y.rc.key = x.rc.key ∧ y.rc.ver ≥ x.rc.ver
 | [], _, _, x, hx => ⟨x, hx, rfl, Int.le_refl _⟩
 | f :: rs, D, s, x, hx => by
  obtain ⟨y, hy, k1, v1⟩ := ins_keep f s hx
  obtain ⟨z, hz, k2, v2⟩ := fold_keep rs (ins_sorted (f := f) s) hy
  exact ⟨z, hz, k2.trans k1, by omega⟩
theorem fold_has : ∀ (rs : List Fo) {D : List Fo}, D.Pairwise kLt → ∀ {f : Fo}, f ∈ rs → ∃ y ∈ rs.foldl (fun D f => insF f D) D, y.rc.key = f.rc.key ∧ y.rc.ver ≥ f.rc.ver
 | g :: rs, D, s, f, hf => by
  rcases List.mem_cons.1 hf with rfl | hf
  ·obtain ⟨y, hy, k1, v1⟩ := ins_has f s
   obtain ⟨z, hz, k2, v2⟩ := fold_keep rs (ins_sorted (f := f) s) hy
   exact ⟨z, hz, k2.trans k1, by omega⟩
  ·exact fold_has rs (ins_sorted (f := g) s) hf
theorem live_has {rs : List Fo} {f : Fo} (h : f ∈ rs) : ∃ y ∈ liveL rs, y.rc.key = f.rc.key ∧ y.rc.ver ≥ f.rc.ver := fold_has rs List.Pairwise.nil h
theorem fold_mem : ∀ (rs : List Fo) {D : List Fo} {x : Fo}, x ∈ rs.foldl (fun D f => insF f D) D → x ∈ rs ∨ x ∈ D
 | [], _, _, h => .inr h
 | f :: rs, D, x, h => by
  rcases fold_mem rs h with q | q
  ·exact .inl (List.mem_cons_of_mem _ q)
  ·rcases ins_mem q with rfl | q
   ·exact .inl (by simp)
   ·exact .inr q
theorem live_mem {rs : List Fo} {x : Fo} (h : x ∈ liveL rs) : x ∈ rs := (fold_mem rs h).resolve_right (by simp)
theorem recsIn_mem {Ss : List Su} {Lo : List Int} (o : IsOrd (Ss.map keyS) Lo) {f : Fo} : f ∈ recsIn Ss Lo ↔ ∃ (i : Nat) (S : Su), Ss[i]? = some S ∧ f ∈ S.recs := by
 have hp := o.perm
 rw [List.length_map] at hp
 unfold recsIn
 rw [List.mem_flatMap]
 constructor
 ·rintro ⟨i, hi, hf⟩
  have := ints_mem.1 (hp.mem_iff.1 hi)
  refine ⟨i.toNat, getS Ss i, ?_, hf⟩
  unfold getS
  rw [List.getD_eq_getElem?_getD, List.getElem?_eq_getElem (by omega)]; rfl
 ·rintro ⟨i, S, hS, hf⟩
  have hi := (List.getElem?_eq_some_iff.1 hS).1
  refine ⟨(i : Int), hp.mem_iff.2 (ints_mem.2 ⟨by omega, by omega⟩), ?_⟩
  unfold getS
  rw [Int.toNat_natCast, List.getD_eq_getElem?_getD, hS]; exact hf
section
variable {h : Heap} {a : Option Addr} {c : Nat} {K : List Sw} {Ss : List Su}
set_option maxHeartbeats 6400000 in
theorem law_newest (t : Tab h) (s : Svs h a c K Ss) (hK : K.length ≤ 1048576) (hl : allN Ss ≤ 1048576) : HC Tryd.prog 9 #[.slice a K.length c] h fun v h' => v = .bool true ∧ Ext h h' := by
 refine f9_sh _ _ _ _ _ ((awake_c t).mono ?_)
 rintro _ h1 ⟨rfl, x1⟩
 refine ⟨x1, true, rfl, fun e => (by cases e), fun _ => (deep_c (s.ext x1) hK hl).mono ?_⟩
 rintro _ h2 ⟨x2, a', c', K', rfl, hKl, sD, wD⟩
 rw [← hKl]
 refine ⟨a', _, c', rfl, (live_m sD.svs (by omega) hl).mono ?_⟩
 rw [hKl]
 rintro _ h3 ⟨x3, Lo, va, vc, hO, rfl, sv, wv⟩
 have x03 := x1.trans (x2.trans x3)
 have s3 := s.ext x03
 have hln := live_len (recsIn Ss Lo)
 rw [recsIn_len hO] at hln
 have hsrt := live_sorted (recsIn Ss Lo)
 have hhas : ∀ {i : Nat} {S : Su} {f : Fo}, Ss[i]? = some S → f ∈ S.recs → ∃ y ∈ liveL (recsIn Ss Lo), y.rc.key = f.rc.key ∧ y.rc.ver ≥ f.rc.ver := fun hS hf => live_has ((recsIn_mem hO).2 ⟨_, _, hS, hf⟩)
 have hmem : ∀ {x : Fo}, x ∈ liveL (recsIn Ss Lo) → ∃ (i : Nat) (S : Su), Ss[i]? = some S ∧ x ∈ S.recs := fun hx => (recsIn_mem hO).1 (live_mem hx)
 generalize liveL (recsIn Ss Lo) = V at *
 refine ⟨va, _, vc, rfl, fun v => ∃ k : Nat, v = k ∧ k ≤ V.length, fun v => V.length - v.toNat, ⟨0, rfl, Nat.zero_le _⟩, ?_⟩
 rintro _ ⟨k, rfl, hk⟩
 refine ⟨fun e => ?_, fun _ => ?_⟩
 ·have hkl := lt_of_dec e
  obtain ⟨vb, vo, ev, d⟩ := sv.at (List.getElem?_eq_getElem hkl)
  refine ⟨vb, vo, ev, by omega, by omega, _, _, _, _, _, _, _, d.1, d.2.1, d.2.2.1, d.2.2.2.1, d.2.2.2.2.1, d.2.2.2.2.2.1, d.2.2.2.2.2.2.1, false, ⟨fun e2 => ?_, fun _ => rfl⟩, fun e2 => (by cases e2), fun _ => ?_⟩
  ·have h0 := of_decide_eq_true e2
   have hpl : k - 1 < V.length := by omega
   rw [w64 (x := (k : Int) - 1) (by omega) (by omega)]
   obtain ⟨vb', vo', ev', d'⟩ := sv.at (List.getElem?_eq_getElem hpl)
   rw [ev] at ev'; cases ev'
   have hlt := List.pairwise_iff_getElem.1 hsrt (k - 1) k hpl hkl (by omega)
   refine ⟨by omega, by omega, V[k - 1].rc.key, ?_, by unfold kLt at hlt; rw [hlt]; rfl⟩
   rw [show Int.toNat ((k : Int) - 1) = k - 1 by omega]
   exact d'.2.2.2.2.2.1
  ·rw [wadd k (by omega)]
   exact ⟨⟨k + 1, rfl, hkl⟩, by simp only [Int.toNat_natCast]; omega⟩
 refine ⟨fun v => ∃ k : Nat, v = k ∧ k ≤ K.length, fun v => K.length - v.toNat, ⟨0, rfl, Nat.zero_le _⟩, ?_⟩
 rintro _ ⟨k, rfl, hk⟩
 refine ⟨fun e => ?_, fun _ => ?_⟩
 ·have hkl := lt_of_dec e
  obtain ⟨S, ra, rc, hS, hKk, sr⟩ := s3.get hkl
  obtain ⟨lb, lo, el, d⟩ := s3.sl.at hKk
  have hSl := recs_le hS
  refine ⟨lb, lo, el, by omega, by omega, S.rg, S.has, S.ep, S.sq, S.hr, ra, S.recs.length, rc, S.at_, S.why, S.sealed_, d.1, d.2.1, d.2.2.1, d.2.2.2.1, d.2.2.2.2.1, d.2.2.2.2.2.1, d.2.2.2.2.2.2.1, d.2.2.2.2.2.2.2.1, d.2.2.2.2.2.2.2.2.1, fun v => ∃ q : Nat, v = q ∧ q ≤ S.recs.length, fun v => S.recs.length - v.toNat, ⟨0, rfl, Nat.zero_le _⟩, ?_⟩
  rintro _ ⟨q, rfl, hq⟩
  refine ⟨fun e2 => ?_, fun _ => ?_⟩
  ·have hql := lt_of_dec e2
   have hfS : S.recs[q] ∈ S.recs := List.getElem_mem hql
   have hget : S.recs[q]? = some S.recs[q] := List.getElem?_eq_getElem hql
   generalize S.recs[q] = f at *
   obtain ⟨rb, ro, er, df⟩ := sr.at hget
   refine ⟨rb, ro, er, by omega, by omega, _, _, _, _, _, _, _, df.1, df.2.1, df.2.2.1, df.2.2.2.1, df.2.2.2.2.1, df.2.2.2.2.2.1, df.2.2.2.2.2.2.1, fun there v => ∃ m : Nat, v = m ∧ m ≤ V.length ∧ ((∃ (i : Nat) (x : Fo), i < m ∧ V[i]? = some x ∧ x.rc.key = f.rc.key ∧ x.rc.ver ≥ f.rc.ver) → there = true), fun _ v => V.length - v.toNat, ⟨0, rfl, Nat.zero_le _, fun ⟨i, x, hi, _⟩ => by omega⟩, ?_⟩
   rintro there _ ⟨m, rfl, hm, hI⟩
   refine ⟨fun e3 => ?_, fun e3 => ?_⟩
   ·have hml := lt_of_dec e3
    have hgx : V[m]? = some V[m] := List.getElem?_eq_getElem hml
    obtain ⟨vb, vo, ev, dx⟩ := sv.at hgx
    generalize V[m] = x at *
    rw [wadd m (by omega)]
    have dec : V.length - Int.toNat ((m + 1 : Nat) : Int) < V.length - Int.toNat (m : Int) := by simp only [Int.toNat_natCast]; omega
    refine ⟨vb, vo, ev, by omega, by omega, _, _, _, _, _, _, _, dx.1, dx.2.1, dx.2.2.1, dx.2.2.2.1, dx.2.2.2.2.1, dx.2.2.2.2.2.1, dx.2.2.2.2.2.2.1, fun et => ⟨⟨m + 1, rfl, hml, fun _ => rfl⟩, dec⟩, fun et => ?_⟩
    have step : ∀ {i : Nat} {y : Fo}, i < m + 1 → V[i]? = some y → y.rc.key = f.rc.key → y.rc.ver ≥ f.rc.ver → y = x := fun {i y} hi hy h1 h2 => by
     by_cases him : i < m
     ·have := hI ⟨i, y, him, hy, h1, h2⟩
      rw [this] at et; cases et
     ·have : i = m := by omega
      subst this; rw [hgx] at hy; cases hy; rfl
    refine ⟨fun ek => ⟨⟨m + 1, rfl, hml, ?_⟩, dec⟩, fun ek => ⟨⟨m + 1, rfl, hml, ?_⟩, dec⟩⟩
    ·rintro ⟨i, y, hi, hy, h1, h2⟩
     have := step hi hy h1 h2
     subst this
     exact decide_eq_true h2
    ·rintro ⟨i, y, hi, hy, h1, h2⟩
     have := step hi hy h1 h2
     subst this
     exact absurd h1 (of_decide_eq_false ek)
   ·have hml : m = V.length := by have := ge_of_dec e3; omega
    subst hml
    obtain ⟨y, hy, k1, v1⟩ := hhas hS hfS
    obtain ⟨i, hi, hyi⟩ := List.getElem_of_mem hy
    have ht := hI ⟨i, y, hi, by rw [List.getElem?_eq_getElem hi, hyi], k1, v1⟩
    subst ht
    refine ⟨fun e => (by cases e), fun _ => ?_⟩
    rw [wadd q (by omega)]
    exact ⟨⟨q + 1, rfl, hql⟩, by simp only [Int.toNat_natCast]; omega⟩
  ·rw [wadd k (by omega)]
   exact ⟨⟨k + 1, rfl, hkl⟩, by simp only [Int.toNat_natCast]; omega⟩
 refine ⟨fun v => ∃ k : Nat, v = k ∧ k ≤ V.length, fun v => V.length - v.toNat, ⟨0, rfl, Nat.zero_le _⟩, ?_⟩
 rintro _ ⟨k, rfl, hk⟩
 refine ⟨fun e => ?_, fun _ h16 x16 => ⟨rfl, x03.trans x16⟩⟩
 have hkl := lt_of_dec e
 have hxV : V[k] ∈ V := List.getElem_mem hkl
 have hgx : V[k]? = some V[k] := List.getElem?_eq_getElem hkl
 generalize V[k] = x at *
 obtain ⟨vb, vo, ev, dx⟩ := sv.at hgx
 refine ⟨vb, vo, ev, by omega, by omega, _, _, _, _, _, _, _, dx.1, dx.2.1, dx.2.2.1, dx.2.2.2.1, dx.2.2.2.2.1, dx.2.2.2.2.2.1, dx.2.2.2.2.2.2.1, fun there v => ∃ m : Nat, v = m ∧ m ≤ K.length ∧ ((∃ (i : Nat) (S : Su), i < m ∧ Ss[i]? = some S ∧ x ∈ S.recs) → there = true), fun _ v => K.length - v.toNat, ⟨0, rfl, Nat.zero_le _, fun ⟨i, S, hi, _⟩ => by omega⟩, ?_⟩
 rintro there _ ⟨m, rfl, hm, hI⟩
 refine ⟨fun e2 => ?_, fun e2 => ?_⟩
 ·have hml := lt_of_dec e2
  obtain ⟨S, ra, rc, hS, hKk, sr⟩ := s3.get hml
  obtain ⟨lb, lo, el, d⟩ := s3.sl.at hKk
  have hSl := recs_le hS
  refine ⟨lb, lo, el, by omega, by omega, S.rg, S.has, S.ep, S.sq, S.hr, ra, S.recs.length, rc, S.at_, S.why, S.sealed_, d.1, d.2.1, d.2.2.1, d.2.2.2.1, d.2.2.2.2.1, d.2.2.2.2.2.1, d.2.2.2.2.2.2.1, d.2.2.2.2.2.2.2.1, d.2.2.2.2.2.2.2.2.1, fun th v => ∃ q : Nat, v = q ∧ q ≤ S.recs.length ∧ (there = true → th = true) ∧ ((∃ i : Nat, i < q ∧ S.recs[i]? = some x) → th = true), fun _ v => S.recs.length - v.toNat, ⟨0, rfl, Nat.zero_le _, id, fun ⟨i, hi, _⟩ => by omega⟩, ?_⟩
  rintro th _ ⟨q, rfl, hq, hT, hJ⟩
  refine ⟨fun e3 => ?_, fun e3 => ?_⟩
  ·have hql := lt_of_dec e3
   have hget : S.recs[q]? = some S.recs[q] := List.getElem?_eq_getElem hql
   generalize S.recs[q] = f at *
   obtain ⟨rb, ro, er, df⟩ := sr.at hget
   rw [wadd q (by omega)]
   have dec : S.recs.length - Int.toNat ((q + 1 : Nat) : Int) < S.recs.length - Int.toNat (q : Int) := by simp only [Int.toNat_natCast]; omega
   refine ⟨rb, ro, er, by omega, by omega, _, _, _, _, _, _, _, df.1, df.2.1, df.2.2.1, df.2.2.2.1, df.2.2.2.2.1, df.2.2.2.2.2.1, df.2.2.2.2.2.2.1, fun et => ⟨⟨q + 1, rfl, hql, fun _ => rfl, fun _ => rfl⟩, dec⟩, fun et => ⟨⟨q + 1, rfl, hql, fun e => ?_, ?_⟩, dec⟩⟩
   ·have := hT e; rw [this] at et; cases et
   ·rintro ⟨i, hi, hx⟩
    by_cases hiq : i < q
    ·have := hJ ⟨i, hiq, hx⟩; rw [this] at et; cases et
    ·have : i = q := by omega
     subst this
     rw [hget] at hx; cases hx
     simp [ba_refl]
  ·have hql : q = S.recs.length := by have := ge_of_dec e3; omega
   subst hql
   rw [wadd m (by omega)]
   refine ⟨⟨m + 1, rfl, hml, ?_⟩, by simp only [Int.toNat_natCast]; omega⟩
   rintro ⟨i, S', hi, hS', hx⟩
   by_cases him : i < m
   ·exact hT (hI ⟨i, S', him, hS', hx⟩)
   ·have : i = m := by omega
    subst this
    rw [hS] at hS'; cases hS'
    obtain ⟨j, hj, e⟩ := List.getElem_of_mem hx
    exact hJ ⟨j, hj, by rw [List.getElem?_eq_getElem hj, e]⟩
 ·have hml : m = K.length := by have := ge_of_dec e2; omega
  subst hml
  obtain ⟨i, S, hS, hx⟩ := hmem hxV
  have ht := hI ⟨i, S, by have := (List.getElem?_eq_some_iff.1 hS).1; have := s3.len; omega, hS, hx⟩
  subst ht
  refine ⟨fun e => (by cases e), fun _ => ?_⟩
  rw [wadd k (by omega)]
  exact ⟨⟨k + 1, rfl, hkl⟩, by simp only [Int.toNat_natCast]; omega⟩
end
end Sc
end Go.Proofs.YthjehlocmikchaaDoor
namespace Go.Proofs.YthjehlocmikchaaDoor
namespace Sc
open Go Go.ChangeShapes Go.WideShapes Go.Deep
set_option maxRecDepth 100000 in
theorem oFo {H : Type} {enc : TypeId × Value → H} {W : World} (fuel : Nat) (cs : List Value) (x : DataW H × List MemPlace) (h : DataW.trod enc Tryd.prog W 0 (fun _ => true) true fuel 45 cs = some x) :
  ∃ r : Fo, cs = eFo.enc r ∧ True := by
 obtain ⟨ys, n, _, hx, hl, hyl, hf⟩ := DataW.trod_struct Tryd.underlying45 h
 rw [show Tryd.prog.cellsOf 45 = 7 by kernel_rfl] at hl
 match cs, hl with
 | [c0, c1, c2, c3, c4, c5, c6], _ =>
  have g0 : DataW.trod enc Tryd.prog W 0 (fun _ => true) true n 3 (([c0, c1, c2, c3, c4, c5, c6].drop 0).take (Tryd.prog.cellsOf 3)) = ys[0]? := hf 0 _ rfl
  have g1 : DataW.trod enc Tryd.prog W 0 (fun _ => true) true n 3 (([c0, c1, c2, c3, c4, c5, c6].drop 1).take (Tryd.prog.cellsOf 3)) = ys[1]? := hf 1 _ rfl
  have g2 : DataW.trod enc Tryd.prog W 0 (fun _ => true) true n 3 (([c0, c1, c2, c3, c4, c5, c6].drop 2).take (Tryd.prog.cellsOf 3)) = ys[2]? := hf 2 _ rfl
  have g3 : DataW.trod enc Tryd.prog W 0 (fun _ => true) true n 43 (([c0, c1, c2, c3, c4, c5, c6].drop 3).take (Tryd.prog.cellsOf 43)) = ys[3]? := hf 3 _ rfl
  rw [show Tryd.prog.cellsOf 3 = 1 by kernel_rfl] at g0 g1 g2
  rw [show Tryd.prog.cellsOf 43 = 4 by kernel_rfl] at g3
  match ys, hyl with
  | [y0, y1, y2, y3], _ =>
   obtain ⟨n0, e0, _, _⟩ := DataW.trod_int Tryd.underlying3 (x := y0) g0
   obtain ⟨n1, e1, _, _⟩ := DataW.trod_int Tryd.underlying3 (x := y1) g1
   obtain ⟨n2, e2, _, _⟩ := DataW.trod_int Tryd.underlying3 (x := y2) g2
   obtain ⟨r, e3, _⟩ := oRc _ _ y3 g3
   have e3' : [c3, c4, c5, c6] = [.int .i64 r.kind, .int .u64 r.ver, .string r.key, .string r.val] := e3
   simp only [List.drop_zero, List.take_succ_cons, List.take_zero, List.drop_succ_cons, List.cons.injEq, and_true] at e0 e1 e2 e3'
   obtain ⟨rfl, rfl, rfl, rfl⟩ := e3'
   exact ⟨⟨n0, n1, n2, r⟩, by rw [e0, e1, e2]; rfl, trivial⟩
def gSv {H : Type} (W : World) (y : Sw) (d : DataW H) : Prop := ∃ S ra rc, y = Su.sw S ra rc ∧ Sl eFo W.heap ra rc S.recs ∧ S.recs.length ≤ Rows.uptoBulk d
theorem bulk_pos {H : Type} (d : DataW H) : 1 ≤ Rows.uptoBulk d := by
 cases d with
 | lit l => cases l <;> simp [Rows.uptoBulk]
 | _ => simp [Rows.uptoBulk]
theorem bulk_len {H : Type} : ∀ es : List (DataW H), es.length ≤ Rows.uptoBulkAll es
 | [] => Nat.zero_le _
 | d :: es => by
  have := bulk_pos d
  have := bulk_len es
  simp only [Rows.uptoBulkAll, List.length_cons]; omega
set_option maxRecDepth 100000 in
theorem oSv {H : Type} {enc : TypeId × Value → H} {W : World} (fuel : Nat) (cs : List Value) (x : DataW H × List MemPlace) (h : DataW.trod enc Tryd.prog W 0 (fun _ => true) true fuel 36 cs = some x) :
  ∃ y : Sw, cs = eSw.enc y ∧ gSv W y x.1 := by
 obtain ⟨ys, n, _, hx, hl, hyl, hf⟩ := DataW.trod_struct Tryd.underlying36 h
 rw [show Tryd.prog.cellsOf 36 = 9 by kernel_rfl] at hl
 match cs, hl with
 | [c0, c1, c2, c3, c4, c5, c6, c7, c8], _ =>
  have g0 : DataW.trod enc Tryd.prog W 0 (fun _ => true) true n 3 (([c0, c1, c2, c3, c4, c5, c6, c7, c8].drop 0).take (Tryd.prog.cellsOf 3)) = ys[0]? := hf 0 _ rfl
  have g1 : DataW.trod enc Tryd.prog W 0 (fun _ => true) true n 4 (([c0, c1, c2, c3, c4, c5, c6, c7, c8].drop 1).take (Tryd.prog.cellsOf 4)) = ys[1]? := hf 1 _ rfl
  have g2 : DataW.trod enc Tryd.prog W 0 (fun _ => true) true n 31 (([c0, c1, c2, c3, c4, c5, c6, c7, c8].drop 2).take (Tryd.prog.cellsOf 31)) = ys[2]? := hf 2 _ rfl
  have g3 : DataW.trod enc Tryd.prog W 0 (fun _ => true) true n 32 (([c0, c1, c2, c3, c4, c5, c6, c7, c8].drop 5).take (Tryd.prog.cellsOf 32)) = ys[3]? := hf 3 _ rfl
  have g4 : DataW.trod enc Tryd.prog W 0 (fun _ => true) true n 34 (([c0, c1, c2, c3, c4, c5, c6, c7, c8].drop 6).take (Tryd.prog.cellsOf 34)) = ys[4]? := hf 4 _ rfl
  have g5 : DataW.trod enc Tryd.prog W 0 (fun _ => true) true n 4 (([c0, c1, c2, c3, c4, c5, c6, c7, c8].drop 8).take (Tryd.prog.cellsOf 4)) = ys[5]? := hf 5 _ rfl
  rw [show Tryd.prog.cellsOf 3 = 1 by kernel_rfl] at g0
  rw [show Tryd.prog.cellsOf 4 = 1 by kernel_rfl] at g1 g5
  rw [show Tryd.prog.cellsOf 31 = 3 by kernel_rfl] at g2
  rw [show Tryd.prog.cellsOf 32 = 1 by kernel_rfl] at g3
  rw [show Tryd.prog.cellsOf 34 = 2 by kernel_rfl] at g4
  match ys, hyl with
  | [y0, y1, y2, y3, y4, y5], _ =>
   obtain ⟨n0, e0, _, _⟩ := DataW.trod_int Tryd.underlying3 (x := y0) g0
   obtain ⟨n1, e1, _⟩ := DataW.trod_bool Tryd.underlying4 (x := y1) g1
   obtain ⟨q, e2, _, _⟩ := oHd _ _ y2 g2
   have g3' : DataW.trod enc Tryd.prog W 0 (fun _ => true) true n 32 [c5] = some y3 := g3
   obtain ⟨ra, rc, L, rfl, _, k2, _, k4⟩ := o_slice eFo Tryd.underlying32 (by kernel_rfl) (by decide) (fun _ => True) (fun fuel cs x h => oFo fuel cs x h) g3'
   have g4' : DataW.trod enc Tryd.prog W 0 (fun _ => true) true n 34 [c6, c7] = some y4 := g4
   obtain ⟨zs, m, _, _, _, hzl, hfz⟩ := DataW.trod_struct Tryd.underlying34 g4'
   have z0 : DataW.trod enc Tryd.prog W 0 (fun _ => true) true m 3 (([c6, c7].drop 0).take (Tryd.prog.cellsOf 3)) = zs[0]? := hfz 0 _ rfl
   have z1 : DataW.trod enc Tryd.prog W 0 (fun _ => true) true m 3 (([c6, c7].drop 1).take (Tryd.prog.cellsOf 3)) = zs[1]? := hfz 1 _ rfl
   rw [show Tryd.prog.cellsOf 3 = 1 by kernel_rfl] at z0 z1
   obtain ⟨n5, e5, _⟩ := DataW.trod_bool Tryd.underlying4 (x := y5) g5
   match zs, hzl with
   | [w0, w1], _ =>
    obtain ⟨m0, f0, _, _⟩ := DataW.trod_int Tryd.underlying3 (x := w0) z0
    obtain ⟨m1, f1, _, _⟩ := DataW.trod_int Tryd.underlying3 (x := w1) z1
    simp only [List.drop_zero, List.take_succ_cons, List.take_zero, List.drop_succ_cons, List.cons.injEq, and_true] at e0 e1 e2 e5 f0 f1
    obtain ⟨rfl, rfl, rfl⟩ := e2
    subst e0; subst e1; subst e5; subst f0; subst f1
    refine ⟨(⟨n0, n1, q.ep, q.sq, q.rg, L, m0, m1, n5⟩ : Su).sw ra rc, rfl, _, ra, rc, rfl, k2, ?_⟩
    show L.length ≤ _
    rw [hx]
    rcases k4 with k4 | ⟨es, sp, e, hes⟩
    ·omega
    ·have b1 := bulk_len es
     simp only [List.map_cons, List.map_nil, Rows.uptoBulk, Rows.uptoBulkAll, e]
     omega
theorem pick_su {H : Type} {W : World} : ∀ {K : List Sw} {es : List (DataW H)}, es.length = K.length → (∀ (i : Nat) y z, K[i]? = some y → es[i]? = some z → gSv W y z) →
  ∃ Ss : List Su, K.length = Ss.length ∧ (∀ (i : Nat) x S, K[i]? = some x → Ss[i]? = some S → ∃ ra rc, x = S.sw ra rc ∧ Sl eFo W.heap ra rc S.recs) ∧ allN Ss ≤ Rows.uptoBulkAll es
 | [], [], _, _ => ⟨[], rfl, fun i x S h => by simp at h, Nat.zero_le _⟩
 | y :: K, d :: es, hl, hg => by
  obtain ⟨Ss, k1, k2, k3⟩ := pick_su (K := K) (es := es) (by simpa using hl) fun i y z h1 h2 => hg (i + 1) y z (by simpa using h1) (by simpa using h2)
  obtain ⟨S, ra, rc, e, s, b⟩ := hg 0 y d rfl rfl
  refine ⟨S :: Ss, by simp [k1], fun i x S' h1 h2 => ?_, ?_⟩
  ·cases i with
   | zero => simp at h1 h2; subst h1; subst h2; exact ⟨ra, rc, e, s⟩
   | succ i => exact k2 i x S' (by simpa using h1) (by simpa using h2)
  ·unfold allN at k3 ⊢
   simp only [List.map_cons, List.sum_cons, Rows.uptoBulkAll]; omega
instance : Inhabited Sw := ⟨⟨0, false, 0, 0, 0, none, 0, 0, 0, 0, false⟩⟩
theorem svs_of {H : Type} {enc : TypeId × Value → H} {W : World} {a : Option Addr} {len cap : Nat} {d : DataW H} {p : List MemPlace} (h : DataW.Trod enc Tryd.prog W 0 (fun _ => true) true 65 (.slice a len cap) d p) (hk : Rows.uptoSmall H [d] = true) :
  ∃ K Ss, len = K.length ∧ Svs W.heap a cap K Ss ∧ K.length ≤ 1048576 ∧ allN Ss ≤ 1048576 := by
 obtain ⟨k1, k2, K, rfl, k4, k5⟩ := open_listT eSw Tryd.underlying65 (by kernel_rfl) (by decide) (gSv W) (fun fuel cs x h => oSv fuel cs x h) h
 have hb := of_decide_eq_true hk
 simp only [Rows.uptoBulkAll] at hb
 rcases k5 with k5 | ⟨es, sp, rfl, hes, hg⟩
 ·have : K = [] := List.length_eq_zero_iff.1 k5
  subst this
  exact ⟨[], [], rfl, ⟨k4, rfl, fun i x S h => by simp at h⟩, Nat.zero_le _, Nat.zero_le _⟩
 ·obtain ⟨Ss, m1, m2, m3⟩ := pick_su hes hg
  have := bulk_len es
  simp only [Rows.uptoBulk] at hb
  exact ⟨K, Ss, rfl, ⟨k4, m1, m2⟩, by omega, by omega⟩
end Sc
end Go.Proofs.YthjehlocmikchaaDoor
