/-
The document's Load; the law RegionLoads.
-/
import Derived.Test.YtfdgjgjcppfmiaaGZ2
namespace Go.Proofs.Ytfdgjgjcppfmiaa
namespace Mg
open Go

def Lk (G : List Inf) (k q : Nat) : Rg := ⟨(List.range G.length).map fun i => if i < k then gt G i else one, (ints q).filter (isF G), 0, -1, List.replicate G.length []⟩
theorem Lk_len {G : List Inf} {k q : Nat} : (Lk G k q).I.length = G.length := by simp [Lk]
theorem Lk_zero {G : List Inf} : Rk G.length G.length 0 = Lk G 0 0 := by
  unfold Rk Lk
  congr 1
  refine List.ext_getElem (by simp) fun i h1 h2 => ?_
  simp
theorem Lk_set {G : List Inf} {k q : Nat} (hk : k < G.length) : (Lk G k q).set (k : Int) (gt G k) = Lk G (k + 1) q := by
  unfold Lk Rg.set
  simp only [Int.toNat_natCast]
  congr 1
  refine List.ext_getElem (by simp) fun i h1 h2 => ?_
  rw [List.getElem_set]
  by_cases e : k = i
  · subst e; simp
  · rw [if_neg e]
    simp only [List.getElem_map, List.getElem_range]
    by_cases h3 : i < k
    · rw [if_pos h3, if_pos (by omega)]
    · rw [if_neg h3, if_neg (by omega)]
theorem Lk_end {G : List Inf} {last : Int} : ({ Lk G G.length G.length with last := last, cur := -1 } : Rg) = SL G last := by
  have e : ((List.range G.length).map fun i => if i < G.length then gt G i else one) = G := by
    refine List.ext_getElem (by simp) fun i h1 h2 => ?_
    simp [h2, gt_eq h2]
  unfold Lk SL
  simp only [e]
theorem isF_cast {G : List Inf} {k : Nat} : isF G (k : Int) = ((gt G k).st == 1) := by unfold isF; rw [Int.toNat_natCast]

section
variable {h : Heap} {a : Option Addr} {c : Nat} {G : List Inf}
set_option maxHeartbeats 3200000 in
theorem load_r (s : Sl eInf h a c G) (hl : G.length ≤ 1048576) (h0 : ∀ i, 0 ≤ (gt G i).sq) (last : Int) : HC Try.prog 30 #[.slice a G.length c, .int .u64 last] h fun v h' =>
    Ext h h' ∧ ((v = .tuple #[.pointer none, .int .i64 1] ∧ ¬ Good G last) ∨ (Good G last ∧ ∃ x, v = .tuple #[ptr x 0, .int .i64 0] ∧ HasR (fresh h h') h' x (SL G last))) := by
  refine f30_sh _ _ _ _ _ _ ⟨fun g => ?_, fun g => ?_⟩
  · simp only [Bool.or_eq_true, decide_eq_true_eq] at g
    exact ⟨Ext.refl _, .inl ⟨rfl, fun q => by have := q.1; have := q.2.2; omega⟩⟩
  simp only [Bool.or_eq_false_iff, decide_eq_false_iff_not] at g
  have hn : 2 ≤ G.length ∧ G.length ≤ 256 := by omega
  have hlast : last ≤ 9223372036854775807 := by omega
  refine (start_r G.length (by omega) h).mono ?_
  rintro _ h1 ⟨x1, x, rfl, R1⟩
  rw [Lk_zero] at R1
  refine ⟨_, rfl, fun i h2 => ∃ k : Nat, i = k ∧ k ≤ G.length ∧ Ext h h2 ∧ Ok last G k ∧ HasR (fresh h h2) h2 x (Lk G k k), fun i _ => G.length - i.toNat, ⟨0, rfl, Nat.zero_le _, x1, ok_zero, R1⟩, ?_⟩
  rintro _ h2 ⟨k, rfl, hk, x2, ok, la, qa, da, lc, qc, dc, Ds, M2⟩
  refine ⟨fun hlt => ?_, fun hge => ?_⟩
  · have hkl := lt_of_dec hlt
    obtain ⟨b, o, e, d⟩ := (s.ext x2).at (List.getElem?_eq_getElem hkl)
    have eg := gt_eq hkl
    refine ⟨b, o, e, by omega, by omega, _, _, _, _, d.1, d.2.1, d.2.2.1, d.2.2.2.1, ?_⟩
    rw [cond_r (by rw [← eg]; exact h0 k), show (⟨G[k].st, G[k].sq, G[k].pins, G[k].er⟩ : Inf) = gt G k from eg.symm, ← eg]
    refine ⟨fun g h4 x4 => ⟨x2.trans x4, .inl ⟨rfl, fun q => ?_⟩⟩, fun g => ?_⟩
    · have hn : ¬ Fit0 last (gt G k) := by simpa using g
      exact hn (ok_le hkl q.2.1).1
    have hf : Fit0 last (gt G k) := by simpa using g
    refine ⟨fun u => ∃ v : Nat, u = v ∧ v ≤ k ∧ ((gt G k).st = 3 → ∀ w, w < v → (gt G w).sq ≠ (gt G k).sq), fun u => k - u.toNat, ⟨0, rfl, Nat.zero_le _, fun _ w hw => by omega⟩, ?_⟩
    rintro _ ⟨v, rfl, hv, hw⟩
    refine ⟨fun hlt2 => ?_, fun hge2 => ?_⟩
    · have hvk := lt_of_dec hlt2
      obtain ⟨b', o', e', d'⟩ := (s.ext x2).at (List.getElem?_eq_getElem (show v < G.length by omega))
      rw [e] at e'; cases e'
      have ev := gt_eq (show v < G.length by omega)
      refine ⟨decide ((gt G k).st = 3 ∧ (gt G v).sq = (gt G k).sq), ⟨fun g3 => ⟨by omega, by omega, _, d'.2.1, ?_⟩, fun g3 => ?_⟩, fun g3 h4 x4 => ⟨x2.trans x4, .inl ⟨rfl, fun q => ?_⟩⟩, fun g3 => ?_⟩
      · have h3 := eq_of_beq g3
        rw [← ev, Bool.eq_iff_iff]; simp [h3]
      · have h3 : ¬ (gt G k).st = 3 := by simpa using g3
        simp [h3]
      · have h3 := of_decide_eq_true g3
        have fv := (q.2.1.1 v (by omega)).1
        have f3 := hf.1
        exact q.2.1.2 v k hvk hkl (by rcases fv with f | f <;> rcases f3 with f' | f' <;> omega) h3.1 h3.2
      · have h3 := of_decide_eq_false g3
        rw [wadd v (by omega)]
        refine ⟨⟨v + 1, rfl, hvk, fun q w hw2 => ?_⟩, by simp only [Int.toNat_natCast]; omega⟩
        by_cases hwv : w = v
        · subst hwv; exact fun q2 => h3 ⟨q, q2⟩
        · exact hw q w (by omega)
    have hvk : v = k := by have := ge_of_dec hge2; omega
    subst hvk
    have ok' : Ok last G (v + 1) := ok_succ ok hf fun h3 => by
      cases hb : seen G v (gt G v).sq with
      | false => rfl
      | true => obtain ⟨i, hi, _, e⟩ := seen_iff.1 hb; exact absurd e (hw h3 i hi)
    have lx := M2.lt _ M2.wp
    refine ⟨fun h5 => Ext h h5 ∧ HasR (fresh h h5) h5 x (Lk G v (v + 1)), ⟨fun g3 => ?_, fun g3 h4 x4 => ?_⟩, ?_⟩
    · have h3 := eq_of_beq g3
      refine ⟨x, 0, rfl, _, _, _, by rw [hcell_row M2.row]; rfl, fun xb h4 lo4 lt4 x4 nb h6 e6 eh6 => ?_⟩
      have x6 : Ext h4 h6 := by rw [eh6]; exact Ext.push _ _
      have r6 : h6[nb]? = some (.cells (([(v : Int)] : List Int).flatMap eI.enc).toArray 3 (0, 0)) := by rw [eh6]; exact push_new e6
      have hlQ : (Lk G v v).Q.length ≤ v := Nat.le_trans (List.length_filter_le _ _) (by rw [ints_len]; exact Nat.le_refl _)
      have M4 := M2.ext x4
      refine app_sl (L2 := [(v : Int)]) aI (M4.sq.ext x6) (M4.oq.ext x6) (Sl.lit (L := [(v : Int)]) r6) (Nat.zero_le _) (by simp; omega) fun a' c' h7 f7 s7 w7 b7 => ?_
      have hs2 := x2.size
      have hs4 := x4.size
      have hs6 := x6.size
      obtain ⟨j1, j2⟩ := M4.setQ ((x6.fr _).trans f7 fun _ _ s => s) s7 w7 (fun b g => (b7 b g).imp id fun q => by omega) (n' := (Lk G v v).Q.length + 1) (by simp)
      refine ⟨f7.kp (fun b hb => by rw [List.mem_singleton.1 hb]; exact fun q => by have := M2.lt _ (M2.wq _ q); omega), _, _, _, rfl, j1, fun b hb => by rw [List.mem_singleton.1 hb]; omega, fun h8 e8 => ?_⟩
      obtain ⟨M8, f8⟩ := j2 h8 e8
      have hs8 := f8.size
      have eS : ({ Lk G v v with Q := (Lk G v v).Q ++ [(v : Int)] } : Rg) = Lk G v (v + 1) := by
        unfold Lk
        simp only
        rw [ints_succ, List.filter_append]
        have : isF G (v : Int) = true := by rw [isF_cast, h3]; rfl
        simp [List.filter_cons, this]
      rw [eS] at M8
      refine ⟨(((x2.trans x4).fr _).trans f8 fun _ _ s => s).ext fun b hb g => by have := g.1; omega, _, _, _, _, _, _, _, M8.mono (fun b g => ?_) fun b g => g.2⟩
      rcases g with g | g
      · exact ⟨g.1, by have := g.2; omega⟩
      · exact ⟨by omega, g.2⟩
    · have h3 : ¬ (gt G v).st = 1 := by simpa using g3
      have eS : Lk G v v = Lk G v (v + 1) := by
        unfold Lk
        rw [ints_succ, List.filter_append]
        have : isF G (v : Int) = false := by rw [isF_cast]; simpa using h3
        simp [List.filter_cons, this]
      have hs4 := x4.size
      rw [eS] at M2
      exact ⟨x2.trans x4, _, _, _, _, _, _, _, (M2.ext x4).mono (fun b g => ⟨g.1, by have := g.2; omega⟩) fun b g => g.2⟩
    · rintro h5 ⟨x5, la, qa, da, lc, qc, dc, Ds, M5⟩ xb _ _
      obtain ⟨rb, ro, rfl, _⟩ := M5.si.addr (by rw [Lk_len]; omega)
      have hi : (Lk G v (v + 1)).inn (v : Int) := ⟨by omega, by rw [Lk_len]; omega⟩
      obtain ⟨k1, k2⟩ := M5.words hi (gt G v) (q := ro + (v : Int).toNat * 4) rfl
      refine ⟨x, 0, rfl, _, _, _, by rw [hcell_row M5.row]; rfl, rb, ro, rfl, by omega, by rw [Lk_len]; omega, k1, fun h9 e9 => ?_⟩
      obtain ⟨M9, f9⟩ := k2 h9 e9
      have hs9 := f9.size
      rw [wadd v (by omega)]
      rw [Lk_set hkl] at M9
      refine ⟨⟨v + 1, rfl, hkl, ((x5.fr _).trans f9 fun _ _ s => s).ext fun b hb g => by have := g.1; omega, ok', _, _, _, _, _, _, _, M9.mono (fun b g => ⟨g.1, by have := g.2; omega⟩) fun b g => g.2⟩, by simp only [Int.toNat_natCast]; omega⟩
  · have hkl : k = G.length := by have := ge_of_dec hge; omega
    subst hkl
    refine ⟨x, 0, rfl, HW_row M2.row (by simp), fun h10 e10 => ?_⟩
    have f10 := fr_hset_of e10
    have M10 := M2.setP (last := last) (cur := -1) f10 (by rw [e10, hset_row M2.row]; rfl)
    rw [Lk_end] at M10
    have hs := f10.size
    have hx := M2.wp.1
    exact ⟨((x2.fr _).trans f10 fun _ _ s => s).ext fun b hb g => by omega, .inr ⟨⟨hn, ok, hlast⟩, x, rfl, _, _, _, _, _, _, _, M10.mono (fun b g => ⟨g.1, by have := g.2; omega⟩) fun b g => g.2⟩⟩
end

theorem at_SL {G : List Inf} {last r : Int} : (SL G last).at r = gt G r.toNat := rfl
theorem wf_SL {G : List Inf} {last : Int} (g : Good G last) (hl : 0 ≤ last) : WF 0 (SL G last) := by
  have hin : ∀ {r}, (SL G last).inn r → 0 ≤ r ∧ r.toNat < G.length := fun {r} hr => by unfold SL Rg.inn at hr; simp only at hr; omega
  refine ⟨g.1, by simp [SL], fun x hx => ?_, by decide, fun r hr => ?_, fun r s hr hs hrs h1 h2 => ?_, ints_nodup.filter _, fun x hx => ?_, .inl rfl, hl, g.2.2⟩
  · have := List.eq_of_mem_replicate hx; subst this; simp
  · rw [at_SL]
    have f := g.2.1.1 _ (hin hr).2
    show Fit1 last _
    unfold Fit0 at f
    refine ⟨by omega, by omega, by omega, fun h => by omega, fun h => by omega⟩
  · rw [at_SL] at *
    have f1 := (g.2.1.1 _ (hin hr).2).1
    have f2 := (g.2.1.1 _ (hin hs).2).1
    have a1 := hin hr
    have a2 := hin hs
    rcases Nat.lt_or_gt_of_ne (show r.toNat ≠ s.toNat by omega) with q | q
    · exact g.2.1.2 _ _ q a2.2 (by omega) (by omega)
    · exact (g.2.1.2 _ _ q a1.2 (by omega) (by omega)).symm
  · have h1 := List.mem_filter.1 hx
    have := ints_mem.1 h1.1
    exact ⟨⟨this.1, this.2⟩, by rw [at_SL]; exact eq_of_beq h1.2⟩

theorem Pair.fr {N : Nat} {h h' : Heap} {p x : Nat} {S : Rg} (P : Pair N h p x S) {Z : Nat → Prop} (f : Fr Z h h') (hz : ∀ b, Z b → b < N) : Pair N h' p x S :=
  let ⟨W, V, a, b, c, d, e⟩ := P
  ⟨W, V, a.fr f fun b g q => by have := hz b q; have := d b g; omega, b.fr f fun b g q => by have := hz b q; have := e b g; omega, c, d, e⟩

section
variable {h : Heap} {a a2 : Option Addr} {c c2 : Nat} {G : List Inf} {L : List Op}
set_option maxHeartbeats 3200000 in
theorem law_loads {last : Int} (sg : Sl eInf h a c G) (hG : G.length ≤ 1048576) (h0 : ∀ i, 0 ≤ (gt G i).sq) (hlast : 0 ≤ last) (s : Sl eOp h a2 c2 L) (hl : L.length ≤ 1048576) :
    HC Try.prog 8 #[.slice a G.length c, .int .u64 last, .slice a2 L.length c2] h fun v h' => v = .bool true ∧ Ext h h' := by
  refine f8_sh _ _ _ _ _ _ _ _ _ ((lives_c h).mono ?_)
  rintro _ h1 ⟨rfl, x1⟩
  refine ⟨_, rfl, fun g => (by cases g), fun _ nb h2 e2 eh2 => ?_⟩
  have x2 : Ext h1 h2 := by rw [eh2]; exact Ext.push _ _
  have r2 : h2[nb]? = some (.cells (([] : List Inf).flatMap eInf.enc).toArray tI (0, 0)) := by rw [eh2]; exact push_new e2
  clear eh2
  have s1 := x1.size
  have s2 := x2.size
  refine app_own (n := 0) aInf (x1.trans x2) (Sl.lit (L := []) r2) (Own.lit (L := []) (N := h.size) r2 (by omega)) rfl (sg.ext (x1.trans x2)) rfl (by omega) fun a3 c3 h3 x3 _ s3 w3 _ => ?_
  simp only [List.nil_append, Nat.zero_add] at s3
  refine ⟨_, _, _, rfl, ?_⟩
  rw [Nat.zero_add]
  refine (load_m s3 hG h0 last).mono ?_
  rintro v h4 ⟨x4, hm⟩
  have hr := load_r (sg.ext (x3.trans x4)) hG h0 last
  rcases hm with ⟨rfl, hn⟩ | ⟨good, p, rfl, H⟩
  · refine ⟨_, _, rfl, hr.mono ?_⟩
    rintro _ h5 ⟨x5, ⟨rfl, _⟩ | ⟨q, _⟩⟩
    · exact ⟨_, _, rfl, fun g => by simp at g, fun _ => ⟨fun _ => ⟨rfl, x3.trans (x4.trans x5)⟩, fun g => by simp at g⟩⟩
    · exact absurd q hn
  refine ⟨_, _, rfl, hr.mono ?_⟩
  rintro _ h5 ⟨x5, ⟨_, q⟩ | ⟨_, x, rfl, R⟩⟩
  · exact absurd good q
  have P5 := pair_new H x4 R x5
  have s3' := x3.size
  have s4 := x4.size
  have s5 := x5.size
  have hg := good.1
  have w0 := wf_SL good hlast
  refine ⟨_, _, rfl, fun g => by simp at g, fun _ => ⟨fun g => by simp at g, fun _ => ?_⟩⟩
  refine ⟨fun i h6 => ∃ (k : Nat) (M' : List Inf), i = k ∧ k ≤ G.length ∧ M'.length = G.length ∧ Pair h3.size h6 p x (SL G last) ∧ Sl eInf h6 a3 c3 M' ∧ Own eInf.k tI h.size h6 a3 c3 ∧ Ext h h6, fun i _ => G.length - i.toNat,
    ⟨0, G, rfl, Nat.zero_le _, rfl, P5, s3.ext (x4.trans x5), w3.ext (x4.trans x5), x3.trans (x4.trans x5)⟩, ?_⟩
  rintro _ h6 ⟨k, M', rfl, hk, hM, P6, s6, w6, x6⟩
  refine ⟨fun hlt => ?_, fun hge => ?_⟩
  · have hkl := lt_of_dec hlt
    obtain ⟨ab, ao, rfl, _⟩ := s6.addr (by omega)
    obtain ⟨k1, k2⟩ := s6.words w6 (i := k) (by omega) ⟨9, 1, 0, 0⟩ (p := ao + (k : Int).toNat * 4) rfl
    refine ⟨ab, ao, rfl, by omega, by omega, k1, fun h7 e7 => ?_⟩
    obtain ⟨s7, w7, f7⟩ := k2 h7 e7
    have hab : ab < h3.size := (w3.low (b := ab) (blkA_some.2 rfl)).2
    have hab2 : h.size ≤ ab := (w3.low (b := ab) (blkA_some.2 rfl)).1
    rw [wadd k (by omega)]
    exact ⟨⟨k + 1, _, rfl, hkl, by simpa using hM, P6.fr f7 (fun b q => by omega), s7, w7, ((x6.fr _).trans f7 fun _ _ s => s).ext fun b hb q => by omega⟩, by simp only [Int.toNat_natCast]; omega⟩
  refine (looks_c P6 w0 (by omega)).mono ?_
  rintro _ h8 ⟨rfl, P8, f8⟩
  refine ⟨true, rfl, fun g => (by cases g), fun _ => ?_⟩
  have x8 : Ext h h8 := ((x6.fr _).trans f8 fun _ _ s => s).ext fun b hb g => by omega
  refine ⟨fun i h9 => ∃ (k : Nat) (S : Rg), i = k ∧ k ≤ L.length ∧ Pair h3.size h9 p x S ∧ WF k S ∧ Ext h h9, fun i _ => L.length - i.toNat, ⟨0, _, rfl, Nat.zero_le _, P8, w0, x8⟩, ?_⟩
  rintro _ h9 ⟨k, S, rfl, hk, P9, w9, x9⟩
  refine ⟨fun hlt => ?_, fun hge => ?_⟩
  · have hkl := lt_of_dec hlt
    obtain ⟨b, o, e, d⟩ := (s.ext x9).at (List.getElem?_eq_getElem hkl)
    refine ⟨b, o, e, by omega, by omega, _, _, _, d.1, d.2.1, d.2.2.1, (step_c P9 w9 (by omega) _ _ _).mono ?_⟩
    rintro _ h10 ⟨rfl, S', P10, w10, _, f10⟩
    refine ⟨_, rfl, fun g => (by cases g), fun _ => ?_⟩
    rw [wadd k (by omega)]
    exact ⟨⟨k + 1, S', rfl, hkl, P10, w10, ((x9.fr _).trans f10 fun _ _ s => s).ext fun b hb g => by omega⟩, by simp only [Int.toNat_natCast]; omega⟩
  · refine (looks_c P9 w9 (by omega)).mono ?_
    rintro _ h11 ⟨rfl, _, f11⟩
    exact ⟨_, rfl, rfl, ((x9.fr _).trans f11 fun _ _ s => s).ext fun b hb g => by omega⟩
end
end Mg
end Go.Proofs.Ytfdgjgjcppfmiaa
