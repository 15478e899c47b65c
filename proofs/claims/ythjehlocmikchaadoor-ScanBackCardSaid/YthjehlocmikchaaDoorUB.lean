/-
The laws of surveys and of what is laid, over heaps.
-/
import Derived.Test.YthjehlocmikchaaDoorUA
namespace Go.Proofs.YthjehlocmikchaaDoor
namespace Sc
open Go
theorem ba_refl (a : ByteArray) : (a == a) = true := by
  obtain ⟨x⟩ := a
  show (x == x) = true
  simp
section
variable {h : Heap} {a b : Option Addr} {c d : Nat}
theorem copied_c {L : List Int} (s : Sl eB h a c L) (hl : L.length ≤ 140737488355328) : HC Tryd.prog 11 #[.slice a L.length c] h fun v h' => ∃ a' c', v = .slice a' L.length c' ∧ Ext h h' ∧ Sl eB h' a' c' L ∧ Own eB.k tB h.size h' a' c' := by
  refine f11_sh _ _ _ _ _ fun nb h1 en e1 => ?_
  have x1 : Ext h h1 := by rw [e1]; exact Ext.push _ _
  have hrow : h1[nb]? = some (.cells (([] : List Int).flatMap eB.enc).toArray tB (0, 0)) := by rw [e1]; exact push_new en
  have := app_own (E := eB) (h0 := h) (n := 0) (n2 := L.length) aB x1 (Sl.lit hrow) (Own.lit hrow (by omega)) rfl (s.ext x1) rfl (by omega) (K := fun v h2 => ∃ ap : Option Addr, ∃ ap_n ap_c : Nat, v = (.slice ap ap_n ap_c) ∧ ∃ a' c', (Value.slice ap ap_n ap_c) = .slice a' L.length c' ∧ Ext h h2 ∧ Sl eB h2 a' c' L ∧ Own eB.k tB h.size h2 a' c') fun a' c' h' x' _ s' w' _ => ⟨a', _, c', rfl, a', c', by rw [Nat.zero_add], x', by simpa using s', w'⟩
  exact this
theorem found_eq {L : List Fo} (s : Sl eFo h a c L) (t : Sl eFo h b d L) (hl : L.length ≤ 4611686018427387903) : HC Tryd.prog 19 #[.slice a L.length c, .slice b L.length d] h fun v h' => v = .bool true ∧ h' = h := by
  refine f19_sh _ _ _ _ _ _ _ _ ⟨fun e => (by simp at e), fun _ => ⟨fun v => ∃ k : Nat, v = k ∧ k ≤ L.length, fun v => L.length - v.toNat, ⟨0, rfl, Nat.zero_le _⟩, ?_⟩⟩
  rintro _ ⟨k, rfl, hk⟩
  refine ⟨fun e => ?_, fun _ => ⟨rfl, rfl⟩⟩
  have hkl := lt_of_dec e
  obtain ⟨b1, o1, e1, d1⟩ := s.at (List.getElem?_eq_getElem hkl)
  obtain ⟨b2, o2, e2, d2⟩ := t.at (List.getElem?_eq_getElem hkl)
  refine ⟨b1, o1, e1, by omega, by omega, _, _, _, _, _, _, _, d1.1, d1.2.1, d1.2.2.1, d1.2.2.2.1, d1.2.2.2.2.1, d1.2.2.2.2.2.1, d1.2.2.2.2.2.2.1, b2, o2, e2, by omega, by omega, _, _, _, _, _, _, _, d2.1, d2.2.1, d2.2.2.1, d2.2.2.2.1, d2.2.2.2.2.1, d2.2.2.2.2.2.1, d2.2.2.2.2.2.2.1, fun e => ?_, fun _ => ?_⟩
  · simp [ba_refl] at e
  · rw [wadd k (by omega)]
    exact ⟨⟨k + 1, rfl, hkl⟩, by simp only [Int.toNat_natCast]; omega⟩
theorem same_eq {S : Su} (s : Sl eFo h a c S.recs) (t : Sl eFo h b d S.recs) (hl : S.recs.length ≤ 4611686018427387903) : HC Tryd.prog 14 #[.agg (S.cs a S.recs.length c).toArray, .agg (S.cs b S.recs.length d).toArray] h fun v h' => v = .bool true ∧ Ext h h' := by
  refine f14_sh _ _ _ _ _ _ _ _ _ _ _ _ _ _ _ _ _ _ _ _ _ _ _ _ ⟨true, ⟨fun _ => ⟨fun _ => ⟨fun _ p q h2 _ _ _ _ x2 => ⟨true, found_eq (s.ext x2) (t.ext x2) hl, fun _ => ⟨fun _ => by simp, fun e => by simp at e⟩, fun e => by cases e⟩, fun e => by simp at e⟩, fun e => by simp at e⟩, fun e => by simp at e⟩, fun h2 x2 => ⟨rfl, x2⟩⟩
end
/-- What is written over a record that was told. -/
def fW (i : Nat) : Fo := ⟨0, -1 - (i : Int), 0, z4⟩
theorem sur_len {g : Geo} {rg : Int} {L : List Int} : (surOf g rg L).1.recs.length ≤ L.length := by
  unfold surOf
  split
  · exact Nat.zero_le _
  · split
    · exact Nat.zero_le _
    · split
      · exact Nat.zero_le _
      · split
        · exact Nat.zero_le _
        · exact goOn_len _ _ _ _ _ _
section
variable {h : Heap} {a : Option Addr} {c : Nat} {L : List Int}
set_option maxHeartbeats 3200000 in
theorem law_surveys (g : Geo) (rg : Int) (t : Tab h) (s : Sl eB h a c L) (hb : isB L) (hl : L.length ≤ 140737488355328) : HC Tryd.prog 4 #[.agg #[.int .i64 g.page, .int .i64 g.pages, .int .i64 g.regs, .int .i64 g.al, .slice a L.length c], .int .i64 rg] h fun v h' => v = .bool true ∧ Ext h h' := by
  refine f4_sh _ _ _ _ _ _ _ _ _ _ fun bb h1 lob ltb x1 => (awake_c (t.ext x1)).mono ?_
  rintro _ h2 ⟨rfl, x2⟩
  have x12 := x1.trans x2
  refine ⟨x2, true, rfl, fun e => (by cases e), fun _ => (copied_c (s.ext x12) hl).mono ?_⟩
  rintro _ h3 ⟨a3, c3, rfl, x3, s3, w3⟩
  have x13 := x12.trans x3
  refine ⟨x3, _, _, _, rfl, (survey_m g rg (t.ext x13) s3 hb).mono ?_⟩
  rintro _ h4 ⟨ra, rcp, rfl, x4, s4, w4⟩
  have x14 := x13.trans x4
  have hsl := sur_len (g := g) (rg := rg) (L := L)
  generalize hS : surOf g rg L = S at *
  refine ⟨x4, _, _, _, _, _, _, _, _, _, _, _, _, rfl, fun sv h6 losv ltsv x6 => (survey_r g rg (s.ext (x14.trans x6)) hb).mono ?_⟩
  rw [hS]
  rintro _ h7 ⟨wa, wcp, rfl, x7, s7, w7⟩
  have x47 := x6.trans x7
  have z1 := x1.size
  have z3 := (x2.trans x3).size
  have z4 := x4.size
  have z6 := x6.size
  have z7 := x7.size
  refine ⟨x7, _, _, _, _, _, _, _, _, _, _, _, _, rfl, fun j h10 => j = false ∧ Ext h7 h10, fun want h9 low ltw x9 => (same_eq (s4.ext (x47.trans x9)) (s7.ext x9) (by omega)).mono ?_, ?_⟩
  · rintro _ h11 ⟨rfl, x11⟩
    refine ⟨x11.kp _, true, rfl, fun e => (by cases e), fun _ => ⟨fun e => (by simp at e), fun _ => ⟨true, ?_, rfl, x9.trans x11⟩⟩⟩
    have := same_b (s3.ext (x4.trans (x47.trans (x9.trans x11)))) (s.ext (x14.trans (x47.trans (x9.trans x11)))) hb hb
    simpa using this
  rintro _ h10 ⟨rfl, x10⟩ want low ltw
  refine ⟨fun e => (by cases e), fun _ => ?_⟩
  have z10 := x10.size
  have x4a := x47.trans x10
  refine ⟨fun v h12 => ∃ k : Nat, v = k ∧ k ≤ S.1.recs.length ∧ Sl eFo h12 ra rcp ((List.range k).map fW ++ S.1.recs.drop k) ∧ Own eFo.k tF h3.size h12 ra rcp ∧ Fr (blkA ra) h10 h12, fun v _ => S.1.recs.length - v.toNat, ⟨0, rfl, Nat.zero_le _, by simpa using s4.ext x4a, w4.ext x4a, Fr.refl _ _⟩, ?_⟩
  rintro _ h12 ⟨k, rfl, hk, s12, w12, f12⟩
  refine ⟨fun e => ?_, fun e => ?_⟩
  · have hkl := lt_of_dec e
    have hlen : k < ((List.range k).map fW ++ S.1.recs.drop k).length := by simp; omega
    obtain ⟨rb, ro, rfl, _⟩ := s12.at (List.getElem?_eq_getElem hlen)
    obtain ⟨u1, u2⟩ := s12.words w12 hlen (fW k) (p := ro + Int.toNat (k : Int) * 7) (by simp; rfl)
    refine ⟨rb, ro, rfl, by omega, by omega, u1, ?_, fun h13 e13 => ?_⟩
    · intro q hq
      have := w4.low (blkA_of rfl)
      simp only [List.mem_cons, List.not_mem_nil, or_false] at hq; omega
    · rw [w64 (x := -1 - (k : Int)) (by omega) (by omega)] at e13
      obtain ⟨s13, w13, f13⟩ := u2 h13 e13
      rw [wadd k (by omega)]
      refine ⟨⟨k + 1, rfl, hkl, ?_, w13, f12.trans (f13.mono fun i _ q => by subst q; exact blkA_of rfl) fun _ _ q => q⟩, by simp only [Int.toNat_natCast]; omega⟩
      rw [List.set_append_right _ _ (by simp), List.length_map, List.length_range, Nat.sub_self, List.drop_eq_getElem_cons hkl, List.set_cons_zero] at s13
      rw [List.range_succ, List.map_append, List.append_assoc]; exact s13
  · have hkl : k = S.1.recs.length := by have := ge_of_dec e; omega
    subst hkl
    rw [List.drop_length, List.append_nil] at s12
    have nra : ∀ {q}, q < h3.size ∨ h4.size ≤ q → ¬ blkA ra q := fun hq hb' => by have := w4.low hb'; omega
    have x12' : Ext h3 h12 := ((x4.trans x4a).fr _).trans f12 (fun _ _ q => q) |>.ext fun q hq hb' => nra (.inl hq) hb'
    refine (survey_m g rg (t.ext (x13.trans x12')) (s3.ext x12') hb).mono ?_
    rw [hS]
    rintro _ h14 ⟨qa, qcp, rfl, x14', s14, w14⟩
    have f7 : Fr (blkA ra) h7 h12 := (x10.fr _).trans f12 fun _ _ q => q
    refine ⟨x14', _, _, _, _, _, _, _, _, _, _, _, _, rfl, fun j h17 => j = false ∧ Ext h14 h17, fun h16 x16 => (same_eq (s14.ext x16) ((s7.fr f7 fun q hq => nra (.inr (by have := (w7.low hq).1; omega))).ext (x14'.trans x16)) (by omega)).mono ?_, ?_⟩
    · rintro _ h18 ⟨rfl, x18⟩
      exact ⟨x18.kp _, true, rfl, fun e => (by cases e), fun _ => ⟨by simp, x16.trans x18⟩⟩
    rintro _ h17 ⟨rfl, x17⟩
    refine ⟨fun e => (by cases e), fun _ => ⟨fun v => ∃ k : Nat, v = k ∧ k ≤ S.1.recs.length, fun v => S.1.recs.length - v.toNat, ⟨0, rfl, Nat.zero_le _⟩, ?_⟩⟩
    rintro _ ⟨k, rfl, hk⟩
    refine ⟨fun e => ?_, fun _ => ⟨rfl, x13.trans (x12'.trans (x14'.trans x17))⟩⟩
    have hkl := lt_of_dec e
    have hget : ((List.range S.1.recs.length).map fW)[k]? = some (fW k) := by rw [List.getElem?_map, List.getElem?_range hkl]; rfl
    obtain ⟨rb, ro, e1, d1⟩ := (s12.ext (x14'.trans x17)).at hget
    refine ⟨rb, ro, e1, by omega, by omega, _, _, _, _, _, _, _, d1.1, d1.2.1, d1.2.2.1, d1.2.2.2.1, d1.2.2.2.2.1, d1.2.2.2.2.2.1, d1.2.2.2.2.2.2.1, fun e => ?_, fun _ => ?_⟩
    · rw [w64 (x := -1 - (k : Int)) (by omega) (by omega)] at e
      simp [fW, ba_refl] at e
    · rw [wadd k (by omega)]
      exact ⟨⟨k + 1, rfl, hkl⟩, by simp only [Int.toNat_natCast]; omega⟩
end
section
variable {h : Heap} {la ga : Option Addr} {lc gc : Nat} {rs : List Rc} {gaps : List Bool}
theorem law_back_c (g : Geo) (x : Hd) (t : Tab h) (he : 0 ≤ x.ep ∧ x.ep < 18446744073709551616) (hq : 0 ≤ x.sq ∧ x.sq < 18446744073709551616) (sl : Sl eRc h la lc rs) (hv : ∀ r ∈ rs, 0 ≤ r.ver ∧ r.ver < 18446744073709551616) (sg : Sl eBool h ga gc gaps) (hl : rs.length ≤ 9223372036854775807) :
    HC Tryd.prog 5 #[.agg #[.int .i64 g.page, .int .i64 g.pages, .int .i64 g.regs, .int .i64 g.al, .int .u64 x.ep, .int .u64 x.sq, .int .i64 x.rg, .slice la rs.length lc, .slice ga gaps.length gc]] h fun v h' => v = .bool true ∧ Ext h h' := by
  refine f5_sh _ _ _ _ _ _ _ _ _ _ _ _ _ _ _ fun ll h1 lol ltl x1 => (awake_c (t.ext x1)).mono ?_
  rintro _ h2 ⟨rfl, x2⟩
  have x12 := x1.trans x2
  refine ⟨x2, true, rfl, fun e => (by cases e), fun _ => (check_r g h2).mono ?_⟩
  rintro _ h3 ⟨rfl, x3⟩
  have x13 := x12.trans x3
  by_cases hg : Gok g
  rotate_left
  · rw [if_neg hg]
    exact ⟨x3, _, rfl, fun _ => ⟨rfl, x13⟩, fun e => by simp at e⟩
  rw [if_pos hg]
  refine ⟨x3, _, rfl, fun e => (by simp at e), fun _ => (encHead_r g x he hq h3).mono ?_⟩
  rintro v h4 ⟨x4, hv4⟩
  have x14 := x13.trans x4
  rw [if_pos hg] at hv4
  by_cases ok : hdOk g x
  rotate_left
  · rw [if_neg ok] at hv4
    exact ⟨x4, _, _, _, _, hv4, fun _ => ⟨rfl, x14⟩, fun e => by simp at e⟩
  rw [if_pos ok] at hv4
  obtain ⟨ea, ec, hv4, _⟩ := hv4
  refine ⟨x4, _, _, _, _, hv4, fun e => (by simp at e), fun _ => (lay_r g x hg ok he hq (sl.ext x14) hv (sg.ext x14) hl).mono ?_⟩
  rintro _ h5 ⟨x5, ia, ic, oa, oc, rfl, s5, o5⟩
  obtain ⟨q, I, _⟩ := laidTo (x := x) (gaps := gaps) hg hv rs.length
  obtain ⟨S, hS, k1, k2, k3, k4, k5, k6, _⟩ := law_back hg I ok he hq
  have hlen := lay_out g hg x rs gaps hv rs.length
  have hhi := I.hi
  have b := ok_bounds hg
  generalize layTo g x rs gaps rs.length = ls at *
  refine ⟨x5.kp _, _, _, _, _, _, _, rfl, (survey_m g x.rg (t.ext (x14.trans x5)) s5 (img_isB I.byte)).mono ?_⟩
  rw [hS]
  rintro _ h6 ⟨ra, rcp, rfl, x6, s6, _⟩
  simp only at s6
  refine ⟨x6, _, _, _, _, _, _, _, _, _, _, _, _, rfl, true, ⟨fun _ => ⟨fun _ => ⟨fun _ sv h8 _ _ x8 => ⟨true, ?_, fun _ => ⟨fun _ => rfl, fun e => ?_⟩, fun e => by cases e⟩, fun e => ?_⟩, fun e => ?_⟩, fun e => by simp at e⟩, fun h8 x8 => ⟨rfl, x14.trans (x5.trans (x6.trans x8))⟩⟩
  · have := found_eq (s6.ext x8) ((k5 ▸ o5.ext (x6.trans x8) : Sl eFo h8 oa oc S.recs)) (by rw [k5]; omega)
    simp only [k5] at this ⊢
    exact this
  · have : ¬ S.why = 2 := by simpa using e
    have := k6.resolve_left this
    simp [this]
  · simp [k2, k3, k4] at e
  · rw [k1] at e; cases e
end
end Sc
end Go.Proofs.YthjehlocmikchaaDoor
