import Derived.Test.YthjehlocmikchaaDoorDvSY
namespace Go.Proofs.YthjehlocmikchaaDoor
namespace Sc
open Go
def eRc : Elt Rc := ⟨4, fun r => [.int .i64 r.kind, .int .u64 r.ver, .string r.key, .string r.val], fun _ => rfl, fun r v hv => by simp at hv; rcases hv with rfl | rfl | rfl | rfl <;> rfl⟩
abbrev bts (X : List Int) : List Value := X.map (Value.int .u8)
def Im (nb : Nat) (h : Heap) (X : List Int) : Prop := h[nb]? = some (.cells (bts X).toArray 5 (0, 0))
theorem wadd2 (n : Nat) (hn : n < 9223372036854775807) : IntKind.i64.wrap ((n : Int) + 1) = ((n + 1 : Nat) : Int) := by rw [w64 (by omega) (by omega)]; omega
section
variable {h h' : Heap} {nb : Nat} {X : List Int}
theorem Im.w (m : Im nb h X) {i : Nat} (hi : i < X.length) : HW h nb i := HW_row m (by simpa using hi)
theorem Im.ws (m : Im nb h X) {i n : Nat} (hi : i + n ≤ X.length) : HWs h nb i n := HWs_row m (by simpa using hi)
theorem Im.set (m : Im nb h X) {i : Nat} {v : Int} (e : h' = hset h nb i (.int .u8 v)) : Im nb h' (X.set i v) :=
 row_hset_eq e m (by simp [bts, List.map_set])
theorem sets_list (vs : List Value) : ∀ (A B C : List Value), B.length = vs.length → sets (A ++ B ++ C).toArray A.length vs = (A ++ vs ++ C).toArray := fun A B C h => by
 apply Array.ext_getElem?
 intro j
 rw [sets_get _ _ _ _ (by simp; omega)]
 simp only [List.getElem?_toArray]
 by_cases h1 : j < A.length
 ·rw [if_neg (by omega), List.append_assoc, List.append_assoc, List.getElem?_append_left h1, List.getElem?_append_left h1]
 ·by_cases h2 : j < A.length + vs.length
  ·rw [if_pos (by omega), List.append_assoc, List.getElem?_append_right (by omega), List.getElem?_append_left (by omega)]
  ·rw [if_neg (by omega), List.append_assoc, List.append_assoc, List.getElem?_append_right (by omega), List.getElem?_append_right (by omega), List.getElem?_append_right (by omega), List.getElem?_append_right (by omega), h]
theorem Im.sets {A B C V : List Int} (m : Im nb h (A ++ B ++ C)) (hl : B.length = V.length) {o : Nat} (ho : o = A.length) (e : h' = hsets h nb o (bts V)) : Im nb h' (A ++ V ++ C) := by
 subst ho
 refine row_hsets_eq e m ?_
 have := sets_list (bts V) (bts A) (bts B) (bts C) (by simpa using hl)
 simp only [bts, List.length_map, ← List.map_append] at this
 simpa [bts] using this
theorem Im.sl (m : Im nb h X) {c : Nat} (hc : X.length ≤ c) : Sl eB h (some ⟨nb, 0, none⟩) c X := by
 refine Sl.of_row m hc fun j v hv => ?_
 rw [flatB] at hv
 rw [Nat.zero_add, List.getElem?_toArray]; exact hv
theorem Im.fr {S : Nat → Prop} (m : Im nb h X) (f : Fr S h h') (hn : ¬ S nb) : Im nb h' X := f.row m hn
end
theorem img_push {g : Geo} {P : List Int} {v : Int} (h : (P.length : Int) < g.sz) : (layImg g P).set P.length v = layImg g (P ++ [v]) := by
 unfold layImg
 rw [List.set_append_right _ _ (Nat.le_refl _), Nat.sub_self, List.length_append, List.length_singleton]
 have e : (g.sz - (P.length : Int)).toNat = (g.sz - ((P.length + 1 : Nat) : Int)).toNat + 1 := by omega
 rw [e, List.replicate_succ, List.set_cons_zero, List.append_assoc]; rfl
theorem img_split {g : Geo} {P : List Int} {n : Nat} (h : (P.length : Int) + n ≤ g.sz) : layImg g P = P ++ List.replicate n 255 ++ List.replicate (g.sz - ((P.length + n : Nat) : Int)).toNat 255 := by
 unfold layImg
 rw [List.append_assoc, List.replicate_append_replicate]; congr 2; omega
theorem img_join {g : Geo} {P A : List Int} : P ++ A ++ List.replicate (g.sz - ((P.length + A.length : Nat) : Int)).toNat 255 = layImg g (P ++ A) := by
 unfold layImg; rw [List.length_append]
theorem img_nil {g : Geo} {n : Nat} (h : (n : Int) = g.sz) : List.replicate n 255 = layImg g [] := by
 unfold layImg; rw [List.nil_append]; congr 1; simp; omega
theorem lay_out (g : Geo) (hg : Gok g) (x : Hd) (rs : List Rc) (gaps : List Bool) (hv : ∀ r ∈ rs, 0 ≤ r.ver ∧ r.ver < 18446744073709551616) : ∀ k, ((layTo g x rs gaps k).out.length : Int) ≤ (layTo g x rs gaps k).at_
 | 0 => by have := fst_bounds hg; show (0 : Int) ≤ fst0 g; omega
 | k + 1 => by
  have ih := lay_out g hg x rs gaps hv k
  obtain ⟨q, I, _⟩ := laidTo (x := x) (gaps := gaps) hg hv k
  have := I.lo
  have fb := fst_bounds hg
  have b := ok_bounds hg
  unfold layTo
  cases rs[k]? with
  | none => exact ih
  | some r =>
   simp only
   unfold layOne
   split
   ·have e24 : 24 ≤ (encR (x.sq % 4294967296) r).length := by rw [encR_len]; omega
    generalize (encR (x.sq % 4294967296) r).length = n at *
    simp only [List.length_append, List.length_singleton]
    have up := upTo_ge (n := (layTo g x rs gaps k).at_ + n) (al := g.al) (by omega)
    have up2 := upTo_ge (n := upTo ((layTo g x rs gaps k).at_ + n) g.al) (al := g.page) (by omega)
    unfold nxt; split <;> omega
   ·exact ih
section
variable {h : Heap} {la ga : Option Addr} {lc gc : Nat} {rs : List Rc} {gaps : List Bool}
set_option maxHeartbeats 6400000 in
theorem lay_r (g : Geo) (x : Hd) (hg : Gok g) (ok : hdOk g x) (he : 0 ≤ x.ep ∧ x.ep < 18446744073709551616) (hq : 0 ≤ x.sq ∧ x.sq < 18446744073709551616) (sl : Sl eRc h la lc rs) (hv : ∀ r ∈ rs, 0 ≤ r.ver ∧ r.ver < 18446744073709551616) (sg : Sl eBool h ga gc gaps) (hl : rs.length ≤ 9223372036854775807) :
  HC Tryd.prog 18 #[g.v, x.v, .slice la rs.length lc, .slice ga gaps.length gc] h fun v h' => Ext h h' ∧ ∃ ia ic oa oc, v = .tuple #[.slice ia (layImg g (layTo g x rs gaps rs.length).P).length ic, .slice oa (layTo g x rs gaps rs.length).out.length oc] ∧
   Sl eB h' ia ic (layImg g (layTo g x rs gaps rs.length).P) ∧ Sl eFo h' oa oc (layTo g x rs gaps rs.length).out := by
 have b := ok_bounds hg
 have fb := fst_bounds hg
 refine f18_sh _ _ _ _ _ _ _ _ _ _ _ _ _ _ _ fun gb pb h2 log ltg lo lt x2 => (region_r hg h2).mono ?_
 rintro _ h3 ⟨rfl, x3⟩
 have x23 := x2.trans x3
 obtain ⟨n, hn⟩ : ∃ n : Nat, g.sz = n := ⟨g.sz.toNat, by omega⟩
 have en : Int.toNat g.sz = n := by omega
 refine ⟨x3, _, rfl, by omega, by omega, by omega, fun nb h4 enb e4 => ?_⟩
 rw [en] at e4 ⊢
 have x4 : Ext h3 h4 := by rw [e4]; exact Ext.push _ _
 have z4 : h4.size = h3.size + 1 := by rw [e4]; simp
 have hz23 := x3.size
 have hz2 := x2.size
 have off : Off nb [gb, pb] := fun q hq => by simp only [List.mem_cons, List.not_mem_nil, or_false] at hq; omega
 have im4 : Im nb h4 (List.replicate n 0) := by
  unfold Im; rw [e4, push_new enb]
  congr 2
  simp [zcells, bts]
 have frx : ∀ {hh : Heap}, Fr (fun i => i = nb) h4 hh → Ext h hh := fun f => (((x23.trans x4).fr _).trans f fun _ _ q => q).ext fun i hi q => by have := x23.size; omega
 refine ⟨fun v h5 => ∃ k : Nat, v = k ∧ k ≤ n ∧ Im nb h5 (List.replicate k 255 ++ List.replicate (n - k) 0) ∧ Fr (fun i => i = nb) h4 h5, fun v _ => n - v.toNat, ⟨0, rfl, Nat.zero_le _, by simpa using im4, Fr.refl _ _⟩, ?_⟩
 rintro _ h5 ⟨k, rfl, hk, im5, f5⟩
 refine ⟨fun e => ?_, fun e => ?_⟩
 ·have hkn := lt_of_dec e
  have epos : 0 + Int.toNat (k : Int) * 1 = k := by simp
  rw [epos]
  refine ⟨by omega, by omega, im5.w (by simp; omega), off, fun h6 e6 => ?_⟩
  rw [wadd k (by omega)]
  refine ⟨⟨k + 1, rfl, hkn, ?_, f5.trans (fr_hset_of e6) fun _ _ q => q⟩, by simp only [Int.toNat_natCast]; omega⟩
  have := im5.set e6
  rw [List.set_append_right _ _ (by simp), List.length_replicate, Nat.sub_self, show n - k = n - (k + 1) + 1 by omega, List.replicate_succ, List.set_cons_zero] at this
  rw [List.replicate_succ', List.append_assoc]; exact this
 have hkn : k = n := by have := ge_of_dec e; omega
 subst hkn
 rw [Nat.sub_self, List.replicate_zero, List.append_nil, img_nil hn.symm] at im5
 refine (encHead_r g x he hq h5).mono ?_
 rintro _ h7 ⟨x7, ht⟩
 rw [if_pos hg, if_pos ok] at ht
 obtain ⟨ha, hc, rfl, sh⟩ := ht
 refine ⟨x7, _, _, _, _, rfl, ?_⟩
 have im7 := im5.fr (x7.fr (fun _ => False)) id
 have f7 : Fr (fun i => i = nb) h4 h7 := f5.trans (x7.fr _) fun _ _ q => q
 have el := encH_len g x
 obtain ⟨_, bh⟩ := sh.byt
 have bh : ∃ b o, ha = some ⟨b, o, none⟩ ∧ HCells h7 b o (bts (encH g x)) := bh.resolve_left (by omega)
 refine hcopy_of (e := 5) (size := 1) (q := 32) (cs := bts (encH g x)) (by kernel_rfl) (by kernel_rfl) (by rw [el]; show 32 = min 32 k; omega) (by simp [el]) (fun v hv => by obtain ⟨y, _, rfl⟩ := List.mem_map.1 hv; rfl) (.inr bh) (.inr ⟨nb, 0, rfl, im7.ws (by simp [layImg, el]; omega)⟩) fun h8 _ e8 => ?_
 have e8 := e8 nb 0 rfl
 have f8' := fr_hsets_of e8
 have f8 : Fr (fun i => i = nb) h4 h8 := f7.trans f8' fun _ _ q => q
 have im8 : Im nb h8 (layImg g (encH g x)) := by
  have h1 := img_split (g := g) (P := []) (n := (encH g x).length) (by simp [el]; omega)
  rw [h1] at im7
  have := im7.sets (A := []) (V := encH g x) (by simp) rfl e8
  have h2 := img_join (g := g) (P := []) (A := encH g x)
  simp only [List.nil_append, List.length_nil] at this h2
  rw [h2] at this; exact this
 have z7 := f7.size
 have z8 := f8.size
 refine ⟨f8'.kp fun q hq => off q hq, 32, rfl, (Up_r g 32 h8).mono ?_⟩
 rintro _ h9 ⟨rfl, x9⟩
 rw [upE_32 hg]
 have f9 : Fr (fun i => i = nb) h4 h9 := f8.trans (x9.fr _) fun _ _ q => q
 have im9 := im8.fr (x9.fr (fun _ => False)) id
 rw [el]
 refine ⟨x9, _, _, rfl, fun i h10 => ∃ j : Nat, i = 32 + j ∧ 32 + (j : Int) ≤ fst0 g ∧ Im nb h10 (layImg g (encH g x ++ List.replicate j 0)) ∧ Fr (fun i => i = nb) h4 h10, fun i _ => (fst0 g - i).toNat, ⟨0, rfl, by omega, by simpa using im9, f9⟩, ?_⟩
 rintro _ h10 ⟨j, rfl, hj, im10, f10⟩
 have eP : (encH g x ++ List.replicate j 0).length = 32 + j := by rw [List.length_append, el, List.length_replicate]
 refine ⟨fun e => ?_, fun e => ?_⟩
 ·have hlt := of_decide_eq_true e
  have epos : 0 + Int.toNat (32 + (j : Int)) * 1 = (encH g x ++ List.replicate j 0).length := by rw [eP]; omega
  rw [epos]
  refine ⟨by omega, by omega, im10.w (by have := img_len (g := g) (P := encH g x ++ List.replicate j 0) (by omega); omega), off, fun h11 e11 => ?_⟩
  rw [w64 (x := 32 + (j : Int) + 1) (by omega) (by omega)]
  refine ⟨⟨j + 1, by omega, by omega, ?_, f10.trans (fr_hset_of e11) fun _ _ q => q⟩, by show (fst0 g - (32 + (j : Int) + 1)).toNat < (fst0 g - (32 + (j : Int))).toNat; omega⟩
  have := im10.set e11
  rw [img_push (by omega), List.append_assoc] at this
  rw [List.replicate_succ']; exact this
 have hj : j = (fst0 g - 32).toNat := by have := of_decide_eq_false e; omega
 rw [hj] at im10
 have off2 : ∀ {hh : Heap}, Fr (fun i => i = nb) h4 hh → ∀ {r}, hh.size ≤ r → Off nb [gb, pb, r] := fun f r hr q hq => by have := f.size; simp only [List.mem_cons, List.not_mem_nil, or_false] at hq; omega
 refine ⟨fun atv out on oc v h12 => ∃ m : Nat, v = m ∧ m ≤ rs.length ∧ atv = (layTo g x rs gaps m).at_ ∧ on = (layTo g x rs gaps m).out.length ∧ Im nb h12 (layImg g (layTo g x rs gaps m).P) ∧ Sl eFo h12 out oc (layTo g x rs gaps m).out ∧ Own eFo.k tF h4.size h12 out oc ∧ Ext h h12 ∧ h4.size ≤ h12.size, fun _ _ _ _ v _ => rs.length - v.toNat,
  ⟨0, rfl, Nat.zero_le _, rfl, rfl, im10, Sl.nil _ _, Own.nil _ _ _ _, frx f10, f10.size⟩, ?_⟩
 rintro _ out _ oc _ h12 ⟨m, rfl, hm, rfl, rfl, im12, s12, w12, x12, z12⟩
 have hX : ∀ m, ((layImg g (layTo g x rs gaps m).P).length : Int) = g.sz := fun m => by
  obtain ⟨q, I, _⟩ := laidTo (x := x) (gaps := gaps) hg hv m
  exact img_len (by have := I.len; omega)
 refine ⟨fun e => ?_, fun e => ?_⟩
 rotate_left
 ·have hmn : m = rs.length := by have := ge_of_dec e; omega
  subst hmn
  refine ⟨x12, some ⟨nb, 0, none⟩, k, out, oc, ?_, im12.sl ?_, s12⟩
  ·have := hX rs.length
   rw [show (layImg g (layTo g x rs gaps rs.length).P).length = k by omega]
  ·have := hX rs.length; omega
 have hml := lt_of_dec e
 obtain ⟨q, I, _⟩ := laidTo (x := x) (gaps := gaps) hg hv m
 have hout := lay_out g hg x rs gaps hv m
 have hstep : layTo g x rs gaps (m + 1) = layOne g (x.sq % 4294967296) x.rg (layTo g x rs gaps m) rs[m] (gaps.getD m false) := by
  conv => lhs; unfold layTo
  rw [List.getElem?_eq_getElem hml]
 have hvr := hv _ (List.getElem_mem hml)
 obtain ⟨lb, lo_, ela, d⟩ := (sl.ext x12).at (List.getElem?_eq_getElem hml)
 generalize hr : rs[m] = r at *
 have hXm := hX m
 have him := I.len
 have hlo := I.lo
 have hhi := I.hi
 generalize hs : layTo g x rs gaps m = s at *
 refine ⟨fun atv out on oc h13 => atv = (layTo g x rs gaps (m + 1)).at_ ∧ on = (layTo g x rs gaps (m + 1)).out.length ∧ Im nb h13 (layImg g (layTo g x rs gaps (m + 1)).P) ∧ Sl eFo h13 out oc (layTo g x rs gaps (m + 1)).out ∧ Own eFo.k tF h4.size h13 out oc ∧ Ext h h13 ∧ h4.size ≤ h13.size,
  ⟨lb, lo_, ela, by omega, by omega, _, _, _, _, d.1, d.2.1, d.2.2.1, d.2.2.2.1, fun rb h15 lor ltr x15 => ⟨x.sq % 4294967296, fun h23 _ => salt_r _ hq h23, (encode_r g ⟨by omega, by omega⟩ r hvr h15).mono ?_⟩⟩, ?_⟩
 rotate_left
 ·rintro _ out' _ oc' h13 ⟨rfl, rfl, a1, a2, a3, a4, a5⟩
  rw [wadd2 m (by omega)]
  exact ⟨⟨m + 1, rfl, hml, rfl, rfl, a1, a2, a3, a4, a5⟩, by simp only [Int.toNat_natCast]; omega⟩
 rintro vv h16 ⟨x16, ht⟩
 have x126 := x15.trans x16
 have im16 := im12.fr (x126.fr (fun _ => False)) id
 have no : ∀ {a16 : Option Addr} {n16 c16 : Nat} {e16 : Int}, ¬ lays g (x.sq % 4294967296) s r → vv = .tuple #[.slice a16 n16 c16, .int .i64 e16] → (s.at_ = (layTo g x rs gaps (m + 1)).at_ ∧ s.out.length = (layTo g x rs gaps (m + 1)).out.length ∧ Im nb h16 (layImg g (layTo g x rs gaps (m + 1)).P) ∧ Sl eFo h16 out oc (layTo g x rs gaps (m + 1)).out ∧ Own eFo.k tF h4.size h16 out oc ∧ Ext h h16 ∧ h4.size ≤ h16.size) := fun hno _ => by
  rw [hstep, layOne, if_neg hno]
  exact ⟨rfl, rfl, im16, s12.ext x126, w12.ext x126, x12.trans x126, Nat.le_trans z12 x126.size⟩
 have ew : IntKind.i64.wrap (IntKind.i64.wrap ((k : Int) - 24) - s.at_) = g.sz - 24 - s.at_ := by rw [w64 (x := (k : Int) - 24) (by omega) (by omega), w64 (by omega) (by omega)]; omega
 simp only [ew]
 by_cases he0 : encE g r = 0
 rotate_left
 ·rw [if_neg he0] at ht
  refine ⟨x16, _, _, _, _, ht, fun _ => no (fun q => he0 q.1) ht, fun e => ?_⟩
  simp [he0] at e
 rw [if_pos he0] at ht
 obtain ⟨ea, ec, hvv, se⟩ := ht
 refine ⟨x16, _, _, _, _, hvv, fun e => no (fun q => ?_) hvv, fun e => ?_⟩
 ·have := q.2
  simp at e; omega
 have hfit : ((encR (x.sq % 4294967296) r).length : Int) ≤ g.sz - 24 - s.at_ := by simp at e; omega
 have hlay : lays g (x.sq % 4294967296) s r := ⟨he0, hfit⟩
 have hn24 : 24 ≤ (encR (x.sq % 4294967296) r).length := by rw [encR_len]; omega
 rw [layOne, if_pos hlay] at hstep
 obtain ⟨_, be⟩ := se.byt
 have be := be.resolve_left (by omega)
 generalize hE : encR (x.sq % 4294967296) r = E at *
 obtain ⟨p, hp⟩ : ∃ p : Nat, s.at_ = p := ⟨s.at_.toNat, by omega⟩
 have hPl : s.P.length = p := by omega
 rw [hp] at hfit ⊢
 refine ⟨by omega, by omega, by omega, fun sl' esl => ?_⟩
 obtain ⟨o', eo, ho⟩ := slA_some (b := nb) (o := 0) (l := p) (sz := 1) (m := k)
 simp only [Int.toNat_natCast] at esl ⊢
 rw [eo] at esl
 subst esl
 have ho : o' = p := by rw [ho (by omega)]; omega
 subst ho
 refine hcopy_of (e := 5) (size := 1) (q := E.length) (cs := bts E) (by kernel_rfl) (by kernel_rfl) (by show _ = min _ _; omega) (by simp) (fun v hv => by obtain ⟨y, _, rfl⟩ := List.mem_map.1 hv; rfl) (.inr be) (.inr ⟨nb, o', rfl, im16.ws (by simp; omega)⟩) fun h17 _ e17 => ?_
 have e17 := e17 nb o' rfl
 have f17 := fr_hsets_of e17
 have im17 : Im nb h17 (layImg g (s.P ++ E)) := by
  rw [img_split (g := g) (P := s.P) (n := E.length) (by omega)] at im16
  have := im16.sets (V := E) (by simp) hPl.symm e17
  rw [img_join] at this; exact this
 refine ⟨f17.kp fun q hq => by have := x12.size; have := x126.size; simp only [List.mem_cons, List.not_mem_nil, or_false] at hq; omega, E.length, rfl, fun nb1 h18 enb1 e18 => ?_⟩
 have x18 : Ext h17 h18 := by rw [e18]; exact Ext.push _ _
 have z17 := f17.size
 have z16 := x126.size
 have hsz12 := x12.size
 have nown : ∀ b, blkA out b → ¬ b = nb := fun b hb => by have := (w12.low hb).1; omega
 have s17 := (s12.ext x126).fr f17 nown
 have w17 := (w12.ext x126).fr f17 nown
 generalize hfo : (⟨x.rg, (o' : Int), (E.length : Int), r⟩ : Fo) = fo at *
 refine app_1 (x := fo) aF enb1 e18 (by rw [← hfo]; rfl) s17 w17 rfl (by omega) (by omega) fun a' c' h19 f19 s19 w19 b19 => ?_
 have z19 := f19.size
 have nob : ∀ {b}, b < h4.size → ¬ blkA out b := fun hb q => by have := (w17.low q).1; omega
 refine ⟨fun q hq hlt => ?_, a', _, c', rfl, ?_⟩
 ·simp only [List.mem_cons, List.not_mem_nil, or_false] at hq
  rw [x18.block q (by omega), f19.block q (by omega) (nob (by omega))]
 have im19 := im17.fr f19 (nob (by omega))
 rw [w64 (x := (o' : Int) + E.length) (by omega) (by omega)]
 refine (Up_r g _ h19).mono ?_
 rintro _ h20 ⟨rfl, x20⟩
 have eup : upE g ((o' : Int) + E.length) = .tuple #[.int .i64 (upTo ((o' : Int) + E.length) g.al), .int .i64 0] := by
  have hd : g.sz * 2 ≤ g.sz * g.regs := Int.mul_le_mul_of_nonneg_left hg.2.2.1.1 (by omega)
  unfold upE; rw [if_pos hg, if_neg (by omega)]
 have up := upTo_ge (n := (o' : Int) + E.length) (al := g.al) (by omega)
 have up2 := upTo_ge (n := upTo ((o' : Int) + E.length) g.al) (al := g.page) (by omega)
 refine ⟨x20, _, _, eup, nxt g ((o' : Int) + E.length) (gaps.getD m false), ⟨gaps.getD m false, ⟨fun e => ?_, fun e => ?_⟩, fun e => ?_, fun e => ?_⟩, ?_⟩
 ·have hmg := lt_of_dec e
  have x20a : Ext h h20 := by
   refine (((x12.trans x126).fr (fun b => b = nb ∨ blkA out b)).trans ((f17.mono fun _ _ q => .inl q).trans (f19.mono fun _ _ q => .inr q) fun _ _ q => q) fun _ _ q => q).ext (fun i hi q => ?_) |>.trans x20
   rcases q with q | q
   ·omega
   ·have := (w12.low q).1; omega
  obtain ⟨gb', go, eg, dg⟩ := (sg.ext x20a).at (List.getElem?_eq_getElem hmg)
  refine ⟨gb', go, eg, by omega, by omega, gaps[m], dg.1, ?_⟩
  rw [List.getD_eq_getElem?_getD, List.getElem?_eq_getElem hmg]; rfl
 ·have hmg := ge_of_dec e
  rw [List.getD_eq_getElem?_getD, List.getElem?_eq_none hmg]; rfl
 ·rw [e]
  refine ⟨by omega, ?_⟩
  unfold nxt
  rw [if_pos rfl]
  generalize upTo ((o' : Int) + E.length) g.al = u at *
  have : upTo u g.page = (u + g.page - 1) / g.page * g.page := rfl
  rw [w64 (x := u + g.page) (by omega) (by omega), w64 (x := u + g.page - 1) (by omega) (by omega), Int.tdiv_eq_ediv_of_nonneg (by omega)]
  have hd1 : (u + g.page - 1) / g.page ≤ u + g.page - 1 := Int.ediv_le_self _ (by omega)
  have hd0 : 0 ≤ (u + g.page - 1) / g.page := Int.ediv_nonneg (by omega) (by omega)
  rw [w64 (x := (u + g.page - 1) / g.page) (by omega) (by omega), w64 (x := (u + g.page - 1) / g.page * g.page) (by omega) (by omega)]; exact this
 ·rw [e]; rfl
 generalize hnx : nxt g ((o' : Int) + E.length) (gaps.getD m false) = nx at *
 have hnxb : (o' : Int) + E.length ≤ nx ∧ nx ≤ g.sz + 8192 := by rw [← hnx]; unfold nxt; split <;> omega
 have im20 := im19.fr (x20.fr (fun _ => False)) id
 have ew2 : IntKind.i64.wrap ((k : Int) - 24) = g.sz - 24 := by rw [w64 (by omega) (by omega)]; omega
 simp only [ew2]
 have heq : layTo g x rs gaps (m + 1) = ⟨s.P ++ E ++ List.replicate (min nx (g.sz - 24) - ((o' : Int) + E.length)).toNat 0, nx, s.out ++ [fo]⟩ := by
  rw [hstep, hp, hnx, hfo]
 have hPE : (s.P ++ E).length = o' + E.length := by rw [List.length_append, hPl]
 refine ⟨fun kk h21 => ∃ j : Nat, kk = (o' : Int) + E.length + j ∧ (kk ≤ min nx (g.sz - 24)) ∧ Im nb h21 (layImg g (s.P ++ E ++ List.replicate j 0)) ∧ Fr (fun i => i = nb) h20 h21, fun kk _ => (g.sz - kk).toNat, ⟨0, by omega, by omega, by simpa using im20, Fr.refl _ _⟩, ?_⟩
 rintro _ h21 ⟨j, rfl, hj, im21, f21⟩
 have hPEj : (s.P ++ E ++ List.replicate j 0).length = o' + E.length + j := by rw [List.length_append, hPE, List.length_replicate]
 refine ⟨fun e2 => ?_, fun e2 => ?_⟩
 ·simp only [Bool.and_eq_true, decide_eq_true_eq] at e2
  have epos : 0 + Int.toNat ((o' : Int) + E.length + j) * 1 = (s.P ++ E ++ List.replicate j 0).length := by rw [hPEj]; omega
  rw [epos]
  refine ⟨by omega, by omega, im21.w (by have := img_len (g := g) (P := s.P ++ E ++ List.replicate j 0) (by omega); omega), off, fun h22 e22 => ?_⟩
  rw [w64 (x := (o' : Int) + E.length + j + 1) (by omega) (by omega)]
  refine ⟨⟨j + 1, by omega, by omega, ?_, f21.trans (fr_hset_of e22) fun _ _ q => q⟩, by show (g.sz - ((o' : Int) + E.length + j + 1)).toNat < (g.sz - ((o' : Int) + E.length + j)).toNat; omega⟩
  have := im21.set e22
  rw [img_push (by omega), List.append_assoc] at this
  rw [List.replicate_succ', ← List.append_assoc]
  rw [List.append_assoc (s.P ++ E)]; exact this
 ·simp only [Bool.and_eq_false_iff, decide_eq_false_iff_not] at e2
  have hjj : j = (min nx (g.sz - 24) - ((o' : Int) + E.length)).toNat := by omega
  rw [heq, ← hjj]
  have z20 := x20.size
  have no' : ∀ b, blkA a' b → ¬ b = nb := fun b hb => by have := (w19.low hb).1; omega
  refine ⟨rfl, by simp, im21, (s19.ext x20).fr f21 no', (w19.ext x20).fr f21 no', ?_, by have := f21.size; omega⟩
  refine (((x12.trans x126).fr (fun b => b = nb ∨ blkA out b)).trans ((f17.mono fun _ _ q => .inl q).trans ((f19.mono fun _ _ q => .inr q).trans ((x20.fr _).trans (f21.mono fun _ _ q => .inl q) fun _ _ q => q) fun _ _ q => q) fun _ _ q => q) fun _ _ q => q).ext (fun i hi q => ?_)
  rcases q with q | q
  ·omega
  ·have := (w12.low q).1; omega
end
end Sc
end Go.Proofs.YthjehlocmikchaaDoor
