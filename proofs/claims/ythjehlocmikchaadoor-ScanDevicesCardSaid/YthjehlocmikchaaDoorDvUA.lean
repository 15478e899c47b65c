import Derived.Test.YthjehlocmikchaaDoorDvSZ
import Derived.Test.YthjehlocmikchaaDoorDvDeq
import Derived.Test.YthjehlocmikchaaDoorDvDrw
import Derived.Test.YthjehlocmikchaaDoorDvRng
import Derived.Test.YthjehlocmikchaaDoorDvTBb
import Derived.Test.YthjehlocmikchaaDoorProg
namespace Go.Proofs.YthjehlocmikchaaDoor
namespace Sc
open Go
theorem img_isB {g : Geo} {P : List Int} (h : isB P) : isB (layImg g P) := isB_app h (isB_rep _ _ ⟨by decide, by decide⟩)
def gS : Geo := ⟨64, 4, 3, 8⟩
def xS : Hd := ⟨1, 5, 1⟩
def rS : Rc := ⟨1, 1, ByteArray.mk #[107], ByteArray.mk #[118]⟩
theorem gS_ok : Gok gS := by decide
theorem xS_ok : hdOk gS xS := by decide
theorem layS : layTo gS xS [rS] [] 1 = ⟨(lay0 gS xS).P ++ encR 5 rS ++ List.replicate 6 0, 64, [⟨1, 32, 26, rS⟩]⟩ := by
 have e1 : (encR 5 rS).length = 26 := by rw [encR_len]; rfl
 have h1 : lays gS 5 (lay0 gS xS) rS := ⟨by decide, by rw [e1]; decide⟩
 show layOne gS 5 1 (lay0 gS xS) rS false = _
 unfold layOne
 rw [if_pos h1, e1]
 rfl
theorem surS : ∃ S, surOf gS 1 (layImg gS (layTo gS xS [rS] [] 1).P) = (S, 0) ∧ S.has = true ∧ S.sq = 5 ∧ S.recs = [⟨1, 32, 26, rS⟩] ∧ S.at_ = 64 ∧ S.why = 2 := by
 obtain ⟨q, I, hq⟩ := laidTo (g := gS) (x := xS) (rs := [rS]) (gaps := []) gS_ok (fun r hr => by simp at hr; subst hr; decide) 1
 obtain ⟨S, h1, h2, _, h4, _, h6, _, h8⟩ := law_back gS_ok I xS_ok (by decide) (by decide)
 have e : (layTo gS xS [rS] [] 1).at_ = 64 := by rw [layS]
 obtain ⟨h9, h10⟩ := h8 (hq rfl) (by rw [e]; decide)
 exact ⟨S, h1, h2, h4, by rw [h6, layS], by rw [h9, e], h10⟩
theorem small_c (h : Heap) : HC Tryd.prog 30 #[] h fun v h' => v = gS.v ∧ Ext h h' := f30_sh _ _ fun h2 x2 => ⟨rfl, x2⟩
set_option maxHeartbeats 1600000 in
theorem awake_c {h : Heap} (t : Tab h) : HC Tryd.prog 10 #[] h fun v h' => v = .bool true ∧ Ext h h' := by
 obtain ⟨X, hX⟩ : ∃ X, layImg gS (layTo gS xS [rS] [] 1).P = X := ⟨_, rfl⟩
 have hsur := surS
 have hB : isB X := by
  obtain ⟨q, I, hq⟩ := laidTo (g := gS) (x := xS) (rs := [rS]) (gaps := []) gS_ok (fun r hr => by simp at hr; subst hr; decide) 1
  rw [← hX]; exact img_isB I.byte
 rw [hX] at hsur
 have fin : ∀ {h1 h2 : Heap} {nb : Nat}, Ext h h1 → nb = h1.size → h2 = h1.push (.cells #[.int .i64 1, .int .u64 1, .string (ByteArray.mk #[107]), .string (ByteArray.mk #[118])] 43) → Ext h h2 ∧ Sl eRc h2 (some ⟨nb, 0, none⟩) 1 [rS] := fun {h1 h2 nb} x1 en e2 => by
  refine ⟨x1.trans (by rw [e2]; exact Ext.push _ _), Sl.lit (L := [rS]) (T := 43) ?_⟩
  rw [e2, push_new en]; rfl
 have lay : ∀ {h1 : Heap} {nb r : Nat}, Ext h h1 → Sl eRc h1 (some ⟨nb, 0, none⟩) 1 [rS] → HC Tryd.prog 18 #[gS.v, xS.v, .slice (some ⟨nb, 0, none⟩) 1 1, .slice none 0 0] h1 fun vv h6 => Kp [r] h1 h6 ∧ ∃ r0 : Option Addr, ∃ r0_n r0_c : Nat, ∃ r1 : Option Addr, ∃ r1_n r1_c : Nat, vv = (.tuple #[(.slice r0 r0_n r0_c), (.slice r1 r1_n r1_c)]) ∧ (Ext h h6 ∧ r0_n = (X).length ∧ Sl eB h6 r0 r0_c (X)) := fun {h1 nb r} x1 s1 => by
  refine (lay_r gS xS gS_ok xS_ok (by decide) (by decide) s1 (fun r hr => by simp at hr; subst hr; decide) (Sl.nil eBool h1) (by decide)).mono ?_
  rintro v h6 ⟨x6, ia, ic, oa, oc, e6, s6, _⟩
  change v = Value.tuple #[.slice ia (layImg gS (layTo gS xS [rS] [] 1).P).length ic, _] at e6
  change Sl eB h6 ia ic (layImg gS (layTo gS xS [rS] [] 1).P) at s6
  rw [hX] at e6 s6
  subst e6
  exact ⟨x6.kp _, ia, _, ic, oa, _, oc, rfl, x1.trans x6, rfl, s6⟩
 refine f10_sh _ _ ⟨fun ia n ic h3 => Ext h h3 ∧ n = (X).length ∧ Sl eB h3 ia ic (X), ⟨fun r h2 _ _ x2 => (small_c h2).mono ?_, fun r h2 _ _ x2 nb h7 en e7 => ?_⟩, ?_⟩
 ·rintro _ h4 ⟨rfl, x4⟩
  refine ⟨x4, _, _, _, _, rfl, fun nb h5 en e5 => ?_⟩
  obtain ⟨x5, s5⟩ := fin (x2.trans x4) en e5
  exact lay x5 s5
 ·obtain ⟨x7, s7⟩ := fin x2 en e7
  refine (small_c h7).mono ?_
  rintro _ h8 ⟨rfl, x8⟩
  exact ⟨x8, _, _, _, _, rfl, lay (x7.trans x8) (s7.ext x8)⟩
 rintro ia _ ic h3 ⟨x3, rfl, s3⟩ r _ _
 refine (small_c h3).mono ?_
 rintro _ h10 ⟨rfl, x10⟩
 refine ⟨x10, _, _, _, _, rfl, (survey_m gS 1 (t.ext (x3.trans x10)) (s3.ext x10) hB).mono ?_⟩
 intro v h11 ht
 obtain ⟨S, hS, k1, k2, k3, k4, k5⟩ := hsur
 rw [hS] at ht
 obtain ⟨ra, rcp, rfl, x11, s11, _⟩ := ht
 simp only at s11
 refine ⟨x11, S.rg, S.has, S.ep, S.sq, S.hr, ra, S.recs.length, rcp, S.at_, S.why, S.sealed_, 0, rfl, true, ⟨fun _ => ⟨fun _ => ⟨fun _ => ⟨fun _ => ?_, fun e => ?_⟩, fun e => ?_⟩, fun e => ?_⟩, fun e => by simp at e⟩, fun h13 x13 => ⟨rfl, x3.trans (x10.trans (x11.trans x13))⟩⟩
 ·have hget : S.recs[0]? = some ⟨1, 32, 26, rS⟩ := by rw [k3]; rfl
  obtain ⟨b, o, e, d⟩ := s11.at hget
  refine ⟨b, o, e, Int.le_refl _, by rw [k3]; decide, _, _, _, _, _, _, _, d.1, d.2.1, d.2.2.1, d.2.2.2.1, d.2.2.2.2.1, d.2.2.2.2.2.1, d.2.2.2.2.2.2.1, fun _ => by rw [k4, k5]; rfl, fun e => by
   simp [rS] at e
   exact absurd (e (by decide)) (by decide)⟩
 ·rw [k3] at e; simp at e
 ·rw [k2] at e; simp at e
 ·rw [k1] at e; cases e
end Sc
end Go.Proofs.YthjehlocmikchaaDoor
