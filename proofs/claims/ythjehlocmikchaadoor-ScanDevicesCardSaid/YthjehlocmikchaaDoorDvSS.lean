import Derived.Test.YthjehlocmikchaaDoorDvS4
import Derived.Test.YthjehlocmikchaaDoorDvTC
import Derived.Test.YthjehlocmikchaaDoorDvTCb
namespace Go.Proofs.YthjehlocmikchaaDoor
namespace Sc
open Go
def fits (g : Geo) (L : List Int) : Prop := Gok g ∧ (L.length : Int) = g.sz
instance (g : Geo) (L : List Int) : Decidable (fits g L) := by unfold fits; infer_instance
section
variable {h : Heap} {a : Option Addr} {c : Nat} {L : List Int}
theorem fits_r (g : Geo) (h : Heap) : HC Tryd.prog 20 #[g.v, .slice a L.length c] h fun v h' => v = .bool (decide (fits g L)) ∧ Ext h h' := by
 refine f20_sh _ _ _ _ _ _ _ _ _ ⟨fun j h2 => j = decide (fits g L) ∧ Ext h h2, fun _ h1 _ _ x1 => (check_r g h1).mono ?_, fun j h2 q => ⟨by rw [q.1], q.2⟩⟩
 rintro _ h3 ⟨rfl, x3⟩
 by_cases hg : Gok g
 ·rw [if_pos hg]
  refine ⟨x3, _, rfl, fun _ => (region_r hg h3).mono ?_, fun e => by simp at e⟩
  rintro _ h4 ⟨rfl, x4⟩
  refine ⟨x4, _, rfl, ?_, x1.trans (x3.trans x4)⟩
  rw [Bool.eq_iff_iff]; simp [fits, hg]
 ·rw [if_neg hg]
  exact ⟨x3, _, rfl, fun e => by simp at e, fun _ => ⟨by simp [fits, hg], x1.trans x3⟩⟩
end
structure Fo where
 rg : Int
 off : Int
 sz : Int
 rc : Rc
abbrev Fo.cs (x : Fo) : List Value := [.int .i64 x.rg, .int .i64 x.off, .int .i64 x.sz, .int .i64 x.rc.kind, .int .u64 x.rc.ver, .string x.rc.key, .string x.rc.val]
def eFo : Elt Fo := ⟨7, Fo.cs, fun _ => rfl, fun x v hv => by simp at hv; rcases hv with rfl | rfl | rfl | rfl | rfl | rfl | rfl <;> rfl⟩
def goOn (g : Geo) (salt rg : Int) (L : List Int) : Nat → Int → List Fo × Int × Int
 | 0, p => ([], p, 4)
 | n + 1, p =>
  if p > L.length - 48 then ([], p, 4) else
  if L.getD p.toNat 0 = 0 then goOn g salt rg L n ((p / g.page + 1) * g.page) else
  if L.getD p.toNat 0 = 255 then ([], p, 2) else
  if recOk g salt (L.drop p.toNat) then
   let sz : Int := szR (L.drop p.toNat)
   let r := goOn g salt rg L n (upTo (p + sz) g.al)
   (⟨rg, p, sz, rcOf (L.drop p.toNat)⟩ :: r.1, r.2)
  else ([], p, 3)
end Sc
end Go.Proofs.YthjehlocmikchaaDoor
