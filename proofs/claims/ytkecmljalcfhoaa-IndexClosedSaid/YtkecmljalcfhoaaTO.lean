/-
A table, or none: what is gone over.
-/
import Derived.Test.YtkecmljalcfhoaaTN
namespace Go.Proofs.Ytkecmljalcfhoaa
open Go RH

def TOpt (h : Heap) (a : Option Addr) (L : List Ent) : Prop := (a = none ∧ L = []) ∨ ∃ p q B m s, a = some ⟨p, 0, none⟩ ∧ TabOK h p q B m s ∧ Rel B s L
theorem TOpt.ext {h h' : Heap} {a : Option Addr} {L : List Ent} (t : TOpt h a L) (x : Ext h h') : TOpt h' a L := by
  rcases t with ⟨h1, h2⟩ | ⟨p, q, B, m, s, h1, h2, h3⟩
  · exact .inl ⟨h1, h2⟩
  · exact .inr ⟨p, q, B, m, s, h1, h2.ext x, h3⟩
theorem TOpt.len {h : Heap} {a : Option Addr} {L : List Ent} (t : TOpt h a L) : L.length ≤ 65536 := by
  rcases t with ⟨h1, h2⟩ | ⟨p, q, B, m, s, h1, h2, h3⟩
  · rw [h2]; simp
  · have := h3.len h2.g; have := h2.room; have := h2.le; omega
theorem TOpt.srt {h : Heap} {a : Option Addr} {L : List Ent} (t : TOpt h a L) : Srt L := by
  rcases t with ⟨h1, h2⟩ | ⟨p, q, B, m, s, h1, h2, h3⟩
  · rw [h2]; exact List.Pairwise.nil
  · exact h3.srt

section
variable {h : Heap} {L : List Ent} {a : Option Addr}
theorem seq_c (t : TOpt h a L) : HC Try.prog 45 #[.pointer a] h fun v h' => Ext h h' ∧ ∃ tb, v = .func (.func 55) #[] #[ptr tb 0] ∧ h.size ≤ tb ∧ h'[tb]? = some (.cells #[.pointer a] 70 (0, 0)) := by
  rcases t with ⟨rfl, h2⟩ | ⟨p, q, B, m, s, rfl, h2, h3⟩
  · exact f45_shn _ _ fun tb h1 et eh => ⟨by rw [eh]; exact Ext.push _ _, tb, rfl, by omega, by rw [eh]; exact push_new et⟩
  · exact f45_sh _ _ _ _ fun tb h1 et eh => ⟨by rw [eh]; exact Ext.push _ _, tb, rfl, by omega, by rw [eh]; exact push_new et⟩
theorem cbAll : CallB Try.prog 55 := fun _ _ => Try.call55 _ _

theorem go_over {cb : Nat} {y : Value} {R : Value → Heap → Prop} (t : TOpt h a L) (hc : hcell h cb 0 = some (.pointer a))
    (hs : ∀ h3, Ext h h3 → ∃ J : Nat → Heap → Prop, J 0 h3 ∧
      (∀ k (hk : k < L.length) h4, Fr (Yw h h3) h3 h4 → J k h4 → ∀ h6, Ext h4 h6 → HCV Try.prog y [.agg #[.int .u64 L[k].h, .int .u64 L[k].a, .int .u64 L[k].v, .int .u8 L[k].k]] h6 fun vv h7 => Fr (Yw h h3) h6 h7 ∧
        ∃ b : Bool, vv = .bool b ∧ (b = false → R (.tuple #[]) h7) ∧ (b = true → J (k + 1) h7)) ∧
      (∀ h4, Fr (Yw h h3) h3 h4 → J L.length h4 → R (.tuple #[]) h4)) :
    HCF Try.prog (.func (.func 55) #[] #[ptr cb 0]) [y] h R := by
  refine ⟨55, [], [ptr cb 0], rfl, cbAll, ?_⟩
  rcases t with ⟨rfl, rfl⟩ | ⟨p, q, B, m, s, rfl, h2, h3⟩
  · refine f55_sh _ _ _ _ _ ⟨_, hc, (layout_no h).mono ?_⟩
    rintro _ h1 ⟨rfl, rfl⟩
    refine ⟨_, _, _, rfl, (delf_c (M := []) (Sl.nil eEnt h1) (Own.nil _ _ h1.size _) (by simp)).mono ?_⟩
    rintro _ h2 ⟨f2, a2, c2, rfl, s2, w2, b2⟩
    refine ⟨_, _, _, rfl, (sort_c s2 w2 (by simp)).mono ?_⟩
    rintro _ h3 ⟨rfl, f3, L', hp, hsrt, s3, w3⟩
    have x3 : Ext h1 h3 := (f2.trans f3 fun b _ g => b2 b g).ext fun b _ g => blkA_none g
    obtain ⟨J, j0, jstep, jend⟩ := hs h3 x3
    refine ⟨rfl, fun v h4 => v = 0 ∧ h4 = h3, fun _ _ => 0, ⟨rfl, rfl⟩, ?_⟩
    rintro _ _ ⟨rfl, rfl⟩
    exact ⟨fun g => by simp at g, fun _ => jend _ (Fr.refl _ _) j0⟩
  · exact all_it h2 h3 hc (TOpt.len (.inr ⟨p, q, B, m, s, rfl, h2, h3⟩)) hs
end
end Go.Proofs.Ytkecmljalcfhoaa
