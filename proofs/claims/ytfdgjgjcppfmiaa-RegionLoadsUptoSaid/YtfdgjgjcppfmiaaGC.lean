/-
Slices of numbers: looked through, cut, told anew.
-/
import Derived.Test.YtfdgjgjcppfmiaaGB
namespace Go.Proofs.Ytfdgjgjcppfmiaa
namespace Mg
open Go

theorem aI : AppT Try.prog 50 3 eI.k 8 := ⟨by kernel_rfl, by kernel_rfl, by kernel_rfl, ⟨.int .i64 0, [.int .i64 0], by unfold zeroB; kernel_rfl, rfl, rfl⟩, by decide⟩
theorem fit_frm (S : Nat → Prop) : Fit (Fr S) := ⟨fun _ _ x => x.fr S, fun _ _ _ f g => f.trans g fun _ _ s => s⟩

def ix (L : List Int) (x : Int) : Int := if x ∈ L then (L.idxOf x : Int) else -1
theorem ix_at {L : List Int} {x : Int} {k : Nat} (hk : k < L.length) (hx : x ∉ L.take k) (e : L[k] = x) : ix L x = k := by
  have hm : x ∈ L := e ▸ List.getElem_mem hk
  unfold ix
  rw [if_pos hm]
  have h1 : L = L.take k ++ x :: L.drop (k + 1) := by rw [← e, List.getElem_cons_drop, List.take_append_drop]
  rw [h1, List.idxOf_append, if_neg hx, List.idxOf_cons_self, List.length_take]
  omega
section
variable {h : Heap} {a : Option Addr} {c N : Nat} {L : List Int}
theorem index_m (s : Sl eI h a c L) (hl : L.length ≤ 4398046511104) (x : Int) : HC Try.prog 57 #[.slice a L.length c, .int .i64 x] h fun v h' => v = .int .i64 (ix L x) ∧ h' = h := by
  refine f57_sh _ _ _ _ _ _ ⟨fun v => ∃ k : Nat, v = k ∧ k ≤ L.length ∧ x ∉ L.take k, fun v => L.length - v.toNat, ⟨0, rfl, Nat.zero_le _, by simp⟩, ?_⟩
  rintro _ ⟨k, rfl, hk, hx⟩
  refine ⟨fun hlt => ?_, fun hge => ?_⟩
  · have hkl := lt_of_dec hlt
    obtain ⟨b, o, e, d⟩ := s.at (List.getElem?_eq_getElem hkl)
    refine ⟨b, o, e, by omega, by omega, L[k], d.1, fun g => ⟨?_, rfl⟩, fun g => ?_⟩
    · rw [ix_at hkl hx (eq_of_beq g).symm]
    · rw [wadd k (by omega)]
      refine ⟨⟨k + 1, rfl, hkl, ?_⟩, by simp only [Int.toNat_natCast]; omega⟩
      rw [List.take_add_one, List.getElem?_eq_getElem hkl]
      simp only [Option.toList_some, List.mem_append, List.mem_singleton, not_or]
      exact ⟨hx, by simpa using g⟩
  · have hkl : k = L.length := by have := ge_of_dec hge; omega
    rw [hkl, List.take_length] at hx
    exact ⟨by unfold ix; rw [if_neg hx], rfl⟩
theorem contains_m (s : Sl eI h a c L) (hl : L.length ≤ 4398046511104) (x : Int) : HC Try.prog 47 #[.slice a L.length c, .int .i64 x] h fun v h' => v = .bool (decide (x ∈ L)) ∧ h' = h := by
  refine f47_sh _ _ _ _ _ _ ⟨ix L x, index_m s hl x, ?_, rfl⟩
  congr 1
  unfold ix
  by_cases hx : x ∈ L
  · rw [if_pos hx]; simp [hx]
  · rw [if_neg hx]; simp [hx]

/-- The first of a list goes. -/
theorem delete_m {x : Int} (s : Sl eI h a c (x :: L)) (w : Own eI.k 3 N h a c) (hN : N ≤ h.size) (hl : L.length ≤ 1048576) : HC Try.prog 33 #[.slice a (x :: L).length c, .int .i64 0, .int .i64 1] h fun v h' =>
    ∃ a' c', v = .slice a' L.length c' ∧ Fr (blkA a) h h' ∧ Sl eI h' a' c' L ∧ Own eI.k 3 N h' a' c' ∧ ∀ b, blkA a' b → blkA a b := by
  have hle := s.le
  simp only [List.length_cons] at hle
  refine f33_sh _ _ _ _ _ _ _ ⟨by omega, by omega, by simp only [List.length_cons]; omega, by simp only [List.length_cons]; omega, fun sl _ => ⟨fun g => by simp at g, fun _ => ⟨by omega, by omega, by omega, fun s1 e1 => ⟨by omega, by simp only [List.length_cons]; omega, by simp only [List.length_cons]; omega, fun s2 e2 => ?_⟩⟩⟩⟩
  obtain ⟨b, o, rfl, hc⟩ := s.addr (by simp)
  obtain ⟨cs, hrow, hcs, _⟩ := w.row
  have t1 := s.cut (l := 0) (r := 0) (Nat.le_refl _) (Nat.zero_le _)
  have t2 := s.cut (l := 1) (r := (x :: L).length) (by simp) (Nat.le_refl _)
  have u1 := w.cut (l := 0) (Nat.zero_le _)
  have q1 : s1 = slA (some ⟨b, o, none⟩) 0 eI.k c := e1
  have q2 : s2 = slA (some ⟨b, o, none⟩) 1 eI.k c := e2
  rw [← q1] at t1 u1
  rw [← q2] at t2
  have l1 : List.drop 0 (List.take 0 (x :: L)) = [] := rfl
  have l2 : List.drop 1 (List.take (x :: L).length (x :: L)) = L := by rw [List.take_length]; rfl
  rw [l1] at t1
  rw [l2] at t2
  have n2 : Int.toNat (((x :: L).length : Nat) : Int) - Int.toNat 1 = L.length := by rw [Int.toNat_natCast]; rfl
  rw [n2]
  have ho : (slA (some ⟨b, o, none⟩) 0 eI.k c) = some ⟨b, o, none⟩ := by
    obtain ⟨o', e, ho'⟩ := slA_some (b := b) (o := o) (l := 0) (sz := eI.k) (m := c)
    rw [e, ho' (by omega)]; simp
  rw [ho] at q1
  subst q1
  have hlen : (L.flatMap eI.enc).length = L.length := by rw [flat_len]; exact Nat.mul_one _
  have k1 : eI.k = 1 := rfl
  rw [k1] at hcs
  refine happ_room (size := 1) (n := 0) aI.hu aI.hz t2.src (by omega) (flat_one eI L) (fun j hj => HW_row hrow (by omega)) ?_
  have hrow1 := hsets_row (L.flatMap eI.enc) (o := o + 0 * 1) hrow
  generalize eh1 : hsets h b (o + 0 * 1) (L.flatMap eI.enc) = h1 at *
  have f1 : Fr (fun b' => b' = b) h h1 := by rw [← eh1]; exact fr_hsets _ fun _ => rfl
  have s1' : Sl eI h1 (some ⟨b, o, none⟩) c L := Sl.of_row hrow1 (by omega) fun j v hv => by
    have hj := (List.getElem?_eq_some_iff.1 hv).1
    rw [sets_get _ _ _ _ (by omega), if_pos (by omega)]
    rw [show o + j - (o + 0 * 1) = j by omega]; exact hv
  have w1' : Own eI.k 3 N h1 (some ⟨b, o, none⟩) c := by rw [← eh1]; exact Own.hsets w _ _ _
  refine ⟨_, _, _, rfl, by omega, by simp only [List.length_cons]; omega, by simp only [List.length_cons]; omega, fun s3 e3 => ?_⟩
  have e3' : s3 = slA (some ⟨b, o, none⟩) L.length 1 (c - 0) := by rw [e3]; congr 1; simp
  obtain ⟨o3, eo3, ho3⟩ := slA_some (b := b) (o := o) (l := L.length) (sz := 1) (m := c - 0)
  have hn1 : Int.toNat (((x :: L).length : Nat) : Int) - Int.toNat (((0 + L.length : Nat)) : Int) = 1 := by simp
  have eo : o3 = o + L.length * 1 := ho3 (by omega)
  refine ⟨fun _ => ⟨b, o3, e3'.trans eo3, ?_⟩, fun h2 _ q2 => ?_⟩
  · rw [hn1, eo]
    exact HWs_row hrow1 (by rw [sets_size]; omega)
  · rw [hn1] at q2
    have e2 := q2 b o3 (by decide) (e3'.trans eo3)
    rw [e2, eo]
    refine ⟨some ⟨b, o, none⟩, c, by simp, (f1.trans (fr_hsets (fun b' => b' = b) fun _ => rfl) fun _ _ s => s).mono fun b' _ e => blkA_some.2 e, ?_, Own.hsets w1' _ _ _, fun b' g => g⟩
    have := s1'.before (j := L.length) (p := o + L.length * 1) (Nat.le_refl _) (zcells [(.int .i64 0)] 1)
    rw [List.take_length] at this; exact this
theorem clone_m (s : Sl eI h a c L) (hl : L.length ≤ 1048576) : HC Try.prog 48 #[.slice a L.length c] h fun v h' => New eI 3 h h' v L := by
  refine f48_sh _ _ _ _ _ ⟨fun g => ?_, fun _ nb h1 en eh => ?_⟩
  · have : L = [] := by
      cases L with
      | nil => rfl
      | cons x L => obtain ⟨b, o, e, _⟩ := s.addr (by simp); rw [e] at g; simp at g
    subst this
    exact New.nil (Ext.refl _)
  · have x1 : Ext h h1 := by rw [eh]; exact Ext.push _ _
    have r1 : h1[nb]? = some (.cells (([] : List Int).flatMap eI.enc).toArray 3 (0, 0)) := by rw [eh]; exact push_new en
    refine app_own (n := 0) aI x1 (Sl.lit (L := []) r1) (Own.lit (L := []) (N := h.size) r1 (by omega)) rfl (s.ext x1) rfl (by omega) fun a' c' h2 x2 _ s2 w2 _ => ?_
    exact ⟨_, _, _, rfl, a', c', by simp, x2, by simpa using s2, w2⟩
end
end Mg
end Go.Proofs.Ytfdgjgjcppfmiaa
