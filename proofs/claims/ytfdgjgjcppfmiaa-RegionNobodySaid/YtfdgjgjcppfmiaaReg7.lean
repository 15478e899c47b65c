/-
New.
-/
import Derived.Test.YtfdgjgjcppfmiaaReg6
namespace Go.Proofs.Ytfdgjgjcppfmiaa
open Go

def freeI (k : Nat) : Nat → Info := fun j => if j < k then ⟨1, 0, 0, 0⟩ else ⟨0, 0, 0, 0⟩
def nums (k : Nat) : List Int := (List.range k).map Int.ofNat
theorem nums_len (k : Nat) : (nums k).length = k := by simp [nums]
theorem nums_succ (k : Nat) : nums (k + 1) = nums k ++ [(k : Int)] := by simp [nums, List.range_succ]

theorem zinfo {n : Nat} : ∀ i, i < n → InfoAt (zcells [Value.int .i64 0, .int .u64 0, .int .i64 0, .int .i64 0] n).toArray i ⟨0, 0, 0, 0⟩ := by
  intro i hi
  have key : ∀ k, k < 4 → (zcells [Value.int .i64 0, .int .u64 0, .int .i64 0, .int .i64 0] n).toArray[i * 4 + k]? = [Value.int .i64 0, .int .u64 0, .int .i64 0, .int .i64 0][k]? := by
    intro k hk
    rw [List.getElem?_toArray, zcells_getElem _ _ _ (by simp only [List.length_cons, List.length_nil]; omega)]
    simp only [List.length_cons, List.length_nil]
    have : (i * 4 + k) % (0 + 1 + 1 + 1 + 1) = k := by omega
    rw [this]
  exact ⟨key 0 (by omega), key 1 (by omega), key 2 (by omega), key 3 (by omega)⟩

theorem new_no {n : Int} (hn : n < 2 ∨ 256 < n) (h : Heap) : HC Try.prog 10 #[.int .i64 n] h fun v h' => v = .tuple #[.pointer none, .int .i64 1] ∧ h' = h := by
  refine f10_sh _ _ _ ⟨true, ⟨fun _ => rfl, fun h => ?_⟩, fun _ => ⟨rfl, rfl⟩, fun h => by simp at h⟩
  simp only [decide_eq_false_iff_not] at h
  exact (decide_eq_true (by omega)).symm

theorem new_c {n : Nat} (h2 : 2 ≤ n) (h256 : n ≤ 256) (h : Heap) : HC Try.prog 10 #[.int .i64 n] h fun v h' => ∃ p q mb fa fc, v = .tuple #[ptr p 0, .int .i64 0] ∧ Ext h h' ∧ Man h' ⟨h.size, none⟩ p q mb n 0 (freeI n) fa fc (nums n) 0 (-1) := by
  refine f10_sh _ _ _ ⟨false, ⟨fun h => by simp only [decide_eq_true_eq] at h; omega, fun _ => (decide_eq_false (by omega)).symm⟩, fun h => by simp at h, fun _ => ⟨by omega, by omega, by omega, ?_⟩⟩
  intro q h1 eq e1
  rw [Int.toNat_natCast] at e1
  intro mb h2' em x2 z2 m2
  intro p h3 ep e3
  rw [Int.toNat_natCast] at e3
  have x1 : Ext h h1 := by rw [e1]; exact Ext.push _ _
  have x3 : Ext h2' h3 := by rw [e3]; exact Ext.push _ _
  have s1 : h1.size = h.size + 1 := by rw [e1]; simp
  have rq : h1[q]? = some (.cells (zcells [Value.int .i64 0, .int .u64 0, .int .i64 0, .int .i64 0] n).toArray 31 (0, 0)) := by rw [e1]; exact push_new eq
  have t3 : Mem h3 ⟨h.size, none⟩ p q mb n 0 (freeI 0) none 0 (nums 0) 0 (-1) := by
    refine ⟨⟨by show h.size ≤ p; omega, by simp⟩, ⟨by show h.size ≤ q; omega, by simp⟩, ⟨by show h.size ≤ mb; omega, by simp⟩, fun y e => by simp at e, ⟨n, by rw [e3]; exact push_new ep⟩, ⟨_, x3.row (x2.row rq), by rw [List.size_toArray, zcells_length]; simp, fun i hi => zinfo i hi⟩, ⟨by simp [nums], .inl ⟨rfl, rfl⟩⟩, [], m2.ext x3, fun x hx => by cases hx⟩
  have f3 : Ext h h3 := x1.trans (x2.trans x3)
  clear e1 e3
  obtain ⟨qc, c0⟩ := t3.c0
  refine ⟨_, _, _, c0, ?_⟩
  refine ⟨fun v h4 => ∃ k : Nat, v = k ∧ k ≤ n ∧ Fr (Lo.ok ⟨h.size, none⟩) h h4 ∧ ∃ fa fc, Mem h4 ⟨h.size, none⟩ p q mb n 0 (freeI k) fa fc (nums k) 0 (-1), fun v _ => n - v.toNat, ⟨0, rfl, Nat.zero_le _, f3.fr _, none, 0, t3⟩, ?_⟩
  clear t3 f3 c0
  rintro _ h4 ⟨k, rfl, hk, f4, fa, fc, t4⟩
  refine ⟨fun hlt => ?_, fun hge => ?_⟩
  · have hkn : k < n := by have := of_decide_eq_true hlt; omega
    obtain ⟨qc4, c04⟩ := t4.c0
    have hk0 : (0 : Int) ≤ (k : Int) := Int.natCast_nonneg _
    have hki : (k : Int) < (n : Int) := by omega
    refine ⟨_, _, _, c04, _, _, rfl, hk0, hki, t4.hwq hk0 hki 0 (by omega), ?_⟩
    intro h5 e5
    simp only [Int.toNat_natCast] at e5
    have t5 : Mem h5 ⟨h.size, none⟩ p q mb n 0 (freeI (k + 1)) fa fc (nums k) 0 (-1) := by
      have := t4.put (only_hset (h := h4) (b := q) (o := 0 + k * 4) (v := .int .i64 1)) (row_word (j := 0) (x := ⟨1, 0, 0, 0⟩) t4 hkn (by omega) (vals_eq (by simp [freeI, Info.vals]) (by omega)))
      have ei : upI (freeI k) k ⟨1, 0, 0, 0⟩ = freeI (k + 1) := by
        funext j
        unfold upI freeI
        by_cases e : j = k
        · subst e; simp
        · rw [if_neg e]
          by_cases e2 : j < k
          · rw [if_pos e2, if_pos (by omega)]
          · rw [if_neg e2, if_neg (by omega)]
      rw [ei] at this
      rw [e5]; exact this
    have f5 : Fr (Lo.ok ⟨h.size, none⟩) h h5 := by rw [e5]; exact f4.trans (fr_hset (Lo.ok ⟨h.size, none⟩) (fun _ => t4.lowq)) (fun _ _ h => h)
    clear e5
    refine ⟨_, _, _, t5.c1, ?_⟩
    intro nb h6 enb e6
    have x6 : Ext h5 h6 := by rw [e6]; exact Ext.push _ _
    have cnb : hcell h6 nb 0 = some (.int .i64 (k : Int)) := by rw [hcell_row (by rw [e6]; exact push_new enb)]; rfl
    have t6 := t5.ext x6
    refine app_int t6.fr cnb (by rw [nums_len]; omega) (t6.fresh (Nat.le_refl _)) ?_
    intro a' c' h7 f7 k7 fresh blk
    refine ⟨a', (nums k).length + 1, c', rfl, ?_⟩
    obtain ⟨qc6, etab⟩ := t6.tab
    have nfa : ∀ b, blkOf fa b → b ≠ p ∧ b ≠ q ∧ b ≠ mb := fun b hb => let ⟨_, kb⟩ := t6.fr.blk hb; t6.intne kb
    have etab7 := f7.row etab (fun hb => (nfa p hb).1 rfl)
    refine ⟨HW_row etab7 (by simp), ?_⟩
    intro h8 e8
    have t8 : Mem h8 ⟨h.size, none⟩ p q mb n 0 (freeI (k + 1)) a' c' (nums (k + 1)) 0 (-1) := by
      rw [nums_succ]
      exact t6.refree f7 k7 fresh (by rw [e8]; exact only_hset) (fun qc e => by rw [e8, hset_row e]; simp)
    have f8 : Fr (Lo.ok ⟨h.size, none⟩) h h8 := by
      rw [e8]
      exact ((f5.trans (x6.fr _) (fun _ _ h => h)).trans f7 (fun b _ hb => (t6.fr.blk hb).choose_spec.low)).trans (fr_hset (Lo.ok ⟨h.size, none⟩) (fun _ => t4.lowp)) (fun _ _ h => h)
    rw [w64 (by omega) (by omega)]
    refine ⟨⟨k + 1, rfl, hkn, f8, a', c', t8⟩, ?_⟩
    show n - Int.toNat ((k : Int) + 1) < n - Int.toNat (k : Int)
    omega
  · have hkn : k = n := by have := of_decide_eq_false hge; omega
    subst hkn
    refine ⟨p, q, mb, fa, fc, rfl, f4.ext (fun i hi h' => by have : h.size ≤ i := h'.1; omega), t4, ?_⟩
    refine ⟨h2, h256, by omega, fun j hj => by simp [freeI, hj], ?_, fun x hx => ?_, .inl rfl, by omega, by omega⟩
    · exact List.Pairwise.map _ (fun a b e h => e (Int.ofNat.inj h)) (List.nodup_range (n := k))
    · obtain ⟨j, hj, rfl⟩ := List.mem_map.1 hx
      have := List.mem_range.1 hj
      refine ⟨by simp, by simpa using this, ?_⟩
      simp [freeI, this]

end Go.Proofs.Ytfdgjgjcppfmiaa
