/-
The same, result and state told.
-/
import Derived.Test.YtfdgjgjcppfmiaaReg7
namespace Go.Proofs.Ytfdgjgjcppfmiaa
open Go

section
variable {h : Heap} {N0 : Lo} {p q mb n K : Nat} {I : Nat → Info} {fa : Option Addr} {fc : Nat} {L : List Int} {last cur : Int}

theorem open_x {x : Int} (t : Man h N0 p q mb n K I fa fc (x :: L) last cur) (hc : cur = -1) (hl : last ≠ 9223372036854775807) : HC Try.prog 13 #[ptr p 0] h fun v h' => v = .tuple #[.int .i64 x, .int .u64 (last + 1), .int .i64 0] ∧ Fr N0.ok h h' ∧
    ∃ fa' fc', Man h' N0 p q mb n K (upI I x.toNat { I x.toNat with st := 2, sq := last + 1 }) fa' fc' L (last + 1) x := by
  have hlast := t.inv.last
  refine f13_sh _ _ _ _ ⟨true, made_c t, fun h => by simp at h, fun _ => ⟨_, t.c3, fun h => by simp [hc] at h, fun _ => ⟨_, _, _, t.c1, fun h => by simp at h; omega, fun _ => ⟨_, t.c2, fun h => absurd (eq_of_beq h) hl, fun _ => ?_⟩⟩⟩⟩
  obtain ⟨g1, g2, g3⟩ := t.inv.free x (by simp)
  rcases t.fr.ex with ⟨_, e⟩ | ⟨b, o, hfa, kb, kc⟩
  · have := t.fr.le; simp at this; omega
  refine ⟨_, _, _, t.c1, b, o, hfa, by omega, by simp, x, ?_, t.hwp 3 (by omega), ?_⟩
  · have := kc 0 x rfl
    exact this
  intro h1 e1
  have t1 : Mem h1 N0 p q mb n K I fa fc (x :: L) last x := by
    rw [e1]; exact t.toMem.words only_hset (fun qc e => by rw [hset_row e]; rfl)
  have f1 : Fr N0.ok h h1 := by rw [e1]; exact fr_hset _ (fun _ => t.lowp)
  clear e1
  have hlen : (x :: L).length ≤ 4194304 := by
    have hsub : ∀ y ∈ x :: L, y ∈ (List.range n).map (Int.ofNat) := fun y hy => by
      obtain ⟨g1, g2, _⟩ := t.inv.free y hy
      exact List.mem_map.2 ⟨y.toNat, List.mem_range.2 (by omega), by simp; omega⟩
    have := List.Nodup.length_le_of_subset t.inv.nodup hsub
    simp at this
    have := t.inv.n256
    simp; omega
  refine ⟨_, _, _, t1.c1, (delete_c t1.fr hlen).mono ?_⟩
  rintro _ h2 ⟨a', c', rfl, f2, k2, sub⟩
  refine ⟨_, _, _, rfl, ?_⟩
  have nfa : ∀ b, blkOf fa b → b ≠ p ∧ b ≠ q ∧ b ≠ mb := fun b hb => let ⟨_, kb⟩ := t1.fr.blk hb; t1.intne kb
  obtain ⟨qc1, etab⟩ := t1.tab
  have etab2 := f2.row etab (fun hb => (nfa p hb).1 rfl)
  refine ⟨HW_row etab2 (by simp), ?_⟩
  intro h3 e3
  have t3 : Mem h3 N0 p q mb n K I a' c' L last x :=
    t1.refree f2 k2 (fun b hb => .inl (sub b hb)) (by rw [e3]; exact only_hset) (fun qc e => by rw [e3, hset_row e]; rfl)
  have f3 : Fr N0.ok h h3 := by
    rw [e3]
    exact (f1.trans f2 (fun b _ hb => (t1.fr.blk hb).choose_spec.low)).trans (fr_hset N0.ok (fun _ => t.lowp)) (fun _ _ h => h)
  clear e3
  refine ⟨_, t3.c2, t3.hwp 2 (by omega), ?_⟩
  intro h4 e4
  rw [wu64 (by omega) (by omega)] at e4
  have t4 : Mem h4 N0 p q mb n K I a' c' L (last + 1) x := by
    rw [e4]; exact t3.words only_hset (fun qc e => by rw [hset_row e]; rfl)
  have f4 : Fr N0.ok h h4 := by rw [e4]; exact f3.trans (fr_hset N0.ok (fun _ => t.lowp)) (fun _ _ h => h)
  clear e4
  obtain ⟨qc4, c04⟩ := t4.c0
  have hk : x.toNat < n := by omega
  refine ⟨_, _, _, c04, _, t4.c3, _, _, rfl, g1, g2, _, t4.c2, t4.hwq g1 g2 0 (by omega), ?_⟩
  intro h5 e5
  have t5 : Mem h5 N0 p q mb n K (upI I x.toNat { I x.toNat with st := 2 }) a' c' L (last + 1) x := by
    rw [e5]; exact t4.put only_hset (row_word (j := 0) t4 hk (by omega) (vals_eq rfl (by omega)))
  have f5 : Fr N0.ok h h5 := by rw [e5]; exact f4.trans (fr_hset N0.ok (fun _ => t.lowq)) (fun _ _ h => h)
  clear e5
  refine ⟨t5.hwq g1 g2 1 (by omega), ?_⟩
  intro h6 e6
  have t6 : Mem h6 N0 p q mb n K (upI (upI I x.toNat { I x.toNat with st := 2 }) x.toNat { I x.toNat with st := 2, sq := last + 1 }) a' c' L (last + 1) x := by
    rw [e6]; exact t5.put only_hset (row_word (j := 1) t5 hk (by omega) (vals_eq (by rw [upI_same]; rfl) (by omega)))
  have f6 : Fr N0.ok h h6 := by rw [e6]; exact f5.trans (fr_hset N0.ok (fun _ => t.lowq)) (fun _ _ h => h)
  clear e6
  have ei : upI (upI I x.toNat { I x.toNat with st := 2 }) x.toNat { I x.toNat with st := 2, sq := last + 1 } = upI I x.toNat { I x.toNat with st := 2, sq := last + 1 } := by
    funext j; unfold upI; split <;> simp_all
  rw [ei] at t6
  have ev := t.inv.each _ hk
  have hnd := t.inv.nodup
  rw [List.nodup_cons] at hnd
  refine ⟨_, t6.c3, _, t6.c2, rfl, f6, _, _, t6, ?_⟩
  refine ⟨t.inv.n2, t.inv.n256, t.inv.kle, fun j hj => ?_, hnd.2, fun y hy => ?_, .inr ⟨g1, g2, by rw [upI_same]⟩, by omega, by omega⟩
  · by_cases e : j = x.toNat
    · subst e; rw [upI_same]; exact ⟨by simp, by simp, ev.2.2.1, ev.2.2.2.1, ev.2.2.2.2.1, ev.2.2.2.2.2.1, fun h => by simp at h⟩
    · rw [upI_ne _ _ e]; exact t.inv.each j hj
  · obtain ⟨k1, k2, k3⟩ := t.inv.free y (by simp [hy])
    refine ⟨k1, k2, ?_⟩
    have hne : y.toNat ≠ x.toNat := fun e => hnd.1 (by have : y = x := by omega
                                                       exact this ▸ hy)
    rw [upI_ne _ _ hne]; exact k3


theorem seal_x (t : Man h N0 p q mb n K I fa fc L last cur) (hc : cur ≠ -1) : HC Try.prog 23 #[ptr p 0] h fun v h' => v = .int .i64 0 ∧ Fr N0.ok h h' ∧ Man h' N0 p q mb n K (upI I cur.toNat { I cur.toNat with st := 3 }) fa fc L last (-1) := by
  obtain ⟨qc, c0⟩ := t.c0
  refine f23_sh _ _ _ _ ⟨true, made_c t, fun h => by simp at h, fun _ => ⟨_, t.c3, fun h => absurd (eq_of_beq h) hc, fun _ => ?_⟩⟩
  obtain ⟨g1, g2, g3⟩ := t.inv.cur.resolve_left hc
  refine ⟨_, _, _, c0, _, t.c3, _, _, rfl, g1, g2, t.hwq g1 g2 0 (by omega), ?_⟩
  rintro h1 rfl
  have hk : cur.toNat < n := by omega
  have ev := t.inv.each _ hk
  have t1 : Mem (hset h q (0 + cur.toNat * 4) (.int .i64 3)) N0 p q mb n K (upI I cur.toNat { I cur.toNat with st := 3 }) fa fc L last cur :=
    t.toMem.put only_hset (row_word (j := 0) t.toMem hk (by omega) (vals_eq rfl (by omega)))
  refine ⟨t1.hwp 3 (by omega), ?_⟩
  rintro h2 rfl
  have t2 : Mem (hset (hset h q (0 + cur.toNat * 4) (.int .i64 3)) p 3 (.int .i64 (-1))) N0 p q mb n K (upI I cur.toNat { I cur.toNat with st := 3 }) fa fc L last (-1) :=
    t1.words only_hset (fun qc e => by rw [hset_row e]; rfl)
  have inv0 : Inv n K I L last (-1) := ⟨t.inv.n2, t.inv.n256, t.inv.kle, t.inv.each, t.inv.nodup, t.inv.free, .inl rfl, t.inv.last⟩
  refine ⟨rfl, (fr_hset _ (fun _ => t.lowq)).trans (fr_hset N0.ok (fun _ => t.lowp)) (fun _ _ h => h), t2, inv_up inv0 hk ⟨by simp, by simp, ev.2.2.1, ev.2.2.2.1, ev.2.2.2.2.1, ev.2.2.2.2.2.1, fun h => by simp at h⟩ (fun hm => ?_) (fun h => ?_)⟩
  · have := (t.inv.free _ hm).2.2; simp only [Int.toNat_natCast] at this; omega
  · omega

theorem mark_x (t : Man h N0 p q mb n K I fa fc L last cur) {r : Int} (h0 : 0 ≤ r) (h1 : r < n) (h3 : (I r.toNat).st = 3) : HC Try.prog 24 #[ptr p 0, .int .i64 r] h fun v h' => v = .int .i64 0 ∧ Fr N0.ok h h' ∧ Man h' N0 p q mb n K (upI I r.toNat { I r.toNat with st := 4 }) fa fc L last cur := by
  refine f24_sh _ _ _ _ _ ⟨_, _, at_yes t h0 h1 (fun _ => h3), fun h' => Fr N0.ok h h' ∧ Man h' N0 p q mb n K (upI I r.toNat { I r.toNat with st := 4 }) fa fc L last cur, ⟨fun _ => ⟨_, _, rfl, t.hwq h0 h1 0 (by omega), ?_⟩, fun h => by simp at h⟩, fun h1 ha => ⟨rfl, ha⟩⟩
  rintro h2 rfl
  have hk : r.toNat < n := by omega
  have ev := t.inv.each _ hk
  refine ⟨fr_hset _ (fun _ => t.lowq), t.toMem.put only_hset (row_word (j := 0) t.toMem hk (by omega) (vals_eq rfl (by omega))), inv_up t.inv hk ⟨by simp, by simp, ev.2.2.1, ev.2.2.2.1, ev.2.2.2.2.1, ev.2.2.2.2.2.1, fun h => by simp at h⟩ (fun hm => ?_) (fun hc => ?_)⟩
  · have := (t.inv.free _ hm).2.2; simp only [Int.toNat_natCast] at this; omega
  · rcases t.inv.cur with e | ⟨g1, g2, g3⟩
    · omega
    · have : cur.toNat = r.toNat := by omega
      rw [this] at g3; omega

theorem pin_x (t : Man h N0 p q mb n K I fa fc L last cur) {r : Int} (h0 : 0 ≤ r) (h1 : r < n) (s1 : (I r.toNat).st ≠ 1) (s4 : (I r.toNat).st ≠ 4) (hp : (I r.toNat).pins < 2147483647) : HC Try.prog 26 #[ptr p 0, .int .i64 r] h fun v h' => v = .bool true ∧ Fr N0.ok h h' ∧
    Man h' N0 p q mb n K (upI I r.toNat { I r.toNat with pins := (I r.toNat).pins + 1 }) fa fc L last cur := by
  have hk : r.toNat < n := by omega
  have ev := t.inv.each _ hk
  have c0 := t.i0 h0 h1
  have c2 := t.i2 h0 h1
  refine f26_sh _ _ _ _ _ ⟨_, _, at_yes t h0 h1 (fun h => absurd rfl h), false, ⟨fun h => (by simp at h), fun _ => ⟨_, _, rfl, _, c0, fun h => absurd (eq_of_beq h) s1, fun h => ⟨_, c0, fun h' => absurd (eq_of_beq h') s4, fun h' => ⟨_, c2, (decide_eq_false (by omega)).symm⟩⟩⟩⟩, fun h => (by cases h), fun hj => ⟨_, _, rfl, _, c2, t.hwq h0 h1 2 (by omega), ?_⟩⟩
  rintro h2 rfl
  have hw : IntKind.i64.wrap ((I r.toNat).pins + 1) = (I r.toNat).pins + 1 := w64 (by omega) (by omega)
  rw [hw]
  refine ⟨rfl, fr_hset _ (fun _ => t.lowq), t.toMem.put only_hset (row_word (j := 2) t.toMem hk (by omega) (vals_eq rfl (by omega))), inv_up t.inv hk ⟨ev.1, ev.2.1, by show 0 ≤ (I r.toNat).pins + 1; omega, by show (I r.toNat).pins + 1 ≤ _; omega, ev.2.2.2.2.1, ev.2.2.2.2.2.1, fun h => absurd h s1⟩ (fun hm => ?_) (fun hc => ?_)⟩
  · have := (t.inv.free _ hm).2.2; simp only [Int.toNat_natCast] at this; exact this
  · rcases t.inv.cur with e | ⟨g1, g2, g3⟩
    · omega
    · have : cur.toNat = r.toNat := by omega
      rw [this] at g3; exact g3
theorem pin_no (t : Man h N0 p q mb n K I fa fc L last cur) {r : Int} (h0 : 0 ≤ r) (h1 : r < n) (s4 : (I r.toNat).st = 4) : HC Try.prog 26 #[ptr p 0, .int .i64 r] h fun v h' => v = .bool false ∧ h' = h := by
  have c0 := t.i0 h0 h1
  have c2 := t.i2 h0 h1
  exact f26_sh _ _ _ _ _ ⟨_, _, at_yes t h0 h1 (fun h => absurd rfl h), true, ⟨fun h => by simp at h, fun _ => ⟨_, _, rfl, _, c0, fun h => (by simp [s4] at h), fun _ => ⟨_, c0, fun _ => rfl, fun h' => (by simp [s4] at h')⟩⟩⟩, fun _ => ⟨rfl, rfl⟩, fun h => (by cases h)⟩
theorem free_no (t : Man h N0 p q mb n K I fa fc L last cur) {r : Int} (h0 : 0 ≤ r) (h1 : r < n) (s4 : (I r.toNat).st = 4) (hp : 0 < (I r.toNat).pins) : HC Try.prog 25 #[ptr p 0, .int .i64 r] h fun v h' => v = .int .i64 92 ∧ h' = h := by
  have c2 := t.i2 h0 h1
  exact f25_sh _ _ _ _ _ ⟨_, _, at_yes t h0 h1 (fun _ => s4), fun h => by simp at h, fun _ => ⟨_, _, rfl, _, c2, fun _ => ⟨rfl, rfl⟩, fun h => by simp only [decide_eq_false_iff_not] at h; omega⟩⟩

end
end Go.Proofs.Ytfdgjgjcppfmiaa
