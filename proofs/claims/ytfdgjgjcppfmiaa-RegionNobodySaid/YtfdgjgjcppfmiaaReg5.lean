/-
Drain, Info, and slices.Delete.
-/
import Derived.Test.YtfdgjgjcppfmiaaReg4
namespace Go.Proofs.Ytfdgjgjcppfmiaa
open Go

section
variable {h : Heap} {N0 : Lo} {p q mb n K : Nat} {I : Nat → Info} {fa : Option Addr} {fc : Nat} {L : List Int} {last cur : Int}

theorem index_c {a : Option Addr} {c : Nat} {L : List Int} (k : IntSl h N0 a c L) (hl : L.length ≤ 4194304) (x : Int) : HC Try.prog 57 #[.slice a L.length c, .int .i64 x] h fun v h' => (∃ i : Int, v = .int .i64 i) ∧ h' = h := by
  refine f57_sh _ _ _ _ _ _ ⟨fun i => ∃ j : Nat, i = j ∧ j ≤ L.length, fun i => L.length - i.toNat, ⟨0, rfl, Nat.zero_le _⟩, ?_⟩
  rintro _ ⟨j, rfl, hj⟩
  refine ⟨fun hlt => ?_, fun _ => ⟨⟨_, rfl⟩, rfl⟩⟩
  have hjl : j < L.length := by have := of_decide_eq_true hlt; omega
  rcases k.ex with ⟨_, e⟩ | ⟨b, o, rfl, kb, kc⟩
  · have := k.le; omega
  · refine ⟨b, o, rfl, by omega, by omega, L[j], ?_, fun _ => ⟨⟨_, rfl⟩, rfl⟩, fun _ => ?_⟩
    · have := kc j L[j] (by simp [hjl])
      simp only [Int.toNat_natCast, Nat.mul_one]; exact this
    · rw [w64 (by omega) (by omega)]
      exact ⟨⟨j + 1, rfl, hjl⟩, by simp only; omega⟩
theorem contains_c {a : Option Addr} {c : Nat} {L : List Int} (k : IntSl h N0 a c L) (hl : L.length ≤ 4194304) (x : Int) : HC Try.prog 47 #[.slice a L.length c, .int .i64 x] h fun v h' => (∃ b : Bool, v = .bool b) ∧ h' = h :=
  f47_sh _ _ _ _ _ _ ((index_c k hl x).mono (by rintro _ h' ⟨⟨i, rfl⟩, rfl⟩; exact ⟨_, rfl, ⟨_, rfl⟩, rfl⟩))

theorem drain_c (t : Man h N0 p q mb n K I fa fc L last cur) (hK : K + 1 ≤ 2097152) (w r : Int) : HC Try.prog 21 #[ptr p 0, .int .i64 w, .int .i64 r] h fun v h' => (∃ (b : Bool) (e : Int), v = .tuple #[.bool b, .int .i64 e]) ∧ After1 h h' N0 p q mb n K I := by
  by_cases hr : 0 ≤ r ∧ r < n ∧ ((4 : Int) ≠ 0 → (I r.toNat).st = 4)
  · obtain ⟨h0, h1, h4⟩ := hr
    have h4 := h4 (by decide)
    have c2 := t.i2 h0 h1
    refine f21_sh _ _ _ _ _ _ ⟨_, _, at_yes t h0 h1 (fun _ => h4), fun h => by simp at h, fun _ => ⟨_, _, rfl, _, c2, fun _ => ⟨⟨_, _, rfl⟩, t.after.one hK⟩, fun _ => ?_⟩⟩
    obtain ⟨kv, m, hd, a, j, c, e, hj, ha, hx⟩ := t.look r
    obtain ⟨Ld, hLd, kd⟩ := ha.list
    subst hLd
    have hjl : Ld.length ≤ 4194304 := by omega
    refine ⟨fun h' => After1 h h' N0 p q mb n K I, ⟨_, t.c4, mb, rfl, kv, m, a, Ld.length, c, e, (contains_c kd hjl w).mono ?_⟩, fun h1 ha => ⟨⟨_, _, rfl⟩, ha⟩⟩
    rintro _ h' ⟨⟨b, rfl⟩, rfl⟩
    refine ⟨b, rfl, fun _ => ?_, fun _ => t.after.one hK⟩
    refine ⟨Fr (fun b => ¬ (b = p)), ⟨fun h h' x => x.fr _, fun a b c f g => f.trans g (fun _ _ h => h)⟩, some mb, fun hx f => ?_, _, t.c4, mb, rfl, kv, m, a, Ld.length, c, e, ?_⟩
    · have := t.c4
      unfold hcell at this ⊢
      rw [f.block p (row_lt t.tab.choose_spec) (fun hn => hn rfl)]; exact this
    intro nb h3 enb e3
    have x3 : Ext h' h3 := by rw [e3]; exact Ext.push _ _
    have cnb : hcell h3 nb 0 = some (.int .i64 w) := by rw [hcell_row (by rw [e3]; exact push_new enb)]; rfl
    have t3 := t.ext x3
    have kd3 := kd.same (h' := h3) (fun b hb => x3.block b (kd.lt hb))
    have low : N0.ok h3.size := t3.toMem.fresh (Nat.le_refl _)
    refine app_int kd3 cnb hjl low ?_
    intro a' c' h4' f4 k4 fresh blk
    have nda : ∀ b, blkOf a b → b ≠ p ∧ b ≠ q ∧ b ≠ mb := fun b hb => let ⟨_, kb⟩ := kd3.blk hb; t3.intne kb
    have keep : ∀ b, b < h3.size → ¬ blkOf a b → h4'[b]? = h3[b]? := fun b h1 h2 => f4.block b h1 h2
    obtain ⟨qc, etab⟩ := t3.tab
    obtain ⟨cs, erow, hrow⟩ := t3.row
    have hmk : MapL h4' mb (Value.int .i64) kv := (m.ext x3).row (keep mb (m.ext x3).lt (fun hb => (nda mb hb).2.2 rfl))
    have hdk : ∀ x ∈ kv, ∃ a m c, x.2 = .slice a m c ∧ m ≤ K ∧ AnySl h4' N0 a m c ∧ ∀ b, blkOf a b → ¬ blkOf fa b := by
      intro x hxk
      obtain ⟨a2, j2, c2, e2, hle, ha2, hx2⟩ := hd x hxk
      have ha3 := ha2.same (h' := h3) (fun b hb => x3.block b (ha2.lt hb))
      refine ⟨a2, j2, c2, e2, hle, ⟨ha3.le, ha3.ex.imp id ?_⟩, hx2⟩
      rintro ⟨b, o, rfl, kb⟩
      exact ⟨b, o, rfl, blk b _ kb⟩
    have t4 : Mem h4' N0 p q mb n K I fa fc L last cur := by
      refine ⟨t3.lowp, t3.lowq, t3.lowm, fun y e => Nat.lt_of_lt_of_le (t3.xlt y e) f4.size, ⟨qc, (keep p (row_lt etab) (fun hb => (nda p hb).1 rfl)).trans etab⟩, ⟨cs, (keep q (row_lt erow) (fun hb => (nda q hb).2.1 rfl)).trans erow, hrow⟩, t3.fr.same (fun b hb => keep b (t3.fr.lt hb) (fun hb' => hx b hb' hb)), kv, hmk, hdk⟩
    refine ⟨a', Ld.length + 1, c', rfl, f4.mono (fun i _ hi e => (nda i hi).1 e), mb, rfl, kv, hmk, ?_⟩
    intro h5 o5 m5
    have ex : Fr N0.ok h' h5 :=
      ((x3.fr N0.ok).trans f4 (fun b _ hb => (kd3.blk hb).choose_spec.low)).trans o5.fr (fun i _ h => by rw [h]; exact t.lowm)
    refine ⟨ex, _, _, _, _, _, _, ⟨(t4.up (Nat.le_succ K)).drs o5 m5 (fun x hxk => ?_), t.inv.up (Nat.le_succ K) hK⟩, goes_same⟩
    rcases kput_mem kv r _ x hxk with rfl | hxk
    · refine ⟨a', Ld.length + 1, c', rfl, by omega, ?_, fun b hb hb' => ?_⟩
      · have := k4.any
        simp only [List.length_append, List.length_cons, List.length_nil] at this
        exact this
      · rcases fresh b hb with h1 | h1
        · exact hx b h1 hb'
        · have := t3.fr.lt hb'; omega
    · obtain ⟨a2, j2, c2, e2, hle, r2⟩ := hdk x hxk
      exact ⟨a2, j2, c2, e2, by omega, r2⟩
  · obtain ⟨e, he, ha⟩ := at_no t hr
    exact f21_sh _ _ _ _ _ _ ⟨_, _, ha, fun _ => ⟨⟨_, _, rfl⟩, t.after.one hK⟩, fun h => by simp [he] at h⟩

theorem info_c (t : Man h N0 p q mb n K I fa fc L last cur) {r : Int} (h0 : 0 ≤ r) (h1 : r < n) : HC Try.prog 11 #[ptr p 0, .int .i64 r] h fun v h' =>
    v = .tuple #[.agg #[.int .i64 (I r.toNat).st, .int .u64 (I r.toNat).sq, .int .i64 (I r.toNat).pins, .int .i64 (I r.toNat).er], .bool true] ∧ Ext h h' := by
  refine f11_sh _ _ _ _ _ ?_
  intro nb h2 enb e2
  have x2 : Ext h h2 := by rw [e2]; exact Ext.push _ _
  have r2 : h2[nb]? = some (.cells #[.int .i64 0, .int .u64 0, .int .i64 0, .int .i64 0] 31 (0, 0)) := by rw [e2]; exact push_new enb
  have t2 := t.ext x2
  refine ⟨_, _, at_yes t2 h0 h1 (fun h => absurd rfl h), fun h => by simp at h, fun _ => ⟨_, _, rfl, _, _, _, _, t2.i0 h0 h1, t2.i1 h0 h1, t2.i2 h0 h1, t2.i3 h0 h1, HWs_row r2 (by simp), ?_⟩⟩
  intro h3 e3
  have r3 : h3[nb]? = some (.cells #[.int .i64 (I r.toNat).st, .int .u64 (I r.toNat).sq, .int .i64 (I r.toNat).pins, .int .i64 (I r.toNat).er] 31 (0, 0)) := by
    rw [e3, hsets_row _ r2]; rfl
  have x3 : Ext h h3 := by
    rw [e3]
    exact ((x2.fr (fun b => b = nb)).trans (fr_hsets (fun b => b = nb) (fun _ => rfl)) (fun _ _ h => h)).ext (fun i hi h' => by omega)
  exact ⟨_, _, _, _, by rw [hcell_row r3]; rfl, by rw [hcell_row r3]; rfl, by rw [hcell_row r3]; rfl, by rw [hcell_row r3]; rfl, rfl, x3⟩

end
end Go.Proofs.Ytfdgjgjcppfmiaa
