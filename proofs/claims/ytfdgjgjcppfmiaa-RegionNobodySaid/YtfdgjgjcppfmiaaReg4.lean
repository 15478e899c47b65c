/-
The manager's methods that append.
-/
import Derived.Test.YtfdgjgjcppfmiaaReg3
namespace Go.Proofs.Ytfdgjgjcppfmiaa
open Go

/-- What a call leaves; counts may have gone up by one. -/
def After1 (h h' : Heap) (N0 : Lo) (p q mb n K : Nat) (I : Nat → Info) : Prop :=
  Fr N0.ok h h' ∧ ∃ I' fa' fc' L' last' cur', Man h' N0 p q mb n (K + 1) I' fa' fc' L' last' cur' ∧ ∀ k, k < n → Goes (I k) (I' k)

section
variable {h : Heap} {N0 : Lo} {p q mb n K : Nat} {I : Nat → Info} {fa : Option Addr} {fc : Nat} {L : List Int} {last cur : Int}

theorem Mem.up (t : Mem h N0 p q mb n K I fa fc L last cur) {K' : Nat} (hK : K ≤ K') : Mem h N0 p q mb n K' I fa fc L last cur := by
  refine ⟨t.lowp, t.lowq, t.lowm, t.xlt, t.tab, t.row, t.fr, ?_⟩
  obtain ⟨kv, m, hd⟩ := t.dr
  exact ⟨kv, m, fun x hx => let ⟨a, j, c, e, hle, r⟩ := hd x hx; ⟨a, j, c, e, Nat.le_trans hle hK, r⟩⟩
theorem Inv.up (i : Inv n K I L last cur) {K' : Nat} (hK : K ≤ K') (hm : K' ≤ 2097152) : Inv n K' I L last cur :=
  ⟨i.n2, i.n256, hm, fun k hk => let ⟨a, b, c, d, e, f, g⟩ := i.each k hk; ⟨a, b, c, d, e, by omega, g⟩, i.nodup, i.free, i.cur, i.last⟩
theorem After.one {h' : Heap} (a : After h h' N0 p q mb n K I) (hK : K + 1 ≤ 2097152) : After1 h h' N0 p q mb n K I :=
  let ⟨f, I', fa', fc', L', l', c', m, g⟩ := a; ⟨f, I', fa', fc', L', l', c', ⟨m.toMem.up (by omega), m.inv.up (by omega) hK⟩, g⟩

/-- The free ones are laid anew. -/
theorem Mem.refree (t : Mem h N0 p q mb n K I fa fc L last cur) {h3 h4 : Heap} {a' : Option Addr} {c' : Nat} {L' : List Int} {last' cur' : Int} (f : Fr (blkOf fa) h h3) (k : IntSl h3 N0 a' c' L') (fresh : ∀ b, blkOf a' b → blkOf fa b ∨ h.size ≤ b) (o : Only p h3 h4)
    (tab : ∀ qc, h3[p]? = some (.cells #[.slice (some ⟨q, 0, none⟩) n qc, .slice fa L.length fc, .int .u64 last, .int .i64 cur, .map (some mb)] 67 (0, 0)) →
      h4[p]? = some (.cells #[.slice (some ⟨q, 0, none⟩) n qc, .slice a' L'.length c', .int .u64 last', .int .i64 cur', .map (some mb)] 67 (0, 0))) :
    Mem h4 N0 p q mb n K I a' c' L' last' cur' := by
  have nfa : ∀ b, blkOf fa b → b ≠ p ∧ b ≠ q ∧ b ≠ mb := fun b hb => let ⟨_, kb⟩ := t.fr.blk hb; t.intne kb
  have keep : ∀ b, b < h.size → ¬ blkOf fa b → b ≠ p → h4[b]? = h[b]? := fun b h1 h2 h3 => (o.block b h3).trans (f.block b h1 h2)
  obtain ⟨qc, etab⟩ := t.tab
  obtain ⟨cs, erow, hrow⟩ := t.row
  have e3 : h3[p]? = h[p]? := f.block p (row_lt etab) (fun hb => (nfa p hb).1 rfl)
  refine ⟨t.lowp, t.lowq, t.lowm, fun y e => by rw [o.size]; exact Nat.lt_of_lt_of_le (t.xlt y e) f.size, ⟨qc, tab qc (e3.trans etab)⟩, ⟨cs, (keep q (row_lt erow) (fun hb => (nfa q hb).2.1 rfl) t.nepq.symm).trans erow, hrow⟩, k.same (fun b hb => ?_), ?_⟩
  · refine o.block b (fun e => ?_)
    obtain ⟨sz, kb⟩ := k.blk hb
    obtain ⟨cs', ec, _⟩ := kb.ex
    rw [e, e3, etab] at ec; simp at ec
  · obtain ⟨kv, m, hd⟩ := t.dr
    refine ⟨kv, m.row (keep mb m.lt (fun hb => (nfa mb hb).2.2 rfl) t.nem.1), fun y hy => ?_⟩
    obtain ⟨a, j, c, e, hle, ha, hx⟩ := hd y hy
    refine ⟨a, j, c, e, hle, ha.same (fun b hb => ?_), fun b hb hb' => ?_⟩
    · obtain ⟨sz, kb⟩ := ha.blk hb
      exact keep b (ha.lt hb) (hx b hb) (t.intne kb).1
    · rcases fresh b hb' with h1 | h1
      · exact hx b hb h1
      · have := ha.lt hb; omega

theorem free_c (t : Man h N0 p q mb n K I fa fc L last cur) (hK : K + 1 ≤ 2097152) (r : Int) : HC Try.prog 25 #[ptr p 0, .int .i64 r] h fun v h' => (∃ e : Int, v = .int .i64 e) ∧ After1 h h' N0 p q mb n K I := by
  by_cases hr : 0 ≤ r ∧ r < n ∧ ((4 : Int) ≠ 0 → (I r.toNat).st = 4)
  · obtain ⟨h0, h1, h4⟩ := hr
    have h4 := h4 (by decide)
    have hk : r.toNat < n := by omega
    have ev := t.inv.each _ hk
    have c2 := t.i2 h0 h1
    have c3 := t.i3 h0 h1
    refine f25_sh _ _ _ _ _ ⟨_, _, at_yes t h0 h1 (fun _ => h4), fun h => by simp at h, fun _ => ⟨_, _, rfl, _, c2, fun _ => ⟨⟨_, rfl⟩, t.after.one hK⟩, fun hp => ⟨_, c3, t.hwsq h0 h1, ?_⟩⟩⟩
    have hp : (I r.toNat).pins = 0 := by simp only [decide_eq_false_iff_not] at hp; omega
    intro h1' e1
    have her : IntKind.i64.wrap ((if 2147483646 < (I r.toNat).er then 2147483646 else (I r.toNat).er) + 1) = (I r.toNat).er + 1 := by
      rw [if_neg (by have := t.inv.kle; omega), w64 (by omega) (by have := t.inv.kle; omega)]
    rw [her] at e1
    have t1 : Mem h1' N0 p q mb n K (upI I r.toNat ⟨1, 0, 0, (I r.toNat).er + 1⟩) fa fc L last cur := by
      rw [e1]
      refine t.toMem.put only_hsets ?_
      obtain ⟨cs, e, hl, hc⟩ := t.row
      refine ⟨_, hsets_row _ e, by rw [sets_size]; exact hl, info_set hc _ _ (fun i hi => ?_) (fun i hi => ?_)⟩
      · rw [sets_get _ _ _ _ (by simp only [List.length_cons, List.length_nil]; omega)]
        rw [if_pos (by simp only [List.length_cons, List.length_nil]; omega)]
        have : r.toNat * 4 + i - (0 + r.toNat * 4) = i := by omega
        rw [this]; rfl
      · rw [sets_get _ _ _ _ (by simp only [List.length_cons, List.length_nil]; omega)]
        rw [if_neg (by simp only [List.length_cons, List.length_nil]; omega)]
    have f1 : Fr N0.ok h h1' := by rw [e1]; exact fr_hsets _ (fun _ => t.lowq)
    clear e1
    refine ⟨_, _, _, t1.c1, ?_⟩
    intro nb h2 enb e2
    have x2 : Ext h1' h2 := by rw [e2]; exact Ext.push _ _
    have cnb : hcell h2 nb 0 = some (.int .i64 r) := by rw [hcell_row (by rw [e2]; exact push_new enb)]; rfl
    have t2 := t1.ext x2
    have hlenL : L.length ≤ 4194304 := by
      have hnd := t.inv.nodup
      have hsub : ∀ x ∈ L, x ∈ (List.range n).map (Int.ofNat) := fun x hx => by
        obtain ⟨g1, g2, _⟩ := t.inv.free x hx
        exact List.mem_map.2 ⟨x.toNat, List.mem_range.2 (by omega), by simp; omega⟩
      have := List.Nodup.length_le_of_subset hnd hsub
      simp at this
      have := t.inv.n256
      omega
    have low : N0.ok h2.size := t2.fresh (Nat.le_refl _)
    refine app_int t2.fr cnb hlenL low ?_
    intro a' c' h3 f3 k3 fresh blk
    refine ⟨a', L.length + 1, c', rfl, ?_⟩
    obtain ⟨qc, etab⟩ := t2.tab
    have nfa : ∀ b, blkOf fa b → b ≠ p ∧ b ≠ q ∧ b ≠ mb := fun b hb => let ⟨_, kb⟩ := t2.fr.blk hb; t2.intne kb
    have etab3 := f3.row etab (fun hb => (nfa p hb).1 rfl)
    refine ⟨HW_row etab3 (by simp), ?_⟩
    intro h5 e5
    have t5 : Mem h5 N0 p q mb n K (upI I r.toNat ⟨1, 0, 0, (I r.toNat).er + 1⟩) a' c' (L ++ [r]) last cur :=
      t2.refree f3 k3 fresh (by rw [e5]; exact only_hset) (fun qc e => by rw [e5, hset_row e]; simp)
    have f5 : Fr N0.ok h h5 := by
      rw [e5]
      exact ((f1.trans (x2.fr _) (fun _ _ h => h)).trans f3 (fun b _ hb => (t2.fr.blk hb).choose_spec.low)).trans (fr_hset N0.ok (fun _ => t.lowp)) (fun _ _ h => h)
    obtain ⟨kv, m, hd, _⟩ := t5.look r
    refine ⟨_, t5.c4, mb, rfl, kv, m, ?_⟩
    intro h6 o6 m6
    have t6 := t5.drs o6 m6 (fun x hx => hd x (kdel_mem kv r x hx))
    have hnin : r ∉ L := fun hm => by have := (t.inv.free r hm).2.2; omega
    refine ⟨⟨_, rfl⟩, f5.trans o6.fr (fun i _ h => by rw [h]; exact t.lowm), _, _, _, _, _, _, ⟨t6.up (Nat.le_succ K), ?_⟩, goes_up ⟨.inr ?_, fun _ => ?_, fun _ _ => ⟨hp, rfl⟩⟩⟩
    · refine ⟨t.inv.n2, t.inv.n256, hK, fun j hj => ?_, ?_, fun y hy => ?_, ?_, t.inv.last⟩
      · by_cases e : j = r.toNat
        · subst e; rw [upI_same]; exact ⟨by simp, by simp, by simp, by simp, by show 0 ≤ (I r.toNat).er + 1; omega, by show (I r.toNat).er + 1 ≤ _; omega, fun _ => ⟨rfl, rfl⟩⟩
        · rw [upI_ne _ _ e]; exact (t.inv.up (Nat.le_succ K) hK).each j hj
      · rw [List.nodup_append]
        exact ⟨t.inv.nodup, by simp, fun a ha b hb => by simp at hb; subst hb; exact fun e => hnin (e ▸ ha)⟩
      · rcases List.mem_append.1 hy with hy | hy
        · obtain ⟨g1, g2, g3⟩ := t.inv.free y hy
          refine ⟨g1, g2, ?_⟩
          rw [upI_ne _ _ (fun e => by rw [e] at g3; omega)]; exact g3
        · simp at hy; subst hy
          exact ⟨h0, h1, by rw [upI_same]⟩
      · rcases t.inv.cur with e | ⟨g1, g2, g3⟩
        · exact .inl e
        · refine .inr ⟨g1, g2, ?_⟩
          rw [upI_ne _ _ (fun e => by rw [e] at g3; omega)]; exact g3
    · show (1 : Int) = _; rw [h4]; rfl
    · show (0 : Int) ≤ _; omega
  · obtain ⟨e, he, ha⟩ := at_no t hr
    exact f25_sh _ _ _ _ _ ⟨_, _, ha, fun _ => ⟨⟨_, rfl⟩, t.after.one hK⟩, fun h => by simp [he] at h⟩

end
end Go.Proofs.Ytfdgjgjcppfmiaa
