/-
slices.Delete of the first one; Open.
-/
import Derived.Test.YtfdgjgjcppfmiaaReg5
namespace Go.Proofs.Ytfdgjgjcppfmiaa
open Go

section
variable {h : Heap} {N0 : Lo} {p q mb n K : Nat} {I : Nat → Info} {fa : Option Addr} {fc : Nat} {L : List Int} {last cur : Int}

theorem IntBlk.hset {b sz o : Nat} {z : Int} (k : IntBlk h N0 b sz) : IntBlk (hset h b o (.int .i64 z)) N0 b sz := by
  obtain ⟨cs, e1, e2, e3⟩ := k.ex
  refine ⟨k.low, _, hset_row e1, by simpa using e2, fun i hi => ?_⟩
  simp only [Array.size_setIfInBounds] at hi
  rw [Array.getElem?_setIfInBounds]
  by_cases e : o = i
  · rw [if_pos e, if_pos (by omega)]; exact ⟨z, rfl⟩
  · rw [if_neg e]; exact e3 i hi
theorem IntBlk.hsets {b sz : Nat} : ∀ (zs : List Int) {h : Heap} {o : Nat}, IntBlk h N0 b sz → IntBlk (hsets h b o (zs.map (Value.int .i64))) N0 b sz
  | [], _, _, k => k
  | _ :: zs, _, _, k => IntBlk.hsets zs k.hset

theorem slA_some {b o l size m : Nat} (h : m ≠ l) : slA (some ⟨b, o, none⟩) l size m = some ⟨b, o + l * size, none⟩ := by
  unfold slA
  rw [if_neg h]
  simp only [Option.map_some]
  unfold Addr.add
  by_cases e : l * size = 0
  · rw [if_pos e, e]; rfl
  · rw [if_neg e]

theorem delete_c {a : Option Addr} {c : Nat} {x : Int} {L : List Int} (k : IntSl h N0 a c (x :: L)) (hl : (x :: L).length ≤ 4194304) : HC Try.prog 33 #[.slice a (x :: L).length c, .int .i64 0, .int .i64 1] h fun v h' =>
    ∃ a' c', v = .slice a' L.length c' ∧ Fr (blkOf a) h h' ∧ IntSl h' N0 a' c' L ∧ ∀ b, blkOf a' b → blkOf a b := by
  have hle := k.le
  simp only [List.length_cons] at hle
  rcases k.ex with ⟨_, e⟩ | ⟨b, o, rfl, kb, kc⟩
  · omega
  obtain ⟨cs, e1, e2, e3⟩ := kb.ex
  refine f33_sh _ _ _ _ _ _ _ ⟨by omega, by omega, by simp only [List.length_cons]; omega, by simp only [List.length_cons]; omega, fun sl hsl => ⟨fun h => by simp at h, fun _ => ⟨by omega, by omega, by omega, fun s1 hs1 => ⟨by omega, by simp only [List.length_cons]; omega, by simp only [List.length_cons]; omega, fun s2 hs2 => ?_⟩⟩⟩⟩
  have es1 : s1 = some ⟨b, o, none⟩ := by
    rw [hs1, slA_some (by show c ≠ 0; omega)]; rfl
  have en : Int.toNat (((x :: L).length : Nat) : Int) - Int.toNat 1 = L.length := by simp
  rw [es1, en]
  show HAppend Try.prog 50 50 (.slice (some ⟨b, o, none⟩) 0 c) (.slice s2 L.length (c - 1)) h _
  -- what comes behind the append
  have fin : ∀ h1, Fr (blkOf (some ⟨b, o, none⟩)) h h1 → IntBlk h1 N0 b (o + c) → (∀ i z, L[i]? = some z → hcell h1 b (o + i) = some (.int .i64 z)) →
      ∃ (ap : Option Addr) (ap_n ap_c : Nat), Value.slice (some ⟨b, o, none⟩) L.length c = .slice ap ap_n ap_c ∧ (0 ≤ ((ap_n : Int) : Int) ∧ (ap_n : Int) ≤ ((x :: L).length : Int) ∧ ((x :: L).length : Int) ≤ (ap_c : Int) ∧ ∀ sl_3 : Option Addr, sl_3 = slA ap (Int.toNat (ap_n : Int)) 1 ap_c →
        (∃ A18 : Heap → Prop, ((Int.toNat ((x :: L).length : Int) - Int.toNat (ap_n : Int)) = 0 → A18 h1) ∧ ((Int.toNat ((x :: L).length : Int) - Int.toNat (ap_n : Int)) ≠ 0 → ∃ cb co : Nat, sl_3 = some ⟨cb, co, none⟩ ∧ HWs h1 cb co ((Int.toNat ((x :: L).length : Int) - Int.toNat (ap_n : Int)) * 1) ∧
          ∀ h2, h2 = hsets h1 cb co (zcells [(.int .i64 0)] (Int.toNat ((x :: L).length : Int) - Int.toNat (ap_n : Int))) → A18 h2) ∧ ∀ h3, A18 h3 →
          (∃ a' c', Value.slice ap ap_n ap_c = .slice a' L.length c' ∧ Fr (blkOf (some ⟨b, o, none⟩)) h h3 ∧ IntSl h3 N0 a' c' L ∧ ∀ b', blkOf a' b' → blkOf (some ⟨b, o, none⟩) b'))) := by
    intro h1 f1 k1 c1
    refine ⟨_, _, _, rfl, by omega, by simp only [List.length_cons]; omega, by simp only [List.length_cons]; omega, fun s3 hs3 => ?_⟩
    have e4 : Int.toNat (((x :: L).length : Nat) : Int) - Int.toNat ((L.length : Nat) : Int) = 1 := by simp
    rw [e4]
    have es3 : s3 = some ⟨b, o + L.length * 1, none⟩ := by rw [hs3, Int.toNat_natCast, slA_some (by omega)]
    obtain ⟨cs1, g1, g2, g3⟩ := k1.ex
    refine ⟨fun h3 => h3 = hsets h1 b (o + L.length * 1) (zcells [(.int .i64 0)] 1), fun h => by omega, fun _ => ⟨b, _, es3, HWs_row g1 (by omega), fun h2 e => e⟩, ?_⟩
    rintro h3 rfl
    have kz : IntBlk (hsets h1 b (o + L.length * 1) (zcells [(.int .i64 0)] 1)) N0 b (o + c) := IntBlk.hsets [0] k1
    refine ⟨_, _, rfl, f1.trans (fr_hsets (blkOf (some ⟨b, o, none⟩)) (fun _ => ⟨o, rfl⟩)) (fun _ _ h => h), ⟨by omega, .inr ⟨b, o, rfl, kz, fun i z hz => ?_⟩⟩, fun b' h => h⟩
    have hi := (List.getElem?_eq_some_iff.1 hz).1
    have hz1 : zcells [(Value.int .i64 0)] 1 = [.int .i64 0] := rfl
    rw [hz1, hcell_row (hsets_row _ g1), sets_get _ _ _ _ (by simp only [List.length_cons, List.length_nil]; omega), if_neg (by simp only [List.length_cons, List.length_nil]; omega), ← hcell_row g1]
    exact c1 i z hz
  by_cases h0 : L.length = 0
  · have hL : L = [] := List.length_eq_zero_iff.1 h0
    have s : Src h (.slice s2 L.length (c - 1)) 0 1 [] := by
      refine ⟨rfl, ?_⟩
      by_cases hc1 : c = 1
      · have : s2 = some ⟨b, o, none⟩ := by rw [hs2]; unfold slA; rw [if_pos (by show c = 1; exact hc1)]
        rw [this]
        exact .inr ⟨b, o, _, by rw [h0], fun j u hu => by simp at hu⟩
      · have : s2 = some ⟨b, o + 1 * 1, none⟩ := by rw [hs2]; exact slA_some (by show c ≠ 1; exact hc1)
        rw [this]
        exact .inr ⟨b, _, _, by rw [h0], fun j u hu => by simp at hu⟩
    refine happ_zero (size := 1) Fc.u50 Fc.sz3 s (Nat.zero_le _) ?_
    subst hL
    exact fin h (Fr.refl _ _) kb (fun i z hz => by simp at hz)
  · have es2 : s2 = some ⟨b, o + 1 * 1, none⟩ := by rw [hs2]; exact slA_some (by show c ≠ 1; omega)
    have s : Src h (.slice s2 L.length (c - 1)) L.length 1 (L.map (Value.int .i64)) := by
      refine ⟨by simp, .inr ⟨b, o + 1, c - 1, by rw [es2], fun j u hu => ?_⟩⟩
      rw [List.getElem?_map] at hu
      cases hz : L[j]? with
      | none => rw [hz] at hu; cases hu
      | some z =>
        rw [hz] at hu; simp at hu; subst hu
        have := kc (j + 1) z (by simpa using hz)
        have e : o + 1 + j = o + (j + 1) := by omega
        rw [e]; exact this
    refine happ_room (size := 1) Fc.u50 Fc.sz3 s (by omega) (fun v hv => ?_) (fun j hj => HW_row e1 (by simp at hj; omega)) ?_
    · obtain ⟨z, _, rfl⟩ := List.mem_map.1 hv; rfl
    rw [Nat.zero_add, Nat.zero_mul, Nat.add_zero]
    refine fin _ (fr_hsets (blkOf (some ⟨b, o, none⟩)) (fun _ => ⟨o, rfl⟩)) (IntBlk.hsets L kb) (fun i z hz => ?_)
    have hi := (List.getElem?_eq_some_iff.1 hz).1
    rw [hcell_row (hsets_row _ e1), sets_get _ _ _ _ (by simp; omega), if_pos (by simp; omega)]
    have : o + i - o = i := by omega
    rw [this, List.getElem?_map, hz]; rfl

theorem mapl_uniq {b : Nat} {kv kv' : List (Int × Value)} (m : MapL h b (Value.int .i64) kv) (m' : MapL h b (Value.int .i64) kv') : kv = kv' := by
  obtain ⟨es, c1, e1, e2, _⟩ := m
  obtain ⟨es', c1', e1', e2', _⟩ := m'
  rw [e1] at e1'; cases e1'
  rw [e2] at e2'
  have := congrArg (List.map (fun (p : Value × Value) => ((match p.1 with | .int _ z => z | _ => 0), p.2))) e2'
  simp only [List.map_map] at this
  have g : ((fun (p : Value × Value) => ((match p.1 with | .int _ z => z | _ => 0), p.2)) ∘ fun (p : Int × Value) => (Value.int .i64 p.1, p.2)) = id := by funext p; rfl
  rw [g, List.map_id, List.map_id] at this
  exact this

/-- Words of the manager's own block are written. -/
theorem Mem.words (t : Mem h N0 p q mb n K I fa fc L last cur) {h' : Heap} {last' cur' : Int} (o : Only p h h')
    (tab : ∀ qc, h[p]? = some (.cells #[.slice (some ⟨q, 0, none⟩) n qc, .slice fa L.length fc, .int .u64 last, .int .i64 cur, .map (some mb)] 67 (0, 0)) →
      h'[p]? = some (.cells #[.slice (some ⟨q, 0, none⟩) n qc, .slice fa L.length fc, .int .u64 last', .int .i64 cur', .map (some mb)] 67 (0, 0))) : Mem h' N0 p q mb n K I fa fc L last' cur' :=
  t.own o tab t.fr (fun kv m x hx a j c e => by
    obtain ⟨kv', m', hd⟩ := t.dr
    cases mapl_uniq m m'
    obtain ⟨a', j', c', e', _, _, hdis⟩ := hd x hx
    rw [e] at e'; cases e'
    exact hdis)

theorem open_c (t : Man h N0 p q mb n K I fa fc L last cur) : HC Try.prog 13 #[ptr p 0] h fun v h' => (∃ (a : Int) (b : Int) (e : Int), v = .tuple #[.int .i64 a, .int .u64 b, .int .i64 e]) ∧ After h h' N0 p q mb n K I := by
  obtain ⟨qc, c0⟩ := t.c0
  have hlast := t.inv.last
  refine f13_sh _ _ _ _ ⟨true, made_c t, fun h => by simp at h, fun _ => ⟨_, t.c3, fun _ => ⟨⟨_, _, _, rfl⟩, t.after⟩, fun hc => ⟨_, _, _, t.c1, fun _ => ⟨⟨_, _, _, rfl⟩, t.after⟩, fun hL => ⟨_, t.c2, fun _ => ⟨⟨_, _, _, rfl⟩, t.after⟩, fun hl => ?_⟩⟩⟩⟩
  have hc : cur = -1 := by simpa using hc
  have hl : last ≠ 9223372036854775807 := by simpa using hl
  match L, t, hL with
  | [], _, hL => simp at hL
  | x :: L, t, _ =>
    obtain ⟨g1, g2, g3⟩ := t.inv.free x (by simp)
    rcases t.fr.ex with ⟨_, e⟩ | ⟨b, o, hfa, kb, kc⟩
    · have := t.fr.le; simp at this; omega
    refine ⟨_, _, _, t.c1, b, o, hfa, by omega, by simp, x, ?_, t.hwp 3 (by omega), ?_⟩
    · have := kc 0 x rfl
      exact this
    intro h1 e1
    have t1 : Mem h1 N0 p q mb n K I fa fc (x :: L) last x := by
      rw [e1]; exact t.toMem.words only_hset (fun qc e => by rw [hset_row e]; rfl)
    have f1 : Fr N0.ok h h1 := by rw [e1]; exact fr_hset _ (fun _ => t.lowp)
    clear e1
    have hlen : (x :: L).length ≤ 4194304 := by
      have hsub : ∀ y ∈ x :: L, y ∈ (List.range n).map (Int.ofNat) := fun y hy => by
        obtain ⟨g1, g2, _⟩ := t.inv.free y hy
        exact List.mem_map.2 ⟨y.toNat, List.mem_range.2 (by omega), by simp; omega⟩
      have := List.Nodup.length_le_of_subset t.inv.nodup hsub
      simp at this
      have := t.inv.n256
      simp; omega
    refine ⟨_, _, _, t1.c1, (delete_c t1.fr hlen).mono ?_⟩
    rintro _ h2 ⟨a', c', rfl, f2, k2, sub⟩
    refine ⟨_, _, _, rfl, ?_⟩
    have nfa : ∀ b, blkOf fa b → b ≠ p ∧ b ≠ q ∧ b ≠ mb := fun b hb => let ⟨_, kb⟩ := t1.fr.blk hb; t1.intne kb
    obtain ⟨qc1, etab⟩ := t1.tab
    have etab2 := f2.row etab (fun hb => (nfa p hb).1 rfl)
    refine ⟨HW_row etab2 (by simp), ?_⟩
    intro h3 e3
    have t3 : Mem h3 N0 p q mb n K I a' c' L last x :=
      t1.refree f2 k2 (fun b hb => .inl (sub b hb)) (by rw [e3]; exact only_hset) (fun qc e => by rw [e3, hset_row e]; rfl)
    have f3 : Fr N0.ok h h3 := by
      rw [e3]
      exact (f1.trans f2 (fun b _ hb => (t1.fr.blk hb).choose_spec.low)).trans (fr_hset N0.ok (fun _ => t.lowp)) (fun _ _ h => h)
    clear e3
    refine ⟨_, t3.c2, t3.hwp 2 (by omega), ?_⟩
    intro h4 e4
    rw [wu64 (by omega) (by omega)] at e4
    have t4 : Mem h4 N0 p q mb n K I a' c' L (last + 1) x := by
      rw [e4]; exact t3.words only_hset (fun qc e => by rw [hset_row e]; rfl)
    have f4 : Fr N0.ok h h4 := by rw [e4]; exact f3.trans (fr_hset N0.ok (fun _ => t.lowp)) (fun _ _ h => h)
    clear e4
    obtain ⟨qc4, c04⟩ := t4.c0
    have hk : x.toNat < n := by omega
    refine ⟨_, _, _, c04, _, t4.c3, _, _, rfl, g1, g2, _, t4.c2, t4.hwq g1 g2 0 (by omega), ?_⟩
    intro h5 e5
    have t5 : Mem h5 N0 p q mb n K (upI I x.toNat { I x.toNat with st := 2 }) a' c' L (last + 1) x := by
      rw [e5]; exact t4.put only_hset (row_word (j := 0) t4 hk (by omega) (vals_eq rfl (by omega)))
    have f5 : Fr N0.ok h h5 := by rw [e5]; exact f4.trans (fr_hset N0.ok (fun _ => t.lowq)) (fun _ _ h => h)
    clear e5
    refine ⟨t5.hwq g1 g2 1 (by omega), ?_⟩
    intro h6 e6
    have t6 : Mem h6 N0 p q mb n K (upI (upI I x.toNat { I x.toNat with st := 2 }) x.toNat { I x.toNat with st := 2, sq := last + 1 }) a' c' L (last + 1) x := by
      rw [e6]; exact t5.put only_hset (row_word (j := 1) t5 hk (by omega) (vals_eq (by rw [upI_same]; rfl) (by omega)))
    have f6 : Fr N0.ok h h6 := by rw [e6]; exact f5.trans (fr_hset N0.ok (fun _ => t.lowq)) (fun _ _ h => h)
    clear e6
    have ei : upI (upI I x.toNat { I x.toNat with st := 2 }) x.toNat { I x.toNat with st := 2, sq := last + 1 } = upI I x.toNat { I x.toNat with st := 2, sq := last + 1 } := by
      funext j; unfold upI; split <;> simp_all
    rw [ei] at t6
    have ev := t.inv.each _ hk
    have hnd := t.inv.nodup
    rw [List.nodup_cons] at hnd
    refine ⟨_, t6.c3, _, t6.c2, ⟨_, _, _, rfl⟩, f6, _, _, _, _, _, _, ⟨t6, ?_⟩, goes_up ⟨.inr (by show (2 : Int) = _; rw [g3]; rfl), fun h => (by rw [g3] at h; cases h), fun h => (by rw [g3] at h; cases h)⟩⟩
    refine ⟨t.inv.n2, t.inv.n256, t.inv.kle, fun j hj => ?_, hnd.2, fun y hy => ?_, .inr ⟨g1, g2, by rw [upI_same]⟩, by omega, by omega⟩
    · by_cases e : j = x.toNat
      · subst e; rw [upI_same]; exact ⟨by simp, by simp, ev.2.2.1, ev.2.2.2.1, ev.2.2.2.2.1, ev.2.2.2.2.2.1, fun h => by simp at h⟩
      · rw [upI_ne _ _ e]; exact t.inv.each j hj
    · obtain ⟨k1, k2, k3⟩ := t.inv.free y (by simp [hy])
      refine ⟨k1, k2, ?_⟩
      have hne : y.toNat ≠ x.toNat := fun e => hnd.1 (by have : y = x := by omega
                                                         exact this ▸ hy)
      rw [upI_ne _ _ hne]; exact k3

end
end Go.Proofs.Ytfdgjgjcppfmiaa
