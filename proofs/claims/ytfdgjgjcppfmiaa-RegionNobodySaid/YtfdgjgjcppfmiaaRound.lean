/-
The way round.
-/
import Derived.Test.YtfdgjgjcppfmiaaReg10
namespace Go.Proofs.Ytfdgjgjcppfmiaa
open Go

theorem ok_avoid {lo x b : Nat} (h : Lo.ok ⟨lo, none⟩ b) (hb : b ≠ x) : Lo.ok ⟨lo, some x⟩ b := ⟨h.1, fun e => hb (by injection e with e; exact e.symm)⟩
theorem ok_forget {lo x b : Nat} (h : Lo.ok ⟨lo, some x⟩ b) : Lo.ok ⟨lo, none⟩ b := ⟨h.1, fun e => by cases e⟩

section
variable {h : Heap} {lo x : Nat} {p q mb n K : Nat} {I : Nat → Info} {fa : Option Addr} {fc : Nat} {L : List Int} {last cur : Int}

theorem IntBlk.forget {b sz : Nat} (k : IntBlk h ⟨lo, some x⟩ b sz) : IntBlk h ⟨lo, none⟩ b sz := ⟨ok_forget k.low, k.ex⟩
theorem IntBlk.avoid {b sz : Nat} (k : IntBlk h ⟨lo, none⟩ b sz) (hx : b ≠ x) : IntBlk h ⟨lo, some x⟩ b sz := ⟨ok_avoid k.low hx, k.ex⟩

/-- A block that is none of the manager's is left out. -/
theorem Man.avoid (t : Man h ⟨lo, none⟩ p q mb n K I fa fc L last cur) {h' : Heap} (he : Ext h h') (h1 : h.size ≤ x) (h2 : x < h'.size) : Man h' ⟨lo, some x⟩ p q mb n K I fa fc L last cur := by
  have t' := t.ext he
  have hp := row_lt t.tab.choose_spec
  have hq := row_lt t.row.choose_spec.1
  have lt : ∀ {b sz}, IntBlk h ⟨lo, none⟩ b sz → b ≠ x := fun k => by have := k.lt; omega
  obtain ⟨kv, m, hd⟩ := t.dr
  have hm := m.lt
  refine ⟨⟨ok_avoid t.lowp (by omega), ok_avoid t.lowq (by omega), ok_avoid t.lowm (by omega), fun y e => by cases e; exact h2, t'.tab, t'.row, ⟨t'.fr.le, ?_⟩, kv, m.ext he, fun y hy => ?_⟩, t.inv⟩
  · rcases t.fr.ex with e | ⟨b, o, rfl, kb, kc⟩
    · exact .inl e
    · rcases t'.fr.ex with ⟨e, _⟩ | ⟨b', o', e, kb', kc'⟩
      · cases e
      · cases e; exact .inr ⟨b, o, rfl, kb'.avoid (lt kb), kc'⟩
  · obtain ⟨a, j, c, e, hle, ha, hx⟩ := hd y hy
    refine ⟨a, j, c, e, hle, ⟨ha.le, ha.ex.imp id ?_⟩, hx⟩
    rintro ⟨b, o, e, kb⟩
    exact ⟨b, o, e, (kb.same (he.block b kb.lt)).avoid (lt kb)⟩
theorem Man.forget (t : Man h ⟨lo, some x⟩ p q mb n K I fa fc L last cur) : Man h ⟨lo, none⟩ p q mb n K I fa fc L last cur := by
  obtain ⟨kv, m, hd⟩ := t.dr
  refine ⟨⟨ok_forget t.lowp, ok_forget t.lowq, ok_forget t.lowm, fun y e => (by cases e), t.tab, t.row, ⟨t.fr.le, t.fr.ex.imp id fun ⟨b, o, e, kb, kc⟩ => ⟨b, o, e, kb.forget, kc⟩⟩, kv, m, fun y hy => ?_⟩, t.inv⟩
  obtain ⟨a, j, c, e, hle, ha, hx⟩ := hd y hy
  exact ⟨a, j, c, e, hle, ⟨ha.le, ha.ex.imp id fun ⟨b, o, e, kb⟩ => ⟨b, o, e, kb.forget⟩⟩, hx⟩
end

/-- Ops in a row. -/
def OpsAt (h : Heap) (l : Option Addr) (n : Nat) (K R W : Nat → Int) : Prop :=
  0 < n → ∃ b o, l = some ⟨b, o, none⟩ ∧ b < h.size ∧ ∀ i, i < n → hcell h b (o + i * 3) = some (.int .i64 (K i)) ∧ hcell h b (o + i * 3 + 1) = some (.int .i64 (R i)) ∧ hcell h b (o + i * 3 + 2) = some (.int .i64 (W i))

theorem rbox {h h1 : Heap} {b : Nat} (eb : b = Array.size h) (e1 : h1 = Array.push h (.cells #[.int .i64 0, .int .u64 0, .int .i64 0, .int .i64 0] 31)) :
    HWs h1 b 0 4 ∧ ∀ (e : Info) h2, h2 = hsets h1 b 0 [.int .i64 e.st, .int .u64 e.sq, .int .i64 e.pins, .int .i64 e.er] →
      h2[b]? = some (.cells #[.int .i64 e.st, .int .u64 e.sq, .int .i64 e.pins, .int .i64 e.er] 31 (0, 0)) ∧ Ext h h2 := by
  have r1 : h1[b]? = some (.cells #[.int .i64 0, .int .u64 0, .int .i64 0, .int .i64 0] 31 (0, 0)) := by rw [e1]; exact push_new eb
  have x1 : Ext h h1 := by rw [e1]; exact Ext.push _ _
  refine ⟨HWs_row r1 (by simp), ?_⟩
  rintro e h2 rfl
  refine ⟨by rw [hsets_row _ r1]; rfl, ?_⟩
  exact ((x1.fr (fun i => i = b)).trans (fr_hsets (fun i => i = b) (fun _ => rfl)) (fun _ _ h => h)).ext (fun i hi h' => by omega)

set_option maxHeartbeats 4000000 in
theorem law_round {n0 : Int} {l : Option Addr} {ln lc : Nat} {K R W : Nat → Int} {h : Heap} (hn : ln ≤ 1048576) (x : OpsAt h l ln K R W) :
    HC Try.prog 3 #[.int .i64 n0, .slice l ln lc] h fun v h' => v = .bool true ∧ Ext h h' := by
  refine f3_sh _ _ _ _ _ _ ((lives_c h).mono ?_)
  rintro _ h1 ⟨rfl, x1⟩
  refine ⟨_, rfl, fun h => by simp at h, fun _ => ?_⟩
  by_cases hv : n0 < 2 ∨ 256 < n0
  · refine (new_no hv h1).mono ?_
    rintro _ h2 ⟨rfl, rfl⟩
    exact ⟨_, _, rfl, fun _ => ⟨rfl, x1⟩, fun h => by simp at h⟩
  obtain ⟨n, rfl⟩ : ∃ n : Nat, n0 = n := ⟨n0.toNat, by omega⟩
  refine (new_c (n := n) (by omega) (by omega) h1).mono ?_
  rintro _ h2 ⟨p, q, mb, fa, fc, rfl, x2, t2⟩
  have hs1 := x1.size
  refine ⟨_, _, rfl, fun h => by simp at h, fun _ => ?_⟩
  refine ⟨fun i h3 => ∃ k : Nat, i = k ∧ k ≤ ln ∧ Ext h h3 ∧ ∃ I fa fc L last cur, Man h3 ⟨h1.size, none⟩ p q mb n k I fa fc L last cur, fun i _ => ln - i.toNat, ⟨0, rfl, Nat.zero_le _, x1.trans x2, _, _, _, _, _, _, t2⟩, ?_⟩
  clear t2 x1 x2
  rintro _ h3 ⟨k, rfl, hk, x3, I, fa, fc, L, last, cur, t3⟩
  refine ⟨fun hlt => ?_, fun _ => ⟨rfl, x3⟩⟩
  have hkl : k < ln := by have := of_decide_eq_true hlt; omega
  refine ⟨fun a an ac i h4 => ∃ m : Nat, i = m ∧ m ≤ n ∧ m = an ∧ Ext h3 h4 ∧ InfoSl h4 h3.size a ac m I, fun _ _ _ i _ => n - i.toNat, ⟨0, rfl, Nat.zero_le _, rfl, Ext.refl _, ⟨Nat.le_refl _, .inl ⟨rfl, rfl⟩⟩⟩, ?_⟩
  rintro ahead _ ac _ h4 ⟨m, rfl, hm, rfl, x4, ks⟩
  have hm0 : (0 : Int) ≤ (m : Int) := Int.natCast_nonneg _
  refine ⟨fun hlt => ?_, fun hge => ?_⟩
  · have hmn : m < n := by have := of_decide_eq_true hlt; omega
    refine (info_c (t3.ext x4) hm0 (by omega)).mono ?_
    rintro _ h5 ⟨rfl, x5⟩
    refine ⟨_, _, _, _, _, rfl, ?_⟩
    intro b h6 eb e6
    obtain ⟨hw, mk⟩ := rbox eb e6
    refine ⟨hw, ?_⟩
    intro h7 e7
    obtain ⟨r7, x7⟩ := mk (I (m : Int).toNat) h7 e7
    refine ⟨_, _, _, _, by rw [hcell_row r7]; rfl, by rw [hcell_row r7]; rfl, by rw [hcell_row r7]; rfl, by rw [hcell_row r7]; rfl, ?_⟩
    intro nb h8 enb e8
    have x8 : Ext h7 h8 := by rw [e8]; exact Ext.push _ _
    have r8 : h8[nb]? = some (.cells #[.int .i64 (I m).st, .int .u64 (I m).sq, .int .i64 (I m).pins, .int .i64 (I m).er] 31 (0, 0)) := by rw [e8]; exact push_new enb
    have x48 := x5.trans (x7.trans x8)
    have hs := (x4.trans x48).size
    have hn256 := t3.inv.n256
    refine app_info (ks.ext x48) r8 (by omega) hs ?_
    intro a' c' h9 f9 k9
    refine ⟨_, _, _, rfl, ⟨m + 1, by rw [w64 (by omega) (by omega)]; rfl, hmn, rfl, ?_, k9⟩, ?_⟩
    · exact (((x4.trans x48).fr (fun b => h3.size ≤ b)).trans f9 (fun _ _ h => h)).ext (fun i hi h' => by omega)
    · rw [w64 (by omega) (by omega)]
      show n - Int.toNat ((m : Int) + 1) < n - Int.toNat (m : Int)
      omega
  · have hmn : m = n := by have := of_decide_eq_false hge; omega
    subst hmn
    have hm2 := t3.inv.n2
    rcases ks.ex with ⟨_, e⟩ | ⟨ab, acs, rfl, hab, arow, hal, hac⟩
    · have := ks.le; omega
    have habl := row_lt arow
    obtain ⟨lb, lo, rfl, hlb, hx⟩ := x (by omega)
    obtain ⟨c0, c1, c2⟩ := hx k hkl
    have rd : ∀ {h' : Heap} {o : Nat} {v : Value}, Ext h h' → hcell h lb o = some v → hcell h' lb o = some v := fun he hc => he.cell hc
    have x34 := x3.trans x4
    refine ⟨lb, lo, rfl, Int.natCast_nonneg _, by omega, _, _, _, rd x34 c0, rd x34 c1, rd x34 c2, ?_⟩
    have tA := t3.avoid x4 hab habl
    refine (does_c tA (by omega) _ _ _).mono ?_
    rintro _ h10 ⟨⟨er, rfl⟩, f10, I', fa', fc', L', last', cur', t10, goes⟩
    refine ⟨_, rfl, ?_⟩
    have arow10 : h10[ab]? = some (.cells acs 31 (0, 0)) := (f10.block ab habl (fun h => h.2 rfl)).trans arow
    have x10 : Ext h h10 := ((x34.fr (Lo.ok ⟨h1.size, some ab⟩)).trans f10 (fun _ _ h => h)).ext (fun i hi h' => by have : h1.size ≤ i := h'.1; omega)
    refine ⟨fun i h11 => ∃ j : Nat, i = j ∧ j ≤ m ∧ Ext h10 h11, fun i _ => m - i.toNat, ⟨0, rfl, Nat.zero_le _, Ext.refl _⟩, ?_⟩
    rintro _ h11 ⟨j, rfl, hj, x11⟩
    have hj0 : (0 : Int) ≤ (j : Int) := Int.natCast_nonneg _
    refine ⟨fun hlt => ?_, fun _ => ?_⟩
    · have hjm : j < m := by have := of_decide_eq_true hlt; omega
      refine (info_c (t10.ext x11) hj0 (by omega)).mono ?_
      rintro _ h12 ⟨rfl, x12⟩
      refine ⟨_, _, _, _, _, rfl, ?_⟩
      intro bx h13 eb e13
      obtain ⟨hw, mk⟩ := rbox eb e13
      refine ⟨hw, ?_⟩
      intro h14 e14
      obtain ⟨rx14, x14⟩ := mk (I' (j : Int).toNat) h14 e14
      have x1014 := x11.trans (x12.trans x14)
      have ar14 := x1014.row arow10
      have ha := hac j hjm
      refine ⟨ab, 0, rfl, hj0, by omega, _, _, _, _, by rw [hcell_row ar14, Nat.zero_add]; exact ha.c0, by rw [hcell_row ar14, Nat.zero_add]; exact ha.c1, by rw [hcell_row ar14, Nat.zero_add]; exact ha.c2, by rw [hcell_row ar14, Nat.zero_add]; exact ha.c3, ?_⟩
      intro ba h15 eb e15
      obtain ⟨hw, mk⟩ := rbox eb e15
      refine ⟨hw, ?_⟩
      intro h16 e16
      obtain ⟨ra, x16⟩ := mk (I j) h16 e16
      have rx := x16.row rx14
      have hB := t10.inv.each j hjm
      have hA := t3.inv.each j hjm
      obtain ⟨g1, g2, g3⟩ := goes j hjm
      have hkle := t10.inv.kle
      rw [show (j : Int).toNat = j from Int.toNat_natCast j] at rx
      have hx0 : hcell h16 bx 0 = some (.int .i64 (I' j).st) := by rw [hcell_row rx]; rfl
      have hx1 : hcell h16 bx 1 = some (.int .u64 (I' j).sq) := by rw [hcell_row rx]; rfl
      have hx2 : hcell h16 bx 2 = some (.int .i64 (I' j).pins) := by rw [hcell_row rx]; rfl
      have hx3 : hcell h16 bx 3 = some (.int .i64 (I' j).er) := by rw [hcell_row rx]; rfl
      have ha0 : hcell h16 ba 0 = some (.int .i64 (I j).st) := by rw [hcell_row ra]; rfl
      have ha2 : hcell h16 ba 2 = some (.int .i64 (I j).pins) := by rw [hcell_row ra]; rfl
      have ha3 : hcell h16 ba 3 = some (.int .i64 (I j).er) := by rw [hcell_row ra]; rfl
      have hmod : IntKind.i64.wrap (Int.tmod (I j).st 4 + 1) = (I j).st % 4 + 1 := by
        rw [Int.tmod_eq_emod_of_nonneg (by omega), w64 (by omega) (by omega)]
      have hst4 : decide ((I' j).st > 4) = false := decide_eq_false (by omega)
      refine ⟨false, ⟨fun h => by simp at h, fun _ => ⟨_, hx0, _, ha0, fun hne => ⟨_, hx0, _, ha0, fun hne2 => ?_, fun _ => ⟨_, hx0, fun h => absurd (of_decide_eq_true h) (by omega), fun _ => ⟨_, hx0, hst4.symm⟩⟩⟩, fun _ => ⟨_, hx0, fun h => absurd (of_decide_eq_true h) (by omega), fun _ => ⟨_, hx0, hst4.symm⟩⟩⟩⟩, fun h => (by cases h), fun _ => ?_⟩
      · rw [hmod] at hne2
        have h1 : (I' j).st ≠ (I j).st := by simpa using hne
        have h2 : (I' j).st ≠ (I j).st % 4 + 1 := by simpa using hne2
        exact absurd (g1.resolve_left h1) h2
      have low : (I' j).st = 1 → (I' j).pins = 0 ∧ (I' j).sq = 0 := hB.2.2.2.2.2.2
      refine ⟨false, ⟨_, ha0, fun h4 => ⟨_, hx2, _, ha2, fun h => ?_, fun _ => ⟨_, hx0, fun hs => ⟨_, hx2, fun h => ?_, fun _ => ⟨_, hx1, ?_⟩⟩, fun _ => rfl⟩⟩, fun _ => ⟨_, hx0, fun hs => ⟨_, hx2, fun h => ?_, fun _ => ⟨_, hx1, ?_⟩⟩, fun _ => rfl⟩⟩, fun h => (by cases h), fun _ => ?_⟩
      · have := g2 (eq_of_beq h4); have := of_decide_eq_true h; omega
      · have := (low (eq_of_beq hs)).1; simp [this] at h
      · have := (low (eq_of_beq hs)).2; simp [this]
      · have := (low (eq_of_beq hs)).1; simp [this] at h
      · have := (low (eq_of_beq hs)).2; simp [this]
      refine ⟨false, ⟨_, ha0, fun h4 => ⟨_, hx0, fun hs => ⟨_, ha2, fun h => ?_, fun _ => ⟨_, hx3, _, ha3, ?_⟩⟩, fun _ => rfl⟩, fun _ => rfl⟩, fun h => (by cases h), fun _ => ⟨⟨j + 1, by rw [w64 (by omega) (by omega)]; rfl, hjm, ?_⟩, ?_⟩⟩
      · have := (g3 (eq_of_beq h4) (eq_of_beq hs)).1; simp [this] at h
      · have := (g3 (eq_of_beq h4) (eq_of_beq hs)).2
        rw [w64 (by omega) (by omega), this]; simp
      · exact x1014.trans x16
      · rw [w64 (by omega) (by omega)]
        show m - Int.toNat ((j : Int) + 1) < m - Int.toNat (j : Int)
        omega
    · rw [w64 (by omega) (by omega)]
      refine ⟨⟨k + 1, rfl, hkl, x10.trans x11, I', fa', fc', L', last', cur', (t10.ext x11).forget⟩, ?_⟩
      show ln - Int.toNat ((k : Int) + 1) < ln - Int.toNat (k : Int)
      omega

end Go.Proofs.Ytfdgjgjcppfmiaa
