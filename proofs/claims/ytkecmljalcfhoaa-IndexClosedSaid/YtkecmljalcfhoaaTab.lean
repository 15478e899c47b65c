/-
The table in memory, and what its methods do.
-/
import Derived.Test.YtkecmljalcfhoaaMem
import Derived.Test.YtkecmljalcfhoaaRH
import Derived.Test.YtkecmljalcfhoaaShA
namespace Go.Proofs.Ytkecmljalcfhoaa
open Go RH

def Ent.vals (e : Ent) : List Value := [.int .u64 e.h, .int .u64 e.a, .int .u64 e.v, .int .u8 e.k]
/-- Slot i of a row of entries. -/
structure EntAt (c : Array Value) (i : Nat) (e : Ent) : Prop where
  c0 : c[i * 4]? = some (.int .u64 e.h)
  c1 : c[i * 4 + 1]? = some (.int .u64 e.a)
  c2 : c[i * 4 + 2]? = some (.int .u64 e.v)
  c3 : c[i * 4 + 3]? = some (.int .u8 e.k)

structure TabAt (h : Heap) (p q B m n cap : Nat) (cs : Array Value) (s : Sl) : Prop where
  tab : h[p]? = some (.cells #[.slice (some ⟨q, 0, none⟩) (2 ^ B) cap, .int .i64 B, .int .i64 m, .int .i64 n] 87 (0, 0))
  row : h[q]? = some (.cells cs 31 (0, 0))
  len : 2 ^ B * 4 ≤ cs.size
  cap : 2 ^ B ≤ cap
  ents : ∀ i, i < 2 ^ B → EntAt cs i (s i)
  b2 : 2 ≤ B
  bm : B ≤ m
  m16 : m ≤ 16

theorem pow_le {B : Nat} (h : B ≤ 16) : 2 ^ B ≤ 65536 := by
  calc 2 ^ B ≤ 2 ^ 16 := Nat.pow_le_pow_right (by omega) h
    _ = 65536 := rfl

section
variable {h : Heap} {p q B m n cap : Nat} {cs : Array Value} {s : Sl}

theorem TabAt.c0 (t : TabAt h p q B m n cap cs s) : hcell h p 0 = some (.slice (some ⟨q, 0, none⟩) (2 ^ B) cap) := by rw [hcell_row t.tab]; rfl
theorem TabAt.c1 (t : TabAt h p q B m n cap cs s) : hcell h p 1 = some (.int .i64 B) := by rw [hcell_row t.tab]; rfl
theorem TabAt.c2 (t : TabAt h p q B m n cap cs s) : hcell h p 2 = some (.int .i64 m) := by rw [hcell_row t.tab]; rfl
theorem TabAt.c3 (t : TabAt h p q B m n cap cs s) : hcell h p 3 = some (.int .i64 n) := by rw [hcell_row t.tab]; rfl
theorem TabAt.e0 (t : TabAt h p q B m n cap cs s) {i : Int} (h0 : 0 ≤ i) (h1 : i < ((2 ^ B : Nat) : Int)) : hcell h q (0 + i.toNat * 4) = some (.int .u64 (s i.toNat).h) := by
  rw [hcell_row t.row, Nat.zero_add]; exact (t.ents i.toNat (by omega)).c0
theorem TabAt.e1 (t : TabAt h p q B m n cap cs s) {i : Int} (h0 : 0 ≤ i) (h1 : i < ((2 ^ B : Nat) : Int)) : hcell h q (0 + i.toNat * 4 + 1) = some (.int .u64 (s i.toNat).a) := by
  rw [hcell_row t.row, Nat.zero_add]; exact (t.ents i.toNat (by omega)).c1
theorem TabAt.e2 (t : TabAt h p q B m n cap cs s) {i : Int} (h0 : 0 ≤ i) (h1 : i < ((2 ^ B : Nat) : Int)) : hcell h q (0 + i.toNat * 4 + 2) = some (.int .u64 (s i.toNat).v) := by
  rw [hcell_row t.row, Nat.zero_add]; exact (t.ents i.toNat (by omega)).c2
theorem TabAt.e3 (t : TabAt h p q B m n cap cs s) {i : Int} (h0 : 0 ≤ i) (h1 : i < ((2 ^ B : Nat) : Int)) : hcell h q (0 + i.toNat * 4 + 3) = some (.int .u8 (s i.toNat).k) := by
  rw [hcell_row t.row, Nat.zero_add]; exact (t.ents i.toNat (by omega)).c3
theorem TabAt.le (t : TabAt h p q B m n cap cs s) : 2 ^ B ≤ 65536 := pow_le (Nat.le_trans t.bm t.m16)
theorem TabAt.ext (t : TabAt h p q B m n cap cs s) {h' : Heap} (he : Ext h h') : TabAt h' p q B m n cap cs s :=
  ⟨he.row t.tab, he.row t.row, t.len, t.cap, t.ents, t.b2, t.bm, t.m16⟩
theorem TabAt.fr (t : TabAt h p q B m n cap cs s) {h' : Heap} {S : Nat → Prop} (he : Fr S h h') (hp : ¬ S p) (hq : ¬ S q) : TabAt h' p q B m n cap cs s :=
  ⟨he.row t.tab hp, he.row t.row hq, t.len, t.cap, t.ents, t.b2, t.bm, t.m16⟩
theorem TabAt.ne (t : TabAt h p q B m n cap cs s) : p ≠ q := by
  intro e
  have h1 := t.tab
  rw [e, t.row] at h1
  simp at h1

theorem pow4 (hb : 2 ≤ B) : 4 ≤ 2 ^ B := by
  calc 4 = 2 ^ 2 := rfl
    _ ≤ 2 ^ B := Nat.pow_le_pow_right (by omega) hb

/-! ### the small ones -/
theorem fdiv_nat (a b : Nat) : Int.fdiv (a : Int) (b : Int) = ((a / b : Nat) : Int) := by
  rw [Int.fdiv_eq_ediv_of_nonneg _ (by omega)]; rfl

theorem home_c (t : TabAt h p q B m n cap cs s) {x : Nat} (hx : x < 18446744073709551616) : HC Try.prog 66 #[ptr p 0, .int .u64 x] h fun v h' => v = .int .i64 (hm B x) ∧ h' = h := by
  have hB : B ≤ 16 := Nat.le_trans t.bm t.m16
  have hlt := hm_lt (N := 2 ^ B) rfl (by omega : B ≤ 64) hx
  have hle := t.le
  refine f66_sh _ _ _ _ _ ⟨_, t.c1, ?_, ?_, rfl⟩
  · rw [w64 (by omega) (by omega)]; omega
  · rw [w64 (x := 64 - (B : Int)) (by omega) (by omega)]
    have e1 : min (Int.toNat (64 - (B : Int))) 64 = 64 - B := by omega
    have e2 : ((2 : Int) ^ (64 - B)) = ((2 ^ (64 - B) : Nat) : Int) := by norm_cast
    rw [e1, e2, fdiv_nat]
    unfold hm at hlt ⊢
    generalize x / 2 ^ (64 - B) = y at *
    rw [w64 (by omega) (by omega)]

theorem next_c (t : TabAt h p q B m n cap cs s) {i : Nat} (hi : i < 2 ^ B) : HC Try.prog 62 #[ptr p 0, .int .i64 i] h fun v h' => v = .int .i64 (nx (2 ^ B) i) ∧ h' = h := by
  have hle := t.le
  refine f62_sh _ _ _ _ _ ⟨_, _, _, t.c0, by omega, ?_, rfl⟩
  rw [w64 (by omega) (by omega)]
  have e : ((i : Int) + 1) = ((i + 1 : Nat) : Int) := by omega
  rw [e, tmod_nat]
  unfold nx
  split
  · rename_i h1; rw [h1, Nat.mod_self]
  · rename_i h1; rw [Nat.mod_eq_of_lt (by omega)]

theorem dist_c (t : TabAt h p q B m n cap cs s) {i : Nat} (hi : i < 2 ^ B) (hw : (s i).wf) : HC Try.prog 63 #[ptr p 0, .int .i64 i] h fun v h' => v = .int .i64 (ds (2 ^ B) B i (s i).h) ∧ h' = h := by
  have hB : B ≤ 16 := Nat.le_trans t.bm t.m16
  have hlt := hm_lt (N := 2 ^ B) rfl (by omega : B ≤ 64) hw.1
  have hle := t.le
  refine f63_sh _ _ _ _ _ ⟨_, _, _, t.c0, _, _, rfl, by omega, by omega, _, t.e0 (by omega) (by omega), _, fun h1 he => home_c (t.ext he) (by simpa using hw.1), _, _, _, t.c0, _, _, _, t.c0, by omega, ?_, rfl⟩
  simp only [Int.toNat_natCast]
  rw [w64 (x := (i : Int) - (hm B (s i).h : Int)) (by omega) (by omega), w64 (by omega) (by omega)]
  unfold ds df
  split
  · have e : ((i : Int) - (hm B (s i).h : Int) + ((2 ^ B : Nat) : Int)) = ((i - hm B (s i).h + 2 ^ B : Nat) : Int) := by omega
    rw [e, tmod_nat, Nat.add_mod_right, Nat.mod_eq_of_lt (by omega)]
  · have e : ((i : Int) - (hm B (s i).h : Int) + ((2 ^ B : Nat) : Int)) = ((i + 2 ^ B - hm B (s i).h : Nat) : Int) := by omega
    rw [e, tmod_nat, Nat.mod_eq_of_lt (by omega)]

theorem empty_c (a b c d : Int) (h : Heap) : HC Try.prog 58 #[.agg #[.int .u64 a, .int .u64 b, .int .u64 c, .int .u8 d]] h fun v h' => v = .bool (b == 0) ∧ Ext h h' := by
  refine f58_sh _ _ _ _ _ _ ?_
  rintro e h1 rfl rfl
  refine ⟨b, ?_, rfl, Ext.push _ _⟩
  rw [hcell_row (push_new rfl)]; rfl

theorem made_c (t : TabAt h p q B m n cap cs s) : HC Try.prog 64 #[.pointer (some ⟨p, 0, none⟩)] h fun v h' => v = .bool true ∧ h' = h := by
  have h4 := pow4 t.b2
  refine f64_sh _ _ _ ⟨true, ⟨fun _ => ⟨_, _, rfl, _, _, _, t.c0, ?_⟩, fun h => by cases h⟩, rfl, rfl⟩
  exact (decide_eq_true (by omega)).symm

theorem full_c (t : TabAt h p q B m n cap cs s) (hn : n ≤ 2 ^ B) : HC Try.prog 67 #[ptr p 0] h fun v h' => v = .bool (decide (7 * 2 ^ B < 8 * (n + 1))) ∧ h' = h := by
  have hle := t.le
  refine f67_sh _ _ _ _ ⟨_, t.c3, _, _, _, t.c0, ?_, rfl⟩
  rw [w64 (x := (n : Int) + 1) (by omega) (by omega), w64 (by omega) (by omega), w64 (by omega) (by omega)]
  congr 1
  rw [decide_eq_decide]; omega

/-! ### finding -/
theorem find_c (t : TabAt h p q B m n cap cs s) (g : RGood (2 ^ B) B s) {z : Nat} (hz : z < 2 ^ B) (hh : ¬ occd s z) {x : Nat} (hx : x < 18446744073709551616) :
    HC Try.prog 50 #[.pointer (some ⟨p, 0, none⟩), .int .u64 x] h fun v h' => Ext h h' ∧ ((∃ i, i < 2 ^ B ∧ occd s i ∧ (s i).h = x ∧ v = .int .i64 i) ∨ ((∀ i, i < 2 ^ B → occd s i → (s i).h ≠ x) ∧ v = .int .i64 (-1))) := by
  have hB : B ≤ 64 := by have := t.bm; have := t.m16; omega
  have hlt := hm_lt (N := 2 ^ B) rfl hB hx
  have hle := t.le
  have h0 : ds (2 ^ B) B (hm B x) x = 0 := by unfold ds df; rw [if_pos (Nat.le_refl _)]; omega
  refine f50_sh _ _ _ _ ⟨true, made_c t, fun h => by simp at h, fun _ => ⟨_, home_c t hx, fun h' => Ext h h' ∧ (∀ i, i < 2 ^ B → occd s i → (s i).h ≠ x), ⟨
    fun a f h' => Ext h h' ∧ ∃ an fn : Nat, a = an ∧ f = fn ∧ an < 2 ^ B ∧ fn = ds (2 ^ B) B an x ∧ (∀ i, i < 2 ^ B → occd s i → (s i).h = x → fn ≤ ds (2 ^ B) B i x) ∧ fn + df (2 ^ B) an z < 2 ^ B,
    fun a _ _ => df (2 ^ B) a.toNat z, ⟨Ext.refl _, hm B x, 0, rfl, rfl, hlt, h0.symm, fun _ _ _ _ => Nat.zero_le _, ?_⟩, ?_⟩, ?_⟩⟩
  · have := df_lt (N := 2 ^ B) hlt hz; omega
  · rintro _ _ h2 ⟨he, a, f, rfl, rfl, ha, hf, hmin, hsum⟩
    have t2 := t.ext he
    have hwa := g.wf a ha
    refine ⟨_, _, rfl, _, _, _, t2.c0, _, _, rfl, by omega, by omega, _, _, _, _, t2.e0 (by omega) (by omega), t2.e1 (by omega) (by omega), t2.e2 (by omega) (by omega), t2.e3 (by omega) (by omega), (empty_c _ _ _ _ _).mono ?_⟩
    rintro _ h3 ⟨rfl, he3⟩
    have t3 := t2.ext he3
    refine ⟨_, rfl, ?_, ?_⟩
    · intro hb
      have ho : occd s a := by unfold occd; simpa using hb
      have hne : a ≠ z := fun e => hh (e ▸ ho)
      refine ⟨_, _, _, t3.c0, _, _, rfl, by omega, by omega, _, t3.e0 (by omega) (by omega), ?_, ?_⟩
      · intro he'
        exact ⟨he.trans he3, .inl ⟨a, ha, ho, by have := eq_of_beq he'; simp only [Int.toNat_natCast] at this; omega, rfl⟩⟩
      · intro hne'
        have hax : (s a).h ≠ x := fun e => by simp [e] at hne'
        refine ⟨_, dist_c t3 ha hwa, ?_, ?_⟩
        · intro hd
          have hd' : ds (2 ^ B) B a (s a).h < f := by simpa using hd
          refine ⟨he.trans he3, fun i hi hoi hix => ?_⟩
          have := found_at g rfl hB hx hi hoi hix ha hf (hmin i hi hoi hix)
          omega
        · intro hd
          have hds := df_step hz ha hne
          refine ⟨_, next_c t3 ha, ⟨he.trans he3, nx (2 ^ B) a, f + 1, rfl, ?_, nx_lt ha, ?_, ?_, ?_⟩, ?_⟩
          · rw [w64 (by omega) (by omega)]; omega
          · rw [ds_next rfl hB ha hx (by omega), hf]
          · intro i hi hoi hix
            have h1 := hmin i hi hoi hix
            have h2 : f ≠ ds (2 ^ B) B i x := fun e => hax (by rw [df_inj hlt ha hi (hf.symm.trans e)]; exact hix)
            omega
          · omega
          · simpa using hds
    · intro hb
      have ho : ¬ occd s a := by unfold occd; simpa using hb
      refine ⟨he.trans he3, fun i hi hoi hix => ho ?_⟩
      exact (found_at g rfl hB hx hi hoi hix ha hf (hmin i hi hoi hix)).1
  · rintro h1 ⟨he, hn⟩
    exact ⟨he, .inr ⟨hn, rfl⟩⟩

/-! ### an entry in a block of its own -/
def Box (h : Heap) (b : Nat) (e : Ent) : Prop := h[b]? = some (.cells #[.int .u64 e.h, .int .u64 e.a, .int .u64 e.v, .int .u8 e.k] 31 (0, 0))
theorem Box.c0 {b : Nat} {e : Ent} (x : Box h b e) : hcell h b 0 = some (.int .u64 e.h) := by rw [hcell_row x]; rfl
theorem Box.c1 {b : Nat} {e : Ent} (x : Box h b e) : hcell h b 1 = some (.int .u64 e.a) := by rw [hcell_row x]; rfl
theorem Box.c2 {b : Nat} {e : Ent} (x : Box h b e) : hcell h b 2 = some (.int .u64 e.v) := by rw [hcell_row x]; rfl
theorem Box.c3 {b : Nat} {e : Ent} (x : Box h b e) : hcell h b 3 = some (.int .u8 e.k) := by rw [hcell_row x]; rfl
theorem Box.hw {b : Nat} {e : Ent} (x : Box h b e) : HWs h b 0 4 := HWs_row x (by simp)
theorem Box.new {b : Nat} (e : Ent) (hb : b = h.size) : Box (Array.push h (.cells #[.int .u64 e.h, .int .u64 e.a, .int .u64 e.v, .int .u8 e.k] 31)) b e := push_new hb
theorem Box.put {b : Nat} {e : Ent} (x : Box h b e) (e' : Ent) : Box (hsets h b 0 [.int .u64 e'.h, .int .u64 e'.a, .int .u64 e'.v, .int .u8 e'.k]) b e' := by
  unfold Box; rw [hsets_row _ x]; rfl
theorem Box.ext {b : Nat} {e : Ent} (x : Box h b e) {h' : Heap} (he : Ext h h') : Box h' b e := he.row x
theorem Box.fr {b : Nat} {e : Ent} (x : Box h b e) {h' : Heap} {S : Nat → Prop} (he : Fr S h h') (hn : ¬ S b) : Box h' b e := he.row x hn

theorem TabAt.hw (t : TabAt h p q B m n cap cs s) {i : Int} (h0 : 0 ≤ i) (h1 : i < ((2 ^ B : Nat) : Int)) : HWs h q (0 + i.toNat * 4) 4 := HWs_row t.row (by have := t.len; omega)
theorem ents_set {cs : Array Value} {N : Nat} {s : Sl} (hl : N * 4 ≤ cs.size) (he : ∀ i, i < N → EntAt cs i (s i)) {j : Nat} (hj : j < N) (e : Ent) :
    ∀ i, i < N → EntAt (sets cs (0 + j * 4) [.int .u64 e.h, .int .u64 e.a, .int .u64 e.v, .int .u8 e.k]) i (stt s j e i) := by
  intro i hi
  have hs : (0 + j * 4) + [Value.int .u64 e.h, .int .u64 e.a, .int .u64 e.v, .int .u8 e.k].length ≤ cs.size := by simp only [List.length_cons, List.length_nil]; omega
  have key : ∀ k, k < 4 → (sets cs (0 + j * 4) [Value.int .u64 e.h, .int .u64 e.a, .int .u64 e.v, .int .u8 e.k])[i * 4 + k]? = if i = j then [Value.int .u64 e.h, .int .u64 e.a, .int .u64 e.v, .int .u8 e.k][k]? else cs[i * 4 + k]? := by
    intro k hk
    rw [sets_get _ _ _ _ hs]
    simp only [List.length_cons, List.length_nil]
    by_cases hij : i = j
    · subst hij
      rw [if_pos (by omega), if_pos rfl]
      have : i * 4 + k - (0 + i * 4) = k := by omega
      rw [this]
    · rw [if_neg (by omega), if_neg hij]
  by_cases hij : i = j
  · subst hij
    rw [st_same]
    constructor
    · have := key 0 (by omega); rw [if_pos rfl] at this; exact this
    · have := key 1 (by omega); rw [if_pos rfl] at this; exact this
    · have := key 2 (by omega); rw [if_pos rfl] at this; exact this
    · have := key 3 (by omega); rw [if_pos rfl] at this; exact this
  · rw [st_ne _ _ hij]
    have h0 := he i hi
    constructor
    · have := key 0 (by omega); rw [if_neg hij] at this; exact this.trans h0.c0
    · have := key 1 (by omega); rw [if_neg hij] at this; exact this.trans h0.c1
    · have := key 2 (by omega); rw [if_neg hij] at this; exact this.trans h0.c2
    · have := key 3 (by omega); rw [if_neg hij] at this; exact this.trans h0.c3
theorem TabAt.put (t : TabAt h p q B m n cap cs s) {i : Nat} (hi : i < 2 ^ B) (e : Ent) :
    TabAt (hsets h q (0 + i * 4) [.int .u64 e.h, .int .u64 e.a, .int .u64 e.v, .int .u8 e.k]) p q B m n cap (sets cs (0 + i * 4) [.int .u64 e.h, .int .u64 e.a, .int .u64 e.v, .int .u8 e.k]) (stt s i e) :=
  ⟨by rw [hsets_ne _ t.ne]; exact t.tab, hsets_row _ t.row, by rw [sets_size]; exact t.len, t.cap, ents_set t.len t.ents hi e, t.b2, t.bm, t.m16⟩
theorem TabAt.setN (t : TabAt h p q B m n cap cs s) (n' : Nat) : TabAt (hset h p 3 (.int .i64 n')) p q B m n' cap cs s :=
  ⟨by rw [hset_row t.tab]; rfl, by rw [hset_ne (Ne.symm t.ne)]; exact t.row, t.len, t.cap, t.ents, t.b2, t.bm, t.m16⟩
theorem TabAt.hw3 (t : TabAt h p q B m n cap cs s) (o : Nat) (ho : o < 4) : HW h p o := HW_row t.tab (by simpa using ho)
theorem TabAt.lt (t : TabAt h p q B m n cap cs s) : p < h.size ∧ q < h.size := ⟨row_lt t.tab, row_lt t.row⟩

/-! ### laying -/
def PQ (p q : Nat) : Nat → Prop := fun b => b = p ∨ b = q

theorem lay_c (t : TabAt h p q B m n cap cs s) (g : RGood (2 ^ B) B s) {z : Nat} (hz : z < 2 ^ B) (hh : ¬ occd s z) {e : Ent} (ha : e.a ≠ 0) (hw : e.wf) (hf : ∀ i, i < 2 ^ B → occd s i → (s i).h ≠ e.h) (hn : n ≤ 65536) :
    HC Try.prog 69 #[ptr p 0, .agg #[.int .u64 e.h, .int .u64 e.a, .int .u64 e.v, .int .u8 e.k]] h fun v h' => v = .tuple #[] ∧ ∃ cs' s', TabAt h' p q B m (n + 1) cap cs' s' ∧ RGood (2 ^ B) B s' ∧
      (∀ x, InT (2 ^ B) s' x ↔ InT (2 ^ B) s x ∨ x = e) ∧ cntO s' (2 ^ B) = cntO s (2 ^ B) + 1 ∧ Fr (PQ p q) h h' := by
  have hB : B ≤ 64 := by have := t.bm; have := t.m16; omega
  have hle := t.le
  obtain ⟨hpl, hql⟩ := t.lt
  refine f69_sh _ _ _ _ _ _ _ _ ?_
  rintro eb h1 rfl rfl
  have x1 := Box.new (h := h) e rfl
  have t1 := t.ext (Ext.push h (.cells #[.int .u64 e.h, .int .u64 e.a, .int .u64 e.v, .int .u8 e.k] 31))
  have hxlt := row_lt x1
  have f1 : Fr (PQ p q) h (Array.push h (.cells #[.int .u64 e.h, .int .u64 e.a, .int .u64 e.v, .int .u8 e.k] 31)) := fr_push _
  refine ⟨_, x1.c0, _, home_c t1 hw.1, fun a f h2 => ∃ (an fn : Nat) (cs' : Array Value) (s' : Sl) (e' : Ent), a = an ∧ f = fn ∧ TabAt h2 p q B m n cap cs' s' ∧ LayI (2 ^ B) B s e z s' an fn e' ∧ Box h2 h.size e' ∧ Fr (PQ p q) h h2,
    fun a _ _ => df (2 ^ B) a.toNat z, ⟨_, 0, cs, s, e, rfl, rfl, t1, LayI.start rfl hB g hz hh ha hw hf, x1, f1⟩, ?_⟩
  rintro _ _ h2 ⟨a, f, cs', s', e', rfl, rfl, t2, l, x2, f2⟩
  have hal := l.at_lt
  refine ⟨_, _, _, t2.c0, _, _, rfl, by omega, by omega, _, _, _, _, t2.e0 (by omega) (by omega), t2.e1 (by omega) (by omega), t2.e2 (by omega) (by omega), t2.e3 (by omega) (by omega), (empty_c _ _ _ _ _).mono ?_⟩
  rintro _ h3 ⟨rfl, he3⟩
  have t3 := t2.ext he3
  have x3 := x2.ext he3
  have hne : h.size ≠ q := by omega
  refine ⟨_, rfl, ?_, ?_⟩
  · intro hb
    have ho : ¬ occd s' a := by unfold occd; simpa using hb
    obtain ⟨k1, k2, k3⟩ := l.put rfl hB ho
    refine ⟨_, _, _, t3.c0, _, _, _, _, x3.c0, x3.c1, x3.c2, x3.c3, _, _, rfl, by omega, by omega, t3.hw (by omega) (by omega), ?_⟩
    rintro h4 rfl
    have t4 := t3.put hal e'
    refine ⟨_, t4.c3, t4.hw3 3 (by omega), ?_⟩
    rintro h5 rfl
    rw [w64 (by omega) (by omega)]
    have t5 := t4.setN (n + 1)
    refine ⟨rfl, _, _, t5, k1, k2, k3, ?_⟩
    exact (f2.trans (he3.fr (PQ p q)) (fun _ _ h => h)).trans ((fr_hsets (PQ p q) (fun _ => .inr rfl)).trans (fr_hset (PQ p q) (fun _ => .inl rfl)) (fun _ _ h => h)) (fun _ _ h => h)
  · intro hb
    have ho : occd s' a := by unfold occd; simpa using hb
    have hzne : a ≠ z := fun e => l.hole (e ▸ ho)
    have hds := df_step l.z_lt hal hzne
    have hfs := l.far_succ rfl hB ho
    have hwa := l.g.wf a hal
    have hdl := df_lt (N := 2 ^ B) (hm_lt (N := 2 ^ B) rfl hB hwa.1) hal
    refine ⟨_, dist_c t3 hal hwa, fun f' h6 => ∃ (fn : Nat) (cs2 : Array Value) (s2 : Sl) (e2 : Ent), f' = fn ∧ TabAt h6 p q B m n cap cs2 s2 ∧ LayI (2 ^ B) B s e z s2 (nx (2 ^ B) a) (fn + 1) e2 ∧ Box h6 h.size e2 ∧ Fr (PQ p q) h h6 ∧ fn < 2 ^ B,
      ⟨decide (ds (2 ^ B) B a (s' a).h < f ∨ f = ds (2 ^ B) B a (s' a).h ∧ e'.h < (s' a).h), ⟨?_, ?_⟩, ?_, ?_⟩, ?_⟩
    · intro hd; simp only [decide_eq_true_eq] at hd ⊢; left; omega
    · intro hd
      simp only [decide_eq_false_iff_not] at hd
      refine ⟨fun he => ⟨_, _, _, t3.c0, _, _, rfl, by omega, by omega, _, t3.e0 (by omega) (by omega), _, x3.c0, ?_⟩, fun he => ?_⟩
      · rw [decide_eq_decide]
        have := eq_of_beq he
        simp only [Int.toNat_natCast]; omega
      · have : ((ds (2 ^ B) B a (s' a).h : Nat) : Int) ≠ f := by simpa using he
        simp only [decide_eq_false_iff_not]; omega
    · intro hsw
      simp only [decide_eq_true_eq] at hsw
      refine ⟨_, _, _, t3.c0, _, _, _, _, x3.c0, x3.c1, x3.c2, x3.c3, _, _, _, t3.c0, _, _, rfl, by omega, by omega, _, _, _, _, t3.e0 (by omega) (by omega), t3.e1 (by omega) (by omega), t3.e2 (by omega) (by omega), t3.e3 (by omega) (by omega),
        _, _, rfl, by omega, by omega, t3.hw (by omega) (by omega), ?_⟩
      rintro h7 rfl
      have t7 := t3.put hal e'
      have x7 := x3.fr (fr_hsets (h := h3) (b := q) (o := 0 + a * 4) (vs := [.int .u64 e'.h, .int .u64 e'.a, .int .u64 e'.v, .int .u8 e'.k]) (fun b => b = q) (fun _ => rfl)) hne
      refine ⟨x7.hw, ?_⟩
      intro h8 e8
      rw [e8]
      clear e8
      have x8 := x7.put (s' a)
      have hfr := fr_hsets (h := hsets h3 q (0 + a * 4) [.int .u64 e'.h, .int .u64 e'.a, .int .u64 e'.v, .int .u8 e'.k]) (b := h.size) (o := 0) (vs := [.int .u64 (s' a).h, .int .u64 (s' a).a, .int .u64 (s' a).v, .int .u8 (s' a).k]) (fun b => b = h.size) (fun _ => rfl)
      have t8 := t7.fr hfr (by omega) (by omega)
      refine ⟨_, _, _, _, rfl, t8, l.swap rfl hB ho hsw, x8, ?_, hdl⟩
      refine ((f2.trans (he3.fr (PQ p q)) (fun _ _ h => h)).trans (fr_hsets (PQ p q) (fun _ => .inr rfl)) (fun _ _ h => h)).trans hfr (fun i hi h' => ?_)
      omega
    · intro hsw
      simp only [decide_eq_false_iff_not, not_or, not_and] at hsw
      exact ⟨f, cs', s', e', rfl, t3, l.pass rfl hB ho (by omega) (fun h => by have := hsw.2 h; omega), x3, f2.trans (he3.fr (PQ p q)) (fun _ _ h => h), by omega⟩
    · rintro _ h6 ⟨f', cs2, s2, e2, rfl, t6, l6, x6, f6, hfl⟩
      refine ⟨_, next_c t6 hal, ⟨_, f' + 1, cs2, s2, e2, rfl, ?_, t6, l6, x6, f6⟩, ?_⟩
      · rw [w64 (by omega) (by omega)]; omega
      · simpa using hds

end
end Go.Proofs.Ytkecmljalcfhoaa
