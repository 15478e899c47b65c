/-
The law TableOneWay, over heaps.
-/
import Derived.Test.YtebipjmcckkhcaaTG
namespace Go.Proofs.Ytebipjmcckkhcaa
open Go RH

theorem srt_ex : ∀ M : List Ent, M.Pairwise (fun a b => a.h ≠ b.h) → ∃ L, Srt L ∧ ∀ e, e ∈ L ↔ e ∈ M
  | [], _ => ⟨[], List.Pairwise.nil, fun _ => Iff.rfl⟩
  | e :: M, h => by
    have h1 := List.pairwise_cons.1 h
    obtain ⟨L, hL, hm⟩ := srt_ex M h1.2
    obtain ⟨i, is, p⟩ := pos_ex hL e.h
    cases is with
    | true =>
      obtain ⟨y, hy, hyh⟩ := p.yes rfl
      exact absurd hyh.symm (h1.1 y ((hm y).1 (List.mem_of_getElem? hy)))
    | false =>
      obtain ⟨k1, k2⟩ := ins_ok hL p (e := e) rfl
      refine ⟨_, k1, fun y => ?_⟩
      rw [k2 y, hm y, List.mem_cons]
      exact or_comm
theorem rel_ex {B : Nat} {s : RH.Sl} (g : RGood (2 ^ B) B s) : ∃ L, Rel B s L := by
  obtain ⟨L, h1, h2⟩ := srt_ex _ (oc_ne g.uniq)
  exact ⟨L, h1, fun e => in_oc.symm.trans (h2 e).symm⟩

/-- Which one is put in next. -/
def turned (even : Bool) (n f j : Nat) : Nat := if even then (if j ≤ f then f - j else f + n - j) else (if f + j < n then f + j else f + j - n)
theorem turned_lt {even : Bool} {n f j : Nat} (hf : f < n) (hj : j < n) : turned even n f j < n := by
  unfold turned; split
  · split <;> omega
  · split <;> omega
theorem turned_inj {even : Bool} {n f j j' : Nat} (_hf : f < n) (hj : j < n) (hj' : j' < n) (e : turned even n f j = turned even n f j') : j = j' := by
  unfold turned at e; split at e
  · split at e <;> split at e <;> omega
  · split at e <;> split at e <;> omega
theorem turned_sur {even : Bool} {n f i : Nat} (hf : f < n) (hi : i < n) : ∃ j, j < n ∧ turned even n f j = i := by
  cases even with
  | true =>
    unfold turned
    by_cases h : i ≤ f
    · exact ⟨f - i, by omega, by rw [if_pos rfl, if_pos (by omega)]; omega⟩
    · exact ⟨f + n - i, by omega, by rw [if_pos rfl, if_neg (by omega)]; omega⟩
  | false =>
    unfold turned
    by_cases h : f ≤ i
    · exact ⟨i - f, by omega, by rw [if_neg (by simp), if_pos (by omega)]; omega⟩
    · exact ⟨i + n - f, by omega, by rw [if_neg (by simp), if_neg (by omega)]; omega⟩
theorem tmod_lt {a n : Nat} (h : a < n) : Int.tmod (a : Int) (n : Int) = (a : Int) := by rw [tmod_nat, Nat.mod_eq_of_lt h]
theorem tmod_ge {a n : Nat} (h : n ≤ a) (h2 : a < 2 * n) : Int.tmod (a : Int) (n : Int) = ((a - n : Nat) : Int) := by
  rw [tmod_nat, Nat.mod_eq_sub_mod h, Nat.mod_eq_of_lt (by omega)]
theorem turned_even {n f j : Nat} (hf : f < n) (hj : j < n) (hn : n ≤ 65536) : Int.tmod (IntKind.i64.wrap ((IntKind.i64.wrap ((f : Int) + (n : Int))) - (j : Int))) (n : Int) = (turned true n f j : Int) := by
  rw [w64 (x := (f : Int) + (n : Int)) (by omega) (by omega), w64 (by omega) (by omega)]
  have e : ((f : Int) + (n : Int) - (j : Int)) = ((f + n - j : Nat) : Int) := by omega
  rw [e]
  unfold turned
  rw [if_pos rfl]
  split
  · rw [tmod_ge (by omega) (by omega)]; omega
  · rw [tmod_lt (by omega)]
theorem turned_odd {n f j : Nat} (hf : f < n) (hj : j < n) (hn : n ≤ 65536) : Int.tmod (IntKind.i64.wrap ((f : Int) + (j : Int))) (n : Int) = (turned false n f j : Int) := by
  rw [w64 (by omega) (by omega)]
  have e : ((f : Int) + (j : Int)) = ((f + j : Nat) : Int) := by omega
  rw [e]
  unfold turned
  rw [if_neg (by simp)]
  split
  · rw [tmod_lt (by omega)]
  · rw [tmod_ge (by omega) (by omega)]

section
variable {h : Heap} {p q B m : Nat} {s : RH.Sl}

theorem PutR.ge {e : Ent} {B' : Nat} {s' : RH.Sl} {v : Value} (p : PutR B m s e B' s' v) : B ≤ B' := by
  cases p with
  | arg _ h => omega
  | had _ _ _ _ h => omega
  | full _ _ _ _ h => omega
  | new _ _ h => split at h <;> omega

/-- A table that may not grow. -/
theorem does_b (t : TabOK h p q B B s) (k : Int) {e : Ent} (hw : e.wf) : HC Try.prog 11 #[ptr p 0, .agg #[.int .i64 k, .int .u64 e.h, .int .u64 e.a, .int .u64 e.v, .int .u8 e.k]] h fun v h' => v = .tuple #[] ∧ Fr (PQ p q) h h' ∧
    ∃ q' s', (q' = q ∨ h.size ≤ q') ∧ TabOK h' p q' B B s' := by
  refine f11_sh _ _ _ _ _ _ _ _ _ ?_
  intro o h1 eo e1
  have r1 : h1[o]? = some (.cells #[.int .i64 k, .int .u64 e.h, .int .u64 e.a, .int .u64 e.v, .int .u8 e.k] 33 (0, 0)) := by rw [e1]; exact push_new eo
  have ex1 : Ext h h1 := by rw [e1]; exact Ext.push _ _
  have t1 := t.ext ex1
  have hs := ex1.size
  clear e1 eo
  have c0 : hcell h1 o 0 = some (.int .i64 k) := by rw [hcell_row r1]; rfl
  have c1 : hcell h1 o 1 = some (.int .u64 e.h) := by rw [hcell_row r1]; rfl
  have c2 : hcell h1 o 2 = some (.int .u64 e.a) := by rw [hcell_row r1]; rfl
  have c3 : hcell h1 o 3 = some (.int .u64 e.v) := by rw [hcell_row r1]; rfl
  have c4 : hcell h1 o 4 = some (.int .u8 e.k) := by rw [hcell_row r1]; rfl
  refine ⟨_, c0, fun _ => ⟨_, _, _, _, c1, c2, c3, c4, (put_c t1 hw).mono ?_⟩, fun _ => ⟨fun _ => ⟨_, c1, (remove_c t1 hw.1).mono ?_⟩, fun _ => ⟨fun _ => ⟨_, c1, (hit_c t1 hw.1).mono ?_⟩, fun _ => ?_⟩⟩⟩
  · rintro v h2 ⟨f2, q', B', s', hq', t2, pr⟩
    have hB : B' = B := by have := t2.bnd; have := pr.ge; omega
    subst hB
    have fin : ∃ q' s', (q' = q ∨ h.size ≤ q') ∧ TabOK h2 p q' B' B' s' := ⟨q', s', hq'.imp id (fun h => by omega), t2⟩
    have f3 := (ex1.fr _).trans f2 (fun _ _ h => h)
    obtain ⟨oe, ob, on, rfl⟩ := pr.tup
    exact ⟨_, _, _, _, _, _, rfl, rfl, f3, fin⟩
  · rintro v h2 ⟨f2, s', t2, rr⟩
    have f3 := (ex1.fr _).trans f2 (fun _ _ h => h)
    rcases rr with ⟨o, _, _, rfl, _⟩ | ⟨_, rfl, _⟩
    · exact ⟨_, _, _, _, _, rfl, rfl, f3, q, s', .inl rfl, t2⟩
    · exact ⟨_, _, _, _, _, rfl, rfl, f3, q, s', .inl rfl, t2⟩
  · rintro v h2 ⟨f2, rr⟩
    have f3 : Fr (PQ p q) h h2 := (ex1.fr _).trans f2 (fun _ _ h => .inr h)
    rcases rr with ⟨o, s', _, _, rfl, t2, _⟩ | ⟨_, rfl, t2⟩
    · exact ⟨_, rfl, rfl, f3, q, s', .inl rfl, t2⟩
    · exact ⟨_, rfl, rfl, f3, q, s, .inl rfl, t2⟩
  · exact ⟨rfl, ex1.fr _, q, s, .inl rfl, t1⟩

set_option maxHeartbeats 8000000 in
theorem law_oneway {bits turn : Int} {l : Option Addr} {n c : Nat} {K : Nat → Int} {E : Nat → Ent} (hn : n ≤ 9223372036854775807) (x : OpsAt h l n K E) :
    HC Try.prog 5 #[.int .i64 bits, .slice l n c, .int .i64 turn] h fun v h' => v = .bool true ∧ Ext h h' := by
  refine f5_sh _ _ _ _ _ _ _ ((lives_c h).mono ?_)
  rintro _ h1 ⟨rfl, e1⟩
  refine ⟨_, rfl, fun h => by simp at h, fun _ => ?_⟩
  by_cases hv : bits < 2 ∨ bits < bits ∨ 16 < bits
  · refine (new_no hv h1).mono ?_
    rintro _ h2 ⟨rfl, rfl⟩
    exact ⟨_, _, rfl, fun _ => ⟨rfl, e1⟩, fun g => by simp at g⟩
  obtain ⟨B, rfl⟩ : ∃ B : Nat, bits = B := ⟨bits.toNat, by omega⟩
  refine (new_c (bits := B) (most := B) (by omega) (by omega) (by omega) h1).mono ?_
  rintro _ h2 ⟨e2, p, q, rfl, hp, hq, t2⟩
  have hs1 := e1.size
  refine ⟨_, _, rfl, fun g => by simp at g, fun _ => ?_⟩
  refine ⟨fun i h3 => ∃ (k q : Nat) (s : RH.Sl), i = k ∧ k ≤ n ∧ Ext h h3 ∧ h.size ≤ q ∧ TabOK h3 p q B B s, fun i _ => n - i.toNat, ⟨0, q, _, rfl, Nat.zero_le _, e1.trans e2, by omega, t2⟩, ?_⟩
  rintro _ h3 ⟨k, q, s, rfl, hk, e3, hq, t3⟩
  have hs3 := e3.size
  refine ⟨fun hlt => ?_, fun hge => ?_⟩
  · have hkn : k < n := by have := of_decide_eq_true hlt; omega
    obtain ⟨b, o, rfl, hb, hx⟩ := x.ext e3 (by omega)
    obtain ⟨hw, c0, c1, c2, c3, c4⟩ := hx k hkn
    refine ⟨b, o, rfl, by omega, by omega, _, _, _, _, _, c0, c1, c2, c3, c4, (does_b t3 _ hw).mono ?_⟩
    rintro _ h4 ⟨rfl, f4, q', s', hq', t4⟩
    refine ⟨rfl, ?_⟩
    rw [w64 (by omega) (by omega)]
    refine ⟨⟨k + 1, q', s', rfl, hkn, fr_new e3 (by omega) hq f4, by omega, t4⟩, ?_⟩
    show n - Int.toNat ((k : Int) + 1) < n - Int.toNat (k : Int)
    omega
  obtain ⟨L, rel⟩ := rel_ex t3.g
  have hlen := rel.len t3.g
  have hle := t3.le
  have h4 := pow4 t3.bnd.1
  have hroom := t3.room
  refine (all_c t3 rel (by omega)).mono ?_
  rintro _ h5 ⟨a5, c5, rfl, x5, s5, w5⟩
  refine ⟨_, _, _, rfl, (new_c (bits := B) (most := B) (by omega) (by omega) (by omega) h5).mono ?_⟩
  rintro _ h6 ⟨x6, p2, q2, rfl, hp2, hq2, t6⟩
  have t36 := t3.ext (x5.trans x6)
  have hs5 := x5.size
  refine ⟨_, _, rfl, fun j h' => j = false ∧ h' = h6, ⟨fun g => by simp at g, fun _ => ⟨fun g => by simp at g, fun _ => (len_c t36).mono ?_⟩⟩, ?_⟩
  · rintro _ h8 ⟨rfl, rfl⟩
    refine ⟨_, rfl, ?_, rfl⟩
    rw [hlen]; simp
  rintro _ h7 ⟨rfl, rfl⟩
  refine ⟨(fun g => by cases g), fun _ => ?_⟩
  have hpl := t3.lt
  obtain ⟨f, hf, hfl⟩ : ∃ f : Nat, ((decide ((L.length : Int) > 0) = true → (L.length : Int) ≠ 0 ∧ (decide (Int.tmod turn (L.length : Int) < 0) = true → (f : Int) = IntKind.i64.wrap (Int.tmod turn (L.length : Int) + (L.length : Int))) ∧ (decide (Int.tmod turn (L.length : Int) < 0) = false → (f : Int) = Int.tmod turn (L.length : Int))) ∧ (decide ((L.length : Int) > 0) = false → (f : Int) = 0)) ∧ (0 < L.length → f < L.length) := by
    by_cases h0 : 0 < L.length
    · have b1 := Int.tmod_lt_of_pos turn (show (0 : Int) < L.length by omega)
      have b2 : -(L.length : Int) < Int.tmod turn L.length := by
        have := Int.lt_tmod_of_pos turn (show (0 : Int) < L.length by omega); omega
      by_cases hneg : Int.tmod turn (L.length : Int) < 0
      · refine ⟨(Int.tmod turn (L.length : Int) + L.length).toNat, ⟨fun _ => ⟨by omega, fun _ => ?_, fun g => ?_⟩, fun g => ?_⟩, fun _ => by omega⟩
        · rw [w64 (by omega) (by omega)]; omega
        · exact absurd hneg (of_decide_eq_false g)
        · exact absurd (of_decide_eq_false g) (by omega)
      · refine ⟨(Int.tmod turn (L.length : Int)).toNat, ⟨fun _ => ⟨by omega, fun g => ?_, fun _ => by omega⟩, fun g => ?_⟩, fun _ => by omega⟩
        · exact absurd (of_decide_eq_true g) hneg
        · exact absurd (of_decide_eq_false g) (by omega)
    · exact ⟨0, ⟨fun g => by have := of_decide_eq_true g; omega, fun _ => rfl⟩, fun g => absurd g h0⟩
  refine ⟨(f : Int), hf, ?_⟩
  let ev : Bool := Int.tmod turn 2 == 0
  have hin : ∀ j, j < L.length → turned ev L.length f j < L.length := fun j hj => turned_lt (hfl (by omega)) hj
  refine ⟨fun i h9 => ∃ (j q2 : Nat) (s2 : RH.Sl), i = j ∧ j ≤ L.length ∧ Ext h h9 ∧ h5.size ≤ q2 ∧ TabOK h9 p2 q2 B B s2 ∧ TabOK h9 p q B B s ∧ Sl eEnt h9 a5 c5 L ∧ Own eEnt.k 31 h3.size h9 a5 c5 ∧ cntO s2 (2 ^ B) = j ∧ (∀ e, InT (2 ^ B) s2 e ↔ ∃ i, i < j ∧ L[turned ev L.length f i]? = some e),
    fun i _ => L.length - i.toNat, ⟨0, q2, _, rfl, Nat.zero_le _, e3.trans (x5.trans x6), hq2, t6, t36, s5.ext x6, w5.ext x6, cnt_zero _, fun e => ⟨fun ⟨_, _, g, ha⟩ => by subst g; exact absurd rfl ha, fun ⟨_, g, _⟩ => absurd g (Nat.not_lt_zero _)⟩⟩, ?_⟩
  rintro _ h9 ⟨j, q2, s2, rfl, hj, e9, hq2, t9, ta9, s9, w9, hc9, hm9⟩
  refine ⟨fun hlt => ?_, fun hge => ?_⟩
  · have hjl := lt_of_dec hlt
    have hfn := hfl (by omega)
    have hti := hin j hjl
    refine ⟨by omega, (turned ev L.length f j : Nat), ⟨fun g => ⟨by omega, ?_⟩, fun g => ?_⟩, ?_⟩
    · have : ev = true := g
      rw [turned_even hfn hjl (by omega), this]
    · have : ev = false := g
      rw [turned_odd hfn hjl (by omega), this]
    obtain ⟨b, o, ea, d⟩ := s9.at (List.getElem?_eq_getElem hti)
    have hel : L[turned ev L.length f j] ∈ L := List.getElem_mem hti
    obtain ⟨i0, hi0, hie, hia⟩ := (rel.mem _).2 hel
    have hwe : (L[turned ev L.length f j]).wf := by rw [← hie]; exact t3.g.wf i0 hi0
    have hnot : ∀ y, InT (2 ^ B) s2 y → y.h ≠ (L[turned ev L.length f j]).h := by
      intro y hy he
      obtain ⟨i, hi, hyi⟩ := (hm9 y).1 hy
      have hyL := List.mem_of_getElem? hyi
      have e1 := rel.srt.eq hyL hel he
      obtain ⟨h1', h2'⟩ := List.getElem?_eq_some_iff.1 hyi
      have hnd : L.Nodup := rel.srt.nodup
      have e2 : turned ev L.length f i = turned ev L.length f j := (List.getElem_inj hnd).1 (h2'.trans e1)
      have := turned_inj hfn (by omega) hjl e2
      omega
    refine ⟨b, o, ea, by omega, by omega, _, _, _, _, d.1, d.2.1, d.2.2.1, d.2.2.2.1, (put_c t9 hwe).mono ?_⟩
    rintro v h10 ⟨f10, q3, B3, s3, hq3, t10, pr⟩
    have hB : B3 = B := by have := t10.bnd; have := pr.ge; omega
    subst hB
    cases pr with
    | arg h0 _ _ => exact absurd h0 hia
    | had o' _ ho' hoh _ _ => exact absurd hoh (hnot o' ho')
    | full _ _ _ hfu _ _ => exfalso; omega
    | new _ _ _ hm10 hc10 =>
      refine ⟨_, _, _, _, _, _, rfl, fun g => by simp at g, fun _ h12 x12 => ?_⟩
      rw [wadd j (by omega)]
      have hs9 := e9.size
      have hpl9 := ta9.lt
      have hsz5 : ∀ b, blkA a5 b → ¬ PQ p2 q2 b := fun b hb g => by
        have h1 := (w5.low hb).2
        rcases g with g | g <;> omega
      have fe : Ext h h12 := (fr_new e9 (by omega) (by omega) f10).trans x12
      refine ⟨⟨j + 1, q3, s3, rfl, hjl, fe, ?_, t10.ext x12, (ta9.fr f10 (fun g => by rcases g with g | g <;> omega) (fun g => by rcases g with g | g <;> omega)).ext x12, (s9.fr f10 hsz5).ext x12, (w9.fr f10 hsz5).ext x12, by rw [hc10, hc9], fun e => ?_⟩, by simp only [Int.toNat_natCast]; omega⟩
      · rcases hq3 with g | g
        · omega
        · have := t9.lt; omega
      · rw [hm10 e, hm9 e]
        constructor
        · rintro (⟨i, hi, he⟩ | rfl)
          · exact ⟨i, by omega, he⟩
          · exact ⟨j, by omega, List.getElem?_eq_getElem hti⟩
        · rintro ⟨i, hi, he⟩
          by_cases hij : i = j
          · subst hij
            rw [List.getElem?_eq_getElem hti] at he
            exact .inr (Option.some.inj he).symm
          · exact .inl ⟨i, by omega, he⟩
  · have hjl : j = L.length := by have := ge_of_dec hge; omega
    have rel2 : Rel B s2 L := by
      refine ⟨rel.srt, fun e => ?_⟩
      rw [hm9 e, hjl]
      constructor
      · rintro ⟨i, _, he⟩; exact List.mem_of_getElem? he
      · intro he
        obtain ⟨i, hi, hie⟩ := List.getElem_of_mem he
        obtain ⟨jj, hjj, hjt⟩ := turned_sur (even := ev) (hfl (by omega)) hi
        exact ⟨jj, hjj, by rw [hjt, List.getElem?_eq_getElem hi, hie]⟩
    have heq := rel2.uniq (by have := t3.bnd; omega) rel t9.g t3.g (by omega)
    have hdec : decide (lay (2 ^ B) s2 = lay (2 ^ B) s) = true := decide_eq_true heq
    refine (layout_n t9).mono ?_
    rintro _ h13 ⟨a13, c13, rfl, x13, s13, w13⟩
    refine ⟨_, _, _, rfl, (layout_n (ta9.ext x13)).mono ?_⟩
    rintro _ h14 ⟨a14, c14, rfl, x14, s14, w14⟩
    have hcmp := same_r (s13.ext x14) s14 (by rw [lay_len]; omega)
    rw [hdec] at hcmp
    exact ⟨_, _, _, rfl, true, hcmp, rfl, e9.trans (x13.trans x14)⟩
end
end Go.Proofs.Ytebipjmcckkhcaa
