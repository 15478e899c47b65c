/-
The document's index in memory.
-/
import Derived.Test.YtkecmljalcfhoaaID
import Derived.Test.YtkecmljalcfhoaaShJ
namespace Go.Proofs.Ytkecmljalcfhoaa
namespace Ix
open Go RH

/-- A stripe's list. -/
structure Rb where
  a : Option Addr
  c : Nat
  L : List Ent
def eRb : Elt Rb := ⟨1, fun t => [.slice t.a t.L.length t.c], fun _ => rfl, fun x v hv => by simp at hv; subst hv; rfl⟩

structure Ref (W : Nat → Prop) (h : Heap) (r ab ao ac m : Nat) (Rs : List Rb) : Prop where
  row : h[r]? = some (.cells #[.int .i64 m, .slice (some ⟨ab, ao, none⟩) Rs.length ac] 80 (0, 0))
  sl : Sl eRb h (some ⟨ab, ao, none⟩) ac Rs
  own : Own eRb.k 47 0 h (some ⟨ab, ao, none⟩) ac
  wr : W r ∧ W ab ∧ r ≠ ab
  ok : ∀ t ∈ Rs, Sl eEnt h t.a t.c t.L ∧ Own eEnt.k 31 0 h t.a t.c ∧ Srt t.L ∧ 8 * t.L.length ≤ 7 * 2 ^ m ∧ ∀ e ∈ t.L, e.wf ∧ e.a ≠ 0
  bl : ∀ t ∈ Rs, ∀ b, blkA t.a b → W b ∧ b ≠ r ∧ b ≠ ab
  sep : Rs.Pairwise fun t u => ∀ b, blkA t.a b → ¬ blkA u.a b
  len : 1 ≤ Rs.length ∧ Rs.length ≤ 64
  m16 : 2 ≤ m ∧ m ≤ 16
  lt : ∀ b, W b → b < h.size
def HasR (W : Nat → Prop) (h : Heap) (r m : Nat) (Ls : List (List Ent)) : Prop := ∃ ab ao ac Rs, Ref W h r ab ao ac m Rs ∧ Rs.map Rb.L = Ls
def AftR (W : Nat → Prop) (h : Heap) (r m : Nat) (Ls : List (List Ent)) (h' : Heap) : Prop := Fr W h h' ∧ HasR (grown W h h') h' r m Ls

section
variable {W : Nat → Prop} {h : Heap} {r ab ao ac m : Nat} {Rs : List Rb}

theorem Ref.fr (I : Ref W h r ab ao ac m Rs) {h' : Heap} {S : Nat → Prop} (f : Fr S h h') (hn : ∀ b, W b → ¬ S b) : Ref W h' r ab ao ac m Rs := by
  have hb : ∀ b, blkA (some ⟨ab, ao, none⟩) b → ¬ S b := fun b g => by rw [blkA_some.1 g]; exact hn _ I.wr.2.1
  refine ⟨f.row I.row (hn _ I.wr.1), I.sl.fr f hb, I.own.fr f hb, I.wr, fun t ht => ?_, I.bl, I.sep, I.len, I.m16, fun b g => Nat.lt_of_lt_of_le (I.lt b g) f.size⟩
  obtain ⟨k1, k2, k3⟩ := I.ok t ht
  have hb' : ∀ b, blkA t.a b → ¬ S b := fun b g => hn b (I.bl t ht b g).1
  exact ⟨k1.fr f hb', k2.fr f hb', k3⟩
theorem Ref.ext (I : Ref W h r ab ao ac m Rs) {h' : Heap} (f : Ext h h') : Ref W h' r ab ao ac m Rs := I.fr (f.fr (fun _ => False)) fun _ _ h => h
theorem Ref.mono (I : Ref W h r ab ao ac m Rs) {W' : Nat → Prop} (hw : ∀ b, W b → W' b) (hl : ∀ b, W' b → b < h.size) : Ref W' h r ab ao ac m Rs :=
  ⟨I.row, I.sl, I.own, ⟨hw _ I.wr.1, hw _ I.wr.2.1, I.wr.2.2⟩, I.ok, fun t ht b g => ⟨hw _ (I.bl t ht b g).1, (I.bl t ht b g).2⟩, I.sep, I.len, I.m16, hl⟩
theorem Ref.grow (I : Ref W h r ab ao ac m Rs) {h' : Heap} (f : Ext h h') : Ref (grown W h h') h' r ab ao ac m Rs :=
  (I.ext f).mono (fun _ g => .inl g) fun b g => by
    rcases g with g | g
    · exact Nat.lt_of_lt_of_le (I.lt b g) f.size
    · exact g.2
theorem AftR.ofExt (I : Ref W h r ab ao ac m Rs) {h' : Heap} (f : Ext h h') : AftR W h r m (Rs.map Rb.L) h' := ⟨f.fr _, _, _, _, Rs, I.grow f, rfl⟩
theorem Ref.small (I : Ref W h r ab ao ac m Rs) {t : Rb} (ht : t ∈ Rs) : t.L.length < 65536 ∧ 2 ^ m ≤ 65536 := by
  have h1 := pow_le I.m16.2
  obtain ⟨_, _, _, k, _⟩ := I.ok t ht
  omega

theorem Ref.c0 (I : Ref W h r ab ao ac m Rs) : hcell h r 0 = some (.int .i64 m) := by rw [hcell_row I.row]; rfl
theorem Ref.c1 (I : Ref W h r ab ao ac m Rs) : hcell h r 1 = some (.slice (some ⟨ab, ao, none⟩) Rs.length ac) := by rw [hcell_row I.row]; rfl
theorem Ref.cs (I : Ref W h r ab ao ac m Rs) {i : Nat} {t : Rb} (ht : Rs[i]? = some t) : hcell h ab (ao + i * 1) = some (.slice t.a t.L.length t.c) := by
  obtain ⟨b, o, e, d⟩ := I.sl.at ht
  cases e
  exact d.1
theorem Ref.at (I : Ref W h r ab ao ac m Rs) {t : Rb} (ht : t ∈ Rs) {j : Nat} (hj : j < t.L.length) : ∃ b o, t.a = some ⟨b, o, none⟩ ∧ hcell h b (o + j * 4) = some (.int .u64 t.L[j].h) ∧ hcell h b (o + j * 4 + 1) = some (.int .u64 t.L[j].a) ∧ hcell h b (o + j * 4 + 2) = some (.int .u64 t.L[j].v) ∧ hcell h b (o + j * 4 + 3) = some (.int .u8 t.L[j].k) := by
  obtain ⟨b, o, e, d⟩ := (I.ok t ht).1.at (List.getElem?_eq_getElem hj)
  exact ⟨b, o, e, d.1, d.2.1, d.2.2.1, d.2.2.2.1⟩
theorem Ref.get (I : Ref W h r ab ao ac m Rs) (v : Nat) : ∃ t, Rs[v % Rs.length]? = some t ∧ t ∈ Rs ∧ v % Rs.length < Rs.length := by
  have hl := I.len
  have hm := Nat.mod_lt v (show 0 < Rs.length by omega)
  exact ⟨Rs[v % Rs.length], List.getElem?_eq_getElem hm, List.getElem_mem hm, hm⟩
theorem strR {t : Rb} {v : Nat} (ht : Rs[v % Rs.length]? = some t) : str (Rs.map Rb.L) v = t.L := by
  unfold str
  rw [List.length_map, List.getD_eq_getElem?_getD, List.getElem?_map, ht]; rfl
theorem map_sameR {i : Nat} {t : Rb} (ht : Rs[i]? = some t) : (Rs.map Rb.L).set i t.L = Rs.map Rb.L := by
  refine List.ext_getElem? fun j => ?_
  rw [List.getElem?_set]
  split
  · rename_i hij
    subst hij
    obtain ⟨h1, h2⟩ := List.getElem?_eq_some_iff.1 ht
    rw [if_pos (by simpa using h1), List.getElem?_map, ht]; rfl
  · rfl

/-- One stripe is another: what all the ways of writing share. -/
theorem Ref.setAny (I : Ref W h r ab ao ac m Rs) {h' : Heap} {i : Nat} {t u : Rb} (hi : Rs[i]? = some t) {S : Nat → Prop} (f : Fr S h h') (hS : ∀ b, S b → b = ab ∨ blkA t.a b)
    (hsl : Sl eRb h' (some ⟨ab, ao, none⟩) ac (Rs.set i u)) (how : Own eRb.k 47 0 h' (some ⟨ab, ao, none⟩) ac)
    (hu : Sl eEnt h' u.a u.c u.L ∧ Own eEnt.k 31 0 h' u.a u.c ∧ Srt u.L ∧ 8 * u.L.length ≤ 7 * 2 ^ m ∧ ∀ e ∈ u.L, e.wf ∧ e.a ≠ 0) (hb : ∀ b, blkA u.a b → blkA t.a b ∨ h.size ≤ b) :
    Ref (fun b => W b ∨ blkA u.a b) h' r ab ao ac m (Rs.set i u) := by
  have ht := List.mem_of_getElem? hi
  obtain ⟨hil, hie⟩ := List.getElem?_eq_some_iff.1 hi
  have hbt := I.bl t ht
  have hsep : ∀ j w, Rs[j]? = some w → j ≠ i → ∀ b, blkA w.a b → ¬ blkA t.a b := by
    intro j w hj hji b g1 g2
    obtain ⟨hjl, hje⟩ := List.getElem?_eq_some_iff.1 hj
    rcases Nat.lt_or_gt_of_ne hji with g | g
    · have := List.pairwise_iff_getElem.1 I.sep j i hjl hil g
      rw [hje, hie] at this; exact this b g1 g2
    · have := List.pairwise_iff_getElem.1 I.sep i j hil hjl g
      rw [hie, hje] at this; exact this b g2 g1
  have hold : ∀ w ∈ Rs, ∀ b, blkA w.a b → b < h.size := fun w hw b g => I.lt b (I.bl w hw b g).1
  have hmem : ∀ w, w ∈ Rs.set i u → w = u ∨ ∃ j, Rs[j]? = some w ∧ j ≠ i := by
    intro w hw
    obtain ⟨j, hj, he⟩ := List.getElem_of_mem hw
    rw [List.getElem_set] at he
    split at he
    · exact .inl he.symm
    · rename_i hne
      exact .inr ⟨j, by rw [← he]; exact List.getElem?_eq_getElem _, fun q => hne q.symm⟩
  have hrl := I.lt _ I.wr.1
  have hal := I.lt _ I.wr.2.1
  refine ⟨?_, hsl, how, ⟨.inl I.wr.1, .inl I.wr.2.1, I.wr.2.2⟩, fun w hw => ?_, fun w hw b g => ?_, ?_, by simpa using I.len, I.m16, fun b g => ?_⟩
  · rw [List.length_set]
    exact f.row I.row fun g => by
      rcases hS _ g with k | k
      · exact I.wr.2.2 k
      · exact (hbt _ k).2.1 rfl
  · rcases hmem w hw with rfl | ⟨j, hj, hji⟩
    · exact hu
    · have hw' := List.mem_of_getElem? hj
      obtain ⟨k1, k2, k3⟩ := I.ok w hw'
      have hn : ∀ b, blkA w.a b → ¬ S b := fun b g q => by
        rcases hS b q with k | k
        · exact (I.bl w hw' b g).2.2 k
        · exact hsep j w hj hji b g k
      exact ⟨k1.fr f hn, k2.fr f hn, k3⟩
  · rcases hmem w hw with rfl | ⟨j, hj, hji⟩
    · refine ⟨.inr g, ?_⟩
      rcases hb b g with k | k
      · exact (hbt b k).2
      · exact ⟨by omega, by omega⟩
    · exact ⟨.inl (I.bl w (List.mem_of_getElem? hj) b g).1, (I.bl w (List.mem_of_getElem? hj) b g).2⟩
  · refine List.pairwise_iff_getElem.2 fun j k hj hk hjk b g1 g2 => ?_
    simp only [List.length_set] at hj hk
    rw [List.getElem_set] at g1 g2
    split at g1 <;> split at g2
    · omega
    · rename_i e1 e2
      subst e1
      rcases hb b g1 with g | g
      · exact hsep k _ (List.getElem?_eq_getElem hk) (by omega) b g2 g
      · have := hold _ (List.getElem_mem hk) b g2; omega
    · rename_i e1 e2
      subst e2
      rcases hb b g2 with g | g
      · exact hsep j _ (List.getElem?_eq_getElem hj) (by omega) b g1 g
      · have := hold _ (List.getElem_mem hj) b g1; omega
    · have := List.pairwise_iff_getElem.1 I.sep j k hj hk hjk
      exact this b g1 g2
  · rcases g with g | g
    · exact Nat.lt_of_lt_of_le (I.lt b g) f.size
    · exact (hu.2.1.low g).2
theorem sl_same {h' : Heap} {a : Option Addr} {c : Nat} {i : Nat} {t u : Rb} (s : Sl eRb h' a c Rs) (hi : Rs[i]? = some t) (he : eRb.enc u = eRb.enc t) : Sl eRb h' a c (Rs.set i u) := by
  refine ⟨by simpa using s.le, s.ex.imp id fun ⟨b, o, e, hc⟩ => ⟨b, o, e, fun j w hw => ?_⟩⟩
  rw [List.getElem?_set] at hw
  split at hw
  · rename_i hij
    subst hij
    split at hw
    · cases hw; rw [he]; exact hc _ _ hi
    · cases hw
  · exact hc _ _ hw
/-- A list is written in its place. -/
theorem Ref.inPlace (I : Ref W h r ab ao ac m Rs) {h' : Heap} {i : Nat} {t : Rb} (hi : Rs[i]? = some t) {L' : List Ent} (f : Fr (blkA t.a) h h') (hl : L'.length = t.L.length) (s : Sl eEnt h' t.a t.c L') (w : Own eEnt.k 31 0 h' t.a t.c) (hs : Srt L') (hw : ∀ e ∈ L', e.wf ∧ e.a ≠ 0) :
    Ref W h' r ab ao ac m (Rs.set i ⟨t.a, t.c, L'⟩) := by
  have ht := List.mem_of_getElem? hi
  obtain ⟨_, _, _, k4, _⟩ := I.ok t ht
  have hn : ∀ b, blkA (some ⟨ab, ao, none⟩) b → ¬ blkA t.a b := fun b g q => (I.bl t ht b q).2.2 (blkA_some.1 g)
  refine (I.setAny (u := ⟨t.a, t.c, L'⟩) hi f (fun b g => .inr g) (sl_same (I.sl.fr f hn) hi (by show [Value.slice t.a L'.length t.c] = _; rw [hl]; rfl)) (I.own.fr f hn) ⟨s, w, hs, by show 8 * L'.length ≤ _; rw [hl]; exact k4, hw⟩ (fun b g => .inl g)).mono (fun b g => ?_) (fun b g => ?_)
  · rcases g with g | g
    · exact g
    · exact (I.bl t ht b g).1
  · exact Nat.lt_of_lt_of_le (I.lt b g) f.size
/-- A stripe is given another list. -/
theorem Ref.other (I : Ref W h r ab ao ac m Rs) {h5 h6 : Heap} {i : Nat} {t : Rb} (hi : Rs[i]? = some t) (x5 : Ext h h5) {a' : Option Addr} {n' c' : Nat} {L' : List Ent} (hn : n' = L'.length) (s : Sl eEnt h5 a' c' L') (w : Own eEnt.k 31 h.size h5 a' c') (hs : Srt L') (hl : 8 * L'.length ≤ 7 * 2 ^ m) (hw : ∀ e ∈ L', e.wf ∧ e.a ≠ 0) :
    HW h5 ab (ao + i * 1) ∧ (h6 = hset h5 ab (ao + i * 1) (.slice a' n' c') → Fr (fun b => b = ab) h5 h6 ∧ Ref (fun b => W b ∨ blkA a' b) h6 r ab ao ac m (Rs.set i ⟨a', c', L'⟩)) := by
  subst hn
  obtain ⟨hil, _⟩ := List.getElem?_eq_some_iff.1 hi
  obtain ⟨k1, k2, k3⟩ := (I.sl.ext x5).put (I.own.ext x5) hil ⟨a', c', L'⟩
  have hal := I.lt _ I.wr.2.1
  refine ⟨k1 0 (by decide), fun e6 => ?_⟩
  have e6' : h6 = hsets h5 ab (ao + i * eRb.k) (eRb.enc ⟨a', c', L'⟩) := e6
  have f6 : Fr (fun b => b = ab) h5 h6 := fr_hset_of e6
  rw [← e6'] at k2 k3
  have ha' : ∀ b, blkA a' b → ¬ b = ab := fun b g q => by have := (w.low g).1; omega
  exact ⟨f6, I.setAny (u := ⟨a', c', L'⟩) hi ((x5.fr _).trans f6 fun _ _ g => g) (fun b g => .inl g) k2 k3 ⟨s.fr f6 ha', (w.fr f6 ha').down (Nat.zero_le _), hs, hl, hw⟩ fun b g => .inr (w.low g).1⟩

theorem stripe_r (I : Ref W h r ab ao ac m Rs) (v : Nat) : HC Try.prog 36 #[ptr r 0, .int .u64 v] h fun z h' => z = .int .i64 ((v % Rs.length : Nat) : Int) ∧ h' = h := by
  have hl := I.len
  have hm := Nat.mod_lt v (show 0 < Rs.length by omega)
  have e : IntKind.u64.wrap (Rs.length : Int) = (Rs.length : Int) := wu64 (by omega) (by omega)
  refine f36_sh _ _ _ _ _ ⟨_, _, _, I.c1, ?_, ?_, rfl⟩
  · rw [e]; omega
  · rw [e, tmod_nat, w64 (by omega) (by omega)]

theorem find_r (I : Ref W h r ab ao ac m Rs) (v : Nat) {t : Rb} (ht : Rs[v % Rs.length]? = some t) : ∃ (i : Nat) (is : Bool), Pos t.L v i is ∧
    HC Try.prog 53 #[ptr r 0, .int .u64 v] h fun z h' => z = .tuple #[.int .i64 ((v % Rs.length : Nat) : Int), .int .i64 i, .bool is] ∧ Ext h h' := by
  obtain ⟨hil, _⟩ := List.getElem?_eq_some_iff.1 ht
  have hm := List.mem_of_getElem? ht
  obtain ⟨_, _, hs, _, _⟩ := I.ok t hm
  obtain ⟨i, is, p⟩ := pos_ex hs v
  have hle := p.le
  have hsm := I.small hm
  refine ⟨i, is, p, f53_sh _ _ _ _ _ ⟨_, stripe_r I v, _, _, _, I.c1, ab, ao, rfl, by omega, by omega, _, _, _, I.cs ht, fun k => ∃ n : Nat, k = n ∧ n ≤ i, fun k => t.L.length - k.toNat, ⟨0, rfl, Nat.zero_le _⟩, ?_⟩⟩
  rintro _ ⟨n, rfl, hn⟩
  have hlow : ∀ (hj : n < t.L.length), n < i → t.L[n].h < v := fun hj g => p.lo _ (List.mem_take_iff_getElem.2 ⟨n, by omega, rfl⟩)
  have hhigh : ∀ (hj : n < t.L.length), n = i → v ≤ t.L[n].h := fun hj g => p.hi _ (List.mem_drop_iff_getElem.2 ⟨0, by omega, by simp [← g]⟩)
  refine ⟨fun hlt => ?_, fun hge => ⟨by omega, by omega, fun h1 x1 => ?_⟩⟩
  · have hj := lt_of_dec hlt
    obtain ⟨b, o, e, d0, d1, d2, d3⟩ := I.at hm hj
    refine ⟨b, o, e, by omega, by omega, _, _, _, _, d0, d1, d2, d3, fun g h3 x3 => ?_, fun g => ?_⟩
    · have hge : v ≤ t.L[n].h := by have := of_decide_eq_true g; omega
      have hni : n = i := by
        rcases Nat.lt_or_ge n i with k | k
        · have := hlow hj k; omega
        · omega
      subst hni
      refine ⟨?_, x3⟩
      have : ((t.L[n].h : Int) == v) = is := by
        cases his : is with
        | true =>
          obtain ⟨y, hy, hyv⟩ := p.yes his
          rw [List.getElem?_eq_getElem hj] at hy
          cases hy
          simp [hyv]
        | false =>
          have := p.no his _ (List.getElem_mem hj)
          exact beq_eq_false_iff_ne.2 (by omega)
      rw [this]
    · have hlt' : t.L[n].h < v := by have := of_decide_eq_false g; omega
      have hni : n ≠ i := fun k => by have := hhigh hj k; omega
      rw [wadd n (by omega)]
      exact ⟨⟨n + 1, rfl, by omega⟩, by simp only [Int.toNat_natCast]; omega⟩
  · have hj := ge_of_dec hge
    have hni : n = i := by omega
    subst hni
    refine ⟨?_, x1⟩
    have his : is = false := by
      cases his : is with
      | true =>
        obtain ⟨y, hy, _⟩ := p.yes his
        have := (List.getElem?_eq_some_iff.1 hy).1; omega
      | false => rfl
    have : n = t.L.length := by omega
    rw [his, this]
theorem pos_look {L : List Ent} (hL : Srt L) {v i : Nat} {is : Bool} (p : Pos L v i is) : (is = true → ∃ (hi : i < L.length), look L v = some L[i] ∧ L[i].h = v) ∧ (is = false → look L v = none) := by
  refine ⟨fun g => ?_, fun g => look_none.2 (p.no g)⟩
  obtain ⟨y, hy, hyv⟩ := p.yes g
  obtain ⟨hi, e⟩ := List.getElem?_eq_some_iff.1 hy
  subst e
  exact ⟨hi, (look_some hL).2 ⟨List.getElem_mem hi, hyv⟩, hyv⟩
theorem get_r (I : Ref W h r ab ao ac m Rs) (v : Nat) : HC Try.prog 35 #[ptr r 0, .int .u64 v] h fun z h' => z = v2 (mGet (str (Rs.map Rb.L) v) v) ∧ Ext h h' := by
  obtain ⟨t, ht, hm, hlt⟩ := I.get v
  rw [strR ht]
  refine f35_sh _ _ _ _ _ fun pb h1 lo1 lt1 x1 => ?_
  have I1 := I.ext x1
  obtain ⟨i, is, p, hc⟩ := find_r I1 v ht
  obtain ⟨pl1, pl2⟩ := pos_look (I.ok t hm).2.2.1 p
  refine hc.mono ?_
  rintro _ h2 ⟨rfl, x2⟩
  refine ⟨x2.kp _, _, _, _, rfl, fun g h3 f3 => ⟨?_, ext_of_fr f3 (x1.trans x2) lo1⟩, fun g => ?_⟩
  · unfold mGet; rw [pl2 (by simpa using g)]; rfl
  · obtain ⟨hi, hl, _⟩ := pl1 (by simpa using g)
    have I2 := I1.ext x2
    obtain ⟨b, o, e, d0, d1, d2, d3⟩ := I2.at hm hi
    refine ⟨_, _, _, I2.c1, ab, ao, rfl, by omega, by omega, _, _, _, I2.cs ht, b, o, e, by omega, by omega, _, _, _, _, d0, d1, d2, d3, fun h4 f4 => ⟨?_, ext_of_fr f4 (x1.trans x2) lo1⟩⟩
    unfold mGet; rw [hl]; rfl
end
end Ix
end Go.Proofs.Ytkecmljalcfhoaa
