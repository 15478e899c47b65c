import Derived.Test.YtcdpapdefdnknaaProg
import Derived.Test.YtcdpapdefdnknaaPd1
import Derived.Test.YtcdpapdefdnknaaPd2
import Derived.Test.YtcdpapdefdnknaaPd3
import Derived.Test.YtcdpapdefdnknaaPd5
import Derived.Test.YtcdpapdefdnknaaPd6
namespace Go.Proofs.Ytcdpapdefdnknaa
namespace Cy
open Go
abbrev tPm : TypeId := 47
abbrev tPr : TypeId := 50
def ePt : Elt (Option Addr) := ⟨1, fun x => [.pointer x], fun _ => rfl, fun x v hv => by simp at hv; subst hv; rfl⟩
theorem aPm : AppT Try.prog 57 tPm ePt.k 8 := ⟨by kernel_rfl, by kernel_rfl, by kernel_rfl, ⟨.pointer none, [.pointer none], by unfold zeroB; kernel_rfl, rfl, rfl⟩, by decide⟩
theorem aPr : AppT Try.prog 58 tPr ePt.k 8 := ⟨by kernel_rfl, by kernel_rfl, by kernel_rfl, ⟨.pointer none, [.pointer none], by unfold zeroB; kernel_rfl, rfl, rfl⟩, by decide⟩
def fltR (b s : Nat) (X : List Rc) : Nat → Bool := fltOf b s (X.map (·.key))
def small (X : List Rc) : Prop := ∀ r ∈ X, r.key.size ≤ 2305843009213693952
def sayF (b s : Nat) (k : ByteArray) : Option (Nat → Bool) → Bool
  | none => false
  | some F => mayF b s F (hsh k)
def anyF (b s : Nat) (G : List (Option (Nat → Bool))) (k : ByteArray) : Bool := G.any (sayF b s k)
def FlsM (h : Heap) (b s : Nat) (a : Option Addr) (c : Nat) (P : List (Option Addr)) (G : List (Option (Nat → Bool))) : Prop :=
  Sl ePt h a c P ∧ P.length = G.length ∧ ∀ (i : Nat) x g, P[i]? = some x → G[i]? = some g → (x = none ∧ g = none) ∨ ∃ p w F, x = some ⟨p, 0, none⟩ ∧ g = some F ∧ Flm h p w b s F
def FlsR (h : Heap) (b s : Nat) (a : Option Addr) (c : Nat) (P : List (Option Addr)) (G : List (Option (Nat → Bool))) : Prop :=
  Sl ePt h a c P ∧ P.length = G.length ∧ ∀ (i : Nat) x g, P[i]? = some x → G[i]? = some g → (x = none ∧ g = none) ∨ ∃ p w F, x = some ⟨p, 0, none⟩ ∧ g = some F ∧ Flr h p w b s F
section
variable {h h' : Heap} {a : Option Addr} {c b s : Nat} {P : List (Option Addr)} {G : List (Option (Nat → Bool))} {X : List Rc}
theorem FlsM.ext (f : FlsM h b s a c P G) (x : Ext h h') : FlsM h' b s a c P G := ⟨f.1.ext x, f.2.1, fun i y g h1 h2 => (f.2.2 i y g h1 h2).imp id fun ⟨p, w, F, e1, e2, q⟩ => ⟨p, w, F, e1, e2, q.ext x⟩⟩
theorem FlsR.ext (f : FlsR h b s a c P G) (x : Ext h h') : FlsR h' b s a c P G := ⟨f.1.ext x, f.2.1, fun i y g h1 h2 => (f.2.2 i y g h1 h2).imp id fun ⟨p, w, F, e1, e2, q⟩ => ⟨p, w, F, e1, e2, q.ext x⟩⟩
theorem flt_take {X : List Rc} {k : Nat} (hk : k < X.length) : fltR b s (X.take (k + 1)) = addF b s (fltR b s (X.take k)) (hsh X[k].key) := by
  unfold fltR
  rw [List.take_add_one, sl_get hk, List.map_append]
  exact flt_snoc _ _ _ _
theorem filter_m (bits hashes : Int) (sl : Sl eRc h a c X) (hs : small X) (hl : X.length * 48 ≤ 140737488351232) : HC Try.prog 17 #[.int .i64 bits, .int .i64 hashes, .slice a X.length c] h fun v h' => Ext h h' ∧
    ((¬ okF bits hashes ∧ v = .tuple #[.pointer none, .int .i64 150]) ∨ (okF bits hashes ∧ ∃ p w, v = .tuple #[ptr p 0, .int .i64 0] ∧ h.size ≤ p ∧ h.size ≤ w ∧ Flm h' p w bits.toNat hashes.toNat (fltR bits.toNat hashes.toNat X))) := by
  refine f17_sh _ _ _ _ _ _ _ ((new_m bits hashes h).mono ?_)
  rintro _ h1 ⟨x1, ⟨hno, rfl⟩ | ⟨hok, p, w, rfl, hp, hw, f1⟩⟩
  · exact ⟨x1, none, 150, rfl, fun _ => ⟨x1, .inl ⟨hno, rfl⟩⟩, fun e => (by simp at e)⟩
  · refine ⟨x1, some ⟨p, 0, none⟩, 0, rfl, fun e => (by simp at e), fun _ => ⟨fun v h2 => ∃ k : Nat, v = k ∧ k ≤ X.length ∧ Ext h h2 ∧ Flm h2 p w bits.toNat hashes.toNat (fltR bits.toNat hashes.toNat (X.take k)), fun v _ => X.length - v.toNat, ⟨0, rfl, Nat.zero_le _, x1, f1⟩, ?_⟩⟩
    rintro _ h2 ⟨k, rfl, hk, x2, f2⟩
    refine ⟨fun e => ?_, fun e => ?_⟩
    · have hkl := lt_of_dec e
      obtain ⟨lb, lo, el, d⟩ := (sl.ext x2).at (sl_get hkl)
      have hft := flt_take (b := bits.toNat) (s := hashes.toNat) hkl
      have hss := hs _ (List.getElem_mem hkl)
      generalize X[k] = r at *
      refine ⟨lb, lo, el, by omega, by omega, _, _, _, _, d.1, d.2.1, d.2.2.1, d.2.2.2.1, fun h4 x4 => (key_m r.key hss h4).mono ?_⟩
      rintro _ h5 ⟨rfl, x5⟩
      refine ⟨x5, _, rfl, (add_m (f2.ext (x4.trans x5)) (hsh r.key)).mono ?_⟩
      rintro _ h6 ⟨q, rfl, f6, g6⟩
      rw [wadd k (by omega)]
      refine ⟨q, rfl, ⟨k + 1, rfl, hkl, ?_, by rw [hft]; exact g6⟩, by show X.length - Int.toNat _ < X.length - Int.toNat _; omega⟩
      exact (((x2.trans (x4.trans x5)).fr _).trans f6 fun _ _ q => q).ext fun i hi q => by omega
    · have hke : k = X.length := by have := ge_of_dec e; omega
      subst hke
      rw [List.take_length] at f2
      exact ⟨x2, .inr ⟨hok, p, w, rfl, hp, hw, f2⟩⟩
theorem cbN : CallB Try.prog 40 := fun _ _ => Try.call40 _ _
theorem one_may {kb : Nat} {k : ByteArray} (r : hcell h kb 0 = some (.string k)) (hk : k.size ≤ 2305843009213693952) {x : Option Addr} {g : Option (Nat → Bool)} (hx : (x = none ∧ g = none) ∨ ∃ p w F, x = some ⟨p, 0, none⟩ ∧ g = some F ∧ Flm h p w b s F) :
    HCV Try.prog (.func (.func 40) #[] #[ptr kb 0]) [.pointer x] h fun v h' => v = .bool (sayF b s k g) ∧ Ext h h' := by
  refine .inl ⟨40, [], [ptr kb 0], rfl, cbN, ?_⟩
  rcases hx with ⟨rfl, rfl⟩ | ⟨p, w, F, rfl, rfl, f⟩
  · refine f40_shn _ _ _ _ ⟨k, r, (key_m k hk h).mono ?_⟩
    rintro _ h1 ⟨rfl, x1⟩
    refine ⟨x1, _, rfl, f41_shn _ _ _ fun fb h2 e2 eh2 nb h3 e3 eh3 => ?_⟩
    have x2 : Ext h1 h2 := by rw [eh2]; exact Ext.push _ _
    have r2 : h2[fb]? = some (.cells #[.pointer none] tPm (0, 0)) := by rw [eh2]; exact push_new e2
    have x3 : Ext h2 h3 := by rw [eh3]; exact Ext.push _ _
    have r3 : h3[nb]? = some (.cells #[.bool false] 4 (0, 0)) := by rw [eh3]; exact push_new e3
    refine ⟨none, by rw [hcell_row (x3.row r2)]; rfl, false, f37_shn _ _ ⟨rfl, rfl⟩, fun _ => ⟨HW_row r3 (by simp), fun h4 e4 => ⟨false, by rw [e4, hcell_row (hset_row r3)]; rfl, fun h5 sh => ⟨false, rfl, rfl, ?_⟩⟩⟩, fun e => by simp at e⟩
    have hnb : h1.size ≤ nb := by have := x2.size; omega
    have x4 : Ext h1 h4 := (((x2.trans x3).fr _).trans (fr_hset_of e4) fun _ _ q => q).ext fun i hi q => by omega
    exact x1.trans (shut_ext x4 sh)
  · refine f40_sh _ _ _ _ _ _ ⟨k, r, (key_m k hk h).mono ?_⟩
    rintro _ h1 ⟨rfl, x1⟩
    refine ⟨x1, _, rfl, (may_m (f.ext x1) (hsh k)).mono ?_⟩
    rintro _ h2 ⟨rfl, x2⟩
    exact ⟨_, rfl, rfl, x1.trans x2⟩
theorem contains_m {kb : Nat} {k : ByteArray} (r : hcell h kb 0 = some (.string k)) (hk : k.size ≤ 2305843009213693952) (f : FlsM h b s a c P G) (hl : P.length ≤ 4611686018427387904) :
    HC Try.prog 42 #[.slice a P.length c, .func (.func 40) #[] #[ptr kb 0]] h fun v h' => v = .bool (anyF b s G k) ∧ Ext h h' := by
  have hG := f.2.1
  refine f42_sh _ _ _ _ _ _ (f56_sh _ _ _ _ _ _ ⟨fun v h1 => ∃ j : Nat, v = j ∧ j ≤ P.length ∧ Ext h h1 ∧ ∀ (i : Nat) g, i < j → G[i]? = some g → (sayF b s k g) = false, fun v _ => P.length - v.toNat, ⟨0, rfl, Nat.zero_le _, Ext.refl _, fun i g q => by omega⟩, ?_⟩)
  rintro _ h1 ⟨j, rfl, hj, x1, hI⟩
  refine ⟨fun e => ?_, fun e => ⟨_, rfl, ?_, x1⟩⟩
  · have hjl := lt_of_dec e
    obtain ⟨lb, lo, el, d⟩ := (f.1.ext x1).at (sl_get hjl)
    have hg : G[j]? = some (G[j]'(by omega)) := List.getElem?_eq_getElem (by omega)
    have hx := (f.ext x1).2.2 j _ _ (sl_get hjl) hg
    generalize hgg : G[j]'(by omega) = g at *
    refine ⟨lb, lo, el, by omega, by omega, _, d.1, (one_may (x1.cell r) hk hx).mono ?_⟩
    rintro _ h2 ⟨rfl, x2⟩
    refine ⟨_, rfl, fun e2 => ⟨_, rfl, ?_, x1.trans x2⟩, fun e2 => ?_⟩
    · have : anyF b s G k = true := by
        unfold anyF
        rw [List.any_eq_true]
        exact ⟨g, List.mem_of_getElem? hg, e2⟩
      rw [this]
      congr 1
      try exact decide_eq_true (by omega)
    · rw [wadd j (by omega)]
      refine ⟨⟨j + 1, rfl, hjl, x1.trans x2, fun i g' hi hg' => ?_⟩, by show P.length - Int.toNat _ < P.length - Int.toNat _; omega⟩
      by_cases ei : i = j
      · subst ei
        rw [hg] at hg'; cases hg'; exact e2
      · exact hI i g' (by omega) hg'
  · have hje : j = P.length := by have := ge_of_dec e; omega
    have : anyF b s G k = false := by
      unfold anyF
      rw [List.any_eq_false]
      intro g hg
      obtain ⟨i, hi⟩ := List.mem_iff_getElem?.1 hg
      have := hI i g (by have := (List.getElem?_eq_some_iff.1 hi).1; omega) hi
      rw [this]; simp
    rw [this]
    rfl
abbrev verV (m : Int) : Value := .int .u64 m
theorem mx_keys {kv : List (ByteArray × Value)} {val : Int → Value} {X : List Rc} (m : Mx val kv X) (hn : (kv.map (·.1)).Nodup) {k : ByteArray} : k ∈ kv.map (·.1) ↔ hasK X k := by
  constructor
  · intro hk
    obtain ⟨p, hp, rfl⟩ := List.mem_map.1 hk
    by_cases hh : hasK X p.1
    · exact hh
    · have := (m p.1).2 hh
      rw [lk_of_mem hn hp] at this; cases this
  · intro hh
    exact List.mem_map.2 ⟨_, lk_mem _ _ _ ((m k).1 hh), rfl⟩
def tombK (X : List Rc) (k : ByteArray) : Rc := tomb k (mxv X k)
theorem isT_keys {X : List Rc} {F : ByteArray → Bool} {ks : List ByteArray} (hs : ks.Pairwise fun x y => slt x y = true) (hk : ∀ k, k ∈ ks ↔ hasK X k) : IsT F X ((ks.filter F).map (tombK X)) := by
  refine ⟨?_, fun x => ?_⟩
  · rw [List.pairwise_map]
    exact (hs.filter F).imp fun {x y} h => h
  · rw [List.mem_map]
    constructor
    · rintro ⟨k, hk1, rfl⟩
      obtain ⟨h1, h2⟩ := List.mem_filter.1 hk1
      exact ⟨rfl, rfl, h2, (hk k).1 h1, rfl⟩
    · rintro ⟨h1, h2, h3, h4, h5⟩
      refine ⟨x.key, List.mem_filter.2 ⟨(hk _).2 h4, h3⟩, ?_⟩
      obtain ⟨x1, x2, x3, x4⟩ := x
      simp only [tombK, tomb] at *
      rw [h1, h2, h5]
set_option maxHeartbeats 3200000 in
theorem needed_m {la : Option Addr} {lc : Nat} (sl : Sl eRc h la lc X) (hs : small X) (hl : X.length * 48 ≤ 140737488351232) (hv : ∀ r ∈ X, 0 ≤ r.ver) (f : FlsM h b s a c P G) (hP : P.length ≤ 4611686018427387904) :
    HC Try.prog 21 #[.slice la X.length lc, .slice a P.length c] h fun v h' => Ext h h' ∧ ∃ a' c' D, IsT (anyF b s G) X D ∧ v = .slice a' D.length c' ∧ D.length ≤ X.length ∧ Sl eRc h' a' c' D ∧ Own eRc.k tRc h.size h' a' c' := by
  refine f21_sh _ _ _ _ _ _ _ _ fun mb h1 emb x1 zs1 m1 => ⟨fun v h2 => ∃ (k : Nat) (kv : List (ByteArray × Value)), v = k ∧ k ≤ X.length ∧ Fr (· = mb) h1 h2 ∧ MapL h2 mb Value.string kv ∧ Mx verV kv (X.take k) ∧ kv.length ≤ k, fun v _ => X.length - v.toNat, ⟨0, [], rfl, Nat.zero_le _, Fr.refl _ _, m1, Mx.nil _, Nat.zero_le _⟩, ?_⟩
  rintro _ h2 ⟨k, kv, rfl, hk, f2, m2, b2, n2⟩
  have x2 : Ext h h2 := ((x1.fr _).trans f2 fun _ _ q => q).ext fun i hi q => by omega
  refine ⟨fun e => ?_, fun e => ?_⟩
  · have hkl := lt_of_dec e
    obtain ⟨lb, lo, el, d⟩ := (sl.ext x2).at (sl_get hkl)
    have htk : X.take (k + 1) = X.take k ++ [X[k]] := by rw [List.take_add_one, sl_get hkl]; rfl
    generalize X[k] = r at *
    have hval : (lk kv r.key).getD (.int .u64 0) = .int .u64 (mxv (X.take k) r.key) := by
      by_cases hh : hasK (X.take k) r.key
      · rw [(b2 r.key).1 hh]; rfl
      · rw [(b2 r.key).2 hh, mxv_none hh]; rfl
    refine ⟨lb, lo, el, by omega, by omega, _, _, _, _, d.1, d.2.1, d.2.2.1, d.2.2.2.1, kv, m2, _, hval, fun h4 x4 => ⟨kv, m2.ext x4, fun h5 o5 m5 => ?_⟩⟩
    rw [max_if] at m5
    rw [wadd k (by omega)]
    refine ⟨⟨k + 1, _, rfl, hkl, (f2.trans (x4.fr _) fun _ _ q => q).trans o5.fr fun _ _ q => q, m5, by rw [htk]; exact b2.put, ?_⟩, by show X.length - Int.toNat _ < X.length - Int.toNat _; omega⟩
    have := kput_len kv r.key (.int .u64 (max (mxv (X.take k) r.key) r.ver))
    omega
  have hke : k = X.length := by have := ge_of_dec e; omega
  subst hke
  rw [List.take_length] at b2
  have hnd := m2.nodup
  have hu : ∀ p ∈ kv, ∃ x : Int, p.2 = .int .u64 x := fun p hp => by
    have hh := (mx_keys b2 hnd).1 (List.mem_map_of_mem hp)
    have := (b2 p.1).1 hh
    rw [lk_of_mem hnd hp] at this
    exact ⟨_, Option.some.inj this⟩
  refine f39_sh _ _ _ fun kb h6 e6 eh6 => ⟨_, rfl, ?_⟩
  have x6 : Ext h2 h6 := by rw [eh6]; exact Ext.push _ _
  have r6 : h6[kb]? = some (.cells #[.map (some mb)] 81 (0, 0)) := by rw [eh6]; exact push_new e6
  refine (sorted_c (h := h6) (kv := kv) (Nat.lt_of_lt_of_le m2.lt x6.size) (keys_tell (fun h3 x3 => by rw [hcell_row (x3.row r6)]; rfl) (m2.ext x6) hu) (by omega) hnd).mono ?_
  rintro _ h7 ⟨x7, ka, kc, ks, rfl, hp, hsrt, s7, w7⟩
  have hkk : ∀ k, k ∈ ks ↔ hasK X k := fun k => by rw [hp.mem_iff]; exact mx_keys b2 hnd
  have hksl := hp.length_eq
  rw [List.length_map] at hksl
  have x07 := x2.trans (x6.trans x7)
  let O : Nat → List Rc := fun j => ((ks.take j).filter (anyF b s G)).map (tombK X)
  have hOl : ∀ j, j ≤ ks.length → (O j).length ≤ j := fun j hj => by
    show (((ks.take j).filter (anyF b s G)).map (tombK X)).length ≤ j
    rw [List.length_map]
    have := List.length_filter_le (anyF b s G) (ks.take j)
    rw [List.length_take] at this; omega
  refine ⟨ka, _, kc, rfl, fun out n c' v h8 => ∃ j : Nat, v = j ∧ j ≤ ks.length ∧ n = (O j).length ∧ Ext h7 h8 ∧ Sl eRc h8 out c' (O j) ∧ Own eRc.k tRc h7.size h8 out c', fun _ _ _ v _ => ks.length - v.toNat, ⟨0, rfl, Nat.zero_le _, rfl, Ext.refl _, Sl.nil _ _, Own.nil _ _ _ _⟩, ?_⟩
  rintro out _ c' _ h8 ⟨j, rfl, hj, rfl, x8, s8, w8⟩
  refine ⟨fun e => ?_, fun e => ?_⟩
  rotate_left
  · have hje : j = ks.length := by have := ge_of_dec e; omega
    subst hje
    refine ⟨x07.trans x8, out, c', O ks.length, ?_, rfl, by have := hOl ks.length (Nat.le_refl _); omega, s8, w8.down x07.size⟩
    show IsT _ X (((ks.take ks.length).filter (anyF b s G)).map (tombK X))
    rw [List.take_length]
    exact isT_keys hsrt hkk
  have hjl := lt_of_dec e
  have hget := sl_get hjl
  have hO1 : O (j + 1) = O j ++ if anyF b s G ks[j] then [tombK X ks[j]] else [] := by
    show ((ks.take (j + 1)).filter (anyF b s G)).map (tombK X) = _
    rw [List.take_add_one, hget, List.filter_append, List.map_append]
    congr 1
    simp only [Option.toList_some, List.filter_cons, List.filter_nil]
    split <;> rfl
  have hOj := hOl j (by omega)
  have hkeyh : hasK X ks[j] := (hkk _).1 (List.getElem_mem hjl)
  have hksz : ks[j].size ≤ 2305843009213693952 := by
    obtain ⟨r, hr, e⟩ := hkeyh
    rw [← e]; exact hs r hr
  obtain ⟨kb', ko', ek, dk⟩ := (s7.ext x8).at hget
  generalize ks[j] = key at *
  have z7 := x07.size
  have z8 := x8.size
  refine ⟨fun o n c h9 => n = (O (j + 1)).length ∧ Ext h7 h9 ∧ Sl eRc h9 o c (O (j + 1)) ∧ Own eRc.k tRc h7.size h9 o c, ⟨kb', ko', ek, by omega, by omega, key, dk.1, fun qb h10 eq_ eh10 => ?_⟩, ?_⟩
  · have x10 : Ext h8 h10 := by rw [eh10]; exact Ext.push _ _
    have r10 : h10[qb]? = some (.cells #[.string ByteArray.empty] tS (0, 0)) := by rw [eh10]; exact push_new eq_
    refine ⟨HW_row r10 (by simp), fun h11 e11 => ?_⟩
    have r11 : h11[qb]? = some (.cells #[.string key] tS (0, 0)) := by rw [e11]; exact hset_row r10
    have x11 : Ext h8 h11 := ((x10.fr _).trans (fr_hset_of e11) fun _ _ q => q).ext fun i hi q => by omega
    refine (contains_m (by rw [hcell_row r11]; rfl) hksz (f.ext (x07.trans (x8.trans x11))) hP).mono ?_
    rintro _ h12 ⟨rfl, x12⟩
    have x812 := x11.trans x12
    refine ⟨_, rfl, fun e2 => ?_, fun e2 => ?_⟩
    · rw [e2, if_pos rfl] at hO1
      refine ⟨key, by rw [hcell_row (x12.row r11)]; rfl, kv, m2.ext (x6.trans (x7.trans (x8.trans x812))), mxv X key, by rw [(b2 key).1 hkeyh]; rfl, fun nb h13 en e13 => ?_⟩
      refine app_1 (x := tombK X key) aRc en e13 rfl (s8.ext x812) (w8.ext x812) rfl (by have := x812.size; omega) (by omega) fun a' c'' h14 f14 s14 w14 _ => ⟨a', _, c'', rfl, ?_, ?_, ?_, w14⟩
      · rw [hO1, List.length_append]; rfl
      · exact (((x8.trans x812).fr _).trans f14 fun _ _ q => q).ext fun i hi q => by have := (w8.low q).1; omega
      · rw [hO1]; exact s14
    · rw [e2] at hO1
      have hO1 : O (j + 1) = O j := by rw [hO1]; simp
      rw [hO1]
      exact ⟨rfl, x8.trans x812, s8.ext x812, w8.ext x812⟩
  · rintro o n cc h9 ⟨rfl, x9, s9, w9⟩
    rw [wadd j (by omega)]
    exact ⟨⟨j + 1, rfl, hjl, rfl, x9, s9, w9⟩, by show ks.length - Int.toNat _ < ks.length - Int.toNat _; omega⟩
end
end Cy
end Go.Proofs.Ytcdpapdefdnknaa
namespace Go.Proofs.Ytcdpapdefdnknaa
namespace Cy
open Go
def tl (F : ByteArray → Bool) (Q : List Rc) : List Rc := (Q.filter fun r => F r.key).map fun r => tomb r.key r.ver
theorem tl_snoc (F : ByteArray → Bool) (Q : List Rc) (r : Rc) : tl F (Q ++ [r]) = tl F Q ++ if F r.key then [tomb r.key r.ver] else [] := by
  unfold tl
  rw [List.filter_append, List.map_append]
  congr 1
  simp only [List.filter_cons, List.filter_nil]
  split <;> rfl
theorem tl_mem {F : ByteArray → Bool} {Q : List Rc} {x : Rc} : x ∈ tl F Q ↔ ∃ r ∈ Q, F r.key = true ∧ x = tomb r.key r.ver := by
  unfold tl
  rw [List.mem_map]
  constructor
  · rintro ⟨r, hr, rfl⟩
    obtain ⟨h1, h2⟩ := List.mem_filter.1 hr
    exact ⟨r, h1, h2, rfl⟩
  · rintro ⟨r, h1, h2, rfl⟩
    exact ⟨r, List.mem_filter.2 ⟨h1, h2⟩, rfl⟩
theorem tl_len (F : ByteArray → Bool) (Q : List Rc) : (tl F Q).length ≤ Q.length := by
  unfold tl; rw [List.length_map]; exact List.length_filter_le _ _
theorem isT_live {F : ByteArray → Bool} {Q : List Rc} (hv : ∀ r ∈ Q, 0 ≤ r.ver) : IsT F Q (liveL (tl F Q)) := by
  have hp : (tl F Q).Pairwise Rr := List.pairwise_iff_getElem.2 fun i j hi hj _ hk => by
    obtain ⟨r, _, _, e⟩ := tl_mem.1 (List.getElem_mem hj)
    rw [e] at hk; simp [tomb] at hk
  obtain ⟨i1, i2⟩ := live_inv _ hp
  have key : ∀ x ∈ liveL (tl F Q), x.kind = 2 ∧ x.val = ByteArray.empty ∧ F x.key = true ∧ hasK Q x.key ∧ x.ver = mxv Q x.key := fun x hx => by
    obtain ⟨j1, j2⟩ := i1 x hx
    obtain ⟨r, hr, hF, rfl⟩ := tl_mem.1 j1
    refine ⟨rfl, rfl, hF, ⟨r, hr, rfl⟩, ?_⟩
    obtain ⟨o, ho, hok, hov⟩ := mxv_at hv ⟨r, hr, rfl⟩
    have h1 := mxv_le hr rfl
    have h2 := (j2 (tomb o.key o.ver) (tl_mem.2 ⟨o, ho, by rw [hok]; exact hF, rfl⟩) hok).1
    simp only [tomb] at *
    omega
  refine ⟨live_sorted _, fun x => ⟨key x, ?_⟩⟩
  rintro ⟨h1, h2, h3, h4, h5⟩
  obtain ⟨o, ho, hok, hov⟩ := mxv_at hv h4
  obtain ⟨y, hy, hyk⟩ := i2 (tomb o.key o.ver) (tl_mem.2 ⟨o, ho, by rw [hok]; exact h3, rfl⟩)
  obtain ⟨k1, k2, k3, k4, k5⟩ := key y hy
  have : y = x := by
    obtain ⟨y1, y2, y3, y4⟩ := y
    obtain ⟨x1, x2, x3, x4⟩ := x
    simp only [tomb] at *
    subst hyk
    rw [hok] at k5 ⊢
    rw [k1, k2, k5, h1, h2, h5]
  rw [← this]; exact hy
theorem ins_at {f : Rc} : ∀ {D : List Rc} {p : Nat}, p ≤ D.length → (∀ i x, i < p → D[i]? = some x → slt x.key f.key = true) → (∀ x, D[p]? = some x → slt x.key f.key = false) →
    insF f D = match D[p]? with | none => D ++ [f] | some x => if x.key = f.key then (if f.ver ≥ x.ver then D.set p f else D) else D.take p ++ f :: D.drop p
  | [], p, hp, _, _ => by
    have : p = 0 := by simpa using hp
    subst this; rfl
  | y :: t, 0, _, _, h2 => by
    have := h2 y rfl
    unfold insF
    rw [this]; simp
  | y :: t, p + 1, hp, h1, h2 => by
    have hy := h1 0 y (by omega) rfl
    unfold insF
    rw [if_pos hy, ins_at (D := t) (p := p) (by simpa using hp) (fun i x hi hx => h1 (i + 1) x (by omega) (by simpa using hx)) (fun x hx => h2 x (by simpa using hx))]
    rw [List.getElem?_cons_succ]
    cases t[p]? with
    | none => rfl
    | some x =>
      simp only
      split
      · split <;> simp
      · simp
section
variable {h h' : Heap} {a : Option Addr} {c b s : Nat} {P : List (Option Addr)} {G : List (Option (Nat → Bool))} {X : List Rc}
theorem filter_r (bits hashes : Int) (sl : Sl eRc h a c X) (hs : small X) (hl : X.length * 48 ≤ 140737488351232) : HC Try.prog 18 #[.int .i64 bits, .int .i64 hashes, .slice a X.length c] h fun v h' => Ext h h' ∧
    ((¬ okF bits hashes ∧ v = .tuple #[.pointer none, .int .i64 150]) ∨ (okF bits hashes ∧ ∃ p w, v = .tuple #[ptr p 0, .int .i64 0] ∧ h.size ≤ p ∧ h.size ≤ w ∧ Flr h' p w bits.toNat hashes.toNat (fltR bits.toNat hashes.toNat X))) := by
  refine f18_sh _ _ _ _ _ _ _ ((new_r bits hashes h).mono ?_)
  rintro _ h1 ⟨x1, ⟨hno, rfl⟩ | ⟨hok, p, w, rfl, hp, hw, f1⟩⟩
  · exact ⟨x1, none, 150, rfl, fun _ => ⟨x1, .inl ⟨hno, rfl⟩⟩, fun e => (by simp at e)⟩
  · refine ⟨x1, some ⟨p, 0, none⟩, 0, rfl, fun e => (by simp at e), fun _ => ⟨fun v h2 => ∃ k : Nat, v = k ∧ k ≤ X.length ∧ Ext h h2 ∧ Flr h2 p w bits.toNat hashes.toNat (fltR bits.toNat hashes.toNat (X.take k)), fun v _ => X.length - v.toNat, ⟨0, rfl, Nat.zero_le _, x1, f1⟩, ?_⟩⟩
    rintro _ h2 ⟨k, rfl, hk, x2, f2⟩
    refine ⟨fun e => ?_, fun e => ?_⟩
    · have hkl := lt_of_dec e
      obtain ⟨lb, lo, el, d⟩ := (sl.ext x2).at (sl_get hkl)
      have hft := flt_take (b := bits.toNat) (s := hashes.toNat) hkl
      have hss := hs _ (List.getElem_mem hkl)
      generalize X[k] = r at *
      refine ⟨lb, lo, el, by omega, by omega, _, d.2.2.1, (key_r r.key hss h2).mono ?_⟩
      rintro _ h5 ⟨rfl, x5⟩
      refine ⟨x5, _, rfl, (add_r (f2.ext x5) (hsh r.key)).mono ?_⟩
      rintro _ h6 ⟨q, rfl, f6, g6⟩
      rw [wadd k (by omega)]
      refine ⟨q, rfl, ⟨k + 1, rfl, hkl, ?_, by rw [hft]; exact g6⟩, by show X.length - Int.toNat _ < X.length - Int.toNat _; omega⟩
      exact (((x2.trans x5).fr _).trans f6 fun _ _ q => q).ext fun i hi q => by omega
    · have hke : k = X.length := by have := ge_of_dec e; omega
      subst hke
      rw [List.take_length] at f2
      exact ⟨x2, .inr ⟨hok, p, w, rfl, hp, hw, f2⟩⟩
set_option maxHeartbeats 6400000 in
theorem needed_r {la : Option Addr} {lc : Nat} (sl : Sl eRc h la lc X) (hs : small X) (hl : X.length * 48 ≤ 140737488351232) (hv : ∀ r ∈ X, 0 ≤ r.ver) (f : FlsR h b s a c P G) (hP : P.length ≤ 4611686018427387904) :
    HC Try.prog 22 #[.slice la X.length lc, .slice a P.length c] h fun v h' => Ext h h' ∧ ∃ a' c' D, IsT (anyF b s G) X D ∧ v = .slice a' D.length c' ∧ Sl eRc h' a' c' D ∧ Own eRc.k tRc h.size h' a' c' := by
  have hG := f.2.1
  generalize hFF : anyF b s G = F
  refine f22_sh _ _ _ _ _ _ _ _ ⟨fun out n c' v h1 => ∃ q : Nat, v = q ∧ q ≤ X.length ∧ n = (liveL (tl F (X.take q))).length ∧ Ext h h1 ∧ Sl eRc h1 out c' (liveL (tl F (X.take q))) ∧ Own eRc.k tRc h.size h1 out c', fun _ _ _ v _ => X.length - v.toNat, ⟨0, rfl, Nat.zero_le _, rfl, Ext.refl _, Sl.nil _ _, Own.nil _ _ _ _⟩, ?_⟩
  rintro out _ c' _ h1 ⟨q, rfl, hq, rfl, x1, s1, w1⟩
  refine ⟨fun e => ?_, fun e => ?_⟩
  rotate_left
  · have hqe : q = X.length := by have := ge_of_dec e; omega
    subst hqe
    rw [List.take_length] at s1 ⊢
    exact ⟨x1, out, c', _, isT_live hv, rfl, s1, w1⟩
  have hql := lt_of_dec e
  have htk : tl F (X.take (q + 1)) = tl F (X.take q) ++ if F X[q].key then [tomb X[q].key X[q].ver] else [] := by
    rw [List.take_add_one, sl_get hql]; exact tl_snoc _ _ _
  have hO1 : liveL (tl F (X.take (q + 1))) = if F X[q].key then insF (tomb X[q].key X[q].ver) (liveL (tl F (X.take q))) else liveL (tl F (X.take q)) := by
    rw [htk]
    split
    · rw [live_app]
    · rw [List.append_nil]
  have hOl : (liveL (tl F (X.take q))).length ≤ q := by
    have h1 := live_len (tl F (X.take q))
    have h2 := tl_len F (X.take q)
    rw [List.length_take] at h2; omega
  have isO : ∀ x ∈ liveL (tl F (X.take q)), F x.key = true ∧ x.kind = 2 ∧ x.val = ByteArray.empty := fun x hx => by
    obtain ⟨a, b, c, _⟩ := ((isT_live (F := F) fun r hr => hv r (List.mem_of_mem_take hr)).mem x).1 hx
    exact ⟨c, a, b⟩
  obtain ⟨lb, lo, el, d⟩ := (sl.ext x1).at (sl_get hql)
  have hss := hs _ (List.getElem_mem hql)
  generalize X[q] = r at *
  generalize hO : liveL (tl F (X.take q)) = O at *
  generalize hO' : liveL (tl F (X.take (q + 1))) = O' at *
  refine ⟨fun o n cc h2 => n = O'.length ∧ Ext h h2 ∧ Sl eRc h2 o cc O' ∧ Own eRc.k tRc h.size h2 o cc, ?_, ?_⟩
  rotate_left
  · rintro o _ cc h2 ⟨rfl, x2, s2, w2⟩
    rw [wadd q (by omega)]
    exact ⟨⟨q + 1, rfl, hql, by rw [hO'], x2, by rw [hO']; exact s2, w2⟩, by show X.length - Int.toNat _ < X.length - Int.toNat _; omega⟩
  refine ⟨fun v => ∃ p : Nat, v = p ∧ p ≤ O.length ∧ ∀ i x, i < p → O[i]? = some x → slt x.key r.key = true, fun v => O.length - v.toNat, ⟨0, rfl, Nat.zero_le _, fun i x hi => by omega⟩, ?_⟩
  rintro _ ⟨p, rfl, hp, hlow⟩
  have hcell := fun (hpl : p < O.length) => s1.at (sl_get hpl)
  refine ⟨(match O[p]? with | none => false | some x => slt x.key r.key), ⟨fun e2 => ?_, fun e2 => ?_⟩, fun e2 => ?_, fun e2 => ?_⟩
  · have hpl := lt_of_dec e2
    obtain ⟨ob, oo, eo, dO⟩ := hcell hpl
    exact ⟨ob, oo, eo, by omega, by omega, _, dO.2.2.1, lb, lo, el, by omega, by omega, _, d.2.2.1, by rw [sl_get hpl]⟩
  · rw [List.getElem?_eq_none (ge_of_dec e2)]
  · have hpl : p < O.length := by
      rcases Nat.lt_or_ge p O.length with q | q
      · exact q
      · rw [List.getElem?_eq_none q] at e2; cases e2
    rw [sl_get hpl] at e2
    rw [wadd p (by omega)]
    refine ⟨⟨p + 1, rfl, hpl, fun i x hi hx => ?_⟩, by show O.length - Int.toNat _ < O.length - Int.toNat _; omega⟩
    by_cases ei : i = p
    · subst ei
      rw [sl_get hpl] at hx; cases hx; exact e2
    · exact hlow i x (by omega) hx
  have hge : ∀ x, O[p]? = some x → slt x.key r.key = false := fun x hx => by rw [hx] at e2; exact e2
  have hins := ins_at (f := tomb r.key r.ver) hp hlow hge
  refine ⟨(match O[p]? with | none => false | some x => decide (x.key = r.key)), ⟨fun e3 => ?_, fun e3 => ?_⟩, fun e3 => ?_, fun e3 => ?_⟩
  · have hpl := lt_of_dec e3
    obtain ⟨ob, oo, eo, dO⟩ := hcell hpl
    exact ⟨ob, oo, eo, by omega, by omega, _, dO.2.2.1, lb, lo, el, by omega, by omega, _, d.2.2.1, by rw [sl_get hpl]⟩
  · rw [List.getElem?_eq_none (ge_of_dec e3)]
  · -- the key stands already
    have hpl : p < O.length := by
      rcases Nat.lt_or_ge p O.length with q | q
      · exact q
      · rw [List.getElem?_eq_none q] at e3; cases e3
    rw [sl_get hpl] at e3 hins
    have hk : O[p].key = r.key := of_decide_eq_true e3
    obtain ⟨i1, i2, i3⟩ := isO _ (List.getElem_mem hpl)
    rw [hk] at i1
    have hins' : insF (tomb r.key r.ver) O = if (tomb r.key r.ver).ver ≥ O[p].ver then O.set p (tomb r.key r.ver) else O := by rw [hins]; exact if_pos hk
    rw [i1, if_pos rfl, hins'] at hO1
    have hA : r.ver ≥ O[p].ver → O' = O.set p (tomb r.key r.ver) := fun q => by rw [hO1]; exact if_pos q
    have hB : ¬ r.ver ≥ O[p].ver → O' = O := fun q => by rw [hO1]; exact if_neg q
    obtain ⟨ob, oo, eo, dO⟩ := hcell hpl
    refine ⟨fun h4 => Ext h h4 ∧ Sl eRc h4 out c' O' ∧ Own eRc.k tRc h.size h4 out c', ⟨lb, lo, el, by omega, by omega, _, d.2.1, ob, oo, eo, by omega, by omega, _, dO.2.1, fun e4 => ?_, fun e4 => ?_⟩, fun h3 ⟨x3, s3, w3⟩ => ⟨?_, x3, s3, w3⟩⟩
    · have hgt := of_decide_eq_true e4
      subst eo
      obtain ⟨u1, u2⟩ := s1.word w1 (i := p) (r := 1) (x' := tomb r.key r.ver) (v := .int .u64 r.ver) hpl (by decide) (by
        show [Value.int .i64 2, .int .u64 r.ver, .string r.key, .string ByteArray.empty] = [Value.int .i64 O[p].kind, .int .u64 O[p].ver, .string O[p].key, .string O[p].val].set 1 (.int .u64 r.ver)
        rw [i2, i3, hk]; rfl) (p := oo + (Int.toNat (p : Int)) * 4 + 1) (by rw [Int.toNat_natCast]; rfl)
      refine ⟨u1, fun h4 e4' => ?_⟩
      obtain ⟨s4, w4, f4⟩ := u2 h4 e4'
      refine ⟨(x1.fr _ |>.trans f4 fun _ _ q => q).ext fun i hi q => ?_, by rw [hA (by omega)]; exact s4, w4⟩
      have := (w1.low (blkA_of rfl)).1; omega
    · have hle := of_decide_eq_false e4
      refine ⟨x1, ?_, w1⟩
      have : O' = O := by
        by_cases q : r.ver ≥ O[p].ver
        · rw [hA q]
          have : tomb r.key r.ver = O[p] := by
            unfold tomb
            generalize O[p] = x at *
            obtain ⟨a, b, c, d⟩ := x
            simp only at *
            rw [i2, i3, hk]
            congr 1
            omega
          rw [this, List.set_getElem_self]
        · exact hB q
      rw [this]; exact s1
    · by_cases q : r.ver ≥ O[p].ver
      · rw [hA q, List.length_set]
      · rw [hB q]
  -- a new key
  have hne : ∀ x, O[p]? = some x → x.key ≠ r.key := fun x hx => by rw [hx] at e3; exact of_decide_eq_false e3
  have hinsE : insF (tomb r.key r.ver) O = O.take p ++ tomb r.key r.ver :: O.drop p := by
    rw [hins]
    cases hx : O[p]? with
    | none =>
      have h1 : O.length ≤ p := List.getElem?_eq_none_iff.1 hx
      have h2 : p = O.length := by omega
      subst h2; simp
    | some x => exact if_neg (hne x hx)
  refine ⟨fun has v h5 => ∃ j : Nat, v = j ∧ j ≤ P.length ∧ Ext h1 h5 ∧ has = (G.take j).any (sayF b s r.key), fun _ v _ => P.length - v.toNat, ⟨0, rfl, Nat.zero_le _, Ext.refl _, rfl⟩, ?_⟩
  rintro has _ h5 ⟨j, rfl, hj, x5, hhas⟩
  refine ⟨fun e4 => ?_, fun e4 => ?_⟩
  · have hjl := lt_of_dec e4
    have hg : G[j]? = some (G[j]'(by omega)) := List.getElem?_eq_getElem (by omega)
    have hnext : (G.take (j + 1)).any (sayF b s r.key) = ((G.take j).any (sayF b s r.key) || sayF b s r.key (G[j]'(by omega))) := by
      rw [List.take_add_one, hg, List.any_append]; simp
    rw [wadd j (by omega)]
    have dec : P.length - Int.toNat ((j + 1 : Nat) : Int) < P.length - Int.toNat (j : Int) := by omega
    refine ⟨fun e5 => ⟨⟨j + 1, rfl, hjl, x5, ?_⟩, dec⟩, fun e5 => ?_⟩
    · rw [hnext, ← hhas, e5]; rfl
    · rw [e5] at hhas
      obtain ⟨pb, po, ep, dp⟩ := (f.1.ext (x1.trans x5)).at (sl_get hjl)
      have hx := (f.ext (x1.trans x5)).2.2 j _ _ (sl_get hjl) hg
      rw [← hhas, Bool.false_or] at hnext
      generalize G[j]'(by omega) = g at *
      refine ⟨pb, po, ep, by omega, by omega, _, dp.1, fun e6 => ?_, fun e6 => ?_⟩
      · rcases hx with ⟨e7, _⟩ | ⟨fp, fw, FF, e7, rfl, ff⟩
        · rw [e7] at e6; cases e6
        · rw [e7]
          refine ⟨lb, lo, el, by omega, by omega, _, x5.cell d.2.2.1, (key_r r.key hss h5).mono ?_⟩
          rintro _ h6 ⟨rfl, x6⟩
          exact ⟨x6, _, rfl, _, fun h7 x7 => may_r (ff.ext (x6.trans x7)) (hsh r.key), ⟨j + 1, rfl, hjl, x5.trans x6, hnext.symm⟩, dec⟩
      · rcases hx with ⟨_, rfl⟩ | ⟨fp, fw, FF, e7, rfl, ff⟩
        · exact ⟨⟨j + 1, rfl, hjl, x5, hnext.symm⟩, dec⟩
        · rw [e7] at e6; cases e6
  have hje : j = P.length := by have := ge_of_dec e4; omega
  subst hje
  have hF : has = F r.key := by
    rw [hhas, ← hFF, hG, List.take_length]; rfl
  have s5 := s1.ext x5
  have w5 := w1.ext x5
  have x05 := x1.trans x5
  refine ⟨fun e5 => ?_, fun e5 => ?_⟩
  rotate_left
  · rw [hF] at e5
    rw [e5] at hO1
    have hO1 : O' = O := by rw [hO1]; simp
    rw [hO1]
    exact ⟨rfl, x05, s5, w5⟩
  rw [hF] at e5
  rw [e5, if_pos rfl, hinsE] at hO1
  have hOlen : O'.length = O.length + 1 := by rw [hO1]; simp; omega
  have hsc := s5.le
  have scut0 := s5.cut (l := 0) (r := p) (Nat.zero_le _) hp
  have scut1 := s5.cut (l := p) (r := O.length) hp (Nat.le_refl _)
  rw [List.take_length] at scut1
  rw [List.drop_zero] at scut0
  have lk : ∀ {g : Heap}, Fr (fun b => h5.size ≤ b) h5 g → Ext h5 g := fun f => f.ext fun i hi q => by omega
  refine ⟨fun x y => Fr (fun b => h5.size ≤ b) x y, fit_fr _, by decide, by omega, by omega, fun sl0 es0 => ⟨lb, lo, el, by omega, by omega, _, fun hx fx => (lk fx).cell (x5.cell d.2.1), _, fun hx fx => (lk fx).cell (x5.cell d.2.2.1), by omega, by omega, by omega, fun sl1 es1 => ?_⟩⟩
  rw [Int.toNat_natCast] at es1
  have es0' : sl0 = slA out 0 4 c' := es0
  have n0 : Int.toNat (p : Int) - Int.toNat 0 = (O.take p).length := by rw [List.length_take]; omega
  have n1 : Int.toNat (O.length : Int) - Int.toNat (p : Int) = (O.drop p).length := by rw [List.length_drop]; omega
  have c0 : c' - Int.toNat 0 = c' - 0 := rfl
  rw [n0, n1, c0, Int.toNat_natCast]
  have S0 : ∀ {g : Heap}, Fr (fun b => h5.size ≤ b) h5 g → Sl eRc g sl0 (c' - 0) (O.take p) := fun f => by rw [es0']; exact scut0.ext (lk f)
  have S1 : ∀ {g : Heap}, Fr (fun b => h5.size ≤ b) h5 g → Sl eRc g sl1 (c' - p) (O.drop p) := fun f => by rw [es1]; exact scut1.ext (lk f)
  have tail : ∀ {g : Heap} {ap : Option Addr} {ca nr : Nat} {n : Nat}, n = (O.take p).length → Fr (fun b => h5.size ≤ b) h5 g → Sl eRc g ap ca (O.take p) → Own eRc.k tRc h5.size g ap ca → Sl eRc g (some ⟨nr, 0, none⟩) 1 [tomb r.key r.ver] →
      HAppend Try.prog 32 32 (.slice ap n ca) (.slice (some ⟨nr, 0, none⟩) 1 1) g fun vv h11 => ∃ ap_1 : Option Addr, ∃ ap_n_1 ap_c_1 : Nat, vv = (.slice ap_1 ap_n_1 ap_c_1) ∧
        HAppend Try.prog 32 32 (.slice ap_1 ap_n_1 ap_c_1) (.slice sl1 (O.drop p).length (c' - p)) h11 fun vv h12 => ∃ ap_2 : Option Addr, ∃ ap_n_2 ap_c_2 : Nat, vv = (.slice ap_2 ap_n_2 ap_c_2) ∧ (ap_n_2 = O'.length ∧ Ext h h12 ∧ Sl eRc h12 ap_2 ap_c_2 O' ∧ Own eRc.k tRc h.size h12 ap_2 ap_c_2) := by
    intro g ap ca nr n hn fg sg wg sr
    subst hn
    have hz := fg.size
    refine app_sl aRc sg wg sr hz (by simp only [List.length_take, List.length_singleton]; omega) fun a1 c1 h11 f11 s11 w11 _ => ⟨a1, _, c1, rfl, ?_⟩
    have fg11 : Fr (fun b => h5.size ≤ b) h5 h11 := fg.trans (f11.mono fun i _ q => (wg.low q).1) fun _ _ q => q
    have hl11 : (O.take p).length + [tomb r.key r.ver].length = (O.take p ++ [tomb r.key r.ver]).length := by simp
    rw [hl11]
    refine app_sl aRc s11 w11 (S1 fg11) fg11.size (by simp only [List.length_append, List.length_take, List.length_singleton, List.length_drop]; omega) fun a2 c2 h12 f12 s12 w12 _ => ⟨a2, _, c2, rfl, ?_, ?_, ?_, w12.down x05.size⟩
    · rw [hOlen]; simp; omega
    · exact x05.trans (lk (fg11.trans (f12.mono fun i _ q => (w11.low q).1) fun _ _ q => q))
    · rw [hO1]
      have := s12
      rw [List.append_assoc] at this
      exact this
  have lit : ∀ {g g' : Heap} {nb : Nat}, nb = g.size → g' = g.push (.cells #[.int .i64 2, .int .u64 r.ver, .string r.key, .string ByteArray.empty] tRc) → Sl eRc g' (some ⟨nb, 0, none⟩) 1 [tomb r.key r.ver] := fun en e => by
    have hrow : _ := push_new (o := .cells (([tomb r.key r.ver] : List Rc).flatMap eRc.enc).toArray tRc) en
    exact Sl.lit (L := [tomb r.key r.ver]) (by rw [e]; exact hrow)
  refine ⟨fun nb h8 en e8 => ⟨?_, fun nb1 h13 en1 e13 => ?_⟩, fun nb h17 en e17 nb1 h18 en1 e18 => ?_⟩
  · have x8 : Ext h5 h8 := by rw [e8]; exact Ext.push _ _
    refine copyR rfl rfl en e8 (S0 (x8.fr _)) (by rw [List.length_take]; omega) fun a9 c9 h9 x9 f9 s9 w9 => ⟨f9, a9, _, c9, rfl, fun nb1 h10 en1 e10 => ?_⟩
    have x10 : Ext h9 h10 := by rw [e10]; exact Ext.push _ _
    exact tail rfl ((x9.trans x10).fr _) (s9.ext x10) (w9.ext x10) (lit en1 e10)
  · have x8 : Ext h5 h8 := by rw [e8]; exact Ext.push _ _
    have x13 : Ext h8 h13 := by rw [e13]; exact Ext.push _ _
    have hrow : h8[nb]? = some (.cells (([] : List Rc).flatMap eRc.enc).toArray tRc (0, 0)) := by rw [e8]; exact push_new en
    have z8 := x8.size
    refine app_own (E := eRc) (L := []) (h0 := h5) (n := 0) (n2 := (O.take p).length) aRc (x8.trans x13) (Sl.lit (x13.row hrow)) (Own.lit (x13.row hrow) (by omega)) rfl (S0 ((x8.trans x13).fr _)) rfl (by rw [List.length_take]; omega) fun a9 c9 h9 x9 f9 s9 w9 _ => ⟨f9.mono fun i _ q => by rw [blkA_some] at q; omega, a9, _, c9, rfl, ?_⟩
    have hlt : nb < h8.size := row_lt hrow
    exact tail (Nat.zero_add _) (x9.fr _) (by simpa using s9) w9 ((lit en1 e13).fr f9 fun b hb q => by rw [blkA_some] at hb q; omega)
  · have x17 : Ext h5 h17 := by rw [e17]; exact Ext.push _ _
    have x18 : Ext h17 h18 := by rw [e18]; exact Ext.push _ _
    have hrow : h18[nb1]? = some (.cells (([] : List Rc).flatMap eRc.enc).toArray tRc (0, 0)) := by rw [e18]; exact push_new en1
    have z17 := x17.size
    have z17' : h17.size = h5.size + 1 := by rw [e17]; simp
    refine app_own (E := eRc) (L := []) (h0 := h5) (n := 0) (n2 := (O.take p).length) aRc (x17.trans x18) (Sl.lit hrow) (Own.lit hrow (by omega)) rfl (S0 ((x17.trans x18).fr _)) rfl (by rw [List.length_take]; omega) fun a9 c9 h9 x9 f9 s9 w9 _ => ⟨f9.mono fun i _ q => by rw [blkA_some] at q; omega, a9, _, c9, rfl, ?_⟩
    exact tail (Nat.zero_add _) (x9.fr _) (by simpa using s9) w9 (((lit en e17).ext x18).fr f9 fun b hb q => by rw [blkA_some] at hb q; omega)
end
end Cy
end Go.Proofs.Ytcdpapdefdnknaa
namespace Go.Proofs.Ytcdpapdefdnknaa
open Go
open Go.Proofs.Ytcdpapdefdnknaa renaming hl_val → lv, hl_step → lp, hl_nil → ln, hl_yes → ly, hl_no → lo, hx_seq → xs, hx_region → xr, hx_cond → xc, hx_block → xb, hx_loopT → xl, hx_cut → xk, hx_has → xh, hx_skip → xi, hx_ret → xt, hx_exit → xe, seqQ_n → qn, seqQ_ret → qr, seqQ_exit → qe, blockQ_n → bn, blockQ_ret → br, blockQ_here → bh, hv_move → vm, hv_assign → va, hv_arith → vr, hv_load → vl, hv_loads → vL, hv_extract → vx, hv_field → vf, hv_build → vb, hv_index → vi, hp_pure → pp, hp_read → pr, has_cons → hc, has_nil → hn, hcells_cons → cc, hcells_nil → cn, rowcell → rc, hs_call → sc
set_option maxRecDepth 100000
set_option maxHeartbeats 4000000
theorem TyTF.agg3 : aggB Try.prog 3 = some false := by kernel_rfl
theorem TyTF.agg31 : aggB Try.prog 31 = some false := by kernel_rfl
theorem TyTF.agg32 : aggB Try.prog 32 = some false := by kernel_rfl
theorem TyTF.agg34 : aggB Try.prog 34 = some true := by kernel_rfl
theorem TyTF.agg36 : aggB Try.prog 36 = some true := by kernel_rfl
theorem TyTF.agg43 : aggB Try.prog 43 = some true := by kernel_rfl
theorem TyTF.agg5 : aggB Try.prog 5 = some false := by kernel_rfl
theorem TyTF.agg53 : aggB Try.prog 53 = some false := by kernel_rfl
theorem TyTF.agg9 : aggB Try.prog 9 = some false := by kernel_rfl
theorem TyTF.cb10 : CallB Try.prog 10 := fun _ _ => Try.call10 _ _
theorem TyTF.cb11 : CallB Try.prog 11 := fun _ _ => Try.call11 _ _
theorem TyTF.cb13 : CallB Try.prog 13 := fun _ _ => Try.call13 _ _
theorem TyTF.cb15 : CallB Try.prog 15 := fun _ _ => Try.call15 _ _
theorem TyTF.cb16 : CallB Try.prog 16 := fun _ _ => Try.call16 _ _
theorem TyTF.cb17 : CallB Try.prog 17 := fun _ _ => Try.call17 _ _
theorem TyTF.cb18 : CallB Try.prog 18 := fun _ _ => Try.call18 _ _
theorem TyTF.cb19 : CallB Try.prog 19 := fun _ _ => Try.call19 _ _
theorem TyTF.cb20 : CallB Try.prog 20 := fun _ _ => Try.call20 _ _
theorem TyTF.cb21 : CallB Try.prog 21 := fun _ _ => Try.call21 _ _
theorem TyTF.cb22 : CallB Try.prog 22 := fun _ _ => Try.call22 _ _
theorem TyTF.cb23 : CallB Try.prog 23 := fun _ _ => Try.call23 _ _
theorem TyTF.cb24 : CallB Try.prog 24 := fun _ _ => Try.call24 _ _
theorem TyTF.cb28 : CallB Try.prog 28 := fun _ _ => Try.call28 _ _
theorem TyTF.cb29 : CallB Try.prog 29 := fun _ _ => Try.call29 _ _
theorem TyTF.cb31 : CallB Try.prog 31 := fun _ _ => Try.call31 _ _
theorem TyTF.cb32 : CallB Try.prog 32 := fun _ _ => Try.call32 _ _
theorem TyTF.cb38 : CallB Try.prog 38 := fun _ _ => Try.call38 _ _
theorem TyTF.cb47 : CallB Try.prog 47 := fun _ _ => Try.call47 _ _
theorem TyTF.cb48 : CallB Try.prog 48 := fun _ _ => Try.call48 _ _
theorem TyTF.cb9 : CallB Try.prog 9 := fun _ _ => Try.call9 _ _
theorem TyTF.el22 : elB Try.prog 22 = some 2 := by kernel_rfl
theorem TyTF.el32 : elB Try.prog 32 = some 4 := by kernel_rfl
theorem TyTF.el38 : elB Try.prog 38 = some 1 := by kernel_rfl
theorem TyTF.el39 : elB Try.prog 39 = some 2 := by kernel_rfl
theorem TyTF.el46 : elB Try.prog 46 = some 1 := by kernel_rfl
theorem TyTF.el53 : elB Try.prog 53 = some 1 := by kernel_rfl
theorem TyTF.el82 : elB Try.prog 82 = some 1 := by kernel_rfl
theorem TyTF.fld34_0 : fldB Try.prog 34 0 = some 0 := by kernel_rfl
theorem TyTF.fld34_1 : fldB Try.prog 34 1 = some 1 := by kernel_rfl
theorem TyTF.fld36_0 : fldB Try.prog 36 0 = some 0 := by kernel_rfl
theorem TyTF.fld36_2 : fldB Try.prog 36 2 = some 2 := by kernel_rfl
theorem TyTF.fld36_3 : fldB Try.prog 36 3 = some 3 := by kernel_rfl
theorem TyTF.fld56_2 : fldB Try.prog 56 2 = some 2 := by kernel_rfl
theorem TyTF.mixed : Try.prog.follows .mixedOrders = true := by kernel_rfl
theorem TyTF.pl34 : plB Try.prog 34 = some [(0, 1), (1, 1)] := by kernel_rfl
theorem TyTF.pl43 : plB Try.prog 43 = some [(0, 1), (1, 1)] := by kernel_rfl
theorem TyTF.sz34 : szB Try.prog 34 = some 2 := by kernel_rfl
theorem TyTF.sz36 : szB Try.prog 36 = some 4 := by kernel_rfl
theorem TyTF.sz43 : szB Try.prog 43 = some 2 := by kernel_rfl
theorem TyTF.sz47 : szB Try.prog 47 = some 1 := by kernel_rfl
theorem TyTF.sz50 : szB Try.prog 50 = some 1 := by kernel_rfl
theorem TyTF.u22 : Try.prog.underlying 22 = some (.slice 34) := by kernel_rfl
theorem TyTF.u32 : Try.prog.underlying 32 = some (.slice 36) := by kernel_rfl
theorem TyTF.u38 : Try.prog.underlying 38 = some (.slice 3) := by kernel_rfl
theorem TyTF.u39 : Try.prog.underlying 39 = some (.slice 43) := by kernel_rfl
theorem TyTF.u4 : Try.prog.underlying 4 = some (.bool) := by kernel_rfl
theorem TyTF.u46 : Try.prog.underlying 46 = some (.slice 32) := by kernel_rfl
theorem TyTF.u53 : Try.prog.underlying 53 = some (.slice 5) := by kernel_rfl
theorem TyTF.u57 : Try.prog.underlying 57 = some (.slice 47) := by kernel_rfl
theorem TyTF.u58 : Try.prog.underlying 58 = some (.slice 50) := by kernel_rfl
theorem TyTF.u82 : Try.prog.underlying 82 = some (.slice 9) := by kernel_rfl
theorem TyTF.u9 : Try.prog.underlying 9 = some (.string) := by kernel_rfl
theorem TyTF.u92 : Try.prog.underlying 92 = some (.map 9 36) := by kernel_rfl
theorem TyTF.up47 : Try.prog.underlying 47 = some (.pointer 80) := by kernel_rfl
theorem TyTF.up50 : Try.prog.underlying 50 = some (.pointer 56) := by kernel_rfl
theorem TyTF.z34 : zeroB Try.prog 34 (.agg #[(.int .u64 0), (.slice none 0 0)]) := by unfold zeroB; kernel_rfl
theorem TyTF.z36 : zeroB Try.prog 36 (.agg #[(.int .i64 0), (.int .u64 0), (.string ByteArray.empty), (.string ByteArray.empty)]) := by unfold zeroB; kernel_rfl
theorem TyTF.z43 : zeroB Try.prog 43 (.agg #[(.string ByteArray.empty), (.string ByteArray.empty)]) := by unfold zeroB; kernel_rfl
theorem TyTF.z47 : zeroB Try.prog 47 (.pointer none) := by unfold zeroB; kernel_rfl
theorem TyTF.z50 : zeroB Try.prog 50 (.pointer none) := by unfold zeroB; kernel_rfl
theorem ext_pushed_f7_sh {h h1 : Heap} {o : Obj} (e : h1 = Array.push h o) : Ext h h1 := by rw [e]; exact Ext.push _ _
theorem f28_sh (l : Option Addr) (a7 : Nat) (b8 : Nat) (b3 : Int) (b2 : Int) (a6 : Int) (h : Heap) (R : Value → Heap → Prop)
  (H : HC Try.prog 32 #[(.int .i64 b2), (.int .i64 a6)] h (fun vv h1 => Ext h h1 ∧ ∃ r0 : Option Addr, ∃ r1 : Int, vv = (.tuple #[(.pointer r0), (.int .i64 r1)]) ∧ (((r1 != 0) = true → R (.tuple #[(.slice none 0 0), (.int .i64 r1)]) h1) ∧ ((r1 != 0) = false → (∃ (I3 : Option Addr → Nat → Nat → Int → Heap → Prop) (c5 : Option Addr → Nat → Nat → Int → Heap → Nat), I3 none 0 0 0 h1 ∧ (∀ (b6 : Option Addr) (a8 : Nat) (a9 : Nat) (v : Int) (h2 : Heap), I3 b6 a8 a9 v h2 → (((decide (v < (a7 : Int))) = true → (∃ c1 : Option Addr → Nat → Nat → Heap → Prop, (∃ b4 b5 : Nat, l = some ⟨b4, b5, none⟩ ∧ (0 : Int) ≤ v ∧ v < (a7 : Int) ∧ (∃ a0 : Int, ∃ a3 : Option Addr, ∃ a1 a2 : Nat, hcell h2 b4 (b5 + (Int.toNat v) * 2) = some (.int .u64 a0) ∧ hcell h2 b4 ((b5 + (Int.toNat v) * 2) + 1) = some (.slice a3 a1 a2) ∧ ((0 : Int) ≤ b3 ∧ b3 < (a7 : Int) ∧ (∃ x : Int, hcell h2 b4 (b5 + (Int.toNat b3) * 2) = some (.int .u64 x) ∧ (((decide (a0 < x)) = true → (∀ (h5 : Heap), Ext h2 h5 → HC Try.prog 17 #[(.int .i64 b2), (.int .i64 a6), (.slice a3 a1 a2)] h5 (fun vv h6 => Ext h5 h6 ∧ ∃ b1 : Option Addr, ∃ b7 : Int, vv = (.tuple #[(.pointer b1), (.int .i64 b7)]) ∧ (∀ nb h7, nb = Array.size h6 → h7 = Array.push h6 (.cells #[(.pointer b1)] 47) → HAppend Try.prog 57 57 (.slice b6 a8 a9) (.slice (some ⟨nb, 0, none⟩) 1 1) h7 (fun vv h8 => ∃ ap : Option Addr, ∃ c0 b9 : Nat, vv = (.slice ap c0 b9) ∧ (c1 ap c0 b9 h8)))))) ∧ ((decide (a0 < x)) = false → (∀ (h5 : Heap), Ext h2 h5 → (c1 b6 a8 a9 h5)))))))) ∧ (∀ (b0 : Option Addr) (a5 : Nat) (a4 : Nat) (h3 : Heap), c1 b0 a5 a4 h3 → (I3 b0 a5 a4 (IntKind.i64.wrap (v + 1)) h3 ∧ c5 b0 a5 a4 (IntKind.i64.wrap (v + 1)) h3 < c5 b6 a8 a9 v h2)))) ∧ ((decide (v < (a7 : Int))) = false → R (.tuple #[(.slice b6 a8 a9), (.int .i64 0)]) h2)))))))) :
  HC Try.prog 28 #[(.slice l a7 b8), (.int .i64 b3), (.int .i64 b2), (.int .i64 a6)] h R := by
 refine hc_of (args := [(.slice l a7 b8), (.int .i64 b3), (.int .i64 b2), (.int .i64 a6)]) Try.func28 rfl Try.ntmps28 (Nat.le_of_ble_eq_true rfl) ?_
 refine xs (xr ?_)
 refine lv rfl rfl (va rfl) (lv rfl rfl (va rfl) ?_)
 refine ln (qn (xs (xs (xr ?_))))
 refine lv rfl rfl (vm rfl) (lv rfl rfl (vm rfl) ?_)
 refine lp rfl rfl (sc TyTF.cb32 rfl (HC.mono H ?_))
 rintro _ h1 ⟨f2, r0, r1, rfl, H⟩
 refine lv rfl rfl (vm rfl) (lv rfl rfl (vx rfl rfl) (lv rfl rfl (vx rfl rfl) (lv rfl rfl (va rfl) (lv rfl rfl (va rfl) ?_))))
 refine ln (qn (xs (xr ?_)))
 refine lv rfl rfl (vm rfl) (lv rfl rfl (vr rfl rfl rfl) ?_)
 refine ln (qn ?_)
 refine xc (b := r1 != 0) rfl (fun c8 => ?_) (fun c8 => ?_)
 ·replace H := H.1 c8
  refine xs (xr ?_)
  refine lv rfl rfl (vm rfl) (lv rfl rfl (va rfl) (lv rfl rfl (va rfl) ?_))
  refine ln (qn (xt (qr ?_)))
  exact endQ_ret _ (res_two Try.results28 (rv_tmp rfl) (rv_tmp rfl)) H
 ·replace H := H.2 c8
  refine xi (qn (xs (xr ?_)))
  refine lv rfl rfl (va rfl) ?_
  refine ln (qn (xs (xs (xr ?_))))
  refine lv rfl rfl (vm rfl) (lv rfl rfl (v := (.int .i64 (a7 : Int))) (hv_len (n := a7) TyTF.u22 rfl) (lv rfl rfl (vm rfl) ?_))
  refine ln (qn (xb ?_))
  obtain ⟨I3, c5, e7, e9⟩ := H
  refine xl (σ := Option Addr × Nat × Nat × Int) (fun s => [(0, (.slice l a7 b8)), (1, (.int .i64 b3)), (2, (.int .i64 b2)), (3, (.int .i64 a6)), (12, (.slice s.1 s.2.1 s.2.2.1)), (26, (.slice l a7 b8)), (27, (.int .i64 (a7 : Int))), (28, (.int .i64 s.2.2.2))]) (fun s h' => I3 s.1 s.2.1 s.2.2.1 s.2.2.2 h' ∧ True) (fun s h' => c5 s.1 s.2.1 s.2.2.1 s.2.2.2 h') (none, 0, 0, 0) ⟨e7, trivial⟩ (hc rfl (hc rfl (hc rfl (hc rfl (hc rfl (hc rfl (hc rfl (hc rfl hn)))))))) ?_
  rintro ⟨b6, a8, a9, v⟩ ρ h2 ⟨e6, -⟩
  have H := e9 b6 a8 a9 v h2 e6
  refine xs (xr ?_)
  refine lv rfl rfl (vr rfl rfl rfl) ?_
  refine ln (qn (xs ?_))
  refine xc (b := decide (v < (a7 : Int))) rfl (fun d3 => ?_) (fun d3 => ?_)
  ·replace H := H.1 d3
   refine xi (qn ?_)
   obtain ⟨c1, d0, c4⟩ := H
   refine xk (fun ρ h' => ∃ b0 : Option Addr, ∃ a5 a4 : Nat, (c1 b0 a5 a4 h' ∧ True) ∧ Has ρ [(0, (.slice l a7 b8)), (1, (.int .i64 b3)), (2, (.int .i64 b2)), (3, (.int .i64 a6)), (12, (.slice b0 a5 a4)), (26, (.slice l a7 b8)), (27, (.int .i64 (a7 : Int))), (28, (.int .i64 v))]) ?_ ?_
   ·have H := d0; clear d0 c4
    refine xb (xs (xr ?_))
    obtain ⟨b4, b5, e8, d8, e1, Hq⟩ := H
    subst e8
    have H := Hq; clear Hq
    refine lv rfl rfl (v := (ptr b4 (b5 + (Int.toNat v) * 2))) (vi TyTF.el22 rfl rfl d8 e1) ?_
    obtain ⟨a0, a3, a1, a2, e0, e2, H⟩ := H
    refine lv rfl rfl (vL (vs := [(.int .u64 a0), (.slice a3 a1 a2)]) TyTF.agg34 TyTF.sz34 rfl (cc e0 (cc e2 cn))) ?_
    refine lp rfl rfl (hn_alloc TyTF.z34 ?_)
    intro sv h4 c7 d2
    have e5 := ext_pushed_f7_sh d2
    have d5 : Array.size h2 ≤ sv := Nat.le_of_eq (Eq.symm c7)
    have d1 : h4[sv]? = some (.cells #[(.int .u64 0), (.slice none 0 0)] 34 (0, 0)) := by rw [d2]; exact push_new c7
    refine lp rfl rfl (hn_stores (vs := [(.int .u64 a0), (.slice a3 a1 a2)]) rfl rfl TyTF.sz34 rfl (HWs_row d1 (by simp)) ?_)
    intro h5 d4
    have c6 : h5[sv]? = some (.cells #[(.int .u64 a0), (.slice a3 a1 a2)] 34 (0, 0)) := row_hsets_eq d4 d1 rfl
    have c3 := ext_hsets d4 e5 d5
    refine ln (qn (xs ?_))
    refine hx_draw TyTF.mixed [.pure, .read, .pure, .pure, .pure, .pure, .read, .pure] [0, 1, 2, 3, 4, 5, 6, 7] (by kernel_rfl) ?_
    refine pp (i := 0) rfl (wanted_0 rfl) rfl (ptr sv 0) (fun _ => vf TyTF.fld34_0 (b := sv) (o := 0) rfl) ?_
    refine pr (i := 1) rfl (wanted_0 rfl) rfl (.int .u64 a0) (fun _ he => vl TyTF.agg31 rfl (Ext.cell he (rc c6 rfl))) ?_
    refine pp (i := 2) rfl (wanted_0 rfl) rfl (.slice (some ⟨b4, b5, none⟩) a7 b8) (fun _ => vm rfl) ?_
    refine pp (i := 3) rfl (wanted_0 rfl) rfl (.int .i64 b3) (fun _ => vm rfl) ?_
    obtain ⟨d7, d6, H⟩ := H
    refine pp (i := 4) rfl (wanted_0 rfl) rfl (ptr b4 (b5 + (Int.toNat b3) * 2)) (fun _ => vi TyTF.el22 rfl rfl d7 d6) ?_
    refine pp (i := 5) rfl (wanted_0 rfl) rfl (ptr b4 (b5 + (Int.toNat b3) * 2)) (fun _ => vf TyTF.fld34_0 (b := b4) (o := b5 + (Int.toNat b3) * 2) rfl) ?_
    obtain ⟨x, e4, H⟩ := H
    refine pr (i := 6) rfl (wanted_0 rfl) rfl (.int .u64 x) (fun _ he => vl TyTF.agg31 rfl (Ext.cell he (Ext.cell c3 e4))) ?_
    refine pp (i := 7) rfl (wanted_0 rfl) rfl (.bool (decide (a0 < x))) (fun _ => vr rfl rfl rfl) ?_
    refine hp_nil ?_
    refine qn ?_
    refine xc (b := decide (a0 < x)) rfl (fun c2 => ?_) (fun c2 => ?_)
    ·replace H := H.1 c2
     refine xs (xr ?_)
     refine lv rfl rfl (vm rfl) (lv rfl rfl (vm rfl) (lv rfl rfl (v := (ptr sv 1)) (vf TyTF.fld34_1 (b := sv) (o := 0) rfl) (lv rfl rfl (vl TyTF.agg32 rfl (rc c6 rfl)) ?_)))
     replace H := H h5 c3
     refine lp rfl rfl (sc TyTF.cb17 rfl (HC.mono H ?_))
     rintro _ h6 ⟨f0, b1, b7, rfl, H⟩
     refine lv rfl rfl (vm rfl) (lv rfl rfl (vx rfl rfl) (lv rfl rfl (vx rfl rfl) (lv rfl rfl (va rfl) (lv rfl rfl (va rfl) ?_))))
     refine ln (qn (xr ?_))
     refine lv rfl rfl (vm rfl) (lv rfl rfl (vm rfl) ?_)
     refine lp rfl rfl (hn_buildSlice (n := 1) (vs := [(0, (.pointer b1))]) (cs := #[(.pointer b1)]) TyTF.u57 TyTF.sz47 TyTF.z47 rfl rfl (by kernel_rfl) ?_)
     intro nb h7 e3 c9
     replace H := H nb h7 e3 c9
     have f1 := ext_pushed_f7_sh c9
     refine lp rfl rfl (hs_append rfl rfl (HAppend.mono H ?_))
     rintro _ h8 ⟨ap, c0, b9, rfl, H⟩
     refine lv rfl rfl (va rfl) ?_
     refine ln (bn (qn ?_))
     exact ⟨_, _, _, ⟨H, trivial⟩, (hc rfl (hc rfl (hc rfl (hc rfl (hc rfl (hc rfl (hc rfl (hc rfl hn))))))))⟩
    ·replace H := H.2 c2
     refine xi (bn ?_)
     replace H := H h5 c3
     refine qn ?_
     exact ⟨_, _, _, ⟨H, trivial⟩, (hc rfl (hc rfl (hc rfl (hc rfl (hc rfl (hc rfl (hc rfl (hc rfl hn))))))))⟩
   ·rintro ρ h3 ⟨b0, a5, a4, ⟨d9, -⟩, hH⟩
    have H := c4 b0 a5 a4 h3 d9; clear d0 c4
    refine xh _ hH ?_
    refine xr ?_
    refine lv rfl rfl (vr rfl rfl rfl) (lv rfl rfl (vm rfl) ?_)
    refine ln (qn ?_)
    exact ⟨(b0, a5, a4, IntKind.i64.wrap (v + 1)), ⟨⟨H.1, trivial⟩, H.2⟩, (hc rfl (hc rfl (hc rfl (hc rfl (hc rfl (hc rfl (hc rfl (hc rfl hn))))))))⟩
  ·replace H := H.2 d3
   refine xe (qe (qe (bh (qn (xs (xr ?_))))))
   refine lv rfl rfl (vm rfl) (lv rfl rfl (va rfl) (lv rfl rfl (va rfl) ?_))
   refine ln (qn (xt ?_))
   exact endQ_ret _ (res_two Try.results28 (rv_tmp rfl) (rv_tmp rfl)) H
theorem f13_sh (l : Option Addr) (a5 : Nat) (b6 : Nat) (a2 : Int) (c8 : Int) (c0 : Int) (h : Heap) (R : Value → Heap → Prop)
  (H : HC Try.prog 10 #[(.slice l a5 b6)] h (fun vv h1 => Ext h h1 ∧ ∃ r : Int, vv = (.int .i64 r) ∧ (((r != 0) = true → R (.tuple #[(.slice none 0 0), (.int .i64 r)]) h1) ∧ ((r != 0) = false → ((((decide (a2 < 0)) || (decide (a2 ≥ (a5 : Int)))) = true → R (.tuple #[(.slice none 0 0), (.int .i64 1)]) h1) ∧ (((decide (a2 < 0)) || (decide (a2 ≥ (a5 : Int)))) = false → HC Try.prog 28 #[(.slice l a5 b6), (.int .i64 a2), (.int .i64 c8), (.int .i64 c0)] h1 (fun vv h2 => Ext h1 h2 ∧ ∃ r0 : Option Addr, ∃ b8 b9 : Nat, ∃ r1 : Int, vv = (.tuple #[(.slice r0 b8 b9), (.int .i64 r1)]) ∧ (((r1 != 0) = true → R (.tuple #[(.slice none 0 0), (.int .i64 r1)]) h2) ∧ ((r1 != 0) = false → (∃ c3 c4 : Nat, l = some ⟨c3, c4, none⟩ ∧ (0 : Int) ≤ a2 ∧ a2 < (a5 : Int) ∧ (∃ x : Option Addr, ∃ d9 d6 : Nat, hcell h2 c3 ((c4 + (Int.toNat a2) * 2) + 1) = some (.slice x d9 d6) ∧ HC Try.prog 21 #[(.slice x d9 d6), (.slice r0 b8 b9)] h2 (fun vv h3 => Ext h2 h3 ∧ ∃ c2 : Option Addr, ∃ b2 c1 : Nat, vv = (.slice c2 b2 c1) ∧ (∃ (d7 : Int → Option Addr → Nat → Nat → Int → Heap → Prop) (d3 : Int → Option Addr → Nat → Nat → Int → Heap → Nat), d7 0 none 0 0 0 h3 ∧ (∀ (a1 : Int) (c5 : Option Addr) (b0 : Nat) (b1 : Nat) (v : Int) (h4 : Heap), d7 a1 c5 b0 b1 v h4 → (((decide (v < (a5 : Int))) = true → (∃ e0 : Int → Option Addr → Nat → Nat → Heap → Prop, ((0 : Int) ≤ v ∧ v < (a5 : Int) ∧ (∃ a0 : Int, ∃ a7 : Option Addr, ∃ a3 a4 : Nat, hcell h4 c3 (c4 + (Int.toNat v) * 2) = some (.int .u64 a0) ∧ hcell h4 c3 ((c4 + (Int.toNat v) * 2) + 1) = some (.slice a7 a3 a4) ∧ (((v != a2) = true → (∃ e1 : Heap → Heap → Prop, Fit e1 ∧ (∀ (sv : Nat) (h7 : Heap), Array.size h4 ≤ sv → sv < Array.size h7 → Ext h4 h7 → ((∀ hx, e1 h7 hx → Kp [sv] h7 hx) ∧ HC Try.prog 29 #[(.slice a7 a3 a4)] h7 (fun vv e2 => e1 h7 e2 ∧ ∃ c9 : Option Addr, ∃ b7 b5 : Nat, vv = (.slice c9 b7 b5) ∧ (∀ d5 d8, d5 = Array.size e2 → d8 = Array.push e2 (.cells #[(.int .u64 a0), (.slice c9 b7 b5)] 34) → HAppend Try.prog 22 22 (.slice c5 b0 b1) (.slice (some ⟨d5, 0, none⟩) 1 1) d8 (fun vv g1 => ∃ d1 : Option Addr, ∃ c7 c6 : Nat, vv = (.slice d1 c7 c6) ∧ (e0 (if a0 > a1 then a0 else a1) d1 c7 c6 g1)))))))) ∧ ((v != a2) = false → (∀ (h7 : Heap), Ext h4 h7 → (e0 (if a0 > a1 then a0 else a1) c5 b0 b1 h7)))))) ∧ (∀ (a6 : Int) (b3 : Option Addr) (a9 : Nat) (a8 : Nat) (h5 : Heap), e0 a6 b3 a9 a8 h5 → (d7 a6 b3 a9 a8 (IntKind.i64.wrap (v + 1)) h5 ∧ d3 a6 b3 a9 a8 (IntKind.i64.wrap (v + 1)) h5 < d3 a1 c5 b0 b1 v h4)))) ∧ ((decide (v < (a5 : Int))) = false → ((((b2 : Int) == 0) = true → R (.tuple #[(.slice c5 b0 b1), (.int .i64 0)]) h4) ∧ (((b2 : Int) == 0) = false → (((a1 == 18446744073709551615) = true → R (.tuple #[(.slice none 0 0), (.int .i64 3)]) h4) ∧ ((a1 == 18446744073709551615) = false → (∀ nb e3, nb = Array.size h4 → e3 = Array.push h4 (.cells #[(.int .u64 (IntKind.u64.wrap (a1 + 1))), (.slice c2 b2 c1)] 34) → HAppend Try.prog 22 22 (.slice c5 b0 b1) (.slice (some ⟨nb, 0, none⟩) 1 1) e3 (fun vv g2 => ∃ ap : Option Addr, ∃ d4 d2 : Nat, vv = (.slice ap d4 d2) ∧ R (.tuple #[(.slice ap d4 d2), (.int .i64 0)]) g2)))))))))))))))))))))) :
  HC Try.prog 13 #[(.slice l a5 b6), (.int .i64 a2), (.int .i64 c8), (.int .i64 c0)] h R := by
 refine hc_of (args := [(.slice l a5 b6), (.int .i64 a2), (.int .i64 c8), (.int .i64 c0)]) Try.func13 rfl Try.ntmps13 (Nat.le_of_ble_eq_true rfl) ?_
 refine xs (xr ?_)
 refine lv rfl rfl (va rfl) (lv rfl rfl (va rfl) ?_)
 refine ln (qn (xs (xs (xr ?_))))
 refine lv rfl rfl (vm rfl) ?_
 refine lp rfl rfl (sc TyTF.cb10 rfl (HC.mono H ?_))
 rintro _ h1 ⟨j5, r, rfl, H⟩
 refine lv rfl rfl (va rfl) ?_
 refine ln (qn (xs (xr ?_)))
 refine lv rfl rfl (vm rfl) (lv rfl rfl (vr rfl rfl rfl) ?_)
 refine ln (qn ?_)
 refine xc (b := r != 0) rfl (fun f0 => ?_) (fun f0 => ?_)
 ·replace H := H.1 f0
  refine xs (xr ?_)
  refine lv rfl rfl (vm rfl) (lv rfl rfl (va rfl) (lv rfl rfl (va rfl) ?_))
  refine ln (qn (xt (qr ?_)))
  exact endQ_ret _ (res_two Try.results13 (rv_tmp rfl) (rv_tmp rfl)) H
 ·replace H := H.2 f0
  refine xi (qn (xs ?_))
  refine xk (fun ρ h' => h1 = h' ∧ Has ρ [(0, (.slice l a5 b6)), (1, (.int .i64 a2)), (2, (.int .i64 c8)), (3, (.int .i64 c0)), (30, (.bool ((decide (a2 < 0)) || (decide (a2 ≥ (a5 : Int))))))]) ?_ ?_
  ·refine xr ?_
   refine lv rfl rfl (vm rfl) (lv rfl rfl (vr rfl rfl rfl) (lv rfl rfl (vm rfl) ?_))
   rcases bool_or (decide (a2 < 0)) with b4 | b4
   ·refine lo (wanted_n rfl rfl rfl b4) rfl ?_
    refine lo (wanted_n rfl rfl rfl b4) rfl ?_
    refine lo (wanted_n rfl rfl rfl b4) rfl ?_
    refine lo (wanted_n rfl rfl rfl b4) rfl ?_
    refine lv rfl rfl (v := (.bool true)) (hv_pick_t rfl b4 rfl) ?_
    refine ln (qn ?_)
    exact ⟨rfl, (hc rfl (hc rfl (hc rfl (hc rfl (hc (show ((.bool true) : Value) = (.bool ((decide (a2 < 0)) || (decide (a2 ≥ (a5 : Int))))) from (by first | rfl | ((try rw [b4]); all_goals first | rfl | (simp only [Bool.true_or, Bool.or_true, Bool.false_or, Bool.or_false, Bool.true_and, Bool.and_true, Bool.false_and, Bool.and_false, Bool.not_true, Bool.not_false, Bool.cond_true, Bool.cond_false]; done)) | simp [b4])) hn)))))⟩
   ·refine ly (wanted_y rfl rfl rfl b4) rfl (HStep.of_val (v := (.int .i64 a2)) (vm rfl) ?_)
    refine ly (wanted_y rfl rfl rfl b4) rfl (HStep.of_val (v := (.slice l a5 b6)) (vm rfl) ?_)
    refine ly (wanted_y rfl rfl rfl b4) rfl (HStep.of_val (v := (.int .i64 (a5 : Int))) (hv_len (n := a5) TyTF.u22 rfl) ?_)
    refine ly (wanted_y rfl rfl rfl b4) rfl (HStep.of_val (v := (.bool (decide (a2 ≥ (a5 : Int))))) (vr rfl rfl rfl) ?_)
    refine lv rfl rfl (v := (.bool (decide (a2 ≥ (a5 : Int))))) (hv_pick_f rfl b4 rfl) ?_
    refine ln (qn ?_)
    exact ⟨rfl, (hc rfl (hc rfl (hc rfl (hc rfl (hc (show ((.bool (decide (a2 ≥ (a5 : Int)))) : Value) = (.bool ((decide (a2 < 0)) || (decide (a2 ≥ (a5 : Int))))) from (by first | rfl | ((try rw [b4]); all_goals first | rfl | (simp only [Bool.true_or, Bool.or_true, Bool.false_or, Bool.or_false, Bool.true_and, Bool.and_true, Bool.false_and, Bool.and_false, Bool.not_true, Bool.not_false, Bool.cond_true, Bool.cond_false]; done)) | simp [b4])) hn)))))⟩
  ·rintro ρ _ ⟨rfl, hH⟩
   refine xh _ hH ?_
   refine xc (b := ((decide (a2 < 0)) || (decide (a2 ≥ (a5 : Int))))) rfl (fun f4 => ?_) (fun f4 => ?_)
   ·replace H := H.1 f4
    refine xs (xr ?_)
    refine lv rfl rfl (va rfl) (lv rfl rfl (va rfl) ?_)
    refine ln (qn (xt (qr ?_)))
    exact endQ_ret _ (res_two Try.results13 (rv_tmp rfl) (rv_tmp rfl)) H
   ·replace H := H.2 f4
    refine xi (qn (xs (xr ?_)))
    refine lv rfl rfl (vm rfl) (lv rfl rfl (vm rfl) (lv rfl rfl (vm rfl) (lv rfl rfl (vm rfl) ?_)))
    refine lp rfl rfl (sc TyTF.cb28 rfl (HC.mono H ?_))
    rintro _ h2 ⟨j4, r0, b8, b9, r1, rfl, H⟩
    refine lv rfl rfl (vm rfl) (lv rfl rfl (vx rfl rfl) (lv rfl rfl (vx rfl rfl) (lv rfl rfl (va rfl) (lv rfl rfl (va rfl) ?_))))
    refine ln (qn (xs (xs (xr ?_))))
    refine lv rfl rfl (vm rfl) (lv rfl rfl (vr rfl rfl rfl) ?_)
    refine ln (qn ?_)
    refine xc (b := r1 != 0) rfl (fun f9 => ?_) (fun f9 => ?_)
    ·replace H := H.1 f9
     refine xs (xr ?_)
     refine lv rfl rfl (vm rfl) (lv rfl rfl (va rfl) (lv rfl rfl (va rfl) ?_))
     refine ln (qn (xt (qr ?_)))
     exact endQ_ret _ (res_two Try.results13 (rv_tmp rfl) (rv_tmp rfl)) H
    ·replace H := H.2 f9
     refine xi (qn (xs (xr ?_)))
     refine lv rfl rfl (vm rfl) (lv rfl rfl (vm rfl) ?_)
     obtain ⟨c3, c4, j1, j0, i9, Hq⟩ := H
     subst j1
     have H := Hq; clear Hq
     refine lv rfl rfl (v := (ptr c3 (c4 + (Int.toNat a2) * 2))) (vi TyTF.el22 rfl rfl j0 i9) (lv rfl rfl (v := (ptr c3 ((c4 + (Int.toNat a2) * 2) + 1))) (vf TyTF.fld34_1 (b := c3) (o := c4 + (Int.toNat a2) * 2) rfl) ?_)
     obtain ⟨x, d9, d6, g6, H⟩ := H
     refine lv rfl rfl (vl TyTF.agg32 rfl g6) (lv rfl rfl (vm rfl) ?_)
     refine lp rfl rfl (sc TyTF.cb21 rfl (HC.mono H ?_))
     rintro _ h3 ⟨j3, c2, b2, c1, rfl, H⟩
     refine lv rfl rfl (va rfl) ?_
     refine ln (qn (xs (xr ?_)))
     refine lv rfl rfl (va rfl) ?_
     refine ln (qn (xs (xr ?_)))
     refine lv rfl rfl (va rfl) ?_
     refine ln (qn (xs (xs (xr ?_))))
     refine lv rfl rfl (vm rfl) (lv rfl rfl (v := (.int .i64 (a5 : Int))) (hv_len (n := a5) TyTF.u22 rfl) (lv rfl rfl (vm rfl) ?_))
     refine ln (qn (xb ?_))
     obtain ⟨d7, d3, g4, g9⟩ := H
     refine xl (σ := Int × Option Addr × Nat × Nat × Int) (fun s => [(1, (.int .i64 a2)), (13, (.slice c2 b2 c1)), (14, (.int .u64 s.1)), (15, (.slice s.2.1 s.2.2.1 s.2.2.2.1)), (49, (.slice (some ⟨c3, c4, none⟩) a5 b6)), (50, (.int .i64 (a5 : Int))), (51, (.int .i64 s.2.2.2.2))]) (fun s h' => d7 s.1 s.2.1 s.2.2.1 s.2.2.2.1 s.2.2.2.2 h' ∧ True) (fun s h' => d3 s.1 s.2.1 s.2.2.1 s.2.2.2.1 s.2.2.2.2 h') (0, none, 0, 0, 0) ⟨g4, trivial⟩ (hc rfl (hc rfl (hc rfl (hc rfl (hc rfl (hc rfl (hc rfl hn))))))) ?_
     rintro ⟨a1, c5, b0, b1, v⟩ ρ h4 ⟨i8, -⟩
     have H := g9 a1 c5 b0 b1 v h4 i8
     refine xs (xr ?_)
     refine lv rfl rfl (vr rfl rfl rfl) ?_
     refine ln (qn (xs ?_))
     refine xc (b := decide (v < (a5 : Int))) rfl (fun e5 => ?_) (fun e5 => ?_)
     ·replace H := H.1 e5
      refine xi (qn ?_)
      obtain ⟨e0, e6, e4⟩ := H
      refine xk (fun ρ h' => ∃ a6 : Int, ∃ b3 : Option Addr, ∃ a9 a8 : Nat, (e0 a6 b3 a9 a8 h' ∧ True) ∧ Has ρ [(1, (.int .i64 a2)), (13, (.slice c2 b2 c1)), (14, (.int .u64 a6)), (15, (.slice b3 a9 a8)), (49, (.slice (some ⟨c3, c4, none⟩) a5 b6)), (50, (.int .i64 (a5 : Int))), (51, (.int .i64 v))]) ?_ ?_
      ·have H := e6; clear e6 e4
       refine xb (xs (xr ?_))
       refine lv rfl rfl (vm rfl) ?_
       obtain ⟨g5, g8, H⟩ := H
       refine lv rfl rfl (v := (ptr c3 (c4 + (Int.toNat v) * 2))) (vi TyTF.el22 rfl rfl g5 g8) ?_
       obtain ⟨a0, a7, a3, a4, i1, i5, H⟩ := H
       refine lv rfl rfl (vL (vs := [(.int .u64 a0), (.slice a7 a3 a4)]) TyTF.agg34 TyTF.sz34 rfl (cc i1 (cc i5 cn))) ?_
       refine lp rfl rfl (hn_alloc TyTF.z34 ?_)
       intro sv h6 f6 f3
       have g7 := ext_pushed_f7_sh f3
       have f8 : Array.size h4 ≤ sv := Nat.le_of_eq (Eq.symm f6)
       have f5 : h6[sv]? = some (.cells #[(.int .u64 0), (.slice none 0 0)] 34 (0, 0)) := by rw [f3]; exact push_new f6
       refine lv rfl rfl (va rfl) ?_
       refine lp rfl rfl (hn_stores (vs := [(.int .u64 a0), (.slice a7 a3 a4)]) rfl rfl TyTF.sz34 rfl (HWs_row f5 (by simp)) ?_)
       intro h7 f1
       have d0 : h7[sv]? = some (.cells #[(.int .u64 a0), (.slice a7 a3 a4)] 34 (0, 0)) := row_hsets_eq f1 f5 rfl
       have f7 := ext_hsets f1 g7 f8
       refine ln (qn (xs (xr ?_)))
       refine lv rfl rfl (vm rfl) (lv rfl rfl (v := (ptr sv 0)) (vf TyTF.fld34_0 (b := sv) (o := 0) rfl) (lv rfl rfl (vl TyTF.agg31 rfl (rc d0 rfl)) (lv rfl rfl (v := (.int .u64 (if a0 > a1 then a0 else a1))) (hv_max rfl rfl) (lv rfl rfl (va rfl) ?_))))
       refine ln (qn (xs (xr ?_)))
       refine lv rfl rfl (vm rfl) (lv rfl rfl (vm rfl) (lv rfl rfl (vr rfl rfl rfl) ?_))
       refine ln (qn ?_)
       refine xc (b := v != a2) rfl (fun e9 => ?_) (fun e9 => ?_)
       ·replace H := H.1 e9
        obtain ⟨e1, i4, H⟩ := H
        refine hx_drawT TyTF.mixed e1 i4 [.pure, .pure, .stay, .pure, .read, .tame, .pure, .ext, .wild, .pure] [0, 1, 2, 3, 4, 5, 6, 7, 8, 9] (by kernel_rfl) ?_
        refine pp (i := 0) rfl (wanted_0 rfl) rfl (.slice c5 b0 b1) (fun _ => vm rfl) ?_
        refine pp (i := 1) rfl (wanted_0 rfl) rfl (ptr sv 0) (fun _ => vf TyTF.fld34_0 (b := sv) (o := 0) rfl) ?_
        replace H := H sv h7 f8 (row_lt d0) f7
        obtain ⟨i2, H⟩ := H
        refine hp_stay (i := 2) rfl (wanted_0 rfl) rfl (.int .u64 a0) (fun _ he => vl TyTF.agg31 rfl ((fun hx he => rc (Kp.row (i2 hx he) (by simp) d0) rfl) _ he)) ?_
        refine pp (i := 3) rfl (wanted_0 rfl) rfl (ptr sv 1) (fun _ => vf TyTF.fld34_1 (b := sv) (o := 0) rfl) ?_
        refine pr (i := 4) rfl (wanted_0 rfl) rfl (.slice a7 a3 a4) (fun _ he => vl TyTF.agg32 rfl (Ext.cell he (rc d0 rfl))) ?_
        refine hp_tame (i := 5) rfl (wanted_0 rfl) rfl (sc TyTF.cb29 rfl (HC.mono H ?_))
        rintro _ e2 ⟨g3, c9, b7, b5, rfl, H⟩
        refine ⟨g3, ?_⟩
        refine pp (i := 6) rfl (wanted_0 rfl) rfl (.agg #[(.int .u64 a0), (.slice c9 b7 b5)]) (fun _ => vb (vs := [(0, (.int .u64 a0)), (1, (.slice c9 b7 b5))]) (cs := #[(.int .u64 a0), (.slice c9 b7 b5)]) TyTF.z34 TyTF.pl34 rfl (by kernel_rfl)) ?_
        refine hp_ext (i := 7) rfl (wanted_0 rfl) rfl (hn_buildSlice (n := 1) (vs := [(0, (.agg #[(.int .u64 a0), (.slice c9 b7 b5)]))]) (cs := #[(.int .u64 a0), (.slice c9 b7 b5)]) TyTF.u22 TyTF.sz34 TyTF.z34 rfl rfl (by kernel_rfl) ?_)
        intro d5 d8 i6 g0
        replace H := H d5 d8 i6 g0
        have i0 := ext_pushed_f7_sh g0
        refine ⟨i0, ?_⟩
        refine hp_wild (i := 8) rfl (wanted_0 rfl) rfl (hs_append rfl rfl (HAppend.mono H ?_))
        rintro _ g1 ⟨d1, c7, c6, rfl, H⟩
        refine pp (i := 9) rfl (wanted_0 rfl) rfl (.slice d1 c7 c6) (fun _ => va rfl) ?_
        refine hp_nil ?_
        refine bn (qn ?_)
        exact ⟨_, _, _, _, ⟨H, trivial⟩, (hc rfl (hc rfl (hc rfl (hc rfl (hc rfl (hc rfl (hc rfl hn)))))))⟩
       ·replace H := H.2 e9
        refine xi (bn ?_)
        replace H := H h7 f7
        refine qn ?_
        exact ⟨_, _, _, _, ⟨H, trivial⟩, (hc rfl (hc rfl (hc rfl (hc rfl (hc rfl (hc rfl (hc rfl hn)))))))⟩
      ·rintro ρ h5 ⟨a6, b3, a9, a8, ⟨i7, -⟩, hH⟩
       have H := e4 a6 b3 a9 a8 h5 i7; clear e6 e4
       refine xh _ hH ?_
       refine xr ?_
       refine lv rfl rfl (vr rfl rfl rfl) (lv rfl rfl (vm rfl) ?_)
       refine ln (qn ?_)
       exact ⟨(a6, b3, a9, a8, IntKind.i64.wrap (v + 1)), ⟨⟨H.1, trivial⟩, H.2⟩, (hc rfl (hc rfl (hc rfl (hc rfl (hc rfl (hc rfl (hc rfl hn)))))))⟩
     ·replace H := H.2 e5
      refine xe (qe (qe (bh (qn (xs (xs (xr ?_)))))))
      refine lv rfl rfl (vm rfl) (lv rfl rfl (v := (.int .i64 (b2 : Int))) (hv_len (n := b2) TyTF.u32 rfl) (lv rfl rfl (vr rfl rfl rfl) ?_))
      refine ln (qn ?_)
      refine xc (b := (b2 : Int) == 0) rfl (fun e8 => ?_) (fun e8 => ?_)
      ·replace H := H.1 e8
       refine xs (xr ?_)
       refine lv rfl rfl (vm rfl) (lv rfl rfl (va rfl) (lv rfl rfl (va rfl) ?_))
       refine ln (qn (xt (qr ?_)))
       exact endQ_ret _ (res_two Try.results13 (rv_tmp rfl) (rv_tmp rfl)) H
      ·replace H := H.2 e8
       refine xi (qn (xs (xs (xr ?_))))
       refine lv rfl rfl (vm rfl) (lv rfl rfl (vr rfl rfl rfl) ?_)
       refine ln (qn ?_)
       refine xc (b := a1 == 18446744073709551615) rfl (fun e7 => ?_) (fun e7 => ?_)
       ·replace H := H.1 e7
        refine xs (xr ?_)
        refine lv rfl rfl (va rfl) (lv rfl rfl (va rfl) ?_)
        refine ln (qn (xt (qr ?_)))
        exact endQ_ret _ (res_two Try.results13 (rv_tmp rfl) (rv_tmp rfl)) H
       ·replace H := H.2 e7
        refine xi (qn (xs (xr ?_)))
        refine lv rfl rfl (vm rfl) (lv rfl rfl (vm rfl) (lv rfl rfl (vr rfl rfl rfl) (lv rfl rfl (vm rfl) (lv rfl rfl (v := (.agg #[(.int .u64 (IntKind.u64.wrap (a1 + 1))), (.slice c2 b2 c1)])) (vb (vs := [(0, (.int .u64 (IntKind.u64.wrap (a1 + 1)))), (1, (.slice c2 b2 c1))]) (cs := #[(.int .u64 (IntKind.u64.wrap (a1 + 1))), (.slice c2 b2 c1)]) TyTF.z34 TyTF.pl34 rfl (by kernel_rfl)) ?_))))
        refine lp rfl rfl (hn_buildSlice (n := 1) (vs := [(0, (.agg #[(.int .u64 (IntKind.u64.wrap (a1 + 1))), (.slice c2 b2 c1)]))]) (cs := #[(.int .u64 (IntKind.u64.wrap (a1 + 1))), (.slice c2 b2 c1)]) TyTF.u22 TyTF.sz34 TyTF.z34 rfl rfl (by kernel_rfl) ?_)
        intro nb e3 i3 f2
        replace H := H nb e3 i3 f2
        have j2 := ext_pushed_f7_sh f2
        refine lp rfl rfl (hs_append rfl rfl (HAppend.mono H ?_))
        rintro _ g2 ⟨ap, d4, d2, rfl, H⟩
        refine lv rfl rfl (va rfl) (lv rfl rfl (va rfl) ?_)
        refine ln (qn (xt ?_))
        exact endQ_ret _ (res_two Try.results13 (rv_tmp rfl) (rv_tmp rfl)) H
theorem f15_sh (l : Option Addr) (b7 : Nat) (b9 : Nat) (h : Heap) (R : Value → Heap → Prop)
  (H : HC Try.prog 31 #[(.slice l b7 b9)] h (fun vv h1 => Ext h h1 ∧ ∃ r : Option Addr, ∃ a9 c2 : Nat, vv = (.slice r a9 c2) ∧ (∃ (I2 : Option Addr → Nat → Nat → Int → Heap → Prop) (c1 : Option Addr → Nat → Nat → Int → Heap → Nat), I2 none 0 0 0 h1 ∧ (∀ (b0 : Option Addr) (a6 : Nat) (a7 : Nat) (v : Int) (h2 : Heap), I2 b0 a6 a7 v h2 → (((decide (v < (a9 : Int))) = true → (∃ b8 : Option Addr → Nat → Nat → Heap → Prop, (∃ b3 b2 : Nat, r = some ⟨b3, b2, none⟩ ∧ (0 : Int) ≤ v ∧ v < (a9 : Int) ∧ (∃ a1 a5 : Int, ∃ a2 a0 : ByteArray, hcell h2 b3 (b2 + (Int.toNat v) * 4) = some (.int .i64 a1) ∧ hcell h2 b3 ((b2 + (Int.toNat v) * 4) + 1) = some (.int .u64 a5) ∧ hcell h2 b3 ((b2 + (Int.toNat v) * 4) + 2) = some (.string a2) ∧ hcell h2 b3 ((b2 + (Int.toNat v) * 4) + 3) = some (.string a0) ∧ (((a1 == 1) = true → (∀ (h5 : Heap), Ext h2 h5 → (∀ nb h6, nb = Array.size h5 → h6 = Array.push h5 (.cells #[(.string a2), (.string a0)] 43) → HAppend Try.prog 39 39 (.slice b0 a6 a7) (.slice (some ⟨nb, 0, none⟩) 1 1) h6 (fun vv h7 => ∃ ap : Option Addr, ∃ b4 b5 : Nat, vv = (.slice ap b4 b5) ∧ (b8 ap b4 b5 h7))))) ∧ ((a1 == 1) = false → (∀ (h5 : Heap), Ext h2 h5 → (b8 b0 a6 a7 h5)))))) ∧ (∀ (a8 : Option Addr) (a4 : Nat) (a3 : Nat) (h3 : Heap), b8 a8 a4 a3 h3 → (I2 a8 a4 a3 (IntKind.i64.wrap (v + 1)) h3 ∧ c1 a8 a4 a3 (IntKind.i64.wrap (v + 1)) h3 < c1 b0 a6 a7 v h2)))) ∧ ((decide (v < (a9 : Int))) = false → R (.slice b0 a6 a7) h2)))))) :
  HC Try.prog 15 #[(.slice l b7 b9)] h R := by
 refine hc_of (args := [(.slice l b7 b9)]) Try.func15 rfl Try.ntmps15 (Nat.le_of_ble_eq_true rfl) ?_
 refine xs (xr ?_)
 refine lv rfl rfl (va rfl) ?_
 refine ln (qn (xs (xr ?_)))
 refine lv rfl rfl (va rfl) ?_
 refine ln (qn (xs (xs (xr ?_))))
 refine lv rfl rfl (vm rfl) ?_
 refine lp rfl rfl (sc TyTF.cb31 rfl (HC.mono H ?_))
 rintro _ h1 ⟨e7, r, a9, c2, rfl, H⟩
 refine lv rfl rfl (v := (.int .i64 (a9 : Int))) (hv_len (n := a9) TyTF.u32 rfl) (lv rfl rfl (vm rfl) ?_)
 refine ln (qn (xb ?_))
 obtain ⟨I2, c1, e2, e5⟩ := H
 refine xl (σ := Option Addr × Nat × Nat × Int) (fun s => [(3, (.slice s.1 s.2.1 s.2.2.1)), (7, (.slice r a9 c2)), (8, (.int .i64 (a9 : Int))), (9, (.int .i64 s.2.2.2))]) (fun s h' => I2 s.1 s.2.1 s.2.2.1 s.2.2.2 h' ∧ True) (fun s h' => c1 s.1 s.2.1 s.2.2.1 s.2.2.2 h') (none, 0, 0, 0) ⟨e2, trivial⟩ (hc rfl (hc rfl (hc rfl (hc rfl hn)))) ?_
 rintro ⟨b0, a6, a7, v⟩ ρ h2 ⟨e4, -⟩
 have H := e5 b0 a6 a7 v h2 e4
 refine xs (xr ?_)
 refine lv rfl rfl (vr rfl rfl rfl) ?_
 refine ln (qn (xs ?_))
 refine xc (b := decide (v < (a9 : Int))) rfl (fun c7 => ?_) (fun c7 => ?_)
 ·replace H := H.1 c7
  refine xi (qn ?_)
  obtain ⟨b8, c4, d0⟩ := H
  refine xk (fun ρ h' => ∃ a8 : Option Addr, ∃ a4 a3 : Nat, (b8 a8 a4 a3 h' ∧ True) ∧ Has ρ [(3, (.slice a8 a4 a3)), (7, (.slice r a9 c2)), (8, (.int .i64 (a9 : Int))), (9, (.int .i64 v))]) ?_ ?_
  ·have H := c4; clear c4 d0
   refine xb (xs (xr ?_))
   obtain ⟨b3, b2, e3, d6, d4, Hq⟩ := H
   subst e3
   have H := Hq; clear Hq
   refine lv rfl rfl (v := (ptr b3 (b2 + (Int.toNat v) * 4))) (vi TyTF.el32 rfl rfl d6 d4) ?_
   obtain ⟨a1, a5, a2, a0, e0, d8, d2, d7, H⟩ := H
   refine lv rfl rfl (vL (vs := [(.int .i64 a1), (.int .u64 a5), (.string a2), (.string a0)]) TyTF.agg36 TyTF.sz36 rfl (cc e0 (cc d8 (cc d2 (cc d7 cn))))) ?_
   refine lp rfl rfl (hn_alloc TyTF.z36 ?_)
   intro b1 h4 c3 c8
   have e1 := ext_pushed_f7_sh c8
   have d9 : Array.size h2 ≤ b1 := Nat.le_of_eq (Eq.symm c3)
   have d1 : h4[b1]? = some (.cells #[(.int .i64 0), (.int .u64 0), (.string ByteArray.empty), (.string ByteArray.empty)] 36 (0, 0)) := by rw [c8]; exact push_new c3
   refine lp rfl rfl (hn_stores (vs := [(.int .i64 a1), (.int .u64 a5), (.string a2), (.string a0)]) rfl rfl TyTF.sz36 rfl (HWs_row d1 (by simp)) ?_)
   intro h5 c5
   have b6 : h5[b1]? = some (.cells #[(.int .i64 a1), (.int .u64 a5), (.string a2), (.string a0)] 36 (0, 0)) := row_hsets_eq c5 d1 rfl
   have c9 := ext_hsets c5 e1 d9
   refine ln (qn (xs (xr ?_)))
   refine lv rfl rfl (v := (ptr b1 0)) (vf TyTF.fld36_0 (b := b1) (o := 0) rfl) (lv rfl rfl (vl TyTF.agg3 rfl (rc b6 rfl)) (lv rfl rfl (vr rfl rfl rfl) ?_))
   refine ln (qn ?_)
   refine xc (b := a1 == 1) rfl (fun c0 => ?_) (fun c0 => ?_)
   ·replace H := H.1 c0
    refine xr ?_
    refine lv rfl rfl (vm rfl) (lv rfl rfl (v := (ptr b1 2)) (vf TyTF.fld36_2 (b := b1) (o := 0) rfl) (lv rfl rfl (vl TyTF.agg9 rfl (rc b6 rfl)) (lv rfl rfl (v := (ptr b1 3)) (vf TyTF.fld36_3 (b := b1) (o := 0) rfl) (lv rfl rfl (vl TyTF.agg9 rfl (rc b6 rfl)) (lv rfl rfl (v := (.agg #[(.string a2), (.string a0)])) (vb (vs := [(0, (.string a2)), (1, (.string a0))]) (cs := #[(.string a2), (.string a0)]) TyTF.z43 TyTF.pl43 rfl (by kernel_rfl)) ?_)))))
    replace H := H h5 c9
    refine lp rfl rfl (hn_buildSlice (n := 1) (vs := [(0, (.agg #[(.string a2), (.string a0)]))]) (cs := #[(.string a2), (.string a0)]) TyTF.u39 TyTF.sz43 TyTF.z43 rfl rfl (by kernel_rfl) ?_)
    intro nb h6 d3 c6
    replace H := H nb h6 d3 c6
    have e6 := ext_pushed_f7_sh c6
    refine lp rfl rfl (hs_append rfl rfl (HAppend.mono H ?_))
    rintro _ h7 ⟨ap, b4, b5, rfl, H⟩
    refine lv rfl rfl (va rfl) ?_
    refine ln (bn (qn ?_))
    exact ⟨_, _, _, ⟨H, trivial⟩, (hc rfl (hc rfl (hc rfl (hc rfl hn))))⟩
   ·replace H := H.2 c0
    refine xi (bn ?_)
    replace H := H h5 c9
    refine qn ?_
    exact ⟨_, _, _, ⟨H, trivial⟩, (hc rfl (hc rfl (hc rfl (hc rfl hn))))⟩
  ·rintro ρ h3 ⟨a8, a4, a3, ⟨d5, -⟩, hH⟩
   have H := d0 a8 a4 a3 h3 d5; clear c4 d0
   refine xh _ hH ?_
   refine xr ?_
   refine lv rfl rfl (vr rfl rfl rfl) (lv rfl rfl (vm rfl) ?_)
   refine ln (qn ?_)
   exact ⟨(a8, a4, a3, IntKind.i64.wrap (v + 1)), ⟨⟨H.1, trivial⟩, H.2⟩, (hc rfl (hc rfl (hc rfl (hc rfl hn))))⟩
 ·replace H := H.2 c7
  refine xe (qe (qe (bh (qn (xs (xr ?_))))))
  refine lv rfl rfl (vm rfl) (lv rfl rfl (va rfl) ?_)
  refine ln (qn (xt ?_))
  exact endQ_ret _ (res_one Try.results15 (rv_tmp rfl)) H
theorem f31_sh (l : Option Addr) (b2 : Nat) (b3 : Nat) (h : Heap) (R : Value → Heap → Prop)
  (H : HC Try.prog 47 #[(.slice l b2 b3)] h (fun vv h1 => Ext h h1 ∧ ∃ r : Option Nat, vv = (.map r) ∧ HC Try.prog 48 #[(.map r)] h1 (fun vv h2 => ∃ b4 : Value, vv = b4 ∧ HC Try.prog 38 #[b4] h2 (fun vv h3 => ∃ b6 : Option Addr, ∃ a5 c1 : Nat, vv = (.slice b6 a5 c1) ∧ (∃ (I2 : Option Addr → Nat → Nat → Int → Heap → Prop) (b5 : Option Addr → Nat → Nat → Int → Heap → Nat), I2 none 0 0 0 h3 ∧ (∀ (a7 : Option Addr) (a1 : Nat) (a2 : Nat) (v : Int) (h4 : Heap), I2 a7 a1 a2 v h4 → (((decide (v < (a5 : Int))) = true → (∃ b0 b1 : Nat, b6 = some ⟨b0, b1, none⟩ ∧ (0 : Int) ≤ v ∧ v < (a5 : Int) ∧ (∃ x : ByteArray, hcell h4 b0 (b1 + (Int.toNat v) * 1) = some (.string x) ∧ (∃ b9 : Nat, r = some b9 ∧ ∃ kv : List (ByteArray × Value), MapL h4 b9 Value.string kv ∧ ∃ a4 a0 : Int, ∃ a6 a3 : ByteArray, (lk kv x).getD (.agg #[(.int .i64 0), (.int .u64 0), (.string ByteArray.empty), (.string ByteArray.empty)]) = (.agg #[(.int .i64 a4), (.int .u64 a0), (.string a6), (.string a3)]) ∧ (∀ nb h5, nb = Array.size h4 → h5 = Array.push h4 (.cells #[(.int .i64 a4), (.int .u64 a0), (.string a6), (.string a3)] 36) → HAppend Try.prog 32 32 (.slice a7 a1 a2) (.slice (some ⟨nb, 0, none⟩) 1 1) h5 (fun vv h6 => ∃ ap : Option Addr, ∃ a8 a9 : Nat, vv = (.slice ap a8 a9) ∧ (I2 ap a8 a9 (IntKind.i64.wrap (v + 1)) h6 ∧ b5 ap a8 a9 (IntKind.i64.wrap (v + 1)) h6 < b5 a7 a1 a2 v h4))))))) ∧ ((decide (v < (a5 : Int))) = false → R (.slice a7 a1 a2) h4)))))))) :
  HC Try.prog 31 #[(.slice l b2 b3)] h R := by
 refine hc_of (args := [(.slice l b2 b3)]) Try.func31 rfl Try.ntmps31 (Nat.le_of_ble_eq_true rfl) ?_
 refine xs (xr ?_)
 refine lv rfl rfl (va rfl) ?_
 refine ln (qn (xs (xr ?_)))
 refine lv rfl rfl (vm rfl) ?_
 refine lp rfl rfl (sc TyTF.cb47 rfl (HC.mono H ?_))
 rintro _ h1 ⟨d2, r, rfl, H⟩
 refine lv rfl rfl (va rfl) ?_
 refine ln (qn (xs (xr ?_)))
 refine lv rfl rfl (va rfl) ?_
 refine ln (qn (xs (xs (xr ?_))))
 refine lv rfl rfl (vm rfl) ?_
 refine lp rfl rfl (sc TyTF.cb48 rfl (HC.mono H ?_))
 rintro b4 h2 ⟨_, rfl, H⟩
 refine lp rfl rfl (sc TyTF.cb38 rfl (HC.mono H ?_))
 rintro _ h3 ⟨b6, a5, c1, rfl, H⟩
 refine lv rfl rfl (v := (.int .i64 (a5 : Int))) (hv_len (n := a5) TyTF.u82 rfl) (lv rfl rfl (vm rfl) ?_)
 refine ln (qn (xb ?_))
 obtain ⟨I2, b5, c6, d0⟩ := H
 refine xl (σ := Option Addr × Nat × Nat × Int) (fun s => [(3, (.map r)), (4, (.slice s.1 s.2.1 s.2.2.1)), (11, (.slice b6 a5 c1)), (12, (.int .i64 (a5 : Int))), (13, (.int .i64 s.2.2.2))]) (fun s h' => I2 s.1 s.2.1 s.2.2.1 s.2.2.2 h' ∧ True) (fun s h' => b5 s.1 s.2.1 s.2.2.1 s.2.2.2 h') (none, 0, 0, 0) ⟨c6, trivial⟩ (hc rfl (hc rfl (hc rfl (hc rfl (hc rfl hn))))) ?_
 rintro ⟨a7, a1, a2, v⟩ ρ h4 ⟨c9, -⟩
 have H := d0 a7 a1 a2 v h4 c9
 refine xs (xr ?_)
 refine lv rfl rfl (vr rfl rfl rfl) ?_
 refine ln (qn (xs ?_))
 refine xc (b := decide (v < (a5 : Int))) rfl (fun c0 => ?_) (fun c0 => ?_)
 ·replace H := H.1 c0
  refine xi (qn (xs (xb (xs (xr ?_)))))
  obtain ⟨b0, b1, b7, c7, c8, Hq⟩ := H
  subst b7
  have H := Hq; clear Hq
  refine lv rfl rfl (v := (ptr b0 (b1 + (Int.toNat v) * 1))) (vi TyTF.el82 rfl rfl c7 c8) ?_
  obtain ⟨x, c5, H⟩ := H
  refine lv rfl rfl (vl TyTF.agg9 rfl c5) (lv rfl rfl (va rfl) ?_)
  refine ln (qn (xr ?_))
  refine lv rfl rfl (vm rfl) (lv rfl rfl (vm rfl) (lv rfl rfl (vm rfl) ?_))
  obtain ⟨b9, b7, Hq⟩ := H
  subst b7
  have H := Hq; clear Hq
  obtain ⟨kv, c2, a4, a0, a6, a3, c3, H⟩ := H
  refine lv rfl rfl (v := (.agg #[(.int .i64 a4), (.int .u64 a0), (.string a6), (.string a3)])) (hv_look (l := kv) (a := x) strK TyTF.u92 TyTF.u9 TyTF.z36 rfl rfl c2 c3) ?_
  refine lp rfl rfl (hn_buildSlice (n := 1) (vs := [(0, (.agg #[(.int .i64 a4), (.int .u64 a0), (.string a6), (.string a3)]))]) (cs := #[(.int .i64 a4), (.int .u64 a0), (.string a6), (.string a3)]) TyTF.u32 TyTF.sz36 TyTF.z36 rfl rfl (by kernel_rfl) ?_)
  intro nb h5 c4 b8
  replace H := H nb h5 c4 b8
  have d1 := ext_pushed_f7_sh b8
  refine lp rfl rfl (hs_append rfl rfl (HAppend.mono H ?_))
  rintro _ h6 ⟨ap, a8, a9, rfl, H⟩
  refine lv rfl rfl (va rfl) ?_
  refine ln (bn (qn (xr ?_)))
  refine lv rfl rfl (vr rfl rfl rfl) (lv rfl rfl (vm rfl) ?_)
  refine ln (qn ?_)
  exact ⟨(ap, a8, a9, IntKind.i64.wrap (v + 1)), ⟨⟨H.1, trivial⟩, H.2⟩, (hc rfl (hc rfl (hc rfl (hc rfl (hc rfl hn)))))⟩
 ·replace H := H.2 c0
  refine xe (qe (qe (bh (qn (xs (xr ?_))))))
  refine lv rfl rfl (vm rfl) (lv rfl rfl (va rfl) ?_)
  refine ln (qn (xt ?_))
  exact endQ_ret _ (res_one Try.results31 (rv_tmp rfl)) H
theorem f9_sh  (h : Heap) (R : Value → Heap → Prop)
  (H : HC Try.prog 23 #[] h (fun vv h1 => Ext h h1 ∧ ∃ r : Option Addr, ∃ b8 b6 : Nat, vv = (.slice r b8 b6) ∧ HC Try.prog 13 #[(.slice r b8 b6), (.int .i64 1), (.int .i64 64), (.int .i64 2)] h1 (fun vv h2 => Ext h1 h2 ∧ ∃ r0 : Option Addr, ∃ a0 a3 : Nat, ∃ r1 : Int, vv = (.tuple #[(.slice r0 a0 a3), (.int .i64 r1)]) ∧ (∃ A5 : Bool → Heap → Prop, HC Try.prog 23 #[] h2 (fun vv h4 => Ext h2 h4 ∧ ∃ b4 : Option Addr, ∃ b2 a9 : Nat, vv = (.slice b4 b2 a9) ∧ HC Try.prog 15 #[(.slice b4 b2 a9)] h4 (fun vv h5 => Ext h4 h5 ∧ ∃ b7 : Option Addr, ∃ b0 b1 : Nat, vv = (.slice b7 b0 b1) ∧ (∀ nb h6, nb = Array.size h5 → h6 = Array.push h5 (.cells #[(.string (ByteArray.mk #[107])), (.string (ByteArray.mk #[98]))] 43) → (∃ b3 : Bool, HC Try.prog 24 #[(.slice b7 b0 b1), (.slice (some ⟨nb, 0, none⟩) 1 1)] h6 (fun vv h' => vv = (.bool b3) ∧ h' = h6) ∧ ((b3 = true → (((r1 == 0) = true → ((((a0 : Int) == 2) = true → (∃ a6 a7 : Nat, r0 = some ⟨a6, a7, none⟩ ∧ (0 : Int) ≤ 1 ∧ 1 < (a0 : Int) ∧ (∃ x : Int, hcell h6 a6 (a7 + (Int.toNat 1) * 2) = some (.int .u64 x) ∧ (((x == 3) = true → HC Try.prog 15 #[(.slice (some ⟨a6, a7, none⟩) a0 a3)] h6 (fun vv h7 => Ext h6 h7 ∧ ∃ c2 : Option Addr, ∃ a5 b5 : Nat, vv = (.slice c2 a5 b5) ∧ (A5 ((a5 : Int) == 0) h7))) ∧ ((x == 3) = false → (A5 false h6)))))) ∧ (((a0 : Int) == 2) = false → (A5 false h6)))) ∧ ((r1 == 0) = false → (A5 false h6)))) ∧ (b3 = false → (A5 false h6))))))) ∧ (∀ (j : Bool) (h3 : Heap), A5 j h3 → R (.bool j) h3))))) :
  HC Try.prog 9 #[] h R := by
 refine hc_of (args := []) Try.func9 rfl Try.ntmps9 (Nat.le_of_ble_eq_true rfl) ?_
 refine xs (xr ?_)
 refine lv rfl rfl (va rfl) ?_
 refine ln (qn (xs (xr ?_)))
 refine lp rfl rfl (sc TyTF.cb23 rfl (HC.mono H ?_))
 rintro _ h1 ⟨d5, r, b8, b6, rfl, H⟩
 refine lp rfl rfl (sc TyTF.cb13 rfl (HC.mono H ?_))
 rintro _ h2 ⟨d2, r0, a0, a3, r1, rfl, H⟩
 refine lv rfl rfl (vm rfl) (lv rfl rfl (vx rfl rfl) (lv rfl rfl (vx rfl rfl) (lv rfl rfl (va rfl) (lv rfl rfl (va rfl) ?_))))
 refine ln (qn ?_)
 obtain ⟨A5, c1, b9⟩ := H
 refine xk (fun ρ h' => ∃ j : Bool, (A5 j h' ∧ True) ∧ Has ρ [(0, (.bool j))]) ?_ ?_
 ·have H := c1; clear c1 b9
  refine xr ?_
  refine lp rfl rfl (sc TyTF.cb23 rfl (HC.mono H ?_))
  rintro _ h4 ⟨d3, b4, b2, a9, rfl, H⟩
  refine lp rfl rfl (sc TyTF.cb15 rfl (HC.mono H ?_))
  rintro _ h5 ⟨d4, b7, b0, b1, rfl, H⟩
  refine lv rfl rfl (v := (.agg #[(.string (ByteArray.mk #[107])), (.string (ByteArray.mk #[98]))])) (vb (vs := [(0, (.string (ByteArray.mk #[107]))), (1, (.string (ByteArray.mk #[98])))]) (cs := #[(.string (ByteArray.mk #[107])), (.string (ByteArray.mk #[98]))]) TyTF.z43 TyTF.pl43 rfl (by kernel_rfl)) ?_
  refine lp rfl rfl (hn_buildSlice (n := 1) (vs := [(0, (.agg #[(.string (ByteArray.mk #[107])), (.string (ByteArray.mk #[98]))]))]) (cs := #[(.string (ByteArray.mk #[107])), (.string (ByteArray.mk #[98]))]) TyTF.u39 TyTF.sz43 TyTF.z43 rfl rfl (by kernel_rfl) ?_)
  intro nb h6 c9 c0
  replace H := H nb h6 c9 c0
  have d1 := ext_pushed_f7_sh c0
  obtain ⟨b3, c6, H⟩ := H
  refine lv rfl rfl (hv_call TyTF.cb24 (vs := [(.slice b7 b0 b1), (.slice (some ⟨nb, 0, none⟩) 1 1)]) rfl c6) (lv rfl rfl (vm rfl) ?_)
  rcases bool_or (b3) with a8 | a8
  ·replace H := H.1 a8
   refine ly (wanted_y rfl rfl rfl a8) rfl (HStep.of_val (v := (.int .i64 r1)) (vm rfl) ?_)
   refine ly (wanted_y rfl rfl rfl a8) rfl (HStep.of_val (v := (.bool (r1 == 0))) (vr rfl rfl rfl) ?_)
   refine lv rfl rfl (v := (.bool (r1 == 0))) (hv_pick_t rfl a8 rfl) (lv rfl rfl (vm rfl) ?_)
   rcases bool_or (r1 == 0) with a4 | a4
   ·replace H := H.1 a4
    refine ly (wanted_y rfl rfl rfl a4) rfl (HStep.of_val (v := (.slice r0 a0 a3)) (vm rfl) ?_)
    refine ly (wanted_y rfl rfl rfl a4) rfl (HStep.of_val (v := (.int .i64 (a0 : Int))) (hv_len (n := a0) TyTF.u22 rfl) ?_)
    refine ly (wanted_y rfl rfl rfl a4) rfl (HStep.of_val (v := (.bool ((a0 : Int) == 2))) (vr rfl rfl rfl) ?_)
    refine lv rfl rfl (v := (.bool ((a0 : Int) == 2))) (hv_pick_t rfl a4 rfl) (lv rfl rfl (vm rfl) ?_)
    rcases bool_or ((a0 : Int) == 2) with a1 | a1
    ·replace H := H.1 a1
     refine ly (wanted_y rfl rfl rfl a1) rfl (HStep.of_val (v := (.slice r0 a0 a3)) (vm rfl) ?_)
     obtain ⟨a6, a7, c7, c4, c5, Hq⟩ := H
     subst c7
     have H := Hq; clear Hq
     refine ly (wanted_y rfl rfl rfl a1) rfl (HStep.of_val (v := (ptr a6 (a7 + (Int.toNat 1) * 2))) (vi TyTF.el22 rfl rfl c4 c5) ?_)
     refine ly (wanted_y rfl rfl rfl a1) rfl (HStep.of_val (v := (ptr a6 (a7 + (Int.toNat 1) * 2))) (vf TyTF.fld34_0 (b := a6) (o := a7 + (Int.toNat 1) * 2) rfl) ?_)
     obtain ⟨x, c3, H⟩ := H
     refine ly (wanted_y rfl rfl rfl a1) rfl (HStep.of_val (v := (.int .u64 x)) (vl TyTF.agg31 rfl c3) ?_)
     refine ly (wanted_y rfl rfl rfl a1) rfl (HStep.of_val (v := (.bool (x == 3))) (vr rfl rfl rfl) ?_)
     refine lv rfl rfl (v := (.bool (x == 3))) (hv_pick_t rfl a1 rfl) (lv rfl rfl (vm rfl) ?_)
     rcases bool_or (x == 3) with a2 | a2
     ·replace H := H.1 a2
      refine ly (wanted_y rfl rfl rfl a2) rfl (HStep.of_val (v := (.slice (some ⟨a6, a7, none⟩) a0 a3)) (vm rfl) ?_)
      refine ly (wanted_y rfl rfl rfl a2) rfl (sc TyTF.cb15 rfl (HC.mono H ?_))
      rintro _ h7 ⟨d0, c2, a5, b5, rfl, H⟩
      refine ly (wanted_y rfl rfl rfl a2) rfl (HStep.of_val (v := (.int .i64 (a5 : Int))) (hv_len (n := a5) TyTF.u39 rfl) ?_)
      refine ly (wanted_y rfl rfl rfl a2) rfl (HStep.of_val (v := (.bool ((a5 : Int) == 0))) (vr rfl rfl rfl) ?_)
      refine lv rfl rfl (v := (.bool ((a5 : Int) == 0))) (hv_pick_t rfl a2 rfl) (lv rfl rfl (va rfl) ?_)
      refine ln (qn ?_)
      exact ⟨_, ⟨H, trivial⟩, (hc rfl hn)⟩
     ·replace H := H.2 a2
      refine lo (wanted_n rfl rfl rfl a2) rfl ?_
      refine lo (wanted_n rfl rfl rfl a2) rfl ?_
      refine lo (wanted_n rfl rfl rfl a2) rfl ?_
      refine lo (wanted_n rfl rfl rfl a2) rfl ?_
      refine lv rfl rfl (v := (.bool false)) (hv_pick_f rfl a2 rfl) (lv rfl rfl (va rfl) ?_)
      refine ln (qn ?_)
      exact ⟨_, ⟨H, trivial⟩, (hc rfl hn)⟩
    ·replace H := H.2 a1
     refine lo (wanted_n rfl rfl rfl a1) rfl ?_
     refine lo (wanted_n rfl rfl rfl a1) rfl ?_
     refine lo (wanted_n rfl rfl rfl a1) rfl ?_
     refine lo (wanted_n rfl rfl rfl a1) rfl ?_
     refine lo (wanted_n rfl rfl rfl a1) rfl ?_
     refine lv rfl rfl (v := (.bool false)) (hv_pick_f rfl a1 rfl) (lv rfl rfl (vm rfl) ?_)
     refine lo (wanted_n rfl rfl (c := false) rfl rfl) rfl ?_
     refine lo (wanted_n rfl rfl (c := false) rfl rfl) rfl ?_
     refine lo (wanted_n rfl rfl (c := false) rfl rfl) rfl ?_
     refine lo (wanted_n rfl rfl (c := false) rfl rfl) rfl ?_
     refine lv rfl rfl (v := (.bool false)) (hv_pick (t := false) rfl rfl) (lv rfl rfl (va rfl) ?_)
     refine ln (qn ?_)
     exact ⟨_, ⟨H, trivial⟩, (hc rfl hn)⟩
   ·replace H := H.2 a4
    refine lo (wanted_n rfl rfl rfl a4) rfl ?_
    refine lo (wanted_n rfl rfl rfl a4) rfl ?_
    refine lo (wanted_n rfl rfl rfl a4) rfl ?_
    refine lv rfl rfl (v := (.bool false)) (hv_pick_f rfl a4 rfl) (lv rfl rfl (vm rfl) ?_)
    refine lo (wanted_n rfl rfl (c := false) rfl rfl) rfl ?_
    refine lo (wanted_n rfl rfl (c := false) rfl rfl) rfl ?_
    refine lo (wanted_n rfl rfl (c := false) rfl rfl) rfl ?_
    refine lo (wanted_n rfl rfl (c := false) rfl rfl) rfl ?_
    refine lo (wanted_n rfl rfl (c := false) rfl rfl) rfl ?_
    refine lv rfl rfl (v := (.bool false)) (hv_pick (t := false) rfl rfl) (lv rfl rfl (vm rfl) ?_)
    refine lo (wanted_n rfl rfl (c := false) rfl rfl) rfl ?_
    refine lo (wanted_n rfl rfl (c := false) rfl rfl) rfl ?_
    refine lo (wanted_n rfl rfl (c := false) rfl rfl) rfl ?_
    refine lo (wanted_n rfl rfl (c := false) rfl rfl) rfl ?_
    refine lv rfl rfl (v := (.bool false)) (hv_pick (t := false) rfl rfl) (lv rfl rfl (va rfl) ?_)
    refine ln (qn ?_)
    exact ⟨_, ⟨H, trivial⟩, (hc rfl hn)⟩
  ·replace H := H.2 a8
   refine lo (wanted_n rfl rfl rfl a8) rfl ?_
   refine lo (wanted_n rfl rfl rfl a8) rfl ?_
   refine lv rfl rfl (v := (.bool false)) (hv_pick_f rfl a8 rfl) (lv rfl rfl (vm rfl) ?_)
   refine lo (wanted_n rfl rfl (c := false) rfl rfl) rfl ?_
   refine lo (wanted_n rfl rfl (c := false) rfl rfl) rfl ?_
   refine lo (wanted_n rfl rfl (c := false) rfl rfl) rfl ?_
   refine lv rfl rfl (v := (.bool false)) (hv_pick (t := false) rfl rfl) (lv rfl rfl (vm rfl) ?_)
   refine lo (wanted_n rfl rfl (c := false) rfl rfl) rfl ?_
   refine lo (wanted_n rfl rfl (c := false) rfl rfl) rfl ?_
   refine lo (wanted_n rfl rfl (c := false) rfl rfl) rfl ?_
   refine lo (wanted_n rfl rfl (c := false) rfl rfl) rfl ?_
   refine lo (wanted_n rfl rfl (c := false) rfl rfl) rfl ?_
   refine lv rfl rfl (v := (.bool false)) (hv_pick (t := false) rfl rfl) (lv rfl rfl (vm rfl) ?_)
   refine lo (wanted_n rfl rfl (c := false) rfl rfl) rfl ?_
   refine lo (wanted_n rfl rfl (c := false) rfl rfl) rfl ?_
   refine lo (wanted_n rfl rfl (c := false) rfl rfl) rfl ?_
   refine lo (wanted_n rfl rfl (c := false) rfl rfl) rfl ?_
   refine lv rfl rfl (v := (.bool false)) (hv_pick (t := false) rfl rfl) (lv rfl rfl (va rfl) ?_)
   refine ln (qn ?_)
   exact ⟨_, ⟨H, trivial⟩, (hc rfl hn)⟩
 ·rintro ρ h3 ⟨j, ⟨c8, -⟩, hH⟩
  have H := b9 j h3 c8; clear c1 b9
  refine xh _ hH ?_
  refine xt ?_
  exact endQ_ret _ (res_one Try.results9 (rv_tmp rfl)) H
theorem f5_sh (l : Option Addr) (b9 : Nat) (c0 : Nat) (d0 : Option Addr) (a4 : Nat) (c3 : Nat) (b3 : Int) (a5 : Int) (h : Heap) (R : Value → Heap → Prop)
  (H : HC Try.prog 9 #[] h (fun vv h1 => Ext h h1 ∧ ∃ r : Bool, vv = (.bool r) ∧ (((!r) = true → R (.bool false) h1) ∧ ((!r) = false → HC Try.prog 11 #[(.slice l b9 c0)] h1 (fun vv h2 => Ext h1 h2 ∧ ∃ d3 : Int, vv = (.int .i64 d3) ∧ (((d3 != 0) = true → HC Try.prog 13 #[(.slice l b9 c0), (.int .i64 0), (.int .i64 b3), (.int .i64 a5)] h2 (fun vv h3 => Ext h2 h3 ∧ ∃ r0 : Option Addr, ∃ a1 a2 : Nat, ∃ r1 : Int, vv = (.tuple #[(.slice r0 a1 a2), (.int .i64 r1)]) ∧ R (.bool (r1 != 0)) h3)) ∧ ((d3 != 0) = false → HC Try.prog 15 #[(.slice l b9 c0)] h2 (fun vv h4 => Ext h2 h4 ∧ ∃ d9 : Option Addr, ∃ d6 d5 : Nat, vv = (.slice d9 d6 d5) ∧ (∃ (I7 : Option Addr → Nat → Nat → Option Addr → Nat → Nat → Int → Heap → Prop) (e7 : Option Addr → Nat → Nat → Option Addr → Nat → Nat → Int → Heap → Nat), I7 l b9 c0 d9 d6 d5 0 h4 ∧ (∀ (b7 : Option Addr) (a0 : Nat) (a6 : Nat) (b8 : Option Addr) (a8 : Nat) (a9 : Nat) (i : Int) (h5 : Heap), I7 b7 a0 a6 b8 a8 a9 i h5 → ((((decide (i < (a4 : Int))) && (decide ((a0 : Int) > 0))) = true → (∃ c5 c2 : Nat, d0 = some ⟨c5, c2, none⟩ ∧ (0 : Int) ≤ i ∧ i < (a4 : Int) ∧ (∃ x : Int, hcell h5 c5 (c2 + (Int.toNat i) * 1) = some (.int .i64 x) ∧ ((a0 : Int) ≠ 0 ∧ (∀ k : Int, k = (bif decide ((Int.tmod x (a0 : Int)) < 0) then IntKind.i64.wrap ((Int.tmod x (a0 : Int)) + (a0 : Int)) else Int.tmod x (a0 : Int)) → HC Try.prog 13 #[(.slice b7 a0 a6), (.int .i64 k), (.int .i64 b3), (.int .i64 a5)] h5 (fun vv h6 => Ext h5 h6 ∧ ∃ r0 : Option Addr, ∃ a1 a2 : Nat, ∃ r1 : Int, vv = (.tuple #[(.slice r0 a1 a2), (.int .i64 r1)]) ∧ (((r1 != 0) = true → R (.bool ((a1 : Int) == 0)) h6) ∧ ((r1 != 0) = false → HC Try.prog 15 #[(.slice r0 a1 a2)] h6 (fun vv h7 => Ext h6 h7 ∧ ∃ c1 : Option Addr, ∃ a3 b1 : Nat, vv = (.slice c1 a3 b1) ∧ (∃ (d8 : Int → Heap → Prop) (d4 : Int → Heap → Nat), d8 0 h7 ∧ (∀ (b0 : Int) (h8 : Heap), d8 b0 h8 → (((decide (b0 < (a3 : Int))) = true → (∃ c7 c9 : Nat, c1 = some ⟨c7, c9, none⟩ ∧ (0 : Int) ≤ b0 ∧ b0 < (a3 : Int) ∧ (∃ c6 b5 : ByteArray, hcell h8 c7 (c9 + (Int.toNat b0) * 2) = some (.string c6) ∧ hcell h8 c7 ((c9 + (Int.toNat b0) * 2) + 1) = some (.string b5) ∧ HC Try.prog 16 #[(.slice b8 a8 a9), (.agg #[(.string c6), (.string b5)])] h8 (fun vv h9 => Ext h8 h9 ∧ ∃ b6 : Bool, vv = (.bool b6) ∧ (((!b6) = true → R (.bool false) h9) ∧ ((!b6) = false → (d8 (IntKind.i64.wrap (b0 + 1)) h9 ∧ d4 (IntKind.i64.wrap (b0 + 1)) h9 < d4 b0 h8))))))) ∧ ((decide (b0 < (a3 : Int))) = false → (∃ d2 : Bool → Heap → Prop, HC Try.prog 10 #[(.slice r0 a1 a2)] h8 (fun vv d7 => Ext h8 d7 ∧ ∃ b6 : Int, vv = (.int .i64 b6) ∧ (((b6 != 0) = true → (d2 true d7)) ∧ ((b6 != 0) = false → (((decide ((a1 : Int) < (IntKind.i64.wrap ((a0 : Int) - 1)))) = true → (d2 true d7)) ∧ ((decide ((a1 : Int) < (IntKind.i64.wrap ((a0 : Int) - 1)))) = false → (d2 (decide ((a1 : Int) > (a0 : Int))) d7)))))) ∧ (∀ (c8 : Bool) (d1 : Heap), d2 c8 d1 → ((c8 = true → R (.bool false) d1) ∧ (c8 = false → (I7 r0 a1 a2 c1 a3 b1 (IntKind.i64.wrap (i + 1)) d1 ∧ e7 r0 a1 a2 c1 a3 b1 (IntKind.i64.wrap (i + 1)) d1 < e7 b7 a0 a6 b8 a8 a9 i h5)))))))))))))))))) ∧ (((decide (i < (a4 : Int))) && (decide ((a0 : Int) > 0))) = false → R (.bool true) h5)))))))))))) :
  HC Try.prog 5 #[(.slice l b9 c0), (.slice d0 a4 c3), (.int .i64 b3), (.int .i64 a5)] h R := by
 refine hc_of (args := [(.slice l b9 c0), (.slice d0 a4 c3), (.int .i64 b3), (.int .i64 a5)]) Try.func5 rfl Try.ntmps5 (Nat.le_of_ble_eq_true rfl) ?_
 refine xs (xr ?_)
 refine lv rfl rfl (va rfl) ?_
 refine ln (qn (xs (xs (xr ?_))))
 refine lp rfl rfl (sc TyTF.cb9 rfl (HC.mono H ?_))
 rintro _ h1 ⟨i3, r, rfl, H⟩
 refine lv rfl rfl (v := (.bool (!r))) (hv_not (b := r) rfl) ?_
 refine ln (qn ?_)
 refine xc (b := !r) rfl (fun e8 => ?_) (fun e8 => ?_)
 ·replace H := H.1 e8
  refine xs (xr ?_)
  refine lv rfl rfl (va rfl) ?_
  refine ln (qn (xt (qr ?_)))
  exact endQ_ret _ (res_one Try.results5 (rv_tmp rfl)) H
 ·replace H := H.2 e8
  refine xi (qn (xs (xs (xr ?_))))
  refine lv rfl rfl (vm rfl) ?_
  refine lp rfl rfl (sc TyTF.cb11 rfl (HC.mono H ?_))
  rintro _ h2 ⟨i1, d3, rfl, H⟩
  refine lv rfl rfl (vr rfl rfl rfl) ?_
  refine ln (qn ?_)
  refine xc (b := d3 != 0) rfl (fun f0 => ?_) (fun f0 => ?_)
  ·replace H := H.1 f0
   refine xs (xr ?_)
   refine lv rfl rfl (vm rfl) (lv rfl rfl (vm rfl) (lv rfl rfl (vm rfl) ?_))
   refine lp rfl rfl (sc TyTF.cb13 rfl (HC.mono H ?_))
   rintro _ h3 ⟨i2, r0, a1, a2, r1, rfl, H⟩
   refine lv rfl rfl (vm rfl) (lv rfl rfl (vx rfl rfl) (lv rfl rfl (vx rfl rfl) (lv rfl rfl (va rfl) (lv rfl rfl (va rfl) ?_))))
   refine ln (qn (xs (xr ?_)))
   refine lv rfl rfl (vm rfl) (lv rfl rfl (vr rfl rfl rfl) (lv rfl rfl (va rfl) ?_))
   refine ln (qn (xt (qr ?_)))
   exact endQ_ret _ (res_one Try.results5 (rv_tmp rfl)) H
  ·replace H := H.2 f0
   refine xi (qn (xs (xr ?_)))
   refine lv rfl rfl (vm rfl) ?_
   refine lp rfl rfl (sc TyTF.cb15 rfl (HC.mono H ?_))
   rintro _ h4 ⟨i0, d9, d6, d5, rfl, H⟩
   refine lv rfl rfl (va rfl) ?_
   refine ln (qn (xs (xs (xr ?_))))
   refine lv rfl rfl (va rfl) ?_
   refine ln (qn (xb ?_))
   obtain ⟨I7, e7, g5, g3⟩ := H
   refine xl (σ := Option Addr × Nat × Nat × Option Addr × Nat × Nat × Int) (fun s => [(0, (.slice s.1 s.2.1 s.2.2.1)), (1, (.slice d0 a4 c3)), (2, (.int .i64 b3)), (3, (.int .i64 a5)), (11, (.slice s.2.2.2.1 s.2.2.2.2.1 s.2.2.2.2.2.1)), (12, (.int .i64 s.2.2.2.2.2.2))]) (fun s h' => I7 s.1 s.2.1 s.2.2.1 s.2.2.2.1 s.2.2.2.2.1 s.2.2.2.2.2.1 s.2.2.2.2.2.2 h' ∧ True) (fun s h' => e7 s.1 s.2.1 s.2.2.1 s.2.2.2.1 s.2.2.2.2.1 s.2.2.2.2.2.1 s.2.2.2.2.2.2 h') (l, b9, c0, d9, d6, d5, 0) ⟨g5, trivial⟩ (hc rfl (hc rfl (hc rfl (hc rfl (hc rfl (hc rfl hn)))))) ?_
   rintro ⟨b7, a0, a6, b8, a8, a9, i⟩ ρ h5 ⟨g2, -⟩
   have H := g3 b7 a0 a6 b8 a8 a9 i h5 g2
   refine xs ?_
   refine xk (fun ρ h' => h5 = h' ∧ Has ρ [(0, (.slice b7 a0 a6)), (1, (.slice d0 a4 c3)), (2, (.int .i64 b3)), (3, (.int .i64 a5)), (11, (.slice b8 a8 a9)), (12, (.int .i64 i)), (42, (.bool ((decide (i < (a4 : Int))) && (decide ((a0 : Int) > 0)))))]) ?_ ?_
   ·refine xr ?_
    refine lv rfl rfl (vm rfl) (lv rfl rfl (vm rfl) (lv rfl rfl (v := (.int .i64 (a4 : Int))) (hv_len (n := a4) TyTF.u38 rfl) (lv rfl rfl (vr rfl rfl rfl) (lv rfl rfl (vm rfl) ?_))))
    rcases bool_or (decide (i < (a4 : Int))) with b4 | b4
    ·refine ly (wanted_y rfl rfl rfl b4) rfl (HStep.of_val (v := (.slice b7 a0 a6)) (vm rfl) ?_)
     refine ly (wanted_y rfl rfl rfl b4) rfl (HStep.of_val (v := (.int .i64 (a0 : Int))) (hv_len (n := a0) TyTF.u22 rfl) ?_)
     refine ly (wanted_y rfl rfl rfl b4) rfl (HStep.of_val (v := (.bool (decide ((a0 : Int) > 0)))) (vr rfl rfl rfl) ?_)
     refine lv rfl rfl (v := (.bool (decide ((a0 : Int) > 0)))) (hv_pick_t rfl b4 rfl) ?_
     refine ln (qn ?_)
     exact ⟨rfl, (hc rfl (hc rfl (hc rfl (hc rfl (hc rfl (hc rfl (hc (show ((.bool (decide ((a0 : Int) > 0))) : Value) = (.bool ((decide (i < (a4 : Int))) && (decide ((a0 : Int) > 0)))) from (by first | rfl | ((try rw [b4]); all_goals first | rfl | (simp only [Bool.true_or, Bool.or_true, Bool.false_or, Bool.or_false, Bool.true_and, Bool.and_true, Bool.false_and, Bool.and_false, Bool.not_true, Bool.not_false, Bool.cond_true, Bool.cond_false]; done)) | simp [b4])) hn)))))))⟩
    ·refine lo (wanted_n rfl rfl rfl b4) rfl ?_
     refine lo (wanted_n rfl rfl rfl b4) rfl ?_
     refine lo (wanted_n rfl rfl rfl b4) rfl ?_
     refine lv rfl rfl (v := (.bool false)) (hv_pick_f rfl b4 rfl) ?_
     refine ln (qn ?_)
     exact ⟨rfl, (hc rfl (hc rfl (hc rfl (hc rfl (hc rfl (hc rfl (hc (show ((.bool false) : Value) = (.bool ((decide (i < (a4 : Int))) && (decide ((a0 : Int) > 0)))) from (by first | rfl | ((try rw [b4]); all_goals first | rfl | (simp only [Bool.true_or, Bool.or_true, Bool.false_or, Bool.or_false, Bool.true_and, Bool.and_true, Bool.false_and, Bool.and_false, Bool.not_true, Bool.not_false, Bool.cond_true, Bool.cond_false]; done)) | simp [b4])) hn)))))))⟩
   ·rintro ρ _ ⟨rfl, hH⟩
    refine xh _ hH ?_
    refine xc (b := ((decide (i < (a4 : Int))) && (decide ((a0 : Int) > 0)))) rfl (fun e6 => ?_) (fun e6 => ?_)
    ·replace H := H.1 e6
     refine xi (qn (xs (xb (xs (xr ?_)))))
     refine lv rfl rfl (vm rfl) (lv rfl rfl (vm rfl) ?_)
     obtain ⟨c5, c2, e9, f1, f2, Hq⟩ := H
     subst e9
     have H := Hq; clear Hq
     refine lv rfl rfl (v := (ptr c5 (c2 + (Int.toNat i) * 1))) (vi TyTF.el38 rfl rfl f1 f2) ?_
     obtain ⟨x, f9, H⟩ := H
     refine lv rfl rfl (vl TyTF.agg3 rfl f9) (lv rfl rfl (vm rfl) (lv rfl rfl (v := (.int .i64 (a0 : Int))) (hv_len (n := a0) TyTF.u22 rfl) ?_))
     obtain ⟨g1, H⟩ := H
     refine lv rfl rfl (v := (.int .i64 (Int.tmod x (a0 : Int)))) (hv_rem rfl rfl g1) (lv rfl rfl (va rfl) ?_)
     refine ln (qn ?_)
     obtain ⟨k, hq21⟩ : ∃ q : Int, q = (bif decide ((Int.tmod x (a0 : Int)) < 0) then IntKind.i64.wrap ((Int.tmod x (a0 : Int)) + (a0 : Int)) else Int.tmod x (a0 : Int)) := ⟨_, rfl⟩
     replace H := H k hq21
     refine xk (fun ρ h' => h5 = h' ∧ Has ρ [(0, (.slice b7 a0 a6)), (1, (.slice (some ⟨c5, c2, none⟩) a4 c3)), (2, (.int .i64 b3)), (3, (.int .i64 a5)), (11, (.slice b8 a8 a9)), (12, (.int .i64 i)), (13, (.int .i64 k))]) ?_ ?_
     ·refine xs (xr ?_)
      refine lv rfl rfl (vm rfl) (lv rfl rfl (vr rfl rfl rfl) ?_)
      refine ln (qn ?_)
      refine xc (b := decide ((Int.tmod x (a0 : Int)) < 0)) rfl (fun c4 => ?_) (fun c4 => ?_)
      ·refine xr ?_
       refine lv rfl rfl (vm rfl) (lv rfl rfl (vm rfl) (lv rfl rfl (v := (.int .i64 (a0 : Int))) (hv_len (n := a0) TyTF.u22 rfl) (lv rfl rfl (vr rfl rfl rfl) (lv rfl rfl (va rfl) ?_))))
       refine ln (qn ?_)
       exact ⟨rfl, (hc rfl (hc rfl (hc rfl (hc rfl (hc rfl (hc rfl (hc (show ((.int .i64 (IntKind.i64.wrap ((Int.tmod x (a0 : Int)) + (a0 : Int)))) : Value) = (.int .i64 k) from (by first | rfl | ((try rw [c4]); (try rw [hq21]); (try rw [c4]); all_goals first | rfl | (simp only [Bool.true_or, Bool.or_true, Bool.false_or, Bool.or_false, Bool.true_and, Bool.and_true, Bool.false_and, Bool.and_false, Bool.not_true, Bool.not_false, Bool.cond_true, Bool.cond_false]; done)) | simp [c4, hq21, c4])) hn)))))))⟩
      ·refine xi (qn ?_)
       exact ⟨rfl, (hc rfl (hc rfl (hc rfl (hc rfl (hc rfl (hc rfl (hc (show ((.int .i64 (Int.tmod x (a0 : Int))) : Value) = (.int .i64 k) from (by first | rfl | ((try rw [c4]); (try rw [hq21]); (try rw [c4]); all_goals first | rfl | (simp only [Bool.true_or, Bool.or_true, Bool.false_or, Bool.or_false, Bool.true_and, Bool.and_true, Bool.false_and, Bool.and_false, Bool.not_true, Bool.not_false, Bool.cond_true, Bool.cond_false]; done)) | simp [c4, hq21, c4])) hn)))))))⟩
     ·rintro ρ _ ⟨rfl, hH⟩
      refine xh _ hH ?_
      refine xs (xr ?_)
      refine lv rfl rfl (vm rfl) (lv rfl rfl (vm rfl) (lv rfl rfl (vm rfl) (lv rfl rfl (vm rfl) ?_)))
      refine lp rfl rfl (sc TyTF.cb13 rfl (HC.mono H ?_))
      rintro _ h6 ⟨g9, r0, a1, a2, r1, rfl, H⟩
      refine lv rfl rfl (vm rfl) (lv rfl rfl (vx rfl rfl) (lv rfl rfl (vx rfl rfl) (lv rfl rfl (va rfl) (lv rfl rfl (va rfl) ?_))))
      refine ln (qn (xs (xs (xr ?_))))
      refine lv rfl rfl (vm rfl) (lv rfl rfl (vr rfl rfl rfl) ?_)
      refine ln (qn ?_)
      refine xc (b := r1 != 0) rfl (fun e3 => ?_) (fun e3 => ?_)
      ·replace H := H.1 e3
       refine xs (xr ?_)
       refine lv rfl rfl (vm rfl) (lv rfl rfl (v := (.int .i64 (a1 : Int))) (hv_len (n := a1) TyTF.u22 rfl) (lv rfl rfl (vr rfl rfl rfl) (lv rfl rfl (va rfl) ?_)))
       refine ln (qn (xt (qr (br (qr (qr (br (qr ?_))))))))
       exact endQ_ret _ (res_one Try.results5 (rv_tmp rfl)) H
      ·replace H := H.2 e3
       refine xi (qn (xs (xr ?_)))
       refine lv rfl rfl (vm rfl) ?_
       refine lp rfl rfl (sc TyTF.cb15 rfl (HC.mono H ?_))
       rintro _ h7 ⟨g6, c1, a3, b1, rfl, H⟩
       refine lv rfl rfl (va rfl) ?_
       refine ln (qn (xs (xs (xr ?_))))
       refine lv rfl rfl (va rfl) ?_
       refine ln (qn (xb ?_))
       obtain ⟨d8, d4, g0, f3⟩ := H
       refine xl (σ := Int) (fun s => [(0, (.slice b7 a0 a6)), (1, (.slice (some ⟨c5, c2, none⟩) a4 c3)), (2, (.int .i64 b3)), (3, (.int .i64 a5)), (11, (.slice b8 a8 a9)), (12, (.int .i64 i)), (14, (.slice r0 a1 a2)), (16, (.slice c1 a3 b1)), (17, (.int .i64 s))]) (fun s h' => d8 s h' ∧ True) (fun s h' => d4 s h') 0 ⟨g0, trivial⟩ (hc rfl (hc rfl (hc rfl (hc rfl (hc rfl (hc rfl (hc rfl (hc rfl (hc rfl hn))))))))) ?_
       rintro b0 ρ h8 ⟨f8, -⟩
       have H := f3 b0 h8 f8
       refine xs (xs (xr ?_))
       refine lv rfl rfl (vm rfl) (lv rfl rfl (vm rfl) (lv rfl rfl (v := (.int .i64 (a3 : Int))) (hv_len (n := a3) TyTF.u39 rfl) (lv rfl rfl (vr rfl rfl rfl) ?_)))
       refine ln (qn ?_)
       refine xc (b := decide (b0 < (a3 : Int))) rfl (fun e1 => ?_) (fun e1 => ?_)
       ·replace H := H.1 e1
        refine xi (qn (xs (xb (xs (xr ?_)))))
        refine lv rfl rfl (vm rfl) (lv rfl rfl (vm rfl) (lv rfl rfl (vm rfl) ?_))
        obtain ⟨c7, c9, e9, f4, f7, Hq⟩ := H
        subst e9
        have H := Hq; clear Hq
        refine lv rfl rfl (v := (ptr c7 (c9 + (Int.toNat b0) * 2))) (vi TyTF.el39 rfl rfl f4 f7) ?_
        obtain ⟨c6, b5, g4, f6, H⟩ := H
        refine lv rfl rfl (vL (vs := [(.string c6), (.string b5)]) TyTF.agg43 TyTF.sz43 rfl (cc g4 (cc f6 cn))) ?_
        refine lp rfl rfl (sc TyTF.cb16 rfl (HC.mono H ?_))
        rintro _ h9 ⟨g8, b6, rfl, H⟩
        refine lv rfl rfl (v := (.bool (!b6))) (hv_not (b := b6) rfl) ?_
        refine ln (qn ?_)
        refine xc (b := !b6) rfl (fun e5 => ?_) (fun e5 => ?_)
        ·replace H := H.1 e5
         refine xs (xr ?_)
         refine lv rfl rfl (va rfl) ?_
         refine ln (qn (xt (br (qr (qr (br (qr (br (qr (qr (br (qr ?_))))))))))))
         exact endQ_ret _ (res_one Try.results5 (rv_tmp rfl)) H
        ·replace H := H.2 e5
         refine xi (bn (qn (xr ?_)))
         refine lv rfl rfl (vm rfl) (lv rfl rfl (vr rfl rfl rfl) (lv rfl rfl (va rfl) ?_))
         refine ln (qn ?_)
         exact ⟨IntKind.i64.wrap (b0 + 1), ⟨⟨H.1, trivial⟩, H.2⟩, (hc rfl (hc rfl (hc rfl (hc rfl (hc rfl (hc rfl (hc rfl (hc rfl (hc rfl hn)))))))))⟩
       ·replace H := H.2 e1
        refine xe (qe (qe (bh (qn (xs ?_)))))
        obtain ⟨d2, e4, e0⟩ := H
        refine xk (fun ρ h' => ∃ c8 : Bool, (d2 c8 h' ∧ True) ∧ Has ρ [(1, (.slice (some ⟨c5, c2, none⟩) a4 c3)), (2, (.int .i64 b3)), (3, (.int .i64 a5)), (12, (.int .i64 i)), (14, (.slice r0 a1 a2)), (16, (.slice c1 a3 b1)), (103, (.bool c8))]) ?_ ?_
        ·have H := e4; clear e4 e0
         refine xr ?_
         refine lv rfl rfl (vm rfl) ?_
         refine lp rfl rfl (sc TyTF.cb10 rfl (HC.mono H ?_))
         rintro _ d7 ⟨g7, b6, rfl, H⟩
         refine lv rfl rfl (vr rfl rfl rfl) (lv rfl rfl (vm rfl) ?_)
         rcases bool_or (b6 != 0) with a7 | a7
         ·replace H := H.1 a7
          refine lo (wanted_n rfl rfl rfl a7) rfl ?_
          refine lo (wanted_n rfl rfl rfl a7) rfl ?_
          refine lo (wanted_n rfl rfl rfl a7) rfl ?_
          refine lo (wanted_n rfl rfl rfl a7) rfl ?_
          refine lo (wanted_n rfl rfl rfl a7) rfl ?_
          refine lo (wanted_n rfl rfl rfl a7) rfl ?_
          refine lv rfl rfl (v := (.bool true)) (hv_pick_t rfl a7 rfl) (lv rfl rfl (vm rfl) ?_)
          refine lo (wanted_n rfl rfl (c := true) rfl rfl) rfl ?_
          refine lo (wanted_n rfl rfl (c := true) rfl rfl) rfl ?_
          refine lo (wanted_n rfl rfl (c := true) rfl rfl) rfl ?_
          refine lo (wanted_n rfl rfl (c := true) rfl rfl) rfl ?_
          refine lo (wanted_n rfl rfl (c := true) rfl rfl) rfl ?_
          refine lv rfl rfl (v := (.bool true)) (hv_pick (t := true) rfl rfl) ?_
          refine ln (qn ?_)
          exact ⟨_, ⟨H, trivial⟩, (hc rfl (hc rfl (hc rfl (hc rfl (hc rfl (hc rfl (hc rfl hn)))))))⟩
         ·replace H := H.2 a7
          refine ly (wanted_y rfl rfl rfl a7) rfl (HStep.of_val (v := (.slice r0 a1 a2)) (vm rfl) ?_)
          refine ly (wanted_y rfl rfl rfl a7) rfl (HStep.of_val (v := (.int .i64 (a1 : Int))) (hv_len (n := a1) TyTF.u22 rfl) ?_)
          refine ly (wanted_y rfl rfl rfl a7) rfl (HStep.of_val (v := (.slice b7 a0 a6)) (vm rfl) ?_)
          refine ly (wanted_y rfl rfl rfl a7) rfl (HStep.of_val (v := (.int .i64 (a0 : Int))) (hv_len (n := a0) TyTF.u22 rfl) ?_)
          refine ly (wanted_y rfl rfl rfl a7) rfl (HStep.of_val (v := (.int .i64 (IntKind.i64.wrap ((a0 : Int) - 1)))) (vr rfl rfl rfl) ?_)
          refine ly (wanted_y rfl rfl rfl a7) rfl (HStep.of_val (v := (.bool (decide ((a1 : Int) < (IntKind.i64.wrap ((a0 : Int) - 1)))))) (vr rfl rfl rfl) ?_)
          refine lv rfl rfl (v := (.bool (decide ((a1 : Int) < (IntKind.i64.wrap ((a0 : Int) - 1)))))) (hv_pick_f rfl a7 rfl) (lv rfl rfl (vm rfl) ?_)
          rcases bool_or (decide ((a1 : Int) < (IntKind.i64.wrap ((a0 : Int) - 1)))) with b2 | b2
          ·replace H := H.1 b2
           refine lo (wanted_n rfl rfl rfl b2) rfl ?_
           refine lo (wanted_n rfl rfl rfl b2) rfl ?_
           refine lo (wanted_n rfl rfl rfl b2) rfl ?_
           refine lo (wanted_n rfl rfl rfl b2) rfl ?_
           refine lo (wanted_n rfl rfl rfl b2) rfl ?_
           refine lv rfl rfl (v := (.bool true)) (hv_pick_t rfl b2 rfl) ?_
           refine ln (qn ?_)
           exact ⟨_, ⟨H, trivial⟩, (hc rfl (hc rfl (hc rfl (hc rfl (hc rfl (hc rfl (hc rfl hn)))))))⟩
          ·replace H := H.2 b2
           refine ly (wanted_y rfl rfl rfl b2) rfl (HStep.of_val (v := (.slice r0 a1 a2)) (vm rfl) ?_)
           refine ly (wanted_y rfl rfl rfl b2) rfl (HStep.of_val (v := (.int .i64 (a1 : Int))) (hv_len (n := a1) TyTF.u22 rfl) ?_)
           refine ly (wanted_y rfl rfl rfl b2) rfl (HStep.of_val (v := (.slice b7 a0 a6)) (vm rfl) ?_)
           refine ly (wanted_y rfl rfl rfl b2) rfl (HStep.of_val (v := (.int .i64 (a0 : Int))) (hv_len (n := a0) TyTF.u22 rfl) ?_)
           refine ly (wanted_y rfl rfl rfl b2) rfl (HStep.of_val (v := (.bool (decide ((a1 : Int) > (a0 : Int))))) (vr rfl rfl rfl) ?_)
           refine lv rfl rfl (v := (.bool (decide ((a1 : Int) > (a0 : Int))))) (hv_pick_f rfl b2 rfl) ?_
           refine ln (qn ?_)
           exact ⟨_, ⟨H, trivial⟩, (hc rfl (hc rfl (hc rfl (hc rfl (hc rfl (hc rfl (hc rfl hn)))))))⟩
        ·rintro ρ d1 ⟨c8, ⟨f5, -⟩, hH⟩
         have H := e0 c8 d1 f5; clear e4 e0
         refine xh _ hH ?_
         refine xc (b := c8) rfl (fun e2 => ?_) (fun e2 => ?_)
         ·replace H := H.1 e2
          refine xs (xr ?_)
          refine lv rfl rfl (va rfl) ?_
          refine ln (qn (xt (qr (br (qr (qr (br (qr ?_))))))))
          exact endQ_ret _ (res_one Try.results5 (rv_tmp rfl)) H
         ·replace H := H.2 e2
          refine xi (qn (xs (xr ?_)))
          refine lv rfl rfl (vm rfl) (lv rfl rfl (va rfl) ?_)
          refine ln (qn (xr ?_))
          refine lv rfl rfl (vm rfl) (lv rfl rfl (va rfl) ?_)
          refine ln (bn (qn (xr ?_)))
          refine lv rfl rfl (vm rfl) (lv rfl rfl (vr rfl rfl rfl) (lv rfl rfl (va rfl) ?_))
          refine ln (qn ?_)
          exact ⟨(r0, a1, a2, c1, a3, b1, IntKind.i64.wrap (i + 1)), ⟨⟨H.1, trivial⟩, H.2⟩, (hc rfl (hc rfl (hc rfl (hc rfl (hc rfl (hc rfl hn))))))⟩
    ·replace H := H.2 e6
     refine xe (qe (qe (bh (qn (xs (xr ?_))))))
     refine lv rfl rfl (va rfl) ?_
     refine ln (qn (xt ?_))
     exact endQ_ret _ (res_one Try.results5 (rv_tmp rfl)) H
theorem f7_sh (a4 : Int) (a1 : Int) (l : Option Addr) (b1 : Nat) (b2 : Nat) (b9 : Option Addr) (a0 : Nat) (b0 : Nat) (a9 : Int) (h : Heap) (R : Value → Heap → Prop)
  (H : HC Try.prog 9 #[] h (fun vv h1 => Ext h h1 ∧ ∃ r : Bool, vv = (.bool r) ∧ (((!r) = true → R (.bool false) h1) ∧ ((!r) = false → HC Try.prog 17 #[(.int .i64 a4), (.int .i64 a1), (.slice l b1 b2)] h1 (fun vv h2 => Ext h1 h2 ∧ ∃ r0 : Option Addr, ∃ r1 : Int, vv = (.tuple #[(.pointer r0), (.int .i64 r1)]) ∧ HC Try.prog 18 #[(.int .i64 a4), (.int .i64 a1), (.slice l b1 b2)] h2 (fun vv h3 => Ext h2 h3 ∧ ∃ a2 : Option Addr, ∃ a6 : Int, vv = (.tuple #[(.pointer a2), (.int .i64 a6)]) ∧ ((((r1 != a6) || (r0.isNone != a2.isNone)) = true → R (.bool false) h3) ∧ (((r1 != a6) || (r0.isNone != a2.isNone)) = false → ((a2.isNone = true → R (.bool true) h3) ∧ (a2.isNone = false → HC Try.prog 19 #[(.pointer r0)] h3 (fun vv h4 => ∃ e2 : Option Addr, ∃ b4 f0 : Nat, vv = (.slice e2 b4 f0) ∧ (∃ a7 a8 : Nat, a2 = some ⟨a7, a8, none⟩ ∧ (∃ x : Option Addr, ∃ d0 i1 : Nat, hcell h4 a7 (a8 + 2) = some (.slice x d0 i1) ∧ ((((b4 : Int) != (d0 : Int)) = true → R (.bool false) h4) ∧ (((b4 : Int) != (d0 : Int)) = false → (∃ (f8 : Int → Prop) (f4 : Int → Nat), f8 0 ∧ (∀ (i : Int), f8 i → (((decide (i < (b4 : Int))) = true → (∃ e8 e6 : Nat, e2 = some ⟨e8, e6, none⟩ ∧ (0 : Int) ≤ i ∧ i < (b4 : Int) ∧ (∃ c8 : Int, hcell h4 e8 (e6 + (Int.toNat i) * 1) = some (.int .u8 c8) ∧ (∃ g9 i2 : Nat, x = some ⟨g9, i2, none⟩ ∧ (0 : Int) ≤ i ∧ i < (d0 : Int) ∧ (∃ c9 : Int, hcell h4 g9 (i2 + (Int.toNat i) * 1) = some (.int .u8 c9) ∧ (((c8 != c9) = true → R (.bool false) h4) ∧ ((c8 != c9) = false → (f8 (IntKind.i64.wrap (i + 1)) ∧ f4 (IntKind.i64.wrap (i + 1)) < f4 i)))))))) ∧ ((decide (i < (b4 : Int))) = false → (∃ (g0 : Option Addr → Nat → Nat → Option Addr → Nat → Nat → Int → Heap → Prop) (f5 : Option Addr → Nat → Nat → Option Addr → Nat → Nat → Int → Heap → Nat), g0 none 0 0 none 0 0 0 h4 ∧ (∀ (fs : Option Addr) (c1 : Nat) (c3 : Nat) (d2 : Option Addr) (c5 : Nat) (c2 : Nat) (a3 : Int) (h5 : Heap), g0 fs c1 c3 d2 c5 c2 a3 h5 → (((decide (a3 < (a0 : Int))) = true → (∃ b3 b5 : Nat, b9 = some ⟨b3, b5, none⟩ ∧ (0 : Int) ≤ a3 ∧ a3 < (a0 : Int) ∧ (∃ c8 : Option Addr, ∃ d7 d5 : Nat, hcell h5 b3 (b5 + (Int.toNat a3) * 1) = some (.slice c8 d7 d5) ∧ HC Try.prog 17 #[(.int .i64 a4), (.int .i64 a1), (.slice c8 d7 d5)] h5 (fun vv h6 => Ext h5 h6 ∧ ∃ c0 : Option Addr, ∃ d4 : Int, vv = (.tuple #[(.pointer c0), (.int .i64 d4)]) ∧ (∃ c9 : Option Addr, ∃ d6 d8 : Nat, hcell h6 b3 (b5 + (Int.toNat a3) * 1) = some (.slice c9 d6 d8) ∧ HC Try.prog 18 #[(.int .i64 a4), (.int .i64 a1), (.slice c9 d6 d8)] h6 (fun vv h7 => Ext h6 h7 ∧ ∃ c4 : Option Addr, ∃ d3 : Int, vv = (.tuple #[(.pointer c4), (.int .i64 d3)]) ∧ (∀ f : Option Addr, f = (bif a3 == a9 then none else c0) → (∀ d1 : Option Addr, d1 = (bif a3 == a9 then none else c4) → (∀ nb h8, nb = Array.size h7 → h8 = Array.push h7 (.cells #[(.pointer f)] 47) → HAppend Try.prog 57 57 (.slice fs c1 c3) (.slice (some ⟨nb, 0, none⟩) 1 1) h8 (fun vv h9 => ∃ ap : Option Addr, ∃ e0 d9 : Nat, vv = (.slice ap e0 d9) ∧ (∀ f6 f7, f6 = Array.size h9 → f7 = Array.push h9 (.cells #[(.pointer d1)] 50) → HAppend Try.prog 58 58 (.slice d2 c5 c2) (.slice (some ⟨f6, 0, none⟩) 1 1) f7 (fun vv i9 => ∃ e1 : Option Addr, ∃ c7 c6 : Nat, vv = (.slice e1 c7 c6) ∧ (g0 ap e0 d9 e1 c7 c6 (IntKind.i64.wrap (a3 + 1)) i9 ∧ f5 ap e0 d9 e1 c7 c6 (IntKind.i64.wrap (a3 + 1)) i9 < f5 fs c1 c3 d2 c5 c2 a3 h5))))))))))))) ∧ ((decide (a3 < (a0 : Int))) = false → (∃ f9 : Bool → Heap → Prop, HC Try.prog 21 #[(.slice l b1 b2), (.slice fs c1 c3)] h5 (fun vv g7 => Ext h5 g7 ∧ ∃ i0 : Option Addr, ∃ e7 e4 : Nat, vv = (.slice i0 e7 e4) ∧ HC Try.prog 22 #[(.slice l b1 b2), (.slice d2 c5 c2)] g7 (fun vv f1 => Ext g7 f1 ∧ ∃ i4 : Option Addr, ∃ e5 e3 : Nat, vv = (.slice i4 e5 e3) ∧ (∃ e9 : Bool, HC Try.prog 20 #[(.slice i0 e7 e4), (.slice i4 e5 e3)] f1 (fun vv h' => vv = (.bool e9) ∧ h' = f1) ∧ ((e9 = true → HC Try.prog 21 #[(.slice l b1 b2), (.slice none 0 0)] f1 (fun vv i5 => Ext f1 i5 ∧ ∃ j5 : Option Addr, ∃ b8 g8 : Nat, vv = (.slice j5 b8 g8) ∧ (f9 ((b8 : Int) == 0) i5))) ∧ (e9 = false → (f9 false f1)))))) ∧ (∀ (f2 : Bool) (i3 : Heap), f9 f2 i3 → R (.bool f2) i3))))))))))))))))))))))))) :
  HC Try.prog 7 #[(.int .i64 a4), (.int .i64 a1), (.slice l b1 b2), (.slice b9 a0 b0), (.int .i64 a9)] h R := by
 refine hc_of (args := [(.int .i64 a4), (.int .i64 a1), (.slice l b1 b2), (.slice b9 a0 b0), (.int .i64 a9)]) Try.func7 rfl Try.ntmps7 (Nat.le_of_ble_eq_true rfl) ?_
 refine xs (xr ?_)
 refine lv rfl rfl (va rfl) ?_
 refine ln (qn (xs (xs (xr ?_))))
 refine lp rfl rfl (sc TyTF.cb9 rfl (HC.mono H ?_))
 rintro _ h1 ⟨m3, r, rfl, H⟩
 refine lv rfl rfl (v := (.bool (!r))) (hv_not (b := r) rfl) ?_
 refine ln (qn ?_)
 refine xc (b := !r) rfl (fun j2 => ?_) (fun j2 => ?_)
 ·replace H := H.1 j2
  refine xs (xr ?_)
  refine lv rfl rfl (va rfl) ?_
  refine ln (qn (xt (qr ?_)))
  exact endQ_ret _ (res_one Try.results7 (rv_tmp rfl)) H
 ·replace H := H.2 j2
  refine xi (qn (xs (xr ?_)))
  refine lv rfl rfl (vm rfl) (lv rfl rfl (vm rfl) (lv rfl rfl (vm rfl) ?_))
  refine lp rfl rfl (sc TyTF.cb17 rfl (HC.mono H ?_))
  rintro _ h2 ⟨m1, r0, r1, rfl, H⟩
  refine lv rfl rfl (vm rfl) (lv rfl rfl (vx rfl rfl) (lv rfl rfl (vx rfl rfl) (lv rfl rfl (va rfl) (lv rfl rfl (va rfl) ?_))))
  refine ln (qn (xs (xr ?_)))
  refine lv rfl rfl (vm rfl) (lv rfl rfl (vm rfl) (lv rfl rfl (vm rfl) ?_))
  refine lp rfl rfl (sc TyTF.cb18 rfl (HC.mono H ?_))
  rintro _ h3 ⟨m2, a2, a6, rfl, H⟩
  refine lv rfl rfl (vm rfl) (lv rfl rfl (vx rfl rfl) (lv rfl rfl (vx rfl rfl) (lv rfl rfl (va rfl) (lv rfl rfl (va rfl) ?_))))
  refine ln (qn (xs ?_))
  refine xk (fun ρ h' => h3 = h' ∧ Has ρ [(0, (.int .i64 a4)), (1, (.int .i64 a1)), (2, (.slice l b1 b2)), (3, (.slice b9 a0 b0)), (4, (.int .i64 a9)), (11, (.pointer r0)), (13, (.pointer a2)), (49, (.bool ((r1 != a6) || (r0.isNone != a2.isNone))))]) ?_ ?_
  ·refine xr ?_
   refine lv rfl rfl (vm rfl) (lv rfl rfl (vm rfl) (lv rfl rfl (vr rfl rfl rfl) (lv rfl rfl (vm rfl) ?_)))
   rcases bool_or (r1 != a6) with b7 | b7
   ·refine lo (wanted_n rfl rfl rfl b7) rfl ?_
    refine lo (wanted_n rfl rfl rfl b7) rfl ?_
    refine lo (wanted_n rfl rfl rfl b7) rfl ?_
    refine lo (wanted_n rfl rfl rfl b7) rfl ?_
    refine lo (wanted_n rfl rfl rfl b7) rfl ?_
    refine lv rfl rfl (v := (.bool true)) (hv_pick_t rfl b7 rfl) ?_
    refine ln (qn ?_)
    exact ⟨rfl, (hc rfl (hc rfl (hc rfl (hc rfl (hc rfl (hc rfl (hc rfl (hc (show ((.bool true) : Value) = (.bool ((r1 != a6) || (r0.isNone != a2.isNone))) from (by first | rfl | ((try rw [b7]); all_goals first | rfl | (simp only [Bool.true_or, Bool.or_true, Bool.false_or, Bool.or_false, Bool.true_and, Bool.and_true, Bool.false_and, Bool.and_false, Bool.not_true, Bool.not_false, Bool.cond_true, Bool.cond_false]; done)) | simp [b7])) hn))))))))⟩
   ·refine ly (wanted_y rfl rfl rfl b7) rfl (HStep.of_val (v := (.pointer r0)) (vm rfl) ?_)
    refine ly (wanted_y rfl rfl rfl b7) rfl (HStep.of_val (v := (.bool r0.isNone)) (hv_ptrNil TyTF.up47 rfl rfl) ?_)
    refine ly (wanted_y rfl rfl rfl b7) rfl (HStep.of_val (v := (.pointer a2)) (vm rfl) ?_)
    refine ly (wanted_y rfl rfl rfl b7) rfl (HStep.of_val (v := (.bool a2.isNone)) (hv_ptrNil TyTF.up50 rfl rfl) ?_)
    refine ly (wanted_y rfl rfl rfl b7) rfl (HStep.of_val (v := (.bool (r0.isNone != a2.isNone))) (hv_eqBool TyTF.u4 rfl rfl rfl) ?_)
    refine lv rfl rfl (v := (.bool (r0.isNone != a2.isNone))) (hv_pick_f rfl b7 rfl) ?_
    refine ln (qn ?_)
    exact ⟨rfl, (hc rfl (hc rfl (hc rfl (hc rfl (hc rfl (hc rfl (hc rfl (hc (show ((.bool (r0.isNone != a2.isNone)) : Value) = (.bool ((r1 != a6) || (r0.isNone != a2.isNone))) from (by first | rfl | ((try rw [b7]); all_goals first | rfl | (simp only [Bool.true_or, Bool.or_true, Bool.false_or, Bool.or_false, Bool.true_and, Bool.and_true, Bool.false_and, Bool.and_false, Bool.not_true, Bool.not_false, Bool.cond_true, Bool.cond_false]; done)) | simp [b7])) hn))))))))⟩
  ·rintro ρ _ ⟨rfl, hH⟩
   refine xh _ hH ?_
   refine xc (b := ((r1 != a6) || (r0.isNone != a2.isNone))) rfl (fun j0 => ?_) (fun j0 => ?_)
   ·replace H := H.1 j0
    refine xs (xr ?_)
    refine lv rfl rfl (va rfl) ?_
    refine ln (qn (xt (qr ?_)))
    exact endQ_ret _ (res_one Try.results7 (rv_tmp rfl)) H
   ·replace H := H.2 j0
    refine xi (qn (xs (xs (xr ?_))))
    refine lv rfl rfl (vm rfl) (lv rfl rfl (v := (.bool a2.isNone)) (hv_ptrNil TyTF.up50 rfl rfl) ?_)
    refine ln (qn ?_)
    refine xc (b := a2.isNone) rfl (fun j1 => ?_) (fun j1 => ?_)
    ·replace H := H.1 j1
     refine xs (xr ?_)
     refine lv rfl rfl (va rfl) ?_
     refine ln (qn (xt (qr ?_)))
     exact endQ_ret _ (res_one Try.results7 (rv_tmp rfl)) H
    ·replace H := H.2 j1
     refine xi (qn (xs (xr ?_)))
     refine lv rfl rfl (vm rfl) ?_
     refine lp rfl rfl (sc TyTF.cb19 rfl (HC.mono H ?_))
     rintro _ h4 ⟨e2, b4, f0, rfl, H⟩
     refine lv rfl rfl (va rfl) ?_
     refine ln (qn (xs (xs (xr ?_))))
     refine lv rfl rfl (vm rfl) (lv rfl rfl (v := (.int .i64 (b4 : Int))) (hv_len (n := b4) TyTF.u53 rfl) (lv rfl rfl (vm rfl) ?_))
     obtain ⟨a7, a8, f3, Hq⟩ := H
     subst f3
     have H := Hq; clear Hq
     refine lv rfl rfl (v := (ptr a7 a8)) (hv_nil rfl) (lv rfl rfl (v := (ptr a7 (a8 + 2))) (vf TyTF.fld56_2 (b := a7) (o := a8) rfl) ?_)
     obtain ⟨x, d0, i1, j3, H⟩ := H
     refine lv rfl rfl (vl TyTF.agg53 rfl j3) (lv rfl rfl (v := (.int .i64 (d0 : Int))) (hv_len (n := d0) TyTF.u53 rfl) (lv rfl rfl (vr rfl rfl rfl) ?_))
     refine ln (qn ?_)
     refine xc (b := (b4 : Int) != (d0 : Int)) rfl (fun g6 => ?_) (fun g6 => ?_)
     ·replace H := H.1 g6
      refine xs (xr ?_)
      refine lv rfl rfl (va rfl) ?_
      refine ln (qn (xt (qr ?_)))
      exact endQ_ret _ (res_one Try.results7 (rv_tmp rfl)) H
     ·replace H := H.2 g6
      refine xi (qn (xs (xs (xr ?_))))
      refine lv rfl rfl (va rfl) ?_
      refine ln (qn (xb ?_))
      obtain ⟨f8, f4, l0, j8⟩ := H
      refine xl (σ := Int) (fun s => [(0, (.int .i64 a4)), (1, (.int .i64 a1)), (2, (.slice l b1 b2)), (3, (.slice b9 a0 b0)), (4, (.int .i64 a9)), (13, (ptr a7 a8)), (15, (.slice e2 b4 f0)), (16, (.int .i64 s))]) (fun s h' => f8 s ∧ h4 = h') (fun s _ => f4 s) 0 ⟨l0, rfl⟩ (hc rfl (hc rfl (hc rfl (hc rfl (hc rfl (hc rfl (hc rfl (hc rfl hn)))))))) ?_
      rintro i ρ _ ⟨l1, rfl⟩
      have H := j8 i l1
      refine xs (xs (xr ?_))
      refine lv rfl rfl (vm rfl) (lv rfl rfl (vm rfl) (lv rfl rfl (v := (.int .i64 (b4 : Int))) (hv_len (n := b4) TyTF.u53 rfl) (lv rfl rfl (vr rfl rfl rfl) ?_)))
      refine ln (qn ?_)
      refine xc (b := decide (i < (b4 : Int))) rfl (fun g3 => ?_) (fun g3 => ?_)
      ·replace H := H.1 g3
       refine xi (qn (xs (xb (xs ?_))))
       refine hx_draw TyTF.mixed [.pure, .pure, .pure, .read, .pure, .pure, .pure, .read, .pure, .pure, .read, .pure] [0, 1, 2, 3, 4, 5, 6, 7, 8, 9, 10, 11] (by kernel_rfl) ?_
       refine pp (i := 0) rfl (wanted_0 rfl) rfl (.slice e2 b4 f0) (fun _ => vm rfl) ?_
       refine pp (i := 1) rfl (wanted_0 rfl) rfl (.int .i64 i) (fun _ => vm rfl) ?_
       obtain ⟨e8, e6, f3, j7, k2, Hq⟩ := H
       subst f3
       have H := Hq; clear Hq
       refine pp (i := 2) rfl (wanted_0 rfl) rfl (ptr e8 (e6 + (Int.toNat i) * 1)) (fun _ => vi TyTF.el53 rfl rfl j7 k2) ?_
       obtain ⟨c8, k4, H⟩ := H
       refine pr (i := 3) rfl (wanted_0 rfl) rfl (.int .u8 c8) (fun _ he => vl TyTF.agg5 rfl (Ext.cell he k4)) ?_
       refine pp (i := 4) rfl (wanted_0 rfl) rfl (ptr a7 a8) (fun _ => vm rfl) ?_
       refine pp (i := 5) rfl (wanted_0 rfl) rfl (ptr a7 a8) (fun _ => hv_nil rfl) ?_
       refine pp (i := 6) rfl (wanted_0 rfl) rfl (ptr a7 (a8 + 2)) (fun _ => vf TyTF.fld56_2 (b := a7) (o := a8) rfl) ?_
       refine pr (i := 7) rfl (wanted_0 rfl) rfl (.slice x d0 i1) (fun _ he => vl TyTF.agg53 rfl (Ext.cell he j3)) ?_
       refine pp (i := 8) rfl (wanted_0 rfl) rfl (.int .i64 i) (fun _ => vm rfl) ?_
       obtain ⟨g9, i2, f3, k7, l3, Hq⟩ := H
       subst f3
       have H := Hq; clear Hq
       refine pp (i := 9) rfl (wanted_0 rfl) rfl (ptr g9 (i2 + (Int.toNat i) * 1)) (fun _ => vi TyTF.el53 rfl rfl k7 l3) ?_
       obtain ⟨c9, k6, H⟩ := H
       refine pr (i := 10) rfl (wanted_0 rfl) rfl (.int .u8 c9) (fun _ he => vl TyTF.agg5 rfl (Ext.cell he k6)) ?_
       refine pp (i := 11) rfl (wanted_0 rfl) rfl (.bool (c8 != c9)) (fun _ => vr rfl rfl rfl) ?_
       refine hp_nil ?_
       refine qn ?_
       refine xc (b := c8 != c9) rfl (fun g4 => ?_) (fun g4 => ?_)
       ·replace H := H.1 g4
        refine xs (xr ?_)
        refine lv rfl rfl (va rfl) ?_
        refine ln (qn (xt (br (qr (qr (br (qr ?_)))))))
        exact endQ_ret _ (res_one Try.results7 (rv_tmp rfl)) H
       ·replace H := H.2 g4
        refine xi (bn (qn (xr ?_)))
        refine lv rfl rfl (vm rfl) (lv rfl rfl (vr rfl rfl rfl) (lv rfl rfl (va rfl) ?_))
        refine ln (qn ?_)
        exact ⟨IntKind.i64.wrap (i + 1), ⟨⟨H.1, rfl⟩, H.2⟩, (hc rfl (hc rfl (hc rfl (hc rfl (hc rfl (hc rfl (hc rfl (hc rfl hn))))))))⟩
      ·replace H := H.2 g3
       refine xe (qe (qe (bh (qn (xs (xr ?_))))))
       refine lv rfl rfl (va rfl) ?_
       refine ln (qn (xs (xr ?_)))
       refine lv rfl rfl (va rfl) ?_
       refine ln (qn (xs (xs (xr ?_))))
       refine lv rfl rfl (va rfl) ?_
       refine ln (qn (xb ?_))
       obtain ⟨g0, f5, j9, k0⟩ := H
       refine xl (σ := Option Addr × Nat × Nat × Option Addr × Nat × Nat × Int) (fun s => [(0, (.int .i64 a4)), (1, (.int .i64 a1)), (2, (.slice l b1 b2)), (3, (.slice b9 a0 b0)), (4, (.int .i64 a9)), (17, (.slice s.1 s.2.1 s.2.2.1)), (18, (.slice s.2.2.2.1 s.2.2.2.2.1 s.2.2.2.2.2.1)), (19, (.int .i64 s.2.2.2.2.2.2))]) (fun s h' => g0 s.1 s.2.1 s.2.2.1 s.2.2.2.1 s.2.2.2.2.1 s.2.2.2.2.2.1 s.2.2.2.2.2.2 h' ∧ True) (fun s h' => f5 s.1 s.2.1 s.2.2.1 s.2.2.2.1 s.2.2.2.2.1 s.2.2.2.2.2.1 s.2.2.2.2.2.2 h') (none, 0, 0, none, 0, 0, 0) ⟨j9, trivial⟩ (hc rfl (hc rfl (hc rfl (hc rfl (hc rfl (hc rfl (hc rfl (hc rfl hn)))))))) ?_
       rintro ⟨fs, c1, c3, d2, c5, c2, a3⟩ ρ h5 ⟨k5, -⟩
       have H := k0 fs c1 c3 d2 c5 c2 a3 h5 k5
       refine xs (xs (xr ?_))
       refine lv rfl rfl (vm rfl) (lv rfl rfl (vm rfl) (lv rfl rfl (v := (.int .i64 (a0 : Int))) (hv_len (n := a0) TyTF.u46 rfl) (lv rfl rfl (vr rfl rfl rfl) ?_)))
       refine ln (qn ?_)
       refine xc (b := decide (a3 < (a0 : Int))) rfl (fun g5 => ?_) (fun g5 => ?_)
       ·replace H := H.1 g5
        refine xi (qn (xs (xb (xs (xr ?_)))))
        refine lv rfl rfl (vm rfl) (lv rfl rfl (vm rfl) (lv rfl rfl (vm rfl) (lv rfl rfl (vm rfl) ?_)))
        obtain ⟨b3, b5, f3, j4, i6, Hq⟩ := H
        subst f3
        have H := Hq; clear Hq
        refine lv rfl rfl (v := (ptr b3 (b5 + (Int.toNat a3) * 1))) (vi TyTF.el46 rfl rfl j4 i6) ?_
        obtain ⟨c8, d7, d5, l2, H⟩ := H
        refine lv rfl rfl (vl TyTF.agg32 rfl l2) ?_
        refine lp rfl rfl (sc TyTF.cb17 rfl (HC.mono H ?_))
        rintro _ h6 ⟨m0, c0, d4, rfl, H⟩
        refine lv rfl rfl (vm rfl) (lv rfl rfl (vx rfl rfl) (lv rfl rfl (vx rfl rfl) (lv rfl rfl (va rfl) (lv rfl rfl (va rfl) ?_))))
        refine ln (qn (xs (xr ?_)))
        refine lv rfl rfl (vm rfl) (lv rfl rfl (vm rfl) (lv rfl rfl (vm rfl) (lv rfl rfl (vm rfl) (lv rfl rfl (v := (ptr b3 (b5 + (Int.toNat a3) * 1))) (vi TyTF.el46 rfl rfl j4 i6) ?_))))
        obtain ⟨c9, d6, d8, k8, H⟩ := H
        refine lv rfl rfl (vl TyTF.agg32 rfl k8) ?_
        refine lp rfl rfl (sc TyTF.cb18 rfl (HC.mono H ?_))
        rintro _ h7 ⟨l5, c4, d3, rfl, H⟩
        refine lv rfl rfl (vm rfl) (lv rfl rfl (vx rfl rfl) (lv rfl rfl (vx rfl rfl) (lv rfl rfl (va rfl) (lv rfl rfl (va rfl) ?_))))
        refine ln (qn ?_)
        obtain ⟨f, hq41⟩ : ∃ q : Option Addr, q = (bif a3 == a9 then none else c0) := ⟨_, rfl⟩
        replace H := H f hq41
        obtain ⟨d1, hq42⟩ : ∃ q : Option Addr, q = (bif a3 == a9 then none else c4) := ⟨_, rfl⟩
        replace H := H d1 hq42
        refine xk (fun ρ h' => h7 = h' ∧ Has ρ [(0, (.int .i64 a4)), (1, (.int .i64 a1)), (2, (.slice l b1 b2)), (3, (.slice (some ⟨b3, b5, none⟩) a0 b0)), (4, (.int .i64 a9)), (17, (.slice fs c1 c3)), (18, (.slice d2 c5 c2)), (19, (.int .i64 a3)), (20, (.pointer f)), (22, (.pointer d1))]) ?_ ?_
        ·refine xs (xr ?_)
         refine lv rfl rfl (vm rfl) (lv rfl rfl (vm rfl) (lv rfl rfl (vr rfl rfl rfl) ?_))
         refine ln (qn ?_)
         refine xc (b := a3 == a9) rfl (fun a5 => ?_) (fun a5 => ?_)
         ·refine xr ?_
          refine lv rfl rfl (va rfl) (lv rfl rfl (va rfl) ?_)
          refine ln (qn ?_)
          exact ⟨rfl, (hc rfl (hc rfl (hc rfl (hc rfl (hc rfl (hc rfl (hc rfl (hc rfl (hc (show ((.pointer none) : Value) = (.pointer f) from (by first | rfl | ((try rw [a5]); (try rw [hq41]); (try rw [hq42]); (try rw [a5]); all_goals first | rfl | (simp only [Bool.true_or, Bool.or_true, Bool.false_or, Bool.or_false, Bool.true_and, Bool.and_true, Bool.false_and, Bool.and_false, Bool.not_true, Bool.not_false, Bool.cond_true, Bool.cond_false]; done)) | simp [a5, hq41, hq42, a5])) (hc (show ((.pointer none) : Value) = (.pointer d1) from (by first | rfl | ((try rw [a5]); (try rw [hq41]); (try rw [hq42]); (try rw [a5]); all_goals first | rfl | (simp only [Bool.true_or, Bool.or_true, Bool.false_or, Bool.or_false, Bool.true_and, Bool.and_true, Bool.false_and, Bool.and_false, Bool.not_true, Bool.not_false, Bool.cond_true, Bool.cond_false]; done)) | simp [a5, hq41, hq42, a5])) hn))))))))))⟩
         ·refine xi (qn ?_)
          exact ⟨rfl, (hc rfl (hc rfl (hc rfl (hc rfl (hc rfl (hc rfl (hc rfl (hc rfl (hc (show ((.pointer c0) : Value) = (.pointer f) from (by first | rfl | ((try rw [a5]); (try rw [hq41]); (try rw [hq42]); (try rw [a5]); all_goals first | rfl | (simp only [Bool.true_or, Bool.or_true, Bool.false_or, Bool.or_false, Bool.true_and, Bool.and_true, Bool.false_and, Bool.and_false, Bool.not_true, Bool.not_false, Bool.cond_true, Bool.cond_false]; done)) | simp [a5, hq41, hq42, a5])) (hc (show ((.pointer c4) : Value) = (.pointer d1) from (by first | rfl | ((try rw [a5]); (try rw [hq41]); (try rw [hq42]); (try rw [a5]); all_goals first | rfl | (simp only [Bool.true_or, Bool.or_true, Bool.false_or, Bool.or_false, Bool.true_and, Bool.and_true, Bool.false_and, Bool.and_false, Bool.not_true, Bool.not_false, Bool.cond_true, Bool.cond_false]; done)) | simp [a5, hq41, hq42, a5])) hn))))))))))⟩
        ·rintro ρ _ ⟨rfl, hH⟩
         refine xh _ hH ?_
         refine xs (xr ?_)
         refine lv rfl rfl (vm rfl) (lv rfl rfl (vm rfl) ?_)
         refine lp rfl rfl (hn_buildSlice (n := 1) (vs := [(0, (.pointer f))]) (cs := #[(.pointer f)]) TyTF.u57 TyTF.sz47 TyTF.z47 rfl rfl (by kernel_rfl) ?_)
         intro nb h8 k9 i8
         replace H := H nb h8 k9 i8
         have l7 := ext_pushed_f7_sh i8
         refine lp rfl rfl (hs_append rfl rfl (HAppend.mono H ?_))
         rintro _ h9 ⟨ap, e0, d9, rfl, H⟩
         refine lv rfl rfl (va rfl) ?_
         refine ln (qn (xr ?_))
         refine lv rfl rfl (vm rfl) (lv rfl rfl (vm rfl) ?_)
         refine lp rfl rfl (hn_buildSlice (n := 1) (vs := [(0, (.pointer d1))]) (cs := #[(.pointer d1)]) TyTF.u58 TyTF.sz50 TyTF.z50 rfl rfl (by kernel_rfl) ?_)
         intro f6 f7 k3 i7
         replace H := H f6 f7 k3 i7
         have l4 := ext_pushed_f7_sh i7
         refine lp rfl rfl (hs_append rfl rfl (HAppend.mono H ?_))
         rintro _ i9 ⟨e1, c7, c6, rfl, H⟩
         refine lv rfl rfl (va rfl) ?_
         refine ln (bn (qn (xr ?_)))
         refine lv rfl rfl (vm rfl) (lv rfl rfl (vr rfl rfl rfl) (lv rfl rfl (va rfl) ?_))
         refine ln (qn ?_)
         exact ⟨(ap, e0, d9, e1, c7, c6, IntKind.i64.wrap (a3 + 1)), ⟨⟨H.1, trivial⟩, H.2⟩, (hc rfl (hc rfl (hc rfl (hc rfl (hc rfl (hc rfl (hc rfl (hc rfl hn))))))))⟩
       ·replace H := H.2 g5
        refine xe (qe (qe (bh (qn ?_))))
        obtain ⟨f9, g1, g2⟩ := H
        refine xk (fun ρ h' => ∃ f2 : Bool, (f9 f2 h' ∧ True) ∧ Has ρ [(10, (.bool f2))]) ?_ ?_
        ·have H := g1; clear g1 g2
         refine xr ?_
         refine lv rfl rfl (vm rfl) (lv rfl rfl (vm rfl) ?_)
         refine lp rfl rfl (sc TyTF.cb21 rfl (HC.mono H ?_))
         rintro _ g7 ⟨l6, i0, e7, e4, rfl, H⟩
         refine lv rfl rfl (vm rfl) (lv rfl rfl (vm rfl) ?_)
         refine lp rfl rfl (sc TyTF.cb22 rfl (HC.mono H ?_))
         rintro _ f1 ⟨l9, i4, e5, e3, rfl, H⟩
         obtain ⟨e9, j6, H⟩ := H
         refine lv rfl rfl (hv_call TyTF.cb20 (vs := [(.slice i0 e7 e4), (.slice i4 e5 e3)]) rfl j6) (lv rfl rfl (vm rfl) ?_)
         rcases bool_or (e9) with b6 | b6
         ·replace H := H.1 b6
          refine ly (wanted_y rfl rfl rfl b6) rfl (HStep.of_val (v := (.slice l b1 b2)) (vm rfl) ?_)
          refine ly (wanted_y rfl rfl rfl b6) rfl (sc TyTF.cb21 rfl (HC.mono H ?_))
          rintro _ i5 ⟨l8, j5, b8, g8, rfl, H⟩
          refine ly (wanted_y rfl rfl rfl b6) rfl (HStep.of_val (v := (.int .i64 (b8 : Int))) (hv_len (n := b8) TyTF.u32 rfl) ?_)
          refine ly (wanted_y rfl rfl rfl b6) rfl (HStep.of_val (v := (.bool ((b8 : Int) == 0))) (vr rfl rfl rfl) ?_)
          refine lv rfl rfl (v := (.bool ((b8 : Int) == 0))) (hv_pick_t rfl b6 rfl) (lv rfl rfl (va rfl) ?_)
          refine ln (qn ?_)
          exact ⟨_, ⟨H, trivial⟩, (hc rfl hn)⟩
         ·replace H := H.2 b6
          refine lo (wanted_n rfl rfl rfl b6) rfl ?_
          refine lo (wanted_n rfl rfl rfl b6) rfl ?_
          refine lo (wanted_n rfl rfl rfl b6) rfl ?_
          refine lo (wanted_n rfl rfl rfl b6) rfl ?_
          refine lv rfl rfl (v := (.bool false)) (hv_pick_f rfl b6 rfl) (lv rfl rfl (va rfl) ?_)
          refine ln (qn ?_)
          exact ⟨_, ⟨H, trivial⟩, (hc rfl hn)⟩
        ·rintro ρ i3 ⟨f2, ⟨k1, -⟩, hH⟩
         have H := g2 f2 i3 k1; clear g1 g2
         refine xh _ hH ?_
         refine xt ?_
         exact endQ_ret _ (res_one Try.results7 (rv_tmp rfl)) H
end Go.Proofs.Ytcdpapdefdnknaa
namespace Go.Proofs.Ytcdpapdefdnknaa
namespace Cy
open Go
def lowG (b s : Nat) (L : List Sf) (q : Int) : List (Option (Nat → Bool)) := (L.filter fun S => decide (S.seq < q)).map fun S => some (fltR b s S.recs)
theorem lowG_take {b s : Nat} {L : List Sf} {q : Int} {k : Nat} (hk : k < L.length) : lowG b s (L.take (k + 1)) q = lowG b s (L.take k) q ++ if (getS L k).seq < q then [some (fltR b s (getS L k).recs)] else [] := by
  have hg := getS_get (L := L) (i := k) (by omega) (by omega)
  rw [Int.toNat_natCast] at hg
  unfold lowG
  rw [List.take_add_one, hg, List.filter_append, List.map_append]
  congr 1
  simp only [Option.toList_some, List.filter_cons, List.filter_nil, decide_eq_true_eq]
  split <;> rfl
theorem lowG_len (b s : Nat) (L : List Sf) (q : Int) : (lowG b s L q).length ≤ L.length := by
  unfold lowG; rw [List.length_map]; exact List.length_filter_le _ _
def butT (L : List Sf) (n k : Nat) : List Sf := (L.take n).take k ++ (L.drop (n + 1)).take (k - (n + 1))
theorem butT_all {L : List Sf} {n : Nat} (hn : n < L.length) : butT L n L.length = but L n := by
  unfold butT but
  have e1 : (L.take n).take L.length = L.take n := List.take_of_length_le (by rw [List.length_take]; omega)
  have e2 : (L.drop (n + 1)).take (L.length - (n + 1)) = L.drop (n + 1) := List.take_of_length_le (by rw [List.length_drop]; exact Nat.le_refl _)
  rw [e1, e2]
theorem butT_at {L : List Sf} {n : Nat} : butT L n (n + 1) = butT L n n := by
  unfold butT
  rw [Nat.sub_self, show n - (n + 1) = 0 by omega, List.take_take, List.take_take, Nat.min_eq_right (by omega), Nat.min_self]
theorem butT_step {L : List Sf} {n k : Nat} (hk : k < L.length) (hkn : k ≠ n) : butT L n (k + 1) = butT L n k ++ [getS L k] := by
  have hg := getS_get (L := L) (i := k) (by omega) (by omega)
  rw [Int.toNat_natCast] at hg
  unfold butT
  rcases Nat.lt_or_gt_of_ne hkn with h | h
  · rw [show k + 1 - (n + 1) = 0 by omega, show k - (n + 1) = 0 by omega, List.take_zero, List.append_nil, List.append_nil, List.take_take, List.take_take, Nat.min_eq_left (by omega), Nat.min_eq_left (by omega), List.take_add_one, hg]; rfl
  · rw [show k + 1 - (n + 1) = (k - (n + 1)) + 1 by omega, List.take_take, List.take_take, Nat.min_eq_right (by omega), Nat.min_eq_right (by omega), List.append_assoc]
    congr 1
    rw [List.take_add_one, List.getElem?_drop, show n + 1 + (k - (n + 1)) = k by omega, hg]; rfl
theorem butT_len {L : List Sf} {n k : Nat} (hn : n < L.length) : (butT L n k).length + 1 ≤ L.length := by
  unfold butT
  rw [List.length_append, List.length_take, List.length_take, List.length_take, List.length_drop]; omega
theorem mostS_take {L : List Sf} {k : Nat} (hk : k < L.length) : mostS (L.take (k + 1)) = max (mostS (L.take k)) (getS L k).seq := by
  have hg := getS_get (L := L) (i := k) (by omega) (by omega)
  rw [Int.toNat_natCast] at hg
  rw [List.take_add_one, hg]; exact mostS_snoc _ _
def Rec (L : List Sf) (at_ bits hashes e : Int) (Y : List Sf) : Prop :=
  (¬ Good L ∧ e = 170 ∧ Y = []) ∨ (Good L ∧ ¬ (0 ≤ at_ ∧ at_ < L.length) ∧ e = 1 ∧ Y = []) ∨ (Good L ∧ (0 ≤ at_ ∧ at_ < L.length) ∧ ¬ okF bits hashes ∧ e = 150 ∧ Y = []) ∨
  (Good L ∧ (0 ≤ at_ ∧ at_ < L.length) ∧ okF bits hashes ∧ ∃ D, IsT (anyF bits.toNat hashes.toNat (lowG bits.toNat hashes.toNat L (getS L at_).seq)) (getS L at_).recs D ∧
    ((D = [] ∧ e = 0 ∧ Y = but L at_.toNat) ∨ (D ≠ [] ∧ mostS L = 18446744073709551615 ∧ e = 3 ∧ Y = []) ∨ (D ≠ [] ∧ mostS L ≠ 18446744073709551615 ∧ e = 0 ∧ Y = but L at_.toNat ++ [⟨mostS L + 1, D⟩])))
theorem Rec.eq {L : List Sf} {at_ bits hashes e e' : Int} {Y Y' : List Sf} (a : Rec L at_ bits hashes e Y) (b : Rec L at_ bits hashes e' Y') : e = e' ∧ Y = Y' := by
  rcases a with ⟨a1, rfl, rfl⟩ | ⟨a1, a2, rfl, rfl⟩ | ⟨a1, a2, a3, rfl, rfl⟩ | ⟨a1, a2, a3, D, aD, a4⟩ <;> rcases b with ⟨b1, rfl, rfl⟩ | ⟨b1, b2, rfl, rfl⟩ | ⟨b1, b2, b3, rfl, rfl⟩ | ⟨b1, b2, b3, D', bD, b4⟩
  all_goals try (first | exact ⟨rfl, rfl⟩ | exact absurd b1 a1 | exact absurd a1 b1 | exact absurd b2 a2 | exact absurd a2 b2 | exact absurd b3 a3 | exact absurd a3 b3)
  rw [← aD.eq bD] at b4
  rcases a4 with ⟨c1, rfl, rfl⟩ | ⟨c1, c2, rfl, rfl⟩ | ⟨c1, c2, rfl, rfl⟩ <;> rcases b4 with ⟨d1, rfl, rfl⟩ | ⟨d1, d2, rfl, rfl⟩ | ⟨d1, d2, rfl, rfl⟩
  all_goals first | exact ⟨rfl, rfl⟩ | exact absurd d1 c1 | exact absurd c1 d1 | exact absurd d2 c2 | exact absurd c2 d2
section
variable {h h' : Heap} {a : Option Addr} {c b s N : Nat} {P : List (Option Addr)} {G : List (Option (Nat → Bool))} {L : List Sf}
theorem FlsM.fr {S : Nat → Prop} (f : FlsM h b s a c P G) (x : Fr S h h') (na : ∀ q, blkA a q → ¬ S q) (nf : ∀ q (cs : Array Value) T (fr : Nat × Nat), h[q]? = some (.cells cs T fr) → (T = tF ∨ T = tU) → ¬ S q) : FlsM h' b s a c P G :=
  ⟨f.1.fr x na, f.2.1, fun i y g h1 h2 => (f.2.2 i y g h1 h2).imp id fun ⟨p, w, F, e1, e2, q⟩ => ⟨p, w, F, e1, e2, q.fr x (nf _ _ _ _ q.row (.inl rfl)) (let ⟨_, _, k2, _⟩ := q.wrd; nf _ _ _ _ k2 (.inr rfl))⟩⟩
theorem FlsM.nil (b s : Nat) (h : Heap) : FlsM h b s none 0 [] [] := ⟨Sl.nil _ _, rfl, fun i x g q => by rw [List.getElem?_nil] at q; cases q⟩
theorem FlsM.app {h1 : Heap} {nb : Nat} {x : Option Addr} {g : Option (Nat → Bool)} {t : TypeId} (ht : t = 57) (f : FlsM h b s a c P G) (w : Own ePt.k tPm N h a c) (en : nb = h.size) (eh : h1 = h.push (.cells #[.pointer x] tPm)) (hx : (x = none ∧ g = none) ∨ ∃ p w F, x = some ⟨p, 0, none⟩ ∧ g = some F ∧ Flm h p w b s F) (hN : N ≤ h.size) (hsz : (P.length + 1) * 8 ≤ 140737488355328) {K : Value → Heap → Prop}
    (hk : ∀ a' c' h', Fr (blkA a) h h' → FlsM h' b s a' c' (P ++ [x]) (G ++ [g]) → Own ePt.k tPm N h' a' c' → K (.slice a' (P.length + 1) c') h') : HAppend Try.prog t t (.slice a P.length c) (.slice (some ⟨nb, 0, none⟩) 1 1) h1 K := by
  subst ht
  have nf : ∀ q (cs : Array Value) T (fr : Nat × Nat), h[q]? = some (.cells cs T fr) → (T = tF ∨ T = tU) → ¬ blkA a q := fun q cs T fr r hT hb => by
    rcases hT with rfl | rfl
    · exact own_ne w r (by decide) hb
    · exact own_ne w r (by decide) hb
  refine app_1 (x := x) aPm en eh rfl f.1 w rfl hN hsz fun a' c' h' fx s' w' _ => hk a' c' h' fx ⟨s', by simp [f.2.1], fun i y g' h1 h2 => ?_⟩ w'
  have hl := f.2.1
  by_cases hi : i < P.length
  · rw [List.getElem?_append_left hi] at h1
    rw [List.getElem?_append_left (by omega)] at h2
    exact (f.2.2 i y g' h1 h2).imp id fun ⟨p, w, F, e1, e2, q⟩ => ⟨p, w, F, e1, e2, q.fr fx (nf _ _ _ _ q.row (.inl rfl)) (let ⟨_, _, k2, _⟩ := q.wrd; nf _ _ _ _ k2 (.inr rfl))⟩
  · rw [List.getElem?_append_right (by omega)] at h1 h2
    rw [hl] at h1
    generalize i - G.length = j at *
    cases j with
    | zero =>
      simp at h1 h2
      subst h1; subst h2
      exact hx.imp id fun ⟨p, w, F, e1, e2, q⟩ => ⟨p, w, F, e1, e2, q.fr fx (nf _ _ _ _ q.row (.inl rfl)) (let ⟨_, _, k2, _⟩ := q.wrd; nf _ _ _ _ k2 (.inr rfl))⟩
    | succ j => simp at h1
theorem lower_m (sv : Shs h a c L) (hb : Bd L) (hsm : ∀ S ∈ L, small S.recs) {at_ : Int} (h0 : 0 ≤ at_) (h1 : at_ < L.length) (bits hashes : Int) : HC Try.prog 28 #[.slice a L.length c, .int .i64 at_, .int .i64 bits, .int .i64 hashes] h fun v h' => Ext h h' ∧
    ((¬ okF bits hashes ∧ v = .tuple #[.slice none 0 0, .int .i64 150]) ∨ (okF bits hashes ∧ ∃ a' c' P, v = .tuple #[.slice a' P.length c', .int .i64 0] ∧ FlsM h' bits.toNat hashes.toNat a' c' P (lowG bits.toNat hashes.toNat L (getS L at_).seq))) := by
  have hb1 := hb.len
  refine f28_sh _ _ _ _ _ _ _ _ ((new_m bits hashes h).mono ?_)
  rintro _ h1' ⟨x1, ⟨hno, rfl⟩ | ⟨hok, p, w, rfl, hp, hw, f1⟩⟩
  · exact ⟨x1, none, 150, rfl, fun _ => ⟨x1, .inl ⟨hno, rfl⟩⟩, fun e => (by simp at e)⟩
  refine ⟨x1, some ⟨p, 0, none⟩, 0, rfl, fun e => (by simp at e), fun _ => ⟨fun out n c' v h2 => ∃ (k : Nat) (P : List (Option Addr)), v = k ∧ k ≤ L.length ∧ n = P.length ∧ Ext h h2 ∧ FlsM h2 bits.toNat hashes.toNat out c' P (lowG bits.toNat hashes.toNat (L.take k) (getS L at_).seq) ∧ Own ePt.k tPm h.size h2 out c', fun _ _ _ v _ => L.length - v.toNat, ⟨0, [], rfl, Nat.zero_le _, rfl, x1, FlsM.nil _ _ _, Own.nil _ _ _ _⟩, ?_⟩⟩
  rintro out _ c' _ h2 ⟨k, P, rfl, hk, rfl, x2, f2, w2⟩
  refine ⟨fun e => ?_, fun e => ?_⟩
  rotate_left
  · have hke : k = L.length := by have := ge_of_dec e; omega
    subst hke
    rw [List.take_length] at f2
    exact ⟨x2, .inr ⟨hok, out, c', P, rfl, f2⟩⟩
  have hkl := lt_of_dec e
  have s2 := sv.ext x2
  obtain ⟨lb, lo, ra, rc, el, c1, c2, sr⟩ := s2.at_ (i := k) (by omega) (by omega)
  obtain ⟨lb', lo', _, _, el', d1, _, _⟩ := s2.at_ h0 h1
  rw [el] at el'; cases el'
  have hm := getS_mem (L := L) (i := k) (by omega) (by omega)
  have hbr := hb.recs _ hm
  have hss := hsm _ hm
  have hstep := lowG_take (b := bits.toNat) (s := hashes.toNat) (q := (getS L at_).seq) hkl
  have hPl : P.length ≤ k := by
    rw [f2.2.1]
    have := lowG_len bits.toNat hashes.toNat (L.take k) (getS L at_).seq
    rw [List.length_take] at this; omega
  generalize getS L k = S at *
  refine ⟨fun o n cc h3 => ∃ P' : List (Option Addr), n = P'.length ∧ Ext h h3 ∧ FlsM h3 bits.toNat hashes.toNat o cc P' (lowG bits.toNat hashes.toNat (L.take (k + 1)) (getS L at_).seq) ∧ Own ePt.k tPm h.size h3 o cc, ⟨lb, lo, el, by omega, by omega, _, _, _, _, c1, c2, h0, h1, _, d1, fun e2 h5 x5 => (filter_m bits hashes (sr.ext x5) hss hbr).mono ?_, fun e2 h5 x5 => ?_⟩, ?_⟩
  · have hlt := of_decide_eq_true e2
    rw [if_pos hlt] at hstep
    rintro _ h6 ⟨x6, ⟨hno, rfl⟩ | ⟨_, fp, fw, rfl, _, _, ff⟩⟩
    · exact absurd hok hno
    refine ⟨x6, some ⟨fp, 0, none⟩, 0, rfl, fun nb h7 en e7 => ?_⟩
    have x26 := x5.trans x6
    refine FlsM.app (g := some (fltR bits.toNat hashes.toNat S.recs)) rfl (f2.ext x26) (w2.ext x26) en e7 (.inr ⟨fp, fw, _, rfl, rfl, ff⟩) (by have := x2.size; have := x26.size; omega) (by omega) fun a' c'' h8 f8 g8 w8 => ⟨a', _, c'', rfl, _, ?_, ?_, by rw [hstep]; exact g8, w8⟩
    · simp
    · exact (((x2.trans x26).fr _).trans f8 fun _ _ q => q).ext fun i hi q => by have := ((w2.ext x26).low q).1; omega
  · have hlt := of_decide_eq_false e2
    rw [if_neg hlt, List.append_nil] at hstep
    exact ⟨P, rfl, x2.trans x5, by rw [hstep]; exact f2.ext x5, w2.ext x5⟩
  · rintro o _ cc h3 ⟨P', rfl, x3, f3, w3⟩
    rw [wadd k (by omega)]
    exact ⟨⟨k + 1, P', rfl, hkl, rfl, x3, f3, w3⟩, by show L.length - Int.toNat _ < L.length - Int.toNat _; omega⟩
theorem good_small {L : List Sf} (g : Good L) : ∀ S ∈ L, small S.recs := fun S hS r hr => by have := (g.ok S hS r hr).2.2; omega
set_option maxHeartbeats 6400000 in
theorem reclaim_m (sv : Shs h a c L) (hb : Bd L) (hw : Wf L) (at_ bits hashes : Int) : HC Try.prog 13 #[.slice a L.length c, .int .i64 at_, .int .i64 bits, .int .i64 hashes] h fun v h' => Ext h h' ∧
    ∃ e Y a' c', Rec L at_ bits hashes e Y ∧ v = .tuple #[.slice a' Y.length c', .int .i64 e] ∧ ShO h.size h' a' c' Y := by
  have hb1 := hb.len
  refine f13_sh _ _ _ _ _ _ _ _ ((check_m sv hb hw).mono ?_)
  rintro _ h1 ⟨rfl, x1⟩
  refine ⟨x1, _, rfl, fun e => ?_, fun e => ?_⟩
  · have hg : ¬ Good L := fun g => by rw [chk_yes g] at e; simp at e
    exact ⟨x1, 170, [], none, 0, .inl ⟨hg, rfl, rfl⟩, by rw [chk_no hg]; rfl, ShO.nil _ _⟩
  have hg : Good L := chk_ok.1 (by simpa using e)
  have hrange : ((decide (at_ < 0)) || (decide (at_ ≥ (L.length : Int)))) = !decide (0 ≤ at_ ∧ at_ < L.length) := by
    have : (0 ≤ at_ ∧ at_ < (L.length : Int)) ↔ ¬ (at_ < 0 ∨ at_ ≥ (L.length : Int)) := by omega
    rw [decide_eq_decide.2 this, decide_not, Bool.not_not, Bool.decide_or]
  rw [hrange]
  refine ⟨fun e2 => ?_, fun e2 => ?_⟩
  · have hr : ¬ (0 ≤ at_ ∧ at_ < L.length) := by rw [Bool.not_eq_true'] at e2; exact of_decide_eq_false e2
    exact ⟨x1, 1, [], none, 0, .inr (.inl ⟨hg, hr, rfl, rfl⟩), rfl, ShO.nil _ _⟩
  have hr : 0 ≤ at_ ∧ at_ < L.length := by rw [Bool.not_eq_false'] at e2; exact of_decide_eq_true e2
  obtain ⟨hr0, hr1⟩ := hr
  refine (lower_m (sv.ext x1) hb (good_small hg) hr0 hr1 bits hashes).mono ?_
  rintro _ h2 ⟨x2, ⟨hno, rfl⟩ | ⟨hok, pa, pc, P, rfl, fP⟩⟩
  · exact ⟨x2, none, 0, 0, 150, rfl, fun _ => ⟨x1.trans x2, 150, [], none, 0, .inr (.inr (.inl ⟨hg, ⟨hr0, hr1⟩, hno, rfl, rfl⟩)), rfl, ShO.nil _ _⟩, fun e => (by simp at e)⟩
  refine ⟨x2, pa, _, pc, 0, rfl, fun e => (by simp at e), fun _ => ?_⟩
  have x12 := x1.trans x2
  have s2 := sv.ext x12
  obtain ⟨lb, lo, ra, rc, el, c1, c2, sr⟩ := s2.at_ hr0 hr1
  have hmA := getS_mem hr0 hr1
  have hPl : P.length ≤ 4611686018427387904 := by
    rw [fP.2.1]; have := lowG_len bits.toNat hashes.toNat L (getS L at_).seq; omega
  refine ⟨lb, lo, el, hr0, hr1, ra, _, rc, c2, (needed_m sr (good_small hg _ hmA) (hb.recs _ hmA) (fun r hr => (hw.ver _ hmA r hr).1) fP hPl).mono ?_⟩
  rintro _ h3 ⟨x3, da, dc, D, hD, rfl, hDl, sD, wD⟩
  have x03 := x12.trans x3
  have z3 := x03.size
  generalize hn : at_.toNat = n at *
  have hna : at_ = n := by omega
  subst hna
  have hnl : n < L.length := by omega
  have wD' := wD.down x12.size
  refine ⟨x3, da, _, dc, rfl, fun gr out m c' v h4 => ∃ k : Nat, v = k ∧ k ≤ L.length ∧ gr = mostS (L.take k) ∧ m = (butT L n k).length ∧ Ext h3 h4 ∧ ShO h.size h4 out c' (butT L n k) ∧ ∀ b, blkA out b → h3.size ≤ b, fun _ _ _ _ v _ => L.length - v.toNat, ⟨0, rfl, Nat.zero_le _, rfl, by simp [butT], Ext.refl _, by simpa [butT] using ShO.nil _ _, fun b hb => (blkA_none hb).elim⟩, ?_⟩
  rintro _ out _ c' _ h4 ⟨k, rfl, hk, rfl, rfl, x4, o4, n4⟩
  refine ⟨fun e3 => ?_, fun e3 => ?_⟩
  · have hkl := lt_of_dec e3
    have s4 := sv.ext (x03.trans x4)
    obtain ⟨lb', lo', ka, kc, el', k1, k2, kr⟩ := s4.at_ (i := k) (by omega) (by omega)
    rw [el] at el'; cases el'
    have hmk := getS_mem (L := L) (i := k) (by omega) (by omega)
    have hbr := hb.recs _ hmk
    have hst : k ≠ n → butT L n (k + 1) = butT L n k ++ [getS L k] := butT_step hkl
    have hms := mostS_take hkl
    have hbl := butT_len (k := k) hnl
    generalize getS L k = S at *
    refine ⟨fun g o m cc h5 => g = mostS (L.take (k + 1)) ∧ m = (butT L n (k + 1)).length ∧ Ext h3 h5 ∧ ShO h.size h5 o cc (butT L n (k + 1)) ∧ ∀ b, blkA o b → h3.size ≤ b, ⟨by omega, by omega, _, _, _, _, k1, k2, fun e4 => ?_, fun e4 h7 x7 => ?_⟩, ?_⟩
    · have hkn : k ≠ n := fun q => by rw [q] at e4; simp at e4
      refine ⟨Ext, fit_ext, fun sv' h7 _ hlt x7 => ⟨fun hx fx => fx.kp _, (clone_m (kr.ext x7) hbr).mono ?_⟩⟩
      rintro _ h11 ⟨x11, ca, cc, rfl, s11, w11⟩
      refine ⟨x11, ca, _, cc, rfl, fun nb1 h12 en1 e12 => ?_⟩
      have x411 := x7.trans x11
      have z4 := x4.size
      have z411 := x411.size
      refine ShO.app (S := S) rfl (o4.ext x411) en1 e12 rfl s11 (w11.down (by have := x7.size; omega)) (by omega) (by omega) fun a' c'' h13 f13 o13 bl => ⟨a', _, c'', rfl, ?_, ?_, ?_, ?_, ?_⟩
      · rw [max_if, hms]
      · rw [hst hkn, List.length_append]; rfl
      · exact (((x4.trans x411).fr _).trans f13 fun _ _ q => q).ext fun i hi q => by have := n4 i q; omega
      · rw [hst hkn]; exact o13
      · intro b hb
        rcases bl b hb with q | q
        · exact n4 b q
        · omega
    · have hkn : k = n := by
        have : ((k : Int) != (n : Int)) = false := e4
        simp at this; omega
      rw [hkn, butT_at]
      refine ⟨?_, rfl, x4.trans x7, by rw [hkn] at o4; exact o4.ext x7, n4⟩
      rw [max_if, ← hkn, hms]
    · rintro _ o _ cc h5 ⟨rfl, rfl, x5, o5, n5⟩
      rw [wadd k (by omega)]
      exact ⟨⟨k + 1, rfl, hkl, rfl, rfl, x5, o5, n5⟩, by show L.length - Int.toNat _ < L.length - Int.toNat _; omega⟩
  · have hke : k = L.length := by have := ge_of_dec e3; omega
    subst hke
    rw [butT_all hnl] at o4 ⊢
    rw [List.take_length]
    have x04 := x03.trans x4
    have recc := fun {e : Int} {Y : List Sf} (q : (D = [] ∧ e = 0 ∧ Y = but L n) ∨ (D ≠ [] ∧ mostS L = 18446744073709551615 ∧ e = 3 ∧ Y = []) ∨ (D ≠ [] ∧ mostS L ≠ 18446744073709551615 ∧ e = 0 ∧ Y = but L n ++ [⟨mostS L + 1, D⟩])) =>
      (show Rec L n bits hashes e Y from .inr (.inr (.inr ⟨hg, ⟨hr0, hr1⟩, hok, D, hD, by rw [Int.toNat_natCast]; exact q⟩)))
    refine ⟨fun e4 => ?_, fun e4 => ⟨fun e5 => ?_, fun e5 nb h14 en e14 => ?_⟩⟩
    · have hD0 : D = [] := List.length_eq_zero_iff.1 (by have : ((D.length : Int) == 0) = true := e4; simp at this; simp [this])
      exact ⟨x04, 0, _, out, c', recc (.inl ⟨hD0, rfl, rfl⟩), rfl, o4⟩
    · have hD0 : D ≠ [] := fun q => by rw [q] at e4; simp at e4
      exact ⟨x04, 3, [], none, 0, recc (.inr (.inl ⟨hD0, eq_of_beq e5, rfl, rfl⟩)), rfl, ShO.nil _ _⟩
    · have hD0 : D ≠ [] := fun q => by rw [q] at e4; simp at e4
      have hM : mostS L ≠ 18446744073709551615 := by simpa using e5
      have hnn := mostS_nn L
      have hlt : mostS L < 18446744073709551616 := mostS_lt (by decide) fun S hS => (hw.seq S hS).2
      rw [wu64 (by omega) (by omega)] at e14
      have hbl := butT_len (k := L.length) hnl
      rw [butT_all hnl] at hbl
      refine ShO.app (S := ⟨mostS L + 1, D⟩) rfl o4 en e14 rfl (sD.ext x4) (wD'.ext x4) (by have := x4.size; omega) (by omega) fun a' c'' h15 f15 o15 bl => ⟨a', _, c'', rfl, ?_, 0, _, a', c'', recc (.inr (.inr ⟨hD0, hM, rfl, rfl⟩)), by simp, o15⟩
      exact ((x04.fr _).trans f15 fun _ _ q => q).ext fun i hi q => by have := n4 i q; omega
end
end Cy
end Go.Proofs.Ytcdpapdefdnknaa
namespace Go.Proofs.Ytcdpapdefdnknaa
namespace Cy
open Go
section
variable {h h' : Heap} {a : Option Addr} {c b s N : Nat} {P : List (Option Addr)} {G : List (Option (Nat → Bool))} {L : List Sf}
theorem FlsR.nil (b s : Nat) (h : Heap) : FlsR h b s none 0 [] [] := ⟨Sl.nil _ _, rfl, fun i x g q => by rw [List.getElem?_nil] at q; cases q⟩
theorem FlsR.app {h1 : Heap} {nb : Nat} {x : Option Addr} {g : Option (Nat → Bool)} {t : TypeId} (ht : t = 58) (f : FlsR h b s a c P G) (w : Own ePt.k tPr N h a c) (en : nb = h.size) (eh : h1 = h.push (.cells #[.pointer x] tPr)) (hx : (x = none ∧ g = none) ∨ ∃ p w F, x = some ⟨p, 0, none⟩ ∧ g = some F ∧ Flr h p w b s F) (hN : N ≤ h.size) (hsz : (P.length + 1) * 8 ≤ 140737488355328) {K : Value → Heap → Prop}
    (hk : ∀ a' c' h', Fr (blkA a) h h' → FlsR h' b s a' c' (P ++ [x]) (G ++ [g]) → Own ePt.k tPr N h' a' c' → K (.slice a' (P.length + 1) c') h') : HAppend Try.prog t t (.slice a P.length c) (.slice (some ⟨nb, 0, none⟩) 1 1) h1 K := by
  subst ht
  have nf : ∀ q (cs : Array Value) T (fr : Nat × Nat), h[q]? = some (.cells cs T fr) → (T = tFr ∨ T = tB) → ¬ blkA a q := fun q cs T fr r hT hb => by
    rcases hT with rfl | rfl
    · exact own_ne w r (by decide) hb
    · exact own_ne w r (by decide) hb
  refine app_1 (x := x) aPr en eh rfl f.1 w rfl hN hsz fun a' c' h' fx s' w' _ => hk a' c' h' fx ⟨s', by simp [f.2.1], fun i y g' h1 h2 => ?_⟩ w'
  have hl := f.2.1
  by_cases hi : i < P.length
  · rw [List.getElem?_append_left hi] at h1
    rw [List.getElem?_append_left (by omega)] at h2
    exact (f.2.2 i y g' h1 h2).imp id fun ⟨p, w, F, e1, e2, q⟩ => ⟨p, w, F, e1, e2, q.fr fx (nf _ _ _ _ q.row (.inl rfl)) (let ⟨_, _, k2, _⟩ := q.wrd; nf _ _ _ _ k2 (.inr rfl))⟩
  · rw [List.getElem?_append_right (by omega)] at h1 h2
    rw [hl] at h1
    generalize i - G.length = j at *
    cases j with
    | zero =>
      simp at h1 h2
      subst h1; subst h2
      exact hx.imp id fun ⟨p, w, F, e1, e2, q⟩ => ⟨p, w, F, e1, e2, q.fr fx (nf _ _ _ _ q.row (.inl rfl)) (let ⟨_, _, k2, _⟩ := q.wrd; nf _ _ _ _ k2 (.inr rfl))⟩
    | succ j => simp at h1
theorem FlsR.fr {S : Nat → Prop} (f : FlsR h b s a c P G) (x : Fr S h h') (na : ∀ q, blkA a q → ¬ S q) (nf : ∀ q (cs : Array Value) T (fr : Nat × Nat), h[q]? = some (.cells cs T fr) → (T = tFr ∨ T = tB) → ¬ S q) : FlsR h' b s a c P G :=
  ⟨f.1.fr x na, f.2.1, fun i y g h1 h2 => (f.2.2 i y g h1 h2).imp id fun ⟨p, w, F, e1, e2, q⟩ => ⟨p, w, F, e1, e2, q.fr x (nf _ _ _ _ q.row (.inl rfl)) (let ⟨_, _, k2, _⟩ := q.wrd; nf _ _ _ _ k2 (.inr rfl))⟩⟩
theorem own_ne2 {k k' N N' : Nat} {T T' : TypeId} {h : Heap} {a b : Option Addr} {c d : Nat} (x : Own k T N h a c) (y : Own k' T' N' h b d) (hT : T ≠ T') {p : Nat} (hp : blkA a p) : ¬ blkA b p := fun hq => by
  rcases x with ⟨rfl, _⟩ | ⟨b1, o1, cs1, rfl, _, r1, _⟩
  · exact blkA_none hp
  · rw [blkA_some] at hp; subst hp
    exact own_ne y r1 (Ne.symm hT) hq
end
end Cy
end Go.Proofs.Ytcdpapdefdnknaa
namespace Go.Proofs.Ytcdpapdefdnknaa
namespace Cy
open Go
abbrev tPa : TypeId := 43
def ePr : Elt Rc := ⟨2, fun r => [.string r.key, .string r.val], fun _ => rfl, fun r v hv => by simp at hv; rcases hv with rfl | rfl <;> rfl⟩
theorem aPa : AppT Try.prog 39 tPa ePr.k 32 := ⟨by kernel_rfl, by kernel_rfl, by kernel_rfl, ⟨.agg #[.string ByteArray.empty, .string ByteArray.empty], [.string ByteArray.empty, .string ByteArray.empty], by unfold zeroB; kernel_rfl, rfl, rfl⟩, by decide⟩
theorem recsIn_len {L : List Sf} {Lo : List Int} (a : IsOrd L Lo) : (recsIn L Lo).length = (allR L).length := by
  have := (a.map.flatMap_right fun S => S.recs).length_eq
  unfold recsIn allR
  rw [← this, List.flatMap_map]
section
variable {h : Heap} {a b : Option Addr} {c d : Nat} {L : List Sf}
set_option maxHeartbeats 1600000 in
theorem newest_c (s : Shs h a c L) (hb : Bd L) (hN : (allR L).length * 48 ≤ 140737488351232) : HC Try.prog 31 #[.slice a L.length c] h fun v h' => Ext h h' ∧ ∃ Lo a' c', IsOrd L Lo ∧ v = .slice a' (liveL (recsIn L Lo)).length c' ∧ Sl eRc h' a' c' (liveL (recsIn L Lo)) := by
  refine f31_sh _ _ _ _ _ ((newest_m s hb).mono ?_)
  rintro _ h1 ⟨x1, mb, Lo, kv, rfl, hmb, hO, m1, b1, n1⟩
  have hrl := recsIn_len hO
  have hD := live_sorted (recsIn L Lo)
  have hnd := m1.nodup
  refine ⟨x1, some mb, rfl, f48_sh _ _ _ fun kb h2 e2 eh2 => ⟨_, rfl, ?_⟩⟩
  have x2 : Ext h1 h2 := by rw [eh2]; exact Ext.push _ _
  have r2 : h2[kb]? = some (.cells #[.map (some mb)] 92 (0, 0)) := by rw [eh2]; exact push_new e2
  have hu : ∀ p ∈ kv, ∃ x : Rc, p.2 = foV x := fun p hp => let ⟨f, _, _, hv⟩ := b1.entry hnd hp; ⟨f, hv⟩
  refine (sorted_c (h := h2) (kv := kv) (Nat.lt_of_lt_of_le m1.lt x2.size) (keys_tell2 (fun h3 x3 => by rw [hcell_row (x3.row r2)]; rfl) (m1.ext x2) hu) (by omega) hnd).mono ?_
  rintro _ h3 ⟨x3, ka, kc, ks, rfl, hp, hsrt, s3, w3⟩
  generalize hDD : liveL (recsIn L Lo) = D at *
  have hksl := hp.length_eq
  rw [List.length_map] at hksl
  have x13 := x2.trans x3
  have hfk : ∀ k ∈ ks, ∃ f, fnd D k = some f ∧ lk kv k = some (foV f) := fun k hk => by
    obtain ⟨p, hp', rfl⟩ := List.mem_map.1 (hp.mem_iff.1 hk)
    have h1 := lk_of_mem hnd hp'
    have h2 := b1 p.1
    rw [h1] at h2
    cases hf : fnd D p.1 with
    | none => rw [hf] at h2; cases h2
    | some f => rw [hf] at h2; exact ⟨f, rfl, by rw [h1]; exact h2⟩
  have hfin : ks.filterMap (fnd D) = D := by
    refine rise_eq ?_ hD fun x => ?_
    · rw [List.pairwise_filterMap]
      refine hsrt.imp fun {x y} hxy f hf g hg => ?_
      have e1 := (fnd_mem hf).2
      have e2 := (fnd_mem hg).2
      unfold kLt; rw [e1, e2]; exact hxy
    · rw [List.mem_filterMap]
      constructor
      · rintro ⟨k, _, hf⟩; exact (fnd_mem hf).1
      · intro hx
        refine ⟨x.key, ?_, fnd_self hD hx⟩
        rw [hp.mem_iff]
        exact List.mem_map.2 ⟨_, b1.back hD hx, rfl⟩
  have hOl : ∀ j, ((ks.take j).filterMap (fnd D)).length ≤ j := fun j => by
    have := List.length_filterMap_le (fnd D) (ks.take j)
    rw [List.length_take] at this; omega
  refine ⟨ka, _, kc, rfl, fun out n c' v h4 => ∃ j : Nat, v = j ∧ j ≤ ks.length ∧ n = ((ks.take j).filterMap (fnd D)).length ∧ Ext h3 h4 ∧ Sl eRc h4 out c' ((ks.take j).filterMap (fnd D)) ∧ Own eRc.k tRc h3.size h4 out c', fun _ _ _ v _ => ks.length - v.toNat, ⟨0, rfl, Nat.zero_le _, rfl, Ext.refl _, Sl.nil _ _, Own.nil _ _ _ _⟩, ?_⟩
  rintro out _ c' _ h4 ⟨j, rfl, hj, rfl, x4, s4, w4⟩
  refine ⟨fun e => ?_, fun e => ?_⟩
  rotate_left
  · have hje : j = ks.length := by have := ge_of_dec e; omega
    subst hje
    rw [List.take_length, hfin] at s4 ⊢
    exact ⟨x1.trans (x13.trans x4), Lo, out, c', hO, by rw [hDD], by rw [hDD]; exact s4⟩
  have hjl := lt_of_dec e
  obtain ⟨f, hf, hl⟩ := hfk _ (List.getElem_mem hjl)
  have hO1 : (ks.take (j + 1)).filterMap (fnd D) = (ks.take j).filterMap (fnd D) ++ [f] := by
    rw [List.take_add_one, sl_get hjl, List.filterMap_append]
    congr 1
    simp [hf]
  obtain ⟨ob, oo, eo, dk⟩ := (s3.ext x4).at (sl_get hjl)
  have hOj := hOl j
  refine ⟨ob, oo, eo, by omega, by omega, _, dk.1, mb, rfl, kv, m1.ext (x13.trans x4), f.kind, f.ver, f.key, f.val, by rw [hl]; rfl, fun nb h5 en e5 => ?_⟩
  refine app_1 (x := f) aRc en e5 rfl s4 w4 rfl x4.size (by omega) fun a' c'' h6 f6 s6 w6 _ => ⟨a', _, c'', rfl, ?_⟩
  rw [wadd j (by omega)]
  refine ⟨⟨j + 1, rfl, hjl, by rw [hO1, List.length_append]; rfl, ((x4.fr _).trans f6 fun _ _ q => q).ext fun i hi q => ?_, by rw [hO1]; exact s6, w6⟩, by show ks.length - Int.toNat _ < ks.length - Int.toNat _; omega⟩
  have := (w4.low q).1; omega
theorem told_c (s : Shs h a c L) (hb : Bd L) (hN : (allR L).length * 48 ≤ 140737488351232) : HC Try.prog 15 #[.slice a L.length c] h fun v h' => Ext h h' ∧ ∃ Lo a' c', IsOrd L Lo ∧ v = .slice a' (toldL (liveL (recsIn L Lo))).length c' ∧ Sl ePr h' a' c' (toldL (liveL (recsIn L Lo))) := by
  refine f15_sh _ _ _ _ _ ((newest_c s hb hN).mono ?_)
  rintro _ h1 ⟨x1, Lo, na, nc, hO, rfl, s1⟩
  have hlen : (liveL (recsIn L Lo)).length ≤ (allR L).length := by rw [← recsIn_len hO]; exact live_len _
  generalize hDD : liveL (recsIn L Lo) = D at *
  have hTl : ∀ j, (toldL (D.take j)).length ≤ j := fun j => by
    unfold toldL
    have := List.length_filter_le (fun r : Rc => decide (r.kind = 1)) (D.take j)
    rw [List.length_take] at this; omega
  refine ⟨x1, na, _, nc, rfl, fun out n c' v h4 => ∃ j : Nat, v = j ∧ j ≤ D.length ∧ n = (toldL (D.take j)).length ∧ Ext h1 h4 ∧ Sl ePr h4 out c' (toldL (D.take j)) ∧ Own ePr.k tPa h1.size h4 out c', fun _ _ _ v _ => D.length - v.toNat, ⟨0, rfl, Nat.zero_le _, rfl, Ext.refl _, Sl.nil _ _, Own.nil _ _ _ _⟩, ?_⟩
  rintro out _ c' _ h4 ⟨j, rfl, hj, rfl, x4, s4, w4⟩
  refine ⟨fun e => ?_, fun e => ?_⟩
  rotate_left
  · have hje : j = D.length := by have := ge_of_dec e; omega
    subst hje
    rw [List.take_length] at s4 ⊢
    exact ⟨x1.trans x4, Lo, out, c', hO, by rw [hDD], by rw [hDD]; exact s4⟩
  have hjl := lt_of_dec e
  obtain ⟨ob, oo, eo, dk⟩ := (s1.ext x4).at (sl_get hjl)
  have hO1 : toldL (D.take (j + 1)) = toldL (D.take j) ++ if D[j].kind = 1 then [D[j]] else [] := by
    unfold toldL
    rw [List.take_add_one, sl_get hjl, List.filter_append]
    congr 1
    simp only [Option.toList_some, List.filter_cons, List.filter_nil, decide_eq_true_eq]
  generalize D[j] = f at *
  have hOj := hTl j
  refine ⟨fun o n cc h5 => n = (toldL (D.take (j + 1))).length ∧ Ext h1 h5 ∧ Sl ePr h5 o cc (toldL (D.take (j + 1))) ∧ Own ePr.k tPa h1.size h5 o cc, ⟨ob, oo, eo, by omega, by omega, _, _, _, _, dk.1, dk.2.1, dk.2.2.1, dk.2.2.2.1, fun e2 h5 x5 nb h6 en e6 => ?_, fun e2 h5 x5 => ?_⟩, ?_⟩
  · rw [if_pos (eq_of_beq e2)] at hO1
    have x15 := x4.trans x5
    refine app_1 (x := f) aPa en e6 rfl (s4.ext x5) (w4.ext x5) rfl x15.size (by omega) fun a' c'' h7 f7 s7 w7 _ => ⟨a', _, c'', rfl, ?_, ?_, by rw [hO1]; exact s7, w7⟩
    · rw [hO1, List.length_append]; rfl
    · exact ((x15.fr _).trans f7 fun _ _ q => q).ext fun i hi q => by have := (w4.low q).1; omega
  · have : ¬ f.kind = 1 := by simpa using e2
    rw [if_neg this, List.append_nil] at hO1
    rw [hO1]
    exact ⟨rfl, x4.trans x5, s4.ext x5, w4.ext x5⟩
  · rintro o _ cc h5 ⟨rfl, x5, s5, w5⟩
    rw [wadd j (by omega)]
    exact ⟨⟨j + 1, rfl, hjl, rfl, x5, s5, w5⟩, by show D.length - Int.toNat _ < D.length - Int.toNat _; omega⟩
theorem pairs_same {X Y : List Rc} (s : Sl ePr h a c X) (t : Sl ePr h b d Y) (hl : X.length ≤ 4611686018427387904) : HC Try.prog 24 #[.slice a X.length c, .slice b Y.length d] h fun v h' => (∃ r : Bool, v = .bool r ∧ (X = Y → r = true)) ∧ h' = h := by
  refine f24_sh _ _ _ _ _ _ _ _ ⟨fun e => ⟨⟨false, rfl, fun q => ?_⟩, rfl⟩, fun e => ⟨fun v => ∃ k : Nat, v = k ∧ k ≤ X.length, fun v => X.length - v.toNat, ⟨0, rfl, Nat.zero_le _⟩, ?_⟩⟩
  · subst q; simp at e
  rintro _ ⟨k, rfl, hk⟩
  have hlen : X.length = Y.length := by
    have : (X.length : Int) = Y.length := by simpa using e
    omega
  refine ⟨fun e => ?_, fun _ => ⟨⟨true, rfl, fun _ => rfl⟩, rfl⟩⟩
  have hkl := lt_of_dec e
  obtain ⟨b1, o1, e1, d1⟩ := s.at (List.getElem?_eq_getElem hkl)
  obtain ⟨b2, o2, e2, d2⟩ := t.at (List.getElem?_eq_getElem (show k < Y.length by omega))
  refine ⟨b1, o1, e1, by omega, by omega, _, _, d1.1, d1.2.1, b2, o2, e2, by omega, by omega, _, _, d2.1, d2.2.1, fun e => ⟨⟨false, rfl, fun q => ?_⟩, rfl⟩, fun _ => ?_⟩
  · subst q; simp [ba_refl] at e
  · rw [wadd k (by omega)]
    exact ⟨⟨k + 1, rfl, hkl⟩, by show X.length - Int.toNat _ < X.length - Int.toNat _; omega⟩
def kk : ByteArray := ByteArray.mk #[107]
def rA : Rc := ⟨1, 1, kk, ByteArray.mk #[97]⟩
def rB : Rc := ⟨1, 2, kk, ByteArray.mk #[98]⟩
def twoL : List Sf := [⟨1, [rA]⟩, ⟨2, [rB]⟩]
theorem two_good : Good twoL := by
  have hk : 1 ≤ kk.size ∧ kk.size ≤ 255 := ⟨by decide, by decide⟩
  refine ⟨fun S hS => ?_, ?_, fun S hS r hr => ?_, fun S hS => ?_, fun S hS T hT hlt x hx y hy => ?_⟩
  · simp only [twoL, List.mem_cons, List.not_mem_nil, or_false] at hS
    rcases hS with rfl | rfl <;> decide
  · simp [twoL]
  · simp only [twoL, List.mem_cons, List.not_mem_nil, or_false] at hS
    rcases hS with rfl | rfl
    · simp only [List.mem_singleton] at hr; subst hr; exact ⟨.inl rfl, hk⟩
    · simp only [List.mem_singleton] at hr; subst hr; exact ⟨.inl rfl, hk⟩
  · simp only [twoL, List.mem_cons, List.not_mem_nil, or_false] at hS
    rcases hS with rfl | rfl <;> exact List.pairwise_singleton _ _
  · simp only [twoL, List.mem_cons, List.not_mem_nil, or_false] at hS hT
    rcases hS with rfl | rfl <;> rcases hT with rfl | rfl <;> simp only at hlt
    · omega
    · simp only [List.mem_singleton] at hx hy
      subst hx; subst hy
      intro _ _; decide
    · omega
    · omega
theorem two_wf : Wf twoL := by
  refine ⟨fun S hS => ?_, fun S hS r hr => ?_⟩
  · simp only [twoL, List.mem_cons, List.not_mem_nil, or_false] at hS
    rcases hS with rfl | rfl <;> exact ⟨by decide, by decide⟩
  · simp only [twoL, List.mem_cons, List.not_mem_nil, or_false] at hS
    rcases hS with rfl | rfl <;> (simp only [List.mem_singleton] at hr; subst hr; exact ⟨by decide, by decide⟩)
theorem two_bd : Bd twoL := ⟨by decide, fun S hS => by
  simp only [twoL, List.mem_cons, List.not_mem_nil, or_false] at hS
  rcases hS with rfl | rfl <;> decide⟩
theorem two_c (h : Heap) : HC Try.prog 23 #[] h fun v h' => Ext h h' ∧ ∃ a c, v = .slice a twoL.length c ∧ Shs h' a c twoL := by
  refine f23_sh _ _ fun n1 h1 e1 eh1 n2 h2 e2 eh2 n3 h3 e3 eh3 => ?_
  have x1 : Ext h h1 := by rw [eh1]; exact Ext.push _ _
  have x2 : Ext h1 h2 := by rw [eh2]; exact Ext.push _ _
  have x3 : Ext h2 h3 := by rw [eh3]; exact Ext.push _ _
  have r1 : h1[n1]? = some (.cells (([rA] : List Rc).flatMap eRc.enc).toArray tRc (0, 0)) := by rw [eh1]; exact push_new e1
  have r2 : h2[n2]? = some (.cells (([rB] : List Rc).flatMap eRc.enc).toArray tRc (0, 0)) := by rw [eh2]; exact push_new e2
  have r3 : h3[n3]? = some (.cells (([⟨1, some ⟨n1, 0, none⟩, 1, 1⟩, ⟨2, some ⟨n2, 0, none⟩, 1, 1⟩] : List Kw).flatMap eKw.enc).toArray tSf (0, 0)) := by rw [eh3]; exact push_new e3
  refine ⟨x1.trans (x2.trans x3), some ⟨n3, 0, none⟩, 2, rfl, [⟨1, some ⟨n1, 0, none⟩, 1, 1⟩, ⟨2, some ⟨n2, 0, none⟩, 1, 1⟩], Sl.lit r3, rfl, fun i x S hx hS => ?_⟩
  match i with
  | 0 => cases hx; cases hS; exact ⟨_, _, rfl, Sl.lit ((x2.trans x3).row r1)⟩
  | 1 => cases hx; cases hS; exact ⟨_, _, rfl, Sl.lit (x3.row r2)⟩
  | n + 2 => cases hx
theorem told_two {Lo : List Int} (hO : IsOrd twoL Lo) : toldL (liveL (recsIn twoL Lo)) = [rB] := by
  have hs := live_sorted (recsIn twoL Lo)
  refine rise_eq (hs.filter _) (List.pairwise_singleton _ _) fun x => ?_
  rw [told_iff (two_good.flat hO), newP_congr (fun r => recsIn_mem hO)]
  have hm : ∀ r, r ∈ allR twoL ↔ r = rA ∨ r = rB := fun r => by simp [allR, twoL]
  unfold newP
  constructor
  · rintro ⟨h1, h2, h3⟩
    rcases (hm x).1 h1 with rfl | rfl
    · rcases h3 rB ((hm _).2 (.inr rfl)) rfl with q | q
      · have := congrArg Rc.ver q; simp [rA, rB] at this
      · simp [rA, rB] at q
    · simp
  · intro hx
    simp only [List.mem_singleton] at hx
    subst hx
    refine ⟨(hm _).2 (.inr rfl), rfl, fun o ho _ => ?_⟩
    rcases (hm o).1 ho with rfl | rfl
    · exact .inr (by decide)
    · exact .inl rfl
theorem rec_two {e : Int} {Y : List Sf} (r : Rec twoL 1 64 2 e Y) : e = 0 ∧ ∃ D, Y = [⟨1, [rA]⟩, ⟨3, D⟩] ∧ ∃ t ∈ D, t.key = kk ∧ 2 ≤ t.ver ∧ t.kind = 2 := by
  have hg := two_good
  have hlen : twoL.length = 2 := rfl
  rcases r with ⟨q, _⟩ | ⟨_, q, _⟩ | ⟨_, _, q, _⟩ | ⟨_, _, _, D, hD, r⟩
  · exact absurd hg q
  · exact absurd ⟨by decide, by rw [hlen]; decide⟩ q
  · exact absurd (show okF 64 2 from ⟨by decide, by decide, by decide, by decide⟩) q
  · have hF : anyF 64 2 (lowG 64 2 twoL (getS twoL 1).seq) kk = true := by
      have : lowG 64 2 twoL (getS twoL 1).seq = [some (fltR 64 2 [rA])] := by
        show lowG 64 2 twoL 2 = _
        simp [lowG, twoL]
      rw [this]
      simp only [anyF, List.any_cons, List.any_nil, Bool.or_false, sayF]
      exact may_new
    obtain ⟨t, ht, t1, t2, t3⟩ := hD.has (r := rB) (by show rB ∈ [rB]; simp) hF
    have hne : D ≠ [] := fun q => by rw [q] at ht; simp at ht
    have hms : mostS twoL = 2 := by decide
    rcases r with ⟨q, _⟩ | ⟨_, q, _⟩ | ⟨_, _, rfl, rfl⟩
    · exact absurd q hne
    · rw [hms] at q; exact absurd q (by decide)
    · refine ⟨rfl, D, ?_, t, ht, t1, t2, t3⟩
      rw [hms]; rfl
theorem Rec.good {L : List Sf} {at_ bits hashes e : Int} {Y : List Sf} (r : Rec L at_ bits hashes e Y) (he : e = 0) : Good L ∧ Good Y ∧ (0 ≤ at_ ∧ at_ < L.length) ∧ ∃ F D, Low L at_.toNat F ∧ IsT F (getS L at_).recs D ∧ (∀ r, r ∈ allR Y ↔ r ∈ allR (but L at_.toNat) ∨ r ∈ D) ∧ ((D = [] ∧ Y = but L at_.toNat) ∨ (Y = but L at_.toNat ++ [⟨mostS L + 1, D⟩] ∧ mostS L ≠ 18446744073709551615)) := by
  rcases r with ⟨_, q, _⟩ | ⟨_, _, q, _⟩ | ⟨_, _, _, q, _⟩ | ⟨g, hr, _, D, hD, r⟩
  · omega
  · omega
  · omega
  have hgl : getS L at_ = L[at_.toNat]'(by omega) := by
    have := getS_get hr.1 hr.2
    rw [List.getElem?_eq_getElem (by omega)] at this
    exact (Option.some.inj this).symm
  have hlow : Low L at_.toNat (anyF bits.toNat hashes.toNat (lowG bits.toNat hashes.toNat L (getS L at_).seq)) := by
    intro hk S hS hlt r hr'
    rw [← hgl] at hlt
    unfold anyF
    rw [List.any_eq_true]
    refine ⟨some (fltR bits.toNat hashes.toNat S.recs), ?_, ?_⟩
    · unfold lowG
      exact List.mem_map.2 ⟨S, List.mem_filter.2 ⟨hS, decide_eq_true hlt⟩, rfl⟩
    · show mayF _ _ (fltR _ _ S.recs) (hsh r.key) = true
      have key : ∀ (X : List Rc), r ∈ X → mayF bits.toNat hashes.toNat (fltR bits.toNat hashes.toNat X) (hsh r.key) = true := by
        intro X
        refine snoc_ind (p := fun X => r ∈ X → mayF bits.toNat hashes.toNat (fltR bits.toNat hashes.toNat X) (hsh r.key) = true) (fun h => by simp at h) (fun l x ih h => ?_) X
        have e : fltR bits.toNat hashes.toNat (l ++ [x]) = addF bits.toNat hashes.toNat (fltR bits.toNat hashes.toNat l) (hsh x.key) := by
          unfold fltR; rw [List.map_append]; exact flt_snoc _ _ _ _
        rw [e]
        rcases List.mem_append.1 h with h | h
        · exact may_old (ih h)
        · rw [List.mem_singleton.1 h]; exact may_new
      exact key S.recs hr'
  have hD' : IsT (anyF bits.toNat hashes.toNat (lowG bits.toNat hashes.toNat L (getS L at_).seq)) (L[at_.toNat]'(by omega)).recs D := by rw [← hgl]; exact hD
  rcases r with ⟨rfl, _, rfl⟩ | ⟨_, _, q, _⟩ | ⟨hne, hM, _, rfl⟩
  · exact ⟨g, good_but g _, hr, _, [], hlow, hD, fun r => by simp, .inl ⟨rfl, rfl⟩⟩
  · omega
  · refine ⟨g, good_tombs g (by omega) hD', hr, _, D, hlow, hD, fun r => ?_, .inr ⟨rfl, hM⟩⟩
    unfold allR
    rw [List.flatMap_append, List.mem_append]; simp
theorem Rec.back {L : List Sf} {at_ bits hashes e : Int} {Y : List Sf} (r : Rec L at_ bits hashes e Y) (he : e = 0) {x : Rc} (hx : newP (allR Y) x) : newP (allR L) x := by
  obtain ⟨g, _, hr, F, D, hlow, hD, hY, _⟩ := r.good he
  have hgl : getS L at_ = L[at_.toNat]'(by omega) := by
    have := getS_get hr.1 hr.2
    rw [List.getElem?_eq_getElem (by omega)] at this
    exact (Option.some.inj this).symm
  rw [hgl] at hD
  exact told_but g (by omega) hlow hD hY hx
end
end Cy
end Go.Proofs.Ytcdpapdefdnknaa
namespace Go.Proofs.Ytcdpapdefdnknaa
namespace Cy
open Go
theorem isT_len {F : ByteArray → Bool} {X D : List Rc} (t : IsT F X D) (hv : ∀ r ∈ X, 0 ≤ r.ver) : D.length ≤ X.length := by
  rw [t.eq (isT_live hv)]
  exact Nat.le_trans (live_len _) (tl_len _ _)
theorem but_split {L : List Sf} {n : Nat} (hn : n < L.length) : (allR (but L n)).length + (L[n]'hn).recs.length = (allR L).length := by
  have e : L = L.take n ++ L[n] :: L.drop (n + 1) := (List.take_append_drop n L).symm.trans (by rw [List.drop_eq_getElem_cons hn])
  have : (allR L).length = (allR (L.take n ++ L[n] :: L.drop (n + 1))).length := congrArg (fun x => (allR x).length) e
  rw [this]
  unfold allR but
  simp only [List.flatMap_append, List.flatMap_cons, List.length_append]
  omega
theorem Rec.nil {L : List Sf} {at_ bits hashes e : Int} {Y : List Sf} (r : Rec L at_ bits hashes e Y) (he : e ≠ 0) : Y = [] := by
  rcases r with ⟨_, _, q⟩ | ⟨_, _, _, q⟩ | ⟨_, _, _, _, q⟩ | ⟨_, _, _, D, _, r⟩
  · exact q
  · exact q
  · exact q
  · rcases r with ⟨_, q, _⟩ | ⟨_, _, _, q⟩ | ⟨_, _, q, _⟩
    · exact absurd q he
    · exact q
    · exact absurd q he
theorem Rec.bd {L : List Sf} {at_ bits hashes e : Int} {Y : List Sf} (r : Rec L at_ bits hashes e Y) (hb : Bd L) (hw : Wf L) : Bd Y ∧ Wf Y ∧ (allR Y).length ≤ (allR L).length ∧ (e = 0 → Y.length ≤ L.length ∧ L.length ≤ Y.length + 1) := by
  by_cases he : e = 0
  · obtain ⟨g, gY, hr, F, D, hlow, hD, hY, hc⟩ := r.good he
    have hnl : at_.toNat < L.length := by omega
    have hgl : getS L at_ = L[at_.toNat] := by
      have := getS_get hr.1 hr.2
      rw [List.getElem?_eq_getElem hnl] at this
      exact (Option.some.inj this).symm
    have hm := getS_mem hr.1 hr.2
    have hv : ∀ r ∈ (getS L at_).recs, 0 ≤ r.ver := fun r hr => (hw.ver _ hm r hr).1
    have hDl := isT_len hD hv
    have hsp := but_split hnl
    have hbl : (but L at_.toNat).length + 1 = L.length := by
      unfold but; rw [List.length_append, List.length_take, List.length_drop]; omega
    have hb1 := hb.len
    have hbut : Bd (but L at_.toNat) := ⟨by omega, fun S hS => hb.recs S (but_mem hS)⟩
    have wbut : Wf (but L at_.toNat) := ⟨fun S hS => hw.seq S (but_mem hS), fun S hS => hw.ver S (but_mem hS)⟩
    rcases hc with ⟨rfl, rfl⟩ | ⟨rfl, hM⟩
    · exact ⟨hbut, wbut, by omega, fun _ => ⟨by omega, by omega⟩⟩
    · have c2 : ∀ S, S ∈ but L at_.toNat ++ [⟨mostS L + 1, D⟩] → S ∈ but L at_.toNat ∨ S = ⟨mostS L + 1, D⟩ := fun S h => by simpa using h
      refine ⟨⟨by rw [List.length_append]; simp; omega, fun S hS => ?_⟩, ⟨fun S hS => ?_, fun S hS x hx => ?_⟩, ?_, fun _ => ⟨by rw [List.length_append]; simp; omega, by rw [List.length_append]; simp; omega⟩⟩
      · rcases c2 S hS with q | rfl
        · exact hbut.recs S q
        · have := hb.recs _ hm
          show D.length * 48 ≤ _; omega
      · rcases c2 S hS with q | rfl
        · exact wbut.seq S q
        · have h1 := mostS_nn L
          have h2 : mostS L < 18446744073709551616 := mostS_lt (by decide) fun S hS => (hw.seq S hS).2
          exact ⟨by show 0 ≤ mostS L + 1; omega, by show mostS L + 1 < _; omega⟩
      · rcases c2 S hS with q | rfl
        · exact wbut.ver S q x hx
        · obtain ⟨_, _, _, _, e5⟩ := (hD.mem x).1 hx
          rw [e5]
          exact ⟨mxv_nn _ _, mxv_lt (by decide) fun r hr => (hw.ver _ hm r hr).2⟩
      · rw [hgl] at hDl
        unfold allR at hsp ⊢
        rw [List.flatMap_append, List.length_append]
        simp only [List.flatMap_cons, List.flatMap_nil, List.append_nil]
        omega
  · have := r.nil he
    subst this
    exact ⟨⟨by decide, fun S hS => (by simp at hS)⟩, ⟨fun S hS => (by simp at hS), fun S hS => (by simp at hS)⟩, by simp [allR], fun q => absurd q he⟩
section
variable {h : Heap} {a b : Option Addr} {c d : Nat} {L : List Sf}
theorem lives_c (h : Heap) : HC Try.prog 9 #[] h fun v h' => v = .bool true ∧ Ext h h' := by
  refine f9_sh _ _ ((two_c h).mono ?_)
  rintro _ h1 ⟨x1, ta, tc, rfl, s1⟩
  refine ⟨x1, ta, _, tc, rfl, (reclaim_m s1 two_bd two_wf 1 64 2).mono ?_⟩
  rintro _ h2 ⟨x2, e, Y, ya, yc, hR, rfl, oY⟩
  obtain ⟨rfl, D, rfl, t, ht, t1, t2, t3⟩ := rec_two hR
  obtain ⟨bdY, wfY, lnY, _⟩ := hR.bd two_bd two_wf
  refine ⟨x2, ya, _, yc, 0, rfl, fun j hh => j = true ∧ Ext h hh, (two_c h2).mono ?_, fun j h3 ⟨q1, q2⟩ => ⟨by rw [q1], q2⟩⟩
  rintro _ h4 ⟨x4, ua, uc, rfl, s4⟩
  refine ⟨x4, ua, _, uc, rfl, (told_c s4 two_bd (by decide)).mono ?_⟩
  rintro _ h5 ⟨x5, Lo, va, vc, hO, rfl, s5⟩
  rw [told_two hO] at s5 ⊢
  refine ⟨x5, va, _, vc, rfl, fun nb h6 en e6 => ?_⟩
  have x6 : Ext h5 h6 := by rw [e6]; exact Ext.push _ _
  have r6 : h6[nb]? = some (.cells (([rB] : List Rc).flatMap ePr.enc).toArray tPa (0, 0)) := by rw [e6]; exact push_new en
  have x26 := x4.trans (x5.trans x6)
  refine ⟨true, (pairs_same (s5.ext x6) (Sl.lit r6) (by decide)).mono ?_, fun _ => ⟨fun _ => ⟨fun _ => ?_, fun e => (by simp at e)⟩, fun e => (by simp at e)⟩, fun e => (by cases e)⟩
  · rintro _ _ ⟨⟨r, rfl, hr⟩, rfl⟩
    rw [hr rfl]; exact ⟨rfl, rfl⟩
  have sY := oY.shs.ext x26
  obtain ⟨yb, yo, ra, rc, rfl, c1, c2, sr⟩ := sY.at_ (i := 1) (by decide) (by simp)
  refine ⟨yb, yo, rfl, by decide, by simp, _, c1, fun _ => (told_c sY bdY ?_).mono ?_, fun e => absurd e (by simp [getS])⟩
  · have : (allR twoL).length = 2 := by decide
    omega
  rintro _ h7 ⟨x7, Lo', wa, wc, hO', rfl, s7⟩
  refine ⟨x7, wa, _, wc, rfl, ?_, x1.trans (x2.trans (x26.trans x7))⟩
  have hgY := (hR.good rfl).2.1
  have : toldL (liveL (recsIn [⟨1, [rA]⟩, ⟨3, D⟩] Lo')) = [] := by
    refine List.eq_nil_iff_forall_not_mem.2 fun x hx => ?_
    rw [told_iff (hgY.flat hO'), newP_congr (fun r => recsIn_mem hO')] at hx
    obtain ⟨q1, q2, q3⟩ := hx
    have hm : ∀ r, r ∈ allR [⟨1, [rA]⟩, ⟨3, D⟩] ↔ r = rA ∨ r ∈ D := fun r => by simp [allR]
    rcases (hm x).1 q1 with rfl | q
    · rcases q3 t ((hm t).2 (.inr ht)) t1 with q | q
      · rw [q] at t3; exact absurd t3 (by decide)
      · have : rA.ver = 1 := rfl
        omega
    · obtain ⟨F, D', hD⟩ : ∃ F D', IsT F [rB] D' ∧ D' = D := by
        obtain ⟨_, _, _, F, D', _, hD, _, hc⟩ := hR.good rfl
        refine ⟨F, D', hD, ?_⟩
        rcases hc with ⟨_, q⟩ | ⟨q, _⟩
        · exact absurd (congrArg List.length q) (by simp [but, twoL])
        · have : but twoL (Int.toNat 1) ++ [⟨mostS twoL + 1, D'⟩] = [⟨1, [rA]⟩, ⟨3, D'⟩] := by
            rw [show mostS twoL = 2 by decide]; rfl
          rw [this] at q
          simp only [List.cons.injEq, Sf.mk.injEq, true_and, and_true] at q
          exact q.symm
      obtain ⟨hT, rfl⟩ := hD
      have := ((hT.mem x).1 q).1
      omega
  rw [this]; rfl
theorem Bd.sub {M : List Sf} (hb : Bd L) (s : M.Sublist L) : Bd M := ⟨by have := hb.len; have := s.length_le; omega, fun S hS => hb.recs S (s.subset hS)⟩
theorem Shs.cut (s : Shs h a c L) {l r : Nat} (hlr : l ≤ r) (hr : r ≤ L.length) : Shs h (slA a l 2 c) (c - l) ((L.take r).drop l) := by
  obtain ⟨K, s⟩ := s
  have hl := s.len
  refine ⟨(K.take r).drop l, s.sl.cut hlr (by omega), by simp [hl], fun i x S hx hS => ?_⟩
  rw [List.getElem?_drop, List.getElem?_take] at hx hS
  split at hx
  · rename_i hi
    rw [if_pos hi] at hS
    exact s.recs_ _ x S hx hS
  · cases hx
end
end Cy
end Go.Proofs.Ytcdpapdefdnknaa
